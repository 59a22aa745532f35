/- Walks: Alloc, Shape, Get, Busy, object, rooted. -/
import Derived.Test.YtnedmmopkhmejaaKHW4
set_option linter.unusedVariables false
set_option linter.unusedSimpArgs false
namespace Go.Proofs.Ytnedmmopkhmejaa
open Go.RowKit Go.Proofs.Hp

theorem Mem.fieldE_err {m : Mem} {a f e : Int} (h : m.fieldE a f = some (.inl e)) : e ≠ 0 := by
  unfold Mem.fieldE at h
  split at h
  · simp at h; omega
  · split at h
    · cases h
    · split at h
      · split at h
        · simp at h; omega
        · split at h <;> simp at h
      · simp at h; omega
theorem Mem.fieldE_ok {m : Mem} {a f : Int} {wh : Wh} {r : Bool} (h : m.fieldE a f = some (.inr (wh, r))) : (m.sp wh).ok (a + 1 + f) = true ∧ m.cur a = some wh := by
  unfold Mem.fieldE at h
  split at h
  · simp at h
  · rename_i wh' hc
    split at h
    · cases h
    · split at h
      · split at h
        · simp at h
        · split at h
          · rename_i hok
            simp only [Option.some.injEq, Sum.inr.injEq, Prod.mk.injEq] at h
            obtain ⟨rfl, rfl⟩ := h
            exact ⟨hok, hc⟩
          · cases h
      · simp at h

theorem ok_congr {s t : Sp} (h1 : s.frm = t.frm) (h2 : s.words.length = t.words.length) (x : Int) : s.idx x = t.idx x ∧ s.ok x = t.ok x := by
  refine ⟨by simp only [Sp.idx, h1], ?_⟩
  rw [Bool.eq_iff_iff]
  simp only [Sp.ok, Bool.and_eq_true, decide_eq_true_eq, h1, h2]

theorem fwdIn_idx {m m' : Mem} {y : Bool} {wh : Wh} {a : Int} (hwh : wh ≠ .o) (h : m.fwdIn y wh a = some m') (x : Int) : (m'.sp wh).idx x = (m.sp wh).idx x ∧ (m'.sp wh).ok x = (m.sp wh).ok x := by
  unfold Mem.fwdIn at h
  split at h
  · split at h
    · rename_i m1 to hf1
      simp only [Option.some.injEq] at h
      obtain ⟨e1, _, e3, e4, _⟩ := forward_keeps hf1
      subst h
      cases wh with
      | n => exact ok_congr (by simp [Mem.setSp, Mem.sp, Sp.put, e3]) (by simp [Mem.setSp, Mem.sp, Sp.put, e4]) x
      | y => exact ok_congr (by simp [Mem.setSp, Mem.sp, Sp.put, e1]) (by simp [Mem.setSp, Mem.sp, Sp.put, e1]) x
      | o => exact absurd rfl hwh
    · cases h
  · cases h

theorem MemRep.shapeCell {w : World} {L : ML} {m : Mem} (h : MemRep w L m) {v : Int} {l : List Bool} (hl : m.shapeAt v = some l) :
    l.length ≤ 60 ∧ 0 ≤ v ∧ v < (m.shapes.length : Int) ∧ ∃ b o cap p cap', w.cell? ⟨L.b, 0, none⟩ = some (.slice (some ⟨b, o, none⟩) m.shapes.length cap) ∧
      w.cell? ⟨b, o + v.toNat, none⟩ = some (.slice p l.length cap') ∧ (∀ i, i < l.length → ∃ b' o', p = some ⟨b', o', none⟩ ∧ w.cell? ⟨b', o' + i, none⟩ = some (.bool (l.getD i false))) ∧ L.D b := by
  unfold Mem.shapeAt at hl
  by_cases h2 : 0 ≤ v
  · rw [if_pos h2] at hl
    obtain ⟨p, cap, e1, e2 | ⟨b, o, rfl, hD, hc⟩⟩ := h.sh
    · rw [e2] at hl; simp at hl
    · obtain ⟨hi, he⟩ := List.getElem?_eq_some_iff.1 hl
      obtain ⟨u, e3, p', cap', e4, e5⟩ := hc _ hi
      rw [he] at e4 e5
      refine ⟨h.sll l (List.mem_of_getElem? hl), h2, by omega, b, o, cap, p', cap', by rw [← e1]; exact h.c0, by rw [← e4]; exact e3, fun i hi => ?_, hD⟩
      rcases e5 with rfl | ⟨b', o', e6, _, e7⟩
      · simp at hi
      · exact ⟨b', o', e6, by rw [e7 i hi]; simp [hi]⟩
  · rw [if_neg h2] at hl; cases hl

theorem MemRep.shv_len {w : World} {L : ML} {m : Mem} (h : MemRep w L m) : ∃ p cap, w.cell? ⟨L.b, 0, none⟩ = some (.slice p m.shapes.length cap) := by
  obtain ⟨p, cap, e1, _⟩ := h.sh
  exact ⟨p, cap, by rw [← e1]; exact h.c0⟩

set_option maxRecDepth 100000 in
theorem c_Alloc (w : World) (L : ML) (m : Mem) (h : MemRep w L m) (v : Int) :
    Calls Try.prog 33 #[.pointer (some ⟨L.b, 0, none⟩), .int .i64 v] w fun e w' => e = .returned (.tuple #[.int .i64 (m.allocE v).2.1, .int .i64 (m.allocE v).2.2]) ∧ MemRep w' L (m.allocE v).1 ∧ Fr (fun k => k ∈ L.fp) w w' := by
  cases hl : m.shapeAt v with
  | none =>
    have ha : m.allocE v = (m, 0, 1) := by unfold Mem.allocE; rw [hl]
    rw [ha]
    obtain ⟨p, cap, c0⟩ := h.shv_len
    have hv : v < 0 ∨ (m.shapes.length : Int) ≤ v := by
      unfold Mem.shapeAt at hl
      by_cases h2 : 0 ≤ v
      · rw [if_pos h2] at hl
        have := List.getElem?_eq_none_iff.1 hl
        right; omega
      · left; omega
    clear hl ha
    by_cases h2 : v < 0
    · clear hv
      go_enter Try.func33, Try.ntmps33
      go_wp2_with (fail)
      refine (c_made w L m h).mono ?_
      rintro e w0 ⟨rfl, rfl⟩
      go_wp2
      go_ret2
      exact ⟨rfl, h, Fr.refl _ _⟩
    · have h3 : (m.shapes.length : Int) ≤ v := by omega
      have h4 : ¬ v < (m.shapes.length : Int) := by omega
      clear hv
      go_enter Try.func33, Try.ntmps33
      go_wp2_with (fail)
      refine (c_made w L m h).mono ?_
      rintro e w0 ⟨rfl, rfl⟩
      go_wp2
      go_ret2
      exact ⟨rfl, h, Fr.refl _ _⟩
  | some l =>
    obtain ⟨hl60, hv0, hv1, b, o, cap, p, cap', q1, q2, q3, hD⟩ := h.shapeCell hl
    have hv2 : ¬ v < 0 := by omega
    have hv3 : ¬ (m.shapes.length : Int) ≤ v := by omega
    have c1 := h.c1
    have hrm : ∀ n, Calls Try.prog 83 #[.pointer (some ⟨L.y.b, 0, none⟩)] (w.drewN n) fun e w' => e = .returned (.int .i64 m.young.room) ∧ ∃ k, w' = w.drewN k :=
      fun n => Calls.quiet_of (c_room _ _ _ ((h.drewN n).y))
    have hyl := h.y.le
    have hyb := h.y.b1
    have hd : (decide (m.young.room < 1 + (l.length : Int))) = decide (m.young.room < ((l.length + 1 : Nat) : Int)) := by
      rw [Bool.eq_iff_iff]; simp only [decide_eq_true_eq]; omega
    by_cases hr : m.young.room < ((l.length + 1 : Nat) : Int)
    · have ha : m.allocE v = (m, 0, 14) := by unfold Mem.allocE; rw [hl]; simp only; rw [if_pos hr]
      rw [ha]
      have hr' : m.young.room < 1 + (l.length : Int) := by omega
      clear hl ha hd hr q3 hyl hyb
      go_enter Try.func33, Try.ntmps33
      go_wp2_with (fail)
      refine (c_made w L m h).mono ?_
      rintro e w0 ⟨rfl, rfl⟩
      go_wp2_with (fail)
      go_quiet ((go_at_call 83; exact hrm _))
      go_wp2
      go_ret2
      exact ⟨rfl, h.drewN nq, (Fr.refl _ w).drewN nq⟩
    · have ha : m.allocE v = ({ m with young := m.young.lay (l.length + 1) v }, m.young.top, 0) := by unfold Mem.allocE; rw [hl]; simp only; rw [if_neg hr]
      rw [ha]
      have hr' : ¬ m.young.room < 1 + (l.length : Int) := by omega
      have hru : m.young.used + (l.length + 1) ≤ m.young.words.length := by unfold Sp.room at hr; omega
      clear hl ha hd hr q3 hyl hyb
      go_enter Try.func33, Try.ntmps33
      go_wp2_with (fail)
      refine (c_made w L m h).mono ?_
      rintro e w0 ⟨rfl, rfl⟩
      go_wp2_with (fail)
      go_quiet ((go_at_call 83; exact hrm _))
      go_wp2_with (fail)
      have h1 : MemRep (w.drewN (nq + 1)) L m := h.drewN (nq + 1)
      have f1 : Fr (fun k => k ∈ L.fp) w (w.drewN (nq + 1)) := (Fr.refl _ w).drewN _
      refine wp_region_still_tail 14 (by kernel_rfl) (by kernel_rfl) ?_
      show wpStill _ _ (w.drewN (nq + 1)) (fun a' => wpList _ _ _ _ a' (w.drewN (nq + 1))) _ _
      simp only [List.take_succ_cons, List.take_zero, List.drop_succ_cons, List.drop_zero]
      repeat still_step
      refine wpStill_nil ?_
      generalize w.drewN (nq + 1) = w1 at *
      go_wp2_with (fail)
      rw [show (1 + (l.length : Int)) = ((l.length + 1 : Nat) : Int) by omega]
      refine (c_lay w1 L.y m.young h1.y (l.length + 1) v (by omega) hru).mono ?_
      rintro e w2 ⟨rfl, h2, f2⟩
      go_wp2
      go_ret2
      exact ⟨rfl, h1.upd .y h2 f2, f1.trans (f2.mono fun k _ hk => MemRep.spfp (wh := .y) hk)⟩

set_option maxRecDepth 100000 in
theorem c_Shape (w : World) (L : ML) (m : Mem) (h : MemRep w L m) (a : Int) :
    Calls Try.prog 42 #[.pointer (some ⟨L.b, 0, none⟩), .int .i64 a] w fun e w' => e = .returned (.tuple #[.int .i64 (m.shapeE a).1, .int .i64 (m.shapeE a).2]) ∧ Below w.heap.size w w' := by
  have hcur := c_current w L m h a
  unfold Mem.shapeE
  cases hc : m.cur a with
  | none =>
    rw [hc] at hcur
    clear hc
    go_enter Try.func42, Try.ntmps42
    go_wp2_with (fail)
    refine (c_made w L m h).mono ?_
    rintro e w0 ⟨rfl, rfl⟩
    go_wp2_with (fail)
    refine hcur.mono ?_
    rintro e w1 ⟨rfl, hb⟩
    go_wp2
    go_ret2
    exact ⟨rfl, hb⟩
  | some wh =>
    rw [hc] at hcur
    have hok := begins_ok (h.spR wh) (cur_begins hc)
    simp only [curPtr, Option.isSome_some] at hcur
    clear hc
    go_enter Try.func42, Try.ntmps42
    go_wp2_with (fail)
    refine (c_made w L m h).mono ?_
    rintro e w0 ⟨rfl, rfl⟩
    go_wp2_with (fail)
    refine hcur.mono ?_
    rintro e w1 ⟨rfl, hb⟩
    have h1 := h.below hb
    have hw := (h1.spR wh).getw hok
    go_wp2_with (fail)
    refine (c_word w1 _ _ (h1.spR wh) a hok).mono ?_
    rintro e w2 ⟨rfl, n, rfl⟩
    go_wp2
    go_ret2
    exact ⟨rfl, below_drewN hb n⟩

theorem c_Busy (w : World) (L : ML) (m : Mem) (h : MemRep w L m) :
    Calls Try.prog 23 #[.pointer (some ⟨L.b, 0, none⟩)] w fun e w' => e = .returned (.bool m.busy) ∧ w = w' := by
  have c5 := h.c5
  go_enter Try.func23, Try.ntmps23
  go_wp2_with (fail)
  refine (c_made w L m h).mono ?_
  rintro e w0 ⟨rfl, rfl⟩
  go_wp2
  go_ret
  exact ⟨rfl, rfl⟩

set_option maxRecDepth 100000 in
theorem c_Get (w : World) (L : ML) (m m' : Mem) (h : MemRep w L m) (a f v e0 : Int) (hg : m.getE a f = some (m', v, e0)) :
    Calls Try.prog 41 #[.pointer (some ⟨L.b, 0, none⟩), .int .i64 a, .int .i64 f] w fun e w' => e = .returned (.tuple #[.int .i64 v, .int .i64 e0]) ∧ MemRep w' L m' ∧ Fr (fun k => k ∈ L.fp) w w' := by
  unfold Mem.getE at hg
  cases hf : m.fieldE a f with
  | none => rw [hf] at hg; cases hg
  | some r =>
    rw [hf] at hg
    have hfd := c_field w L m h a f r hf
    cases r with
    | inl e1 =>
      simp only [Option.some.injEq, Prod.mk.injEq] at hg
      obtain ⟨rfl, rfl, rfl⟩ := hg
      have hne := Mem.fieldE_err hf
      have hne' : ((e1 : Int) != 0) = true := by simpa using hne
      simp only [fieldV] at hfd
      clear hf hne
      go_enter Try.func41, Try.ntmps41
      go_wp2_with (fail)
      refine hfd.mono ?_
      rintro e w1 ⟨rfl, hb⟩
      go_wp2
      go_ret2
      exact ⟨rfl, h.below hb, Fr.of_below hb⟩
    | inr p =>
      obtain ⟨wh, rr⟩ := p
      simp only at hg
      obtain ⟨hok, hcur⟩ := Mem.fieldE_ok hf
      simp only [fieldV] at hfd
      cases hrb : (rr && m.busy) with
      | false =>
        rw [hrb] at hg
        simp only [Bool.false_eq_true, if_false, Option.some.injEq, Prod.mk.injEq] at hg
        obtain ⟨rfl, rfl, rfl⟩ := hg
        clear hf
        have hw := (h.spR wh).getw hok
        cases rr with
        | false =>
          clear hrb
          go_enter Try.func41, Try.ntmps41
          go_wp2_with (fail)
          refine hfd.mono ?_
          rintro e w1 ⟨rfl, hb⟩
          have h1 := h.below hb
          have hw := (h1.spR wh).getw hok
          go_wp2
          go_ret2
          exact ⟨rfl, h1, Fr.of_below hb⟩
        | true =>
          simp only [Bool.true_and] at hrb
          go_enter Try.func41, Try.ntmps41
          clear hw
          have hrb' := Lib.hid hrb
          clear hrb
          go_wp2_with (fail)
          refine hfd.mono ?_
          rintro e w1 ⟨rfl, hb⟩
          have h1 := h.below hb
          have hw := (h1.spR wh).getw hok
          have c5 := h1.c5
          rw [hrb'.out] at c5
          go_wp2
          go_ret2
          exact ⟨rfl, h1, Fr.of_below hb⟩
      | true =>
        rw [hrb] at hg
        simp only [if_true] at hg
        cases hfw : m.fwdIn false wh (a + 1 + f) with
        | none => rw [hfw] at hg; cases hg
        | some m1 =>
          rw [hfw] at hg
          simp only [Option.some.injEq, Prod.mk.injEq] at hg
          obtain ⟨rfl, rfl, rfl⟩ := hg
          simp only [Bool.and_eq_true] at hrb
          obtain ⟨rfl, hbusy⟩ := hrb
          clear hf
          have hbusy' := Lib.hid hbusy
          clear hbusy
          go_enter Try.func41, Try.ntmps41
          go_wp2_with (fail)
          refine hfd.mono ?_
          rintro e w1 ⟨rfl, hb⟩
          have h1 := h.below hb
          have c5 := h1.c5
          have c3 := h1.c3
          rw [hbusy'.out] at c5
          have hfw' := Lib.hid hfw
          clear hfw
          go_wp2_with (fail)
          have hwho : wh ≠ .o := by
            intro e
            subst e
            unfold Mem.cur at hcur
            split at hcur
            · cases hcur
            · split at hcur <;> cases hcur
          refine (c_forward_in w1 L m h1 false wh (a + 1 + f) m1 hwho hfw'.out).mono ?_
          rintro e w2 ⟨rfl, h2, f2⟩
          have ei := fwdIn_idx hwho hfw'.out (a + 1 + f)
          have hw := (h2.spR wh).getw (ei.2.trans hok)
          rw [ei.1] at hw
          have hfin := (Fr.of_below (S := fun k => k ∈ L.fp) hb).trans f2
          clear ei hfw' c5 c3
          go_wp2
          go_ret2
          exact ⟨rfl, h2, hfin⟩
end Go.Proofs.Ytnedmmopkhmejaa

/- Walks: Room, rooted, object. -/
namespace Go.Proofs.Ytnedmmopkhmejaa
open Go.RowKit Go.Proofs.Hp

/-- A slice of ints that reads as xs, in blocks of D (where it is not empty). -/
def IntsAt (w : World) (D : Nat → Prop) (v : Value) (xs : List Int) : Prop :=
  ∃ p cap, v = .slice p xs.length cap ∧ (xs = [] ∨ ∃ b o, p = some ⟨b, o, none⟩ ∧ D b ∧ ∀ i (h : i < xs.length), w.cell? ⟨b, o + i, none⟩ = some (.int .i64 xs[i]))
theorem IntsAt.of_blocks {w w' : World} {D : Nat → Prop} {v : Value} {xs : List Int} (h : IntsAt w D v xs) (e : ∀ k, D k → w'.heap[k]? = w.heap[k]?) : IntsAt w' D v xs := by
  obtain ⟨p, cap, hv, h | ⟨b, o, hp, hD, hc⟩⟩ := h
  · exact ⟨p, cap, hv, .inl h⟩
  · exact ⟨p, cap, hv, .inr ⟨b, o, hp, hD, fun i hi => cell_same (e b hD) (hc i hi)⟩⟩
theorem lt_of_cell {w : World} {b o : Nat} {v : Value} (h : w.cell? ⟨b, o, none⟩ = some v) : b < w.heap.size := World.block_lt_of_cell? w ⟨b, o, none⟩ h

/-- The slice behind a change of blocks that are not its own. -/
theorem IntsAt.fr {S : Nat → Prop} {w w' : World} {D : Nat → Prop} {v : Value} {xs : List Int} (h : IntsAt w D v xs) (hf : Fr S w w') (hS : ∀ k, D k → ¬ S k) : IntsAt w' D v xs := by
  obtain ⟨p, cap, hv, h | ⟨b, o, hp, hD, hc⟩⟩ := h
  · exact ⟨p, cap, hv, .inl h⟩
  · exact ⟨p, cap, hv, .inr ⟨b, o, hp, hD, fun i hi => hf.cell (hc i hi) (hS b hD)⟩⟩

set_option maxRecDepth 100000 in
theorem c_Room (w : World) (L : ML) (m : Mem) (h : MemRep w L m) :
    Calls Try.prog 24 #[.pointer (some ⟨L.b, 0, none⟩)] w fun e w' => e = .returned (.agg #[.int .i64 m.young.used, .int .i64 m.now.used, .int .i64 m.left]) ∧ Below w.heap.size w w' := by
  have h0 := h.alloc (.cells #[.int .i64 0, .int .i64 0, .int .i64 0] 54)
  have hz := al_same w (.cells #[.int .i64 0, .int .i64 0, .int .i64 0] 54)
  have f0 : Fr (fun _ => False) w (w.alloc (.cells #[.int .i64 0, .int .i64 0, .int .i64 0] 54)) := (Fr.refl _ w).alloc _
  go_enter Try.func24, Try.ntmps24
  go_wp2_with (fail)
  generalize w.alloc (.cells #[.int .i64 0, .int .i64 0, .int .i64 0] 54) = W at *
  refine (c_made W L m h0).mono ?_
  rintro e w0 ⟨rfl, rfl⟩
  have c1 := h0.c1
  have c2 := h0.c2
  have c8 := h0.c8
  have y2 := h0.y.c2
  have n2 := h0.n.c2
  have z0 : W.cell? ⟨w.heap.size, 0, none⟩ = some (.int .i64 0) := by rw [cell_of hz]; rfl
  have z1 : W.cell? ⟨w.heap.size, 1, none⟩ = some (.int .i64 0) := by rw [cell_of hz]; rfl
  have z2 : W.cell? ⟨w.heap.size, 2, none⟩ = some (.int .i64 0) := by rw [cell_of hz]; rfl
  have zf0 := free_of hz 0
  have zf1 := free_of hz 1
  have zf2 := free_of hz 2
  go_wp2_with (fail)
  refine wp_region_still_tail 21 (by kernel_rfl) (by kernel_rfl) ?_
  show wpStill _ _ (W.drewN 1) (fun a' => wpList _ _ _ _ a' (W.drewN 1)) _ _
  simp only [List.take_succ_cons, List.take_zero, List.drop_succ_cons, List.drop_zero]
  repeat still_step
  refine wpStill_nil ?_
  go_wp2_with (fail)
  have hz' : ((((W.drewN 1).setCell ⟨w.heap.size, 0, none⟩ (.int .i64 m.young.used)).setCell ⟨w.heap.size, 1, none⟩ (.int .i64 m.now.used)).setCell ⟨w.heap.size, 2, none⟩ (.int .i64 m.left)).heap[w.heap.size]? =
      some (.cells #[.int .i64 m.young.used, .int .i64 m.now.used, .int .i64 m.left] 54 (0, 0)) := by
    rw [heap_setCell_same _ (heap_setCell_same _ (heap_setCell_same (w := W.drewN 1) _ hz))]; rfl
  have f1 : Fr (fun _ => False) w ((((W.drewN 1).setCell ⟨w.heap.size, 0, none⟩ (.int .i64 m.young.used)).setCell ⟨w.heap.size, 1, none⟩ (.int .i64 m.now.used)).setCell ⟨w.heap.size, 2, none⟩ (.int .i64 m.left)) :=
    (((f0.drewN 1).setCell _ _ (.inr (Nat.le_refl _))).setCell _ _ (.inr (Nat.le_refl _))).setCell _ _ (.inr (Nat.le_refl _))
  generalize (((W.drewN 1).setCell ⟨w.heap.size, 0, none⟩ (.int .i64 m.young.used)).setCell ⟨w.heap.size, 1, none⟩ (.int .i64 m.now.used)).setCell ⟨w.heap.size, 2, none⟩ (.int .i64 m.left) = W2 at *
  have r0 : W2.cell? ⟨w.heap.size, 0, none⟩ = some (.int .i64 m.young.used) := by rw [cell_of hz']; rfl
  have r1 : W2.cell? ⟨w.heap.size, 1, none⟩ = some (.int .i64 m.now.used) := by rw [cell_of hz']; rfl
  have r2 : W2.cell? ⟨w.heap.size, 2, none⟩ = some (.int .i64 m.left) := by rw [cell_of hz']; rfl
  exact bodyPost_ret (v := .agg #[.int .i64 m.young.used, .int .i64 m.now.used, .int .i64 m.left]) (by simp [results, Try.results24, go_sem, r0, r1, r2]) rfl ⟨rfl, f1.below⟩

set_option maxRecDepth 100000 in
theorem c_rooted (w : World) (L : ML) (m : Mem) (h : MemRep w L m) (D : Nat → Prop) (v : Value) (roots : List Int) (hr : IntsAt w D v roots) (hl : roots.length ≤ 140737488355328) :
    Calls Try.prog 57 #[.pointer (some ⟨L.b, 0, none⟩), v] w fun e w' => e = .returned (.int .i64 (m.rooted roots)) ∧ Below w.heap.size w w' := by
  obtain ⟨p, cap, rfl, hc⟩ := hr
  by_cases hlen : roots.length > 200
  · have hre : m.rooted roots = 3 := by unfold Mem.rooted; rw [if_pos hlen]
    rw [hre]
    have hlen' : (200 : Int) < (roots.length : Int) := by omega
    clear hre hc
    go_enter Try.func57, Try.ntmps57
    go_wp2_with (fail)
    refine (c_made w L m h).mono ?_
    rintro e w0 ⟨rfl, rfl⟩
    go_wp2
    go_ret
    exact ⟨rfl, Below.refl _ _⟩
  · have hlen' : ¬ (200 : Int) < (roots.length : Int) := by omega
    have hcells : ∀ i (hi : i < roots.length), ∃ b o, p = some ⟨b, o, none⟩ ∧ w.cell? ⟨b, o + i, none⟩ = some (.int .i64 roots[i]) := by
      intro i hi
      rcases hc with rfl | ⟨b, o, hp, _, hc⟩
      · simp at hi
      · exact ⟨b, o, hp, hc i hi⟩
    clear hc
    have hcells' := Lib.hid hcells
    clear hcells
    go_enter Try.func57, Try.ntmps57
    go_wp2_with (fail)
    refine (c_made w L m h).mono ?_
    rintro e w0 ⟨rfl, rfl⟩
    go_wp2
    go_loopw [6, 7, 8, 19] (fun _ _ _ i wr => ∃ k : Nat, k ≤ roots.length ∧ i = .int .i64 k ∧ Below w.heap.size w wr ∧ (∀ j (h : j < k) (h' : j < roots.length), (roots[j] != 0 && (m.cur roots[j]).isNone) = false)) (fun _ _ _ i _ => roots.length - (intOf i).toNat)
    case atStart => exact ⟨0, by omega, rfl, Below.refl _ _, fun j h => by omega⟩
    case round =>
      obtain ⟨k, hk, rfl, hb, hno⟩ := hrel
      have hno' := Lib.hid hno
      clear hno
      have h1 := h.below hb
      by_cases hlt : k < roots.length
      · obtain ⟨b, o, rfl, hcell⟩ := hcells'.out k hlt
        have hcell' := (Fr.of_below (S := fun _ => False) hb).cell hcell id
        have hcu0 := c_current wr L m h1 roots[k]
        have hend : ∀ w1, Below wr.heap.size wr w1 → Below w.heap.size w w1 := fun w1 q => hb.trans (q.mono hb.size)
        cases hcu : m.cur roots[k] with
        | some wh =>
          rw [hcu] at hcu0
          have hcu' := Lib.hid hcu
          clear hcu
          go_wp2_with (fail)
          refine hcu0.mono ?_
          rintro e w1 ⟨rfl, hb1⟩
          go_wp2
          all_goals
            go_roundw
            case rel => exact ⟨k + 1, by omega, by go_num, hend _ hb1, fun j hj h' => by
              rcases Nat.lt_or_ge j k with q | q
              · exact hno'.out j q h'
              · obtain rfl : j = k := by omega
                rw [hcu'.out]; simp⟩
            case measure => simp [intOf]; omega
        | none =>
          rw [hcu] at hcu0
          have hcu' := Lib.hid hcu
          clear hcu
          by_cases hz : roots[k] = 0
          · have hz' := Lib.hid hz
            have hz2 : (roots[k] != 0) = false := by simpa using hz
            clear hz
            go_wp2_with (fail)
            refine hcu0.mono ?_
            rintro e w1 ⟨rfl, hb1⟩
            go_wp2
            all_goals
              go_roundw
              case rel => exact ⟨k + 1, by omega, by go_num, hend _ hb1, fun j hj h' => by
                rcases Nat.lt_or_ge j k with q | q
                · exact hno'.out j q h'
                · obtain rfl : j = k := by omega
                  rw [hz'.out]; rfl⟩
              case measure => simp [intOf]; omega
          · have hz2 : (roots[k] != 0) = true := by simpa using hz
            have hfin : m.rooted roots = 5 := by
              unfold Mem.rooted
              rw [if_neg hlen, if_pos]
              rw [List.any_eq_true]
              exact ⟨roots[k], List.getElem_mem hlt, by rw [hcu'.out, hz2]; rfl⟩
            have hfin' := Lib.hid hfin
            clear hfin hz
            go_wp2_with (fail)
            refine hcu0.mono ?_
            rintro e w1 ⟨rfl, hb1⟩
            go_wp2
            go_ret
            exact ⟨by rw [hfin'.out]; rfl, hend _ hb1⟩
      · have hfin : m.rooted roots = 0 := by
          unfold Mem.rooted
          rw [if_neg hlen, if_neg]
          rw [Bool.not_eq_true, List.any_eq_false]
          intro x hx
          obtain ⟨j, hj, rfl⟩ := List.mem_iff_getElem.1 hx
          rw [hno'.out j (by omega) hj]; simp
        have hfin' := Lib.hid hfin
        clear hfin
        go_wp2
        go_ret
        exact ⟨by rw [hfin'.out]; rfl, hb⟩
end Go.Proofs.Ytnedmmopkhmejaa

/- Walks: object, Step. -/
namespace Go.Proofs.Ytnedmmopkhmejaa
open Go.RowKit Go.Proofs.Hp

set_option maxRecDepth 100000 in
theorem c_object (w : World) (L : ML) (m : Mem) (h : MemRep w L m) (a : Int) (i o : Nat) (ha : a = (m.now.frm : Int) + (i : Int)) (hi : i < m.now.words.length) (ho : Mem.objAt m.now.starts i = some o) :
    Calls Try.prog 80 #[.pointer (some ⟨L.b, 0, none⟩), .int .i64 a] w fun e w' => e = .returned (.int .i64 ((m.now.frm : Int) + (o : Int))) ∧ ∃ n, w' = w.drewN n := by
  subst ha
  go_enter Try.func80, Try.ntmps80
  go_wp2
  go_loopw [1] (fun a wr => ∃ i : Nat, a = .int .i64 ((m.now.frm : Int) + (i : Int)) ∧ i < m.now.words.length ∧ Hid (Mem.objAt m.now.starts i = some o) ∧ ∃ n, wr = w.drewN n) (fun a _ => (intOf a).toNat)
  case atStart => exact ⟨i, rfl, hi, Lib.hid ho, 0, rfl⟩
  case round =>
    obtain ⟨j, rfl, hj, hoj, n, rfl⟩ := hrel
    have h1 := h.drewN n
    have c2 := h1.c2
    have d1 := h1.n.c1
    have d3 := h1.n.c3
    have hb1 := h1.n.b1
    have hb2 := h1.n.b2
    have hlen := h1.n.len
    have hs := h1.n.start (i := j) hj
    have e1 : IntKind.i64.wrap ((m.now.frm : Int) + (j : Int) - (m.now.frm : Int)) = (j : Int) := by
      rw [show (m.now.frm : Int) + (j : Int) - (m.now.frm : Int) = (j : Int) by omega]; exact IntWalk.i64_in _ (by omega)
    have k1 : (j : Int) < (m.now.starts.length : Int) := by omega
    clear hlen hi ho
    have hw : ∀ q, ∃ n', (w.drewN n).drewN q = w.drewN n' := fun q => ⟨n + q, by rw [World.drewN_drewN]⟩
    clear h1
    obtain ⟨wx, hwx⟩ : ∃ wx, w.drewN n = wx := ⟨_, rfl⟩
    rw [hwx] at c2 d1 d3 hs hw ⊢
    have hwx' := Lib.hid hwx
    clear hwx
    cases hst : m.now.starts.getD j false with
    | true =>
      rw [hst] at hs
      have hjo : j = o := by
        have := hoj.out
        cases j with
        | zero => simp only [Mem.objAt, hst, if_true, Option.some.injEq] at this; exact this
        | succ j => simp only [Mem.objAt, hst, if_true, Option.some.injEq] at this; exact this
      subst hjo
      clear hst hoj
      go_wp2_with (fail)
      go_quiet (fail)
      go_wp2
      go_ret
      exact ⟨rfl, by obtain ⟨n', e⟩ := hw nq; exact ⟨n', e⟩⟩
    | false =>
      rw [hst] at hs
      cases j with
      | zero => have := hoj.out; unfold Mem.objAt at this; rw [hst] at this; cases this
      | succ j =>
        have hoj' : Hid (Mem.objAt m.now.starts j = some o) := by
          have := hoj.out
          simp only [Mem.objAt, hst, Bool.false_eq_true, if_false] at this
          exact this
        clear hst hoj
        have e2 : IntKind.i64.wrap ((m.now.frm : Int) + ((j + 1 : Nat) : Int) - 1) = (m.now.frm : Int) + (j : Int) := by
          rw [show (m.now.frm : Int) + ((j + 1 : Nat) : Int) - 1 = (m.now.frm : Int) + (j : Int) by omega]; exact IntWalk.i64_in _ (by omega)
        go_wp2_with (fail)
        go_quiet (fail)
        go_wp2
        refine ⟨⟨j, ?_, by omega, hoj', ?_⟩, ?_⟩
        · rw [show (m.now.frm : Int) + ((j : Int) + 1) - 1 = (m.now.frm : Int) + (j : Int) by omega]
        · obtain ⟨n', e⟩ := hw nq; exact ⟨n', e⟩
        · simp [intOf]; omega

/-- The first steps of 'Step': what the scan looks at. -/
theorem stepLoop_round {k : Nat} {m m' : Mem} (h : Mem.stepLoop (k + 1) m = some m') (hs : m.scan ≠ m.now.top) :
    m.now.ok m.scan = true ∧ ∃ o, Mem.objAt m.now.starts (m.now.idx m.scan) = some o ∧
      ((m.now.idx m.scan = o ∧ Mem.stepLoop k { m with scan := m.scan + 1 } = some m') ∨
       (m.now.idx m.scan ≠ o ∧ ∃ l, m.shapeAt (m.now.words.getD o 0) = some l ∧
          ((l[m.now.idx m.scan - o - 1]? = some false ∧ Mem.stepLoop k { m with scan := m.scan + 1 } = some m') ∨
           (l[m.now.idx m.scan - o - 1]? = some true ∧ ∃ m1, m.fwdIn false .n m.scan = some m1 ∧ Mem.stepLoop k { m1 with scan := m1.scan + 1 } = some m')))) := by
  unfold Mem.stepLoop at h
  rw [if_neg hs] at h
  split at h
  · rename_i hok
    refine ⟨hok, ?_⟩
    split at h
    · cases h
    · rename_i o ho
      refine ⟨o, ho, ?_⟩
      by_cases e : m.now.idx m.scan = o
      · rw [if_pos e] at h; exact .inl ⟨e, h⟩
      · rw [if_neg e] at h
        refine .inr ⟨e, ?_⟩
        cases hl : m.shapeAt (m.now.words.getD o 0) with
        | none => rw [hl] at h; cases h
        | some l =>
          rw [hl] at h
          refine ⟨l, rfl, ?_⟩
          simp only at h
          cases hf : l[m.now.idx m.scan - o - 1]? with
          | none => rw [hf] at h; cases h
          | some b =>
            rw [hf] at h
            cases b with
            | false => exact .inl ⟨rfl, h⟩
            | true =>
              simp only at h
              cases hw : m.fwdIn false .n m.scan with
              | none => rw [hw] at h; cases h
              | some m1 => rw [hw] at h; exact .inr ⟨rfl, m1, rfl, h⟩
  · cases h

theorem objAt_le (st : List Bool) : ∀ (i o : Nat), Mem.objAt st i = some o → o ≤ i
  | 0, o, h => by unfold Mem.objAt at h; split at h <;> simp at h; omega
  | i + 1, o, h => by
    unfold Mem.objAt at h
    split at h
    · simp at h; omega
    · have := objAt_le st i o h; omega
end Go.Proofs.Ytnedmmopkhmejaa

/- The walk of Step. -/
namespace Go.Proofs.Ytnedmmopkhmejaa
open Go.RowKit Go.Proofs.Hp

theorem c_Step_arg (w : World) (L : ML) (m : Mem) (h : MemRep w L m) (n : Int) (hn : n < 0) :
    Calls Try.prog 31 #[.pointer (some ⟨L.b, 0, none⟩), .int .i64 n] w fun e w' => e = .returned (.tuple #[.int .i64 0, .int .i64 1]) ∧ w = w' := by
  go_enter Try.func31, Try.ntmps31
  go_wp2_with (fail)
  go_step3
  go_wp2_with (fail)
  refine (c_made w L m h).mono ?_
  rintro e w0 ⟨rfl, rfl⟩
  go_wp2
  try rw [Exit.noGoto_ret]
  go_ret2
  exact ⟨rfl, rfl⟩

theorem c_Step_idle (w : World) (L : ML) (m : Mem) (h : MemRep w L m) (n : Int) (hn : 0 ≤ n) (hb : m.busy = false) :
    Calls Try.prog 31 #[.pointer (some ⟨L.b, 0, none⟩), .int .i64 n] w fun e w' => e = .returned (.tuple #[.int .i64 0, .int .i64 0]) ∧ w = w' := by
  have c5 := h.c5
  rw [hb] at c5
  have hn' : ¬ n < 0 := by omega
  clear hb
  go_enter Try.func31, Try.ntmps31
  go_wp2_with (fail)
  go_step3
  go_wp2_with (fail)
  refine (c_made w L m h).mono ?_
  rintro e w0 ⟨rfl, rfl⟩
  go_wp2
  try rw [Exit.noGoto_ret]
  go_ret2
  exact ⟨rfl, rfl⟩

/-- The scan goes on. -/
theorem MemRep.scan1 {w : World} {L : ML} {m : Mem} (h : MemRep w L m) (hok : m.now.ok m.scan = true) : MemRep (w.setCell ⟨L.b, 6, none⟩ (.int .i64 (m.scan + 1))) L { m with scan := m.scan + 1 } := by
  have hb1 := h.n.b1
  have hb2 := h.n.b2
  have h0 := h.sc0
  simp only [Sp.ok, Bool.and_eq_true, decide_eq_true_eq] at hok
  exact h.updBlk (by rw [heap_setCell_same _ h.blk]; rfl) ((Fr.refl _ w).setCell _ _ (.inl rfl)) ⟨rfl, rfl, rfl, rfl, rfl, rfl, rfl, rfl⟩ ⟨rfl, rfl, rfl, rfl, rfl, rfl⟩ (by simp; omega) (by simp; omega) h.lf0 h.lf1

theorem fwdIn_scan {m m' : Mem} {y : Bool} {wh : Wh} {a : Int} (h : m.fwdIn y wh a = some m') : m'.scan = m.scan := by
  unfold Mem.fwdIn at h
  split at h
  · split at h
    · rename_i m1 to hf1
      simp only [Option.some.injEq] at h
      obtain ⟨_, _, _, _, _, _, _, e, _⟩ := forward_keeps hf1
      subst h
      cases wh <;> simp [Mem.setSp, e]
    · cases h
  · cases h

/-- 'forward' of a word of the present half, out of the former half; out of the young space. -/
theorem c_fwd_no (w : World) (L : ML) (m : Mem) (h : MemRep w L m) (a : Int) (m' : Mem) (hf : m.fwdIn false .n a = some m') :
    Calls Try.prog 81 #[.pointer (some ⟨L.b, 0, none⟩), .pointer (some ⟨L.o.b, 0, none⟩), .pointer (some ⟨L.n.wb, m.now.idx a, none⟩)] w
      fun e w' => e = .returned (.tuple #[]) ∧ MemRep w' L m' ∧ Fr (fun k => k ∈ L.fp) w w' := c_forward_in w L m h false .n a m' (by simp) hf
theorem c_fwd_ny (w : World) (L : ML) (m : Mem) (h : MemRep w L m) (a : Int) (m' : Mem) (hf : m.fwdIn true .n a = some m') :
    Calls Try.prog 81 #[.pointer (some ⟨L.b, 0, none⟩), .pointer (some ⟨L.y.b, 0, none⟩), .pointer (some ⟨L.n.wb, m.now.idx a, none⟩)] w
      fun e w' => e = .returned (.tuple #[]) ∧ MemRep w' L m' ∧ Fr (fun k => k ∈ L.fp) w w' := c_forward_in w L m h true .n a m' (by simp) hf

theorem Fr.three {w : World} {b i j k : Nat} {u v x : Value} : Fr (fun q => q = b) w (((w.setCell ⟨b, i, none⟩ u).setCell ⟨b, j, none⟩ v).setCell ⟨b, k, none⟩ x) :=
  Fr.setCell (Fr.setCell (Fr.setCell (Fr.refl (fun q => q = b) w) ⟨b, i, none⟩ u (.inl rfl)) ⟨b, j, none⟩ v (.inl rfl)) ⟨b, k, none⟩ x (.inl rfl)

/-- The end of a moving: busy, left and moved are struck. -/
theorem step_stop (W : World) (L : ML) (m : Mem) (h : MemRep W L m) :
    MemRep ((((W.alloc (.map #[] 0)).setCell ⟨L.b, 5, none⟩ (.bool false)).setCell ⟨L.b, 8, none⟩ (.int .i64 0)).setCell ⟨L.b, 7, none⟩ (.map (some W.heap.size))) { L with mb := W.heap.size } { m with busy := false, left := 0, moved := [] } ∧
      Ev L { L with mb := W.heap.size } W ((((W.alloc (.map #[] 0)).setCell ⟨L.b, 5, none⟩ (.bool false)).setCell ⟨L.b, 8, none⟩ (.int .i64 0)).setCell ⟨L.b, 7, none⟩ (.map (some W.heap.size))) := by
  have h1 := h.alloc (.map #[] 0)
  have hbk : ((((W.alloc (.map #[] 0)).setCell ⟨L.b, 5, none⟩ (.bool false)).setCell ⟨L.b, 8, none⟩ (.int .i64 0)).setCell ⟨L.b, 7, none⟩ (.map (some W.heap.size))).heap[L.b]? =
      some (memBlock { L with mb := W.heap.size } { m with busy := false, left := 0, moved := [] }) := by
    rw [heap_setCell_same _ (heap_setCell_same _ (heap_setCell_same _ h1.blk))]; rfl
  refine ⟨h1.newMap hbk Fr.three (al_same W _) (fun q => absurd (h.lt q) (by omega)) (fun q => absurd (h.Dlt _ q) (by omega)) ⟨rfl, rfl, rfl, rfl, rfl, rfl⟩ h1.sc0 h1.sc1 (by simp) (by simp), rfl, rfl, rfl, fun k hk => ?_, ?_⟩
  · rcases MemRep.mem_fp.1 hk with q | q | q
    · exact .inl (MemRep.mem_fp.2 (.inl q))
    · exact .inr (by rw [q]; exact Nat.le_refl _)
    · exact .inl (MemRep.mem_fp.2 (.inr (.inr q)))
  · have hLb : L.b ∈ L.fp := MemRep.mem_fp.2 (.inl rfl)
    exact ((Fr.refl _ W).alloc (.map #[] 0)).trans (Fr.three.mono fun k _ e => by subst e; exact hLb)

set_option maxRecDepth 100000 in
set_option maxHeartbeats 2000000 in
theorem c_Step_busy (w : World) (L : ML) (m m1 : Mem) (h : MemRep w L m) (n : Int) (hn : 0 ≤ n) (hn63 : n ≤ 9223372036854775807) (hb : m.busy = true) (hs : Mem.stepLoop n.toNat m = some m1) (v : Int) (m2 : Mem)
    (hres : (if m1.now.top - m1.scan = 0 then some ({ m1 with busy := false, left := 0, moved := [], other := m1.other.empty }, 0, 0) else some (m1, m1.now.top - m1.scan, 0) : Option (Mem × Int × Int)) = some (m2, v, 0)) :
    Calls Try.prog 31 #[.pointer (some ⟨L.b, 0, none⟩), .int .i64 n] w fun e w' => e = .returned (.tuple #[.int .i64 v, .int .i64 0]) ∧ ∃ L', MemRep w' L' m2 ∧ Ev L L' w w' := by
  have c5 := h.c5
  rw [hb] at c5
  have hn' : ¬ n < 0 := by omega
  have hs' := Lib.hid hs
  have hres' := Lib.hid hres
  have hnn : ((n.toNat : Nat) : Int) = n := by omega
  have hnn' := Lib.hid hnn
  clear hb hs hres hnn
  go_enter Try.func31, Try.ntmps31
  go_wp2_with (fail)
  go_step3
  go_wp2_with (fail)
  refine (c_made w L m h).mono ?_
  rintro e w0 ⟨rfl, rfl⟩
  go_wp2
  go_step3
  go_wp2
  go_loopw [6, 7, 23] (fun _ _ i wr => ∃ (k : Nat) (mk : Mem), i = .int .i64 k ∧ k ≤ n.toNat ∧ MemRep wr L mk ∧ Fr (fun k => k ∈ L.fp) w wr ∧ Hid (Mem.stepLoop (n.toNat - k) mk = some m1)) (fun _ _ i _ => n.toNat - (intOf i).toNat)
  case atStart => exact ⟨0, m, rfl, by omega, h, Fr.refl _ _, hs'⟩
  case round =>
    obtain ⟨k, mk, rfl, hk, hx, fx, hst⟩ := hrel
    by_cases hlt : k < n.toNat
    · have hlt' : (k : Int) < n := by omega
      obtain ⟨r, hr⟩ : ∃ r, n.toNat - k = r + 1 := ⟨n.toNat - k - 1, by omega⟩
      rw [hr] at hst
      have x2 := hx.c2
      have x6 := hx.c6
      have y1 := hx.n.c1
      have y2 := hx.n.c2
      have yb1 := hx.n.b1
      have yb2 := hx.n.b2
      have yle := hx.n.le
      have ye1 : IntKind.i64.wrap ((mk.now.frm : Int) + (mk.now.used : Int)) = (mk.now.frm : Int) + (mk.now.used : Int) := IntWalk.i64_in _ (by omega)
      by_cases hsc : mk.scan = mk.now.top
      · have hbq : (mk.scan == (mk.now.frm : Int) + (mk.now.used : Int)) = true := by rw [beq_iff_eq]; exact hsc
        have hmm : m1 = mk := by
          have := hst.out
          unfold Mem.stepLoop at this
          rw [if_pos hsc] at this
          simp only [Option.some.injEq] at this
          exact this.symm
        subst hmm
        clear hst hsc hs' hnn' hr yb1 yb2 yle
        go_wp2_with (fail)
        go_quiet (fail)
        replace hx := hx.drewN nq
        replace fx := fx.drewN nq
        clear x2 x6 y1 y2
        generalize wr.drewN nq = wr at *
        have t2 := hx.c2
        have t6 := hx.c6
        have u1 := hx.n.c1
        have u2 := hx.n.c2
        have ub1 := hx.n.b1
        have ub2 := hx.n.b2
        have uble := hx.n.le
        have us0 := hx.sc0
        have us1 := hx.sc1
        have ue1 : IntKind.i64.wrap ((m1.now.frm : Int) + (m1.now.used : Int)) = (m1.now.frm : Int) + (m1.now.used : Int) := IntWalk.i64_in _ (by omega)
        have ue2 : IntKind.i64.wrap ((m1.now.frm : Int) + (m1.now.used : Int) - m1.scan) = (m1.now.frm : Int) + (m1.now.used : Int) - m1.scan := IntWalk.i64_in _ (by omega)
        clear ub1 ub2 uble us0 us1
        by_cases hz : m1.now.top - m1.scan = 0
        · have hr := hres'.out
          rw [if_pos hz] at hr
          simp only [Option.some.injEq, Prod.mk.injEq] at hr
          obtain ⟨rfl, rfl, _⟩ := hr
          have hz1 : ((m1.now.frm : Int) + (m1.now.used : Int) - m1.scan == 0) = true := by
            rw [beq_iff_eq]; exact hz
          have hz0 : Hid ((m1.now.frm : Int) + (m1.now.used : Int) - m1.scan = 0) := hz
          clear hz
          go_wp2_with (fail)
          go_quiet (fail)
          have hy0 : MemRep (wr.drewN nq) L m1 := hx.drewN nq
          have fy0 : Fr (fun k => k ∈ L.fp) w (wr.drewN nq) := fx.drewN nq
          clear t2 t6 u1 u2 hx fx
          generalize wr.drewN nq = W at *
          have hy1 := hy0.alloc (.map #[] 0)
          have v5 := hy1.c5
          have v7 := hy1.c7
          have v8 := hy1.c8
          have vf5 := hy1.fb 5
          have vf7 := hy1.fb 7
          have vf8 := hy1.fb 8
          have hmk := @run_makeMap Try.prog
          obtain ⟨hy2, ev2⟩ := step_stop W L m1 hy0
          replace ev2 := (Ev.of_fr fy0).trans ev2
          have o3 := hy2.c3
          simp only at o3
          clear hy1
          go_wp2_with (fail)
          generalize ((((W.alloc (.map #[] 0)).setCell ⟨L.b, 5, none⟩ (.bool false)).setCell ⟨L.b, 8, none⟩ (.int .i64 0)).setCell ⟨L.b, 7, none⟩ (.map (some W.heap.size))) = W2 at *
          refine (c_empty W2 L.o m1.other hy2.o).mono ?_
          rintro e W3 ⟨rfl, h3, f3⟩
          go_wp2
          try rw [Exit.noGoto_ret]
          go_ret2
          refine ⟨?_, _, hy2.upd .o h3 f3, ev2.trans (Ev.of_fr (f3.mono fun k _ hk => MemRep.spfp (wh := .o) hk))⟩
          show Ending.returned (.tuple #[.int .i64 ((m1.now.frm : Int) + (m1.now.used : Int) - m1.scan), .int .i64 0]) = _
          rw [hz0.out]
        · have hr := hres'.out
          rw [if_neg hz] at hr
          simp only [Option.some.injEq, Prod.mk.injEq] at hr
          obtain ⟨rfl, rfl, _⟩ := hr
          have hz1 : ((m1.now.frm : Int) + (m1.now.used : Int) - m1.scan == 0) = false := by
            rw [beq_eq_false_iff_ne]; exact hz
          clear hz
          go_wp2_with (fail)
          go_quiet (fail)
          go_wp2
          try rw [Exit.noGoto_ret]
          go_ret2
          exact ⟨rfl, L, hx.drewN nq, Ev.of_fr (fx.drewN nq)⟩
      · have hbq : (mk.scan == (mk.now.frm : Int) + (mk.now.used : Int)) = false := by rw [beq_eq_false_iff_ne]; exact hsc
        obtain ⟨hok, o, ho, hrest⟩ := stepLoop_round hst.out hsc
        have hscan := hok
        simp only [Sp.ok, Bool.and_eq_true, decide_eq_true_eq] at hscan
        have hsc0 : mk.scan = (mk.now.frm : Int) + ((mk.now.idx mk.scan : Nat) : Int) := by unfold Sp.idx; omega
        have hil : mk.now.idx mk.scan < mk.now.words.length := by unfold Sp.idx; omega
        have hol := objAt_le _ _ _ ho
        have hobj := fun q => c_object (wr.drewN q) L mk (hx.drewN q) mk.scan (mk.now.idx mk.scan) o hsc0 hil ho
        have hfix := Lib.hid (And.intro hok (And.intro ho (And.intro hrest (And.intro hscan (And.intro hsc0 (And.intro hil hol))))))
        clear hst hsc hok ho hrest hscan hsc0 hil hol
        go_wp2_with (fail)
        go_quiet (fail)
        go_wp2_with (fail)
        refine (hobj nq).mono ?_
        rintro e w2 ⟨rfl, n2, rfl⟩
        replace hx := (hx.drewN nq).drewN n2
        replace fx := (fx.drewN nq).drewN n2
        clear x2 x6 y1 y2 hobj
        generalize (wr.drewN nq).drewN n2 = wr at *
        have x0 := hx.c0
        have x2 := hx.c2
        have x3 := hx.c3
        have x6 := hx.c6
        have xf6 := hx.fb 6
        have hsc0 := hfix.out.2.2.2.2.1
        have hol := hfix.out.2.2.2.2.2.2
        have hscan := hfix.out.2.2.2.1
        have ye2 : IntKind.i64.wrap (mk.scan + 1) = mk.scan + 1 := IntWalk.i64_in _ (by omega)
        have hx1 := hx.scan1 hfix.out.1
        rcases hfix.out.2.2.1 with ⟨hio, hnext⟩ | ⟨hio, l, hl, hcase⟩
        · have ye3 : IntKind.i64.wrap (mk.scan - ((mk.now.frm : Int) + (o : Int))) = 0 := by
            rw [show mk.scan - ((mk.now.frm : Int) + (o : Int)) = 0 by omega]; rfl
          have hnext' := Lib.hid hnext
          clear hsc0 hol hscan hio hnext
          go_wp2_with (fail)
          go_quiet (fail)
          go_wp2
          go_roundw
          case rel => exact ⟨k + 1, _, by go_num, by omega, (hx.drewN nq).scan1 hfix.out.1, (fx.drewN nq).setCell _ _ (.inl (MemRep.mem_fp.2 (.inl rfl))), by rw [show n.toNat - (k + 1) = r by omega]; exact hnext'⟩
          case measure => simp [intOf]; omega
        · obtain ⟨j, hj⟩ : ∃ j, mk.now.idx mk.scan = o + 1 + j := ⟨mk.now.idx mk.scan - o - 1, by omega⟩
          have ye3 : IntKind.i64.wrap (mk.scan - ((mk.now.frm : Int) + (o : Int))) = (j : Int) + 1 := by
            rw [show mk.scan - ((mk.now.frm : Int) + (o : Int)) = (j : Int) + 1 by omega]; exact IntWalk.i64_in _ (by omega)
          have ye4 : IntKind.i64.wrap (j : Int) = (j : Int) := IntWalk.i64_in _ (by omega)
          have hoo : mk.now.ok ((mk.now.frm : Int) + (o : Int)) = true := by
            simp only [Sp.ok, Bool.and_eq_true, decide_eq_true_eq]
            have := hfix.out.2.2.2.2.2.1
            omega
          have hoi : mk.now.idx ((mk.now.frm : Int) + (o : Int)) = o := by unfold Sp.idx; omega
          have hwd := fun q => Calls.quiet_of (n := q) (w := wr) (c_word _ _ _ ((hx.drewN q).n) _ hoo)
          rw [hoi] at hwd
          have hwc := hx.n.word (i := o) (by have := hfix.out.2.2.2.2.2.1; omega)
          obtain ⟨vv, hvv⟩ : ∃ vv, mk.now.words.getD o 0 = vv := ⟨_, rfl⟩
          rw [hvv] at hwc hl
          obtain ⟨hl60, hv0, hv1, b, oo, cap, p, cap', q1, q2, q3, hD⟩ := hx.shapeCell hl
          clear hvv
          rw [show mk.now.idx mk.scan - o - 1 = j by omega] at hcase
          have hjl : j < l.length := by
            rcases hcase with ⟨hc, _⟩ | ⟨hc, _⟩ <;> exact (List.getElem?_eq_some_iff.1 hc).1
          obtain ⟨b', o', rfl, q4⟩ := q3 j hjl
          have hjl' : (j : Int) < (l.length : Int) := by omega
          have x0' := hx.c0
          clear x0 x0' hsc0 hol hio hl hj hoi hoo q3
          rcases hcase with ⟨hc, hnext⟩ | ⟨hc, m3, hm3, hnext⟩
          · rw [List.getD_eq_getElem?_getD, hc] at q4
            simp only [Option.getD_some] at q4
            have hnext' := Lib.hid hnext
            clear hc hnext hscan
            go_wp2_with (fail)
            go_quiet ((go_at_call 61; exact hwd _))
            go_wp2
            go_roundw
            case rel => exact ⟨k + 1, _, by go_num, by omega, (hx.drewN nq).scan1 hfix.out.1, (fx.drewN nq).setCell _ _ (.inl (MemRep.mem_fp.2 (.inl rfl))), by rw [show n.toNat - (k + 1) = r by omega]; exact hnext'⟩
            case measure => simp [intOf]; omega
          · rw [List.getD_eq_getElem?_getD, hc] at q4
            simp only [Option.getD_some] at q4
            have hnext' := Lib.hid hnext
            have hm3' := Lib.hid hm3
            clear hc hnext hm3 hscan
            go_wp2_with (fail)
            go_quiet ((go_at_call 61; exact hwd _))
            replace hx := hx.drewN nq
            replace fx := fx.drewN nq
            clear x2 x3 x6 xf6 hwd hwc q1 q2 q4 hx1
            generalize wr.drewN nq = wr at *
            have x2 := hx.c2
            have x3 := hx.c3
            have x6 := hx.c6
            go_wp2_with (fail)
            go_region_held3 (fun w' => w'.cell? ⟨L.b, 2, none⟩ = some (.pointer (some ⟨L.n.b, 0, none⟩)) ∧ w'.cell? ⟨L.b, 3, none⟩ = some (.pointer (some ⟨L.o.b, 0, none⟩)) ∧ w'.cell? ⟨L.b, 6, none⟩ = some (.int .i64 mk.scan)) (go_keep)
              (first
                | ((with_reducible refine (c_word _ _ _ (hx.drew).n mk.scan hfix.out.1).mono ?_); rintro e w3 ⟨rfl, n3, rfl⟩)
                | ((with_reducible refine (c_fwd_no _ L mk (hx.drewN (1 + n3)) mk.scan m3 hm3'.out).mono ?_); rintro e w4 ⟨rfl, h4, f4⟩; have k2 := h4.c2; have k3 := h4.c3; have k6 := h4.c6; rw [fwdIn_scan hm3'.out] at k6))
            have hok4 : m3.now.ok m3.scan = true := by
              rw [fwdIn_scan hm3'.out]
              exact (fwdIn_idx (wh := .n) (by simp) hm3'.out mk.scan).2.trans hfix.out.1
            have kf6 := h4.fb 6
            have hs4 := fwdIn_scan hm3'.out
            have h5 := h4.scan1 hok4
            rw [hs4] at h5
            have hs4' := Lib.hid hs4
            clear hs4
            go_wp2
            go_roundw
            case rel => exact ⟨k + 1, _, by go_num, by omega, h5, ((fx.drewN (1 + n3)).trans f4).setCell _ _ (.inl (MemRep.mem_fp.2 (.inl rfl))), by rw [show n.toNat - (k + 1) = r by omega, ← hs4'.out]; exact hnext'⟩
            case measure => simp [intOf]; omega
    · have hge : ¬ (k : Int) < n := by omega
      have hkn : n.toNat - k = 0 := by omega
      rw [hkn] at hst
      have hmm : m1 = mk := by have := hst.out; simp only [Mem.stepLoop, Option.some.injEq] at this; exact this.symm
      subst hmm
      clear hkn hs' hnn' hst hlt hk
      have t2 := hx.c2
      have t6 := hx.c6
      have u1 := hx.n.c1
      have u2 := hx.n.c2
      have ub1 := hx.n.b1
      have ub2 := hx.n.b2
      have uble := hx.n.le
      have us0 := hx.sc0
      have us1 := hx.sc1
      have ue1 : IntKind.i64.wrap ((m1.now.frm : Int) + (m1.now.used : Int)) = (m1.now.frm : Int) + (m1.now.used : Int) := IntWalk.i64_in _ (by omega)
      have ue2 : IntKind.i64.wrap ((m1.now.frm : Int) + (m1.now.used : Int) - m1.scan) = (m1.now.frm : Int) + (m1.now.used : Int) - m1.scan := IntWalk.i64_in _ (by omega)
      clear ub1 ub2 uble us0 us1
      by_cases hz : m1.now.top - m1.scan = 0
      · have hr := hres'.out
        rw [if_pos hz] at hr
        simp only [Option.some.injEq, Prod.mk.injEq] at hr
        obtain ⟨rfl, rfl, _⟩ := hr
        have hz1 : ((m1.now.frm : Int) + (m1.now.used : Int) - m1.scan == 0) = true := by
          rw [beq_iff_eq]; exact hz
        have hz0 : Hid ((m1.now.frm : Int) + (m1.now.used : Int) - m1.scan = 0) := hz
        clear hz
        go_wp2_with (fail)
        go_quiet (fail)
        have hy0 : MemRep (wr.drewN nq) L m1 := hx.drewN nq
        have fy0 : Fr (fun k => k ∈ L.fp) w (wr.drewN nq) := fx.drewN nq
        clear t2 t6 u1 u2 hx fx
        generalize wr.drewN nq = W at *
        have hy1 := hy0.alloc (.map #[] 0)
        have v5 := hy1.c5
        have v7 := hy1.c7
        have v8 := hy1.c8
        have vf5 := hy1.fb 5
        have vf7 := hy1.fb 7
        have vf8 := hy1.fb 8
        have hmk := @run_makeMap Try.prog
        obtain ⟨hy2, ev2⟩ := step_stop W L m1 hy0
        replace ev2 := (Ev.of_fr fy0).trans ev2
        have o3 := hy2.c3
        simp only at o3
        clear hy1
        go_wp2_with (fail)
        generalize ((((W.alloc (.map #[] 0)).setCell ⟨L.b, 5, none⟩ (.bool false)).setCell ⟨L.b, 8, none⟩ (.int .i64 0)).setCell ⟨L.b, 7, none⟩ (.map (some W.heap.size))) = W2 at *
        refine (c_empty W2 L.o m1.other hy2.o).mono ?_
        rintro e W3 ⟨rfl, h3, f3⟩
        go_wp2
        try rw [Exit.noGoto_ret]
        go_ret2
        refine ⟨?_, _, hy2.upd .o h3 f3, ev2.trans (Ev.of_fr (f3.mono fun k _ hk => MemRep.spfp (wh := .o) hk))⟩
        show Ending.returned (.tuple #[.int .i64 ((m1.now.frm : Int) + (m1.now.used : Int) - m1.scan), .int .i64 0]) = _
        rw [hz0.out]
      · have hr := hres'.out
        rw [if_neg hz] at hr
        simp only [Option.some.injEq, Prod.mk.injEq] at hr
        obtain ⟨rfl, rfl, _⟩ := hr
        have hz1 : ((m1.now.frm : Int) + (m1.now.used : Int) - m1.scan == 0) = false := by
          rw [beq_eq_false_iff_ne]; exact hz
        clear hz
        go_wp2_with (fail)
        go_quiet (fail)
        go_wp2
        try rw [Exit.noGoto_ret]
        go_ret2
        exact ⟨rfl, L, hx.drewN nq, Ev.of_fr (fx.drewN nq)⟩
end Go.Proofs.Ytnedmmopkhmejaa
