/- Walks: Alloc, Shape, Get, Busy, object, rooted. -/
import Derived.Test.YtnedmmopkhmejaaHW4
namespace Go.Proofs.Ytnedmmopkhmejaa
open Go.RowKit Go.Proofs.Hp

theorem Mem.fieldE_err {m : Mem} {a f e : Int} (h : m.fieldE a f = some (.inl e)) : e ≠ 0 := by
  unfold Mem.fieldE at h
  split at h
  · simp at h; omega
  · split at h
    · cases h
    · split at h
      · split at h
        · simp at h; omega
        · split at h <;> simp at h
      · simp at h; omega
theorem Mem.fieldE_ok {m : Mem} {a f : Int} {wh : Wh} {r : Bool} (h : m.fieldE a f = some (.inr (wh, r))) : (m.sp wh).ok (a + 1 + f) = true ∧ m.cur a = some wh := by
  unfold Mem.fieldE at h
  split at h
  · simp at h
  · rename_i wh' hc
    split at h
    · cases h
    · split at h
      · split at h
        · simp at h
        · split at h
          · rename_i hok
            simp only [Option.some.injEq, Sum.inr.injEq, Prod.mk.injEq] at h
            obtain ⟨rfl, rfl⟩ := h
            exact ⟨hok, hc⟩
          · cases h
      · simp at h

theorem ok_congr {s t : Sp} (h1 : s.frm = t.frm) (h2 : s.words.length = t.words.length) (x : Int) : s.idx x = t.idx x ∧ s.ok x = t.ok x := by
  refine ⟨by simp only [Sp.idx, h1], ?_⟩
  rw [Bool.eq_iff_iff]
  simp only [Sp.ok, Bool.and_eq_true, decide_eq_true_eq, h1, h2]

theorem fwdIn_idx {m m' : Mem} {y : Bool} {wh : Wh} {a : Int} (hwh : wh ≠ .o) (h : m.fwdIn y wh a = some m') (x : Int) : (m'.sp wh).idx x = (m.sp wh).idx x ∧ (m'.sp wh).ok x = (m.sp wh).ok x := by
  unfold Mem.fwdIn at h
  split at h
  · split at h
    · rename_i m1 to hf1
      simp only [Option.some.injEq] at h
      obtain ⟨e1, _, e3, e4, _⟩ := forward_keeps hf1
      subst h
      cases wh with
      | n => exact ok_congr (by simp [Mem.setSp, Mem.sp, Sp.put, e3]) (by simp [Mem.setSp, Mem.sp, Sp.put, e4]) x
      | y => exact ok_congr (by simp [Mem.setSp, Mem.sp, Sp.put, e1]) (by simp [Mem.setSp, Mem.sp, Sp.put, e1]) x
      | o => exact absurd rfl hwh
    · cases h
  · cases h

theorem MemRep.shapeCell {w : World} {L : ML} {m : Mem} (h : MemRep w L m) {v : Int} {l : List Bool} (hl : m.shapeAt v = some l) :
    l.length ≤ 60 ∧ 0 ≤ v ∧ v < (m.shapes.length : Int) ∧ ∃ b o cap p cap', w.cell? ⟨L.b, 0, none⟩ = some (.slice (some ⟨b, o, none⟩) m.shapes.length cap) ∧
      w.cell? ⟨b, o + v.toNat, none⟩ = some (.slice p l.length cap') ∧ (∀ i, i < l.length → ∃ b' o', p = some ⟨b', o', none⟩ ∧ w.cell? ⟨b', o' + i, none⟩ = some (.bool (l.getD i false))) ∧ L.D b := by
  unfold Mem.shapeAt at hl
  by_cases h2 : 0 ≤ v
  · rw [if_pos h2] at hl
    obtain ⟨p, cap, e1, e2 | ⟨b, o, rfl, hD, hc⟩⟩ := h.sh
    · rw [e2] at hl; simp at hl
    · obtain ⟨hi, he⟩ := List.getElem?_eq_some_iff.1 hl
      obtain ⟨u, e3, p', cap', e4, e5⟩ := hc _ hi
      rw [he] at e4 e5
      refine ⟨h.sll l (List.mem_of_getElem? hl), h2, by omega, b, o, cap, p', cap', by rw [← e1]; exact h.c0, by rw [← e4]; exact e3, fun i hi => ?_, hD⟩
      rcases e5 with rfl | ⟨b', o', e6, _, e7⟩
      · simp at hi
      · exact ⟨b', o', e6, by rw [e7 i hi]; simp [hi]⟩
  · rw [if_neg h2] at hl; cases hl

theorem MemRep.shv_len {w : World} {L : ML} {m : Mem} (h : MemRep w L m) : ∃ p cap, w.cell? ⟨L.b, 0, none⟩ = some (.slice p m.shapes.length cap) := by
  obtain ⟨p, cap, e1, _⟩ := h.sh
  exact ⟨p, cap, by rw [← e1]; exact h.c0⟩

set_option maxRecDepth 100000 in
theorem c_Alloc (w : World) (L : ML) (m : Mem) (h : MemRep w L m) (v : Int) :
    Calls Try.prog 33 #[.pointer (some ⟨L.b, 0, none⟩), .int .i64 v] w fun e w' => e = .returned (.tuple #[.int .i64 (m.allocE v).2.1, .int .i64 (m.allocE v).2.2]) ∧ MemRep w' L (m.allocE v).1 ∧ Fr (fun k => k ∈ L.fp) w w' := by
  cases hl : m.shapeAt v with
  | none =>
    have ha : m.allocE v = (m, 0, 1) := by unfold Mem.allocE; rw [hl]
    rw [ha]
    obtain ⟨p, cap, c0⟩ := h.shv_len
    have hv : v < 0 ∨ (m.shapes.length : Int) ≤ v := by
      unfold Mem.shapeAt at hl
      by_cases h2 : 0 ≤ v
      · rw [if_pos h2] at hl
        have := List.getElem?_eq_none_iff.1 hl
        right; omega
      · left; omega
    clear hl ha
    by_cases h2 : v < 0
    · clear hv
      go_enter Try.func33, Try.ntmps33
      go_wp2_with (fail)
      refine (c_made w L m h).mono ?_
      rintro e w0 ⟨rfl, rfl⟩
      go_wp2
      go_ret2
      exact ⟨rfl, h, Fr.refl _ _⟩
    · have h3 : (m.shapes.length : Int) ≤ v := by omega
      have h4 : ¬ v < (m.shapes.length : Int) := by omega
      clear hv
      go_enter Try.func33, Try.ntmps33
      go_wp2_with (fail)
      refine (c_made w L m h).mono ?_
      rintro e w0 ⟨rfl, rfl⟩
      go_wp2
      go_ret2
      exact ⟨rfl, h, Fr.refl _ _⟩
  | some l =>
    obtain ⟨hl60, hv0, hv1, b, o, cap, p, cap', q1, q2, q3, hD⟩ := h.shapeCell hl
    have hv2 : ¬ v < 0 := by omega
    have hv3 : ¬ (m.shapes.length : Int) ≤ v := by omega
    have c1 := h.c1
    have hrm : ∀ n, Calls Try.prog 83 #[.pointer (some ⟨L.y.b, 0, none⟩)] (w.drewN n) fun e w' => e = .returned (.int .i64 m.young.room) ∧ ∃ k, w' = w.drewN k :=
      fun n => Calls.quiet_of (c_room _ _ _ ((h.drewN n).y))
    have hyl := h.y.le
    have hyb := h.y.b1
    have hd : (decide (m.young.room < 1 + (l.length : Int))) = decide (m.young.room < ((l.length + 1 : Nat) : Int)) := by
      rw [Bool.eq_iff_iff]; simp only [decide_eq_true_eq]; omega
    by_cases hr : m.young.room < ((l.length + 1 : Nat) : Int)
    · have ha : m.allocE v = (m, 0, 14) := by unfold Mem.allocE; rw [hl]; simp only; rw [if_pos hr]
      rw [ha]
      have hr' : m.young.room < 1 + (l.length : Int) := by omega
      clear hl ha hd hr q3 hyl hyb
      go_enter Try.func33, Try.ntmps33
      go_wp2_with (fail)
      refine (c_made w L m h).mono ?_
      rintro e w0 ⟨rfl, rfl⟩
      go_wp2_with (fail)
      go_quiet ((go_at_call 83; exact hrm _))
      go_wp2
      go_ret2
      exact ⟨rfl, h.drewN nq, (Fr.refl _ w).drewN nq⟩
    · have ha : m.allocE v = ({ m with young := m.young.lay (l.length + 1) v }, m.young.top, 0) := by unfold Mem.allocE; rw [hl]; simp only; rw [if_neg hr]
      rw [ha]
      have hr' : ¬ m.young.room < 1 + (l.length : Int) := by omega
      have hru : m.young.used + (l.length + 1) ≤ m.young.words.length := by unfold Sp.room at hr; omega
      clear hl ha hd hr q3 hyl hyb
      go_enter Try.func33, Try.ntmps33
      go_wp2_with (fail)
      refine (c_made w L m h).mono ?_
      rintro e w0 ⟨rfl, rfl⟩
      go_wp2_with (fail)
      go_quiet ((go_at_call 83; exact hrm _))
      go_wp2_with (fail)
      have h1 : MemRep (w.drewN (nq + 1)) L m := h.drewN (nq + 1)
      have f1 : Fr (fun k => k ∈ L.fp) w (w.drewN (nq + 1)) := (Fr.refl _ w).drewN _
      refine wp_region_still_tail 14 (by kernel_rfl) (by kernel_rfl) ?_
      show wpStill _ _ (w.drewN (nq + 1)) (fun a' => wpList _ _ _ _ a' (w.drewN (nq + 1))) _ _
      simp only [List.take_succ_cons, List.take_zero, List.drop_succ_cons, List.drop_zero]
      repeat still_step
      refine wpStill_nil ?_
      generalize w.drewN (nq + 1) = w1 at *
      go_wp2_with (fail)
      rw [show (1 + (l.length : Int)) = ((l.length + 1 : Nat) : Int) by omega]
      refine (c_lay w1 L.y m.young h1.y (l.length + 1) v (by omega) hru).mono ?_
      rintro e w2 ⟨rfl, h2, f2⟩
      go_wp2
      go_ret2
      exact ⟨rfl, h1.upd .y h2 f2, f1.trans (f2.mono fun k _ hk => MemRep.spfp (wh := .y) hk)⟩

set_option maxRecDepth 100000 in
theorem c_Shape (w : World) (L : ML) (m : Mem) (h : MemRep w L m) (a : Int) :
    Calls Try.prog 42 #[.pointer (some ⟨L.b, 0, none⟩), .int .i64 a] w fun e w' => e = .returned (.tuple #[.int .i64 (m.shapeE a).1, .int .i64 (m.shapeE a).2]) ∧ Below w.heap.size w w' := by
  have hcur := c_current w L m h a
  unfold Mem.shapeE
  cases hc : m.cur a with
  | none =>
    rw [hc] at hcur
    clear hc
    go_enter Try.func42, Try.ntmps42
    go_wp2_with (fail)
    refine (c_made w L m h).mono ?_
    rintro e w0 ⟨rfl, rfl⟩
    go_wp2_with (fail)
    refine hcur.mono ?_
    rintro e w1 ⟨rfl, hb⟩
    go_wp2
    go_ret2
    exact ⟨rfl, hb⟩
  | some wh =>
    rw [hc] at hcur
    have hok := begins_ok (h.spR wh) (cur_begins hc)
    simp only [curPtr, Option.isSome_some] at hcur
    clear hc
    go_enter Try.func42, Try.ntmps42
    go_wp2_with (fail)
    refine (c_made w L m h).mono ?_
    rintro e w0 ⟨rfl, rfl⟩
    go_wp2_with (fail)
    refine hcur.mono ?_
    rintro e w1 ⟨rfl, hb⟩
    have h1 := h.below hb
    have hw := (h1.spR wh).getw hok
    go_wp2_with (fail)
    refine (c_word w1 _ _ (h1.spR wh) a hok).mono ?_
    rintro e w2 ⟨rfl, n, rfl⟩
    go_wp2
    go_ret2
    exact ⟨rfl, below_drewN hb n⟩

theorem c_Busy (w : World) (L : ML) (m : Mem) (h : MemRep w L m) :
    Calls Try.prog 23 #[.pointer (some ⟨L.b, 0, none⟩)] w fun e w' => e = .returned (.bool m.busy) ∧ w = w' := by
  have c5 := h.c5
  go_enter Try.func23, Try.ntmps23
  go_wp2_with (fail)
  refine (c_made w L m h).mono ?_
  rintro e w0 ⟨rfl, rfl⟩
  go_wp2
  go_ret
  exact ⟨rfl, rfl⟩

set_option maxRecDepth 100000 in
theorem c_Get (w : World) (L : ML) (m m' : Mem) (h : MemRep w L m) (a f v e0 : Int) (hg : m.getE a f = some (m', v, e0)) :
    Calls Try.prog 41 #[.pointer (some ⟨L.b, 0, none⟩), .int .i64 a, .int .i64 f] w fun e w' => e = .returned (.tuple #[.int .i64 v, .int .i64 e0]) ∧ MemRep w' L m' ∧ Fr (fun k => k ∈ L.fp) w w' := by
  unfold Mem.getE at hg
  cases hf : m.fieldE a f with
  | none => rw [hf] at hg; cases hg
  | some r =>
    rw [hf] at hg
    have hfd := c_field w L m h a f r hf
    cases r with
    | inl e1 =>
      simp only [Option.some.injEq, Prod.mk.injEq] at hg
      obtain ⟨rfl, rfl, rfl⟩ := hg
      have hne := Mem.fieldE_err hf
      have hne' : ((e1 : Int) != 0) = true := by simpa using hne
      simp only [fieldV] at hfd
      clear hf hne
      go_enter Try.func41, Try.ntmps41
      go_wp2_with (fail)
      refine hfd.mono ?_
      rintro e w1 ⟨rfl, hb⟩
      go_wp2
      go_ret2
      exact ⟨rfl, h.below hb, Fr.of_below hb⟩
    | inr p =>
      obtain ⟨wh, rr⟩ := p
      simp only at hg
      obtain ⟨hok, hcur⟩ := Mem.fieldE_ok hf
      simp only [fieldV] at hfd
      cases hrb : (rr && m.busy) with
      | false =>
        rw [hrb] at hg
        simp only [Bool.false_eq_true, if_false, Option.some.injEq, Prod.mk.injEq] at hg
        obtain ⟨rfl, rfl, rfl⟩ := hg
        clear hf
        have hw := (h.spR wh).getw hok
        cases rr with
        | false =>
          clear hrb
          go_enter Try.func41, Try.ntmps41
          go_wp2_with (fail)
          refine hfd.mono ?_
          rintro e w1 ⟨rfl, hb⟩
          have h1 := h.below hb
          have hw := (h1.spR wh).getw hok
          go_wp2
          go_ret2
          exact ⟨rfl, h1, Fr.of_below hb⟩
        | true =>
          simp only [Bool.true_and] at hrb
          go_enter Try.func41, Try.ntmps41
          clear hw
          have hrb' := Lib.hid hrb
          clear hrb
          go_wp2_with (fail)
          refine hfd.mono ?_
          rintro e w1 ⟨rfl, hb⟩
          have h1 := h.below hb
          have hw := (h1.spR wh).getw hok
          have c5 := h1.c5
          rw [hrb'.out] at c5
          go_wp2
          go_ret2
          exact ⟨rfl, h1, Fr.of_below hb⟩
      | true =>
        rw [hrb] at hg
        simp only [if_true] at hg
        cases hfw : m.fwdIn false wh (a + 1 + f) with
        | none => rw [hfw] at hg; cases hg
        | some m1 =>
          rw [hfw] at hg
          simp only [Option.some.injEq, Prod.mk.injEq] at hg
          obtain ⟨rfl, rfl, rfl⟩ := hg
          simp only [Bool.and_eq_true] at hrb
          obtain ⟨rfl, hbusy⟩ := hrb
          clear hf
          have hbusy' := Lib.hid hbusy
          clear hbusy
          go_enter Try.func41, Try.ntmps41
          go_wp2_with (fail)
          refine hfd.mono ?_
          rintro e w1 ⟨rfl, hb⟩
          have h1 := h.below hb
          have c5 := h1.c5
          have c3 := h1.c3
          rw [hbusy'.out] at c5
          have hfw' := Lib.hid hfw
          clear hfw
          go_wp2_with (fail)
          have hwho : wh ≠ .o := by
            intro e
            subst e
            unfold Mem.cur at hcur
            split at hcur
            · cases hcur
            · split at hcur <;> cases hcur
          refine (c_forward_in w1 L m h1 false wh (a + 1 + f) m1 hwho hfw'.out).mono ?_
          rintro e w2 ⟨rfl, h2, f2⟩
          have ei := fwdIn_idx hwho hfw'.out (a + 1 + f)
          have hw := (h2.spR wh).getw (ei.2.trans hok)
          rw [ei.1] at hw
          have hfin := (Fr.of_below (S := fun k => k ∈ L.fp) hb).trans f2
          clear ei hfw' c5 c3
          go_wp2
          go_ret2
          exact ⟨rfl, h2, hfin⟩
end Go.Proofs.Ytnedmmopkhmejaa
