/- The walk of Step. -/
import Derived.Test.YtnedmmopkhmejaaHW7
namespace Go.Proofs.Ytnedmmopkhmejaa
open Go.RowKit Go.Proofs.Hp

theorem c_Step_arg (w : World) (L : ML) (m : Mem) (h : MemRep w L m) (n : Int) (hn : n < 0) :
    Calls Try.prog 31 #[.pointer (some ⟨L.b, 0, none⟩), .int .i64 n] w fun e w' => e = .returned (.tuple #[.int .i64 0, .int .i64 1]) ∧ w = w' := by
  go_enter Try.func31, Try.ntmps31
  go_wp2_with (fail)
  go_step3
  go_wp2_with (fail)
  refine (c_made w L m h).mono ?_
  rintro e w0 ⟨rfl, rfl⟩
  go_wp2
  try rw [Exit.noGoto_ret]
  go_ret2
  exact ⟨rfl, rfl⟩

theorem c_Step_idle (w : World) (L : ML) (m : Mem) (h : MemRep w L m) (n : Int) (hn : 0 ≤ n) (hb : m.busy = false) :
    Calls Try.prog 31 #[.pointer (some ⟨L.b, 0, none⟩), .int .i64 n] w fun e w' => e = .returned (.tuple #[.int .i64 0, .int .i64 0]) ∧ w = w' := by
  have c5 := h.c5
  rw [hb] at c5
  have hn' : ¬ n < 0 := by omega
  clear hb
  go_enter Try.func31, Try.ntmps31
  go_wp2_with (fail)
  go_step3
  go_wp2_with (fail)
  refine (c_made w L m h).mono ?_
  rintro e w0 ⟨rfl, rfl⟩
  go_wp2
  try rw [Exit.noGoto_ret]
  go_ret2
  exact ⟨rfl, rfl⟩

/-- The scan goes on. -/
theorem MemRep.scan1 {w : World} {L : ML} {m : Mem} (h : MemRep w L m) (hok : m.now.ok m.scan = true) : MemRep (w.setCell ⟨L.b, 6, none⟩ (.int .i64 (m.scan + 1))) L { m with scan := m.scan + 1 } := by
  have hb1 := h.n.b1
  have hb2 := h.n.b2
  have h0 := h.sc0
  simp only [Sp.ok, Bool.and_eq_true, decide_eq_true_eq] at hok
  exact h.updBlk (by rw [heap_setCell_same _ h.blk]; rfl) ((Fr.refl _ w).setCell _ _ (.inl rfl)) ⟨rfl, rfl, rfl, rfl, rfl, rfl, rfl, rfl⟩ ⟨rfl, rfl, rfl, rfl, rfl, rfl⟩ (by simp; omega) (by simp; omega) h.lf0 h.lf1

theorem fwdIn_scan {m m' : Mem} {y : Bool} {wh : Wh} {a : Int} (h : m.fwdIn y wh a = some m') : m'.scan = m.scan := by
  unfold Mem.fwdIn at h
  split at h
  · split at h
    · rename_i m1 to hf1
      simp only [Option.some.injEq] at h
      obtain ⟨_, _, _, _, _, _, _, e, _⟩ := forward_keeps hf1
      subst h
      cases wh <;> simp [Mem.setSp, e]
    · cases h
  · cases h

/-- 'forward' of a word of the present half, out of the former half; out of the young space. -/
theorem c_fwd_no (w : World) (L : ML) (m : Mem) (h : MemRep w L m) (a : Int) (m' : Mem) (hf : m.fwdIn false .n a = some m') :
    Calls Try.prog 81 #[.pointer (some ⟨L.b, 0, none⟩), .pointer (some ⟨L.o.b, 0, none⟩), .pointer (some ⟨L.n.wb, m.now.idx a, none⟩)] w
      fun e w' => e = .returned (.tuple #[]) ∧ MemRep w' L m' ∧ Fr (fun k => k ∈ L.fp) w w' := c_forward_in w L m h false .n a m' (by simp) hf
theorem c_fwd_ny (w : World) (L : ML) (m : Mem) (h : MemRep w L m) (a : Int) (m' : Mem) (hf : m.fwdIn true .n a = some m') :
    Calls Try.prog 81 #[.pointer (some ⟨L.b, 0, none⟩), .pointer (some ⟨L.y.b, 0, none⟩), .pointer (some ⟨L.n.wb, m.now.idx a, none⟩)] w
      fun e w' => e = .returned (.tuple #[]) ∧ MemRep w' L m' ∧ Fr (fun k => k ∈ L.fp) w w' := c_forward_in w L m h true .n a m' (by simp) hf

theorem Fr.three {w : World} {b i j k : Nat} {u v x : Value} : Fr (fun q => q = b) w (((w.setCell ⟨b, i, none⟩ u).setCell ⟨b, j, none⟩ v).setCell ⟨b, k, none⟩ x) :=
  Fr.setCell (Fr.setCell (Fr.setCell (Fr.refl (fun q => q = b) w) ⟨b, i, none⟩ u (.inl rfl)) ⟨b, j, none⟩ v (.inl rfl)) ⟨b, k, none⟩ x (.inl rfl)

/-- The end of a moving: busy, left and moved are struck. -/
theorem step_stop (W : World) (L : ML) (m : Mem) (h : MemRep W L m) :
    MemRep ((((W.alloc (.map #[] 0)).setCell ⟨L.b, 5, none⟩ (.bool false)).setCell ⟨L.b, 8, none⟩ (.int .i64 0)).setCell ⟨L.b, 7, none⟩ (.map (some W.heap.size))) { L with mb := W.heap.size } { m with busy := false, left := 0, moved := [] } ∧
      Ev L { L with mb := W.heap.size } W ((((W.alloc (.map #[] 0)).setCell ⟨L.b, 5, none⟩ (.bool false)).setCell ⟨L.b, 8, none⟩ (.int .i64 0)).setCell ⟨L.b, 7, none⟩ (.map (some W.heap.size))) := by
  have h1 := h.alloc (.map #[] 0)
  have hbk : ((((W.alloc (.map #[] 0)).setCell ⟨L.b, 5, none⟩ (.bool false)).setCell ⟨L.b, 8, none⟩ (.int .i64 0)).setCell ⟨L.b, 7, none⟩ (.map (some W.heap.size))).heap[L.b]? =
      some (memBlock { L with mb := W.heap.size } { m with busy := false, left := 0, moved := [] }) := by
    rw [heap_setCell_same _ (heap_setCell_same _ (heap_setCell_same _ h1.blk))]; rfl
  refine ⟨h1.newMap hbk Fr.three (al_same W _) (fun q => absurd (h.lt q) (by omega)) (fun q => absurd (h.Dlt _ q) (by omega)) ⟨rfl, rfl, rfl, rfl, rfl, rfl⟩ h1.sc0 h1.sc1 (by simp) (by simp), rfl, rfl, rfl, fun k hk => ?_, ?_⟩
  · rcases MemRep.mem_fp.1 hk with q | q | q
    · exact .inl (MemRep.mem_fp.2 (.inl q))
    · exact .inr (by rw [q]; exact Nat.le_refl _)
    · exact .inl (MemRep.mem_fp.2 (.inr (.inr q)))
  · have hLb : L.b ∈ L.fp := MemRep.mem_fp.2 (.inl rfl)
    exact ((Fr.refl _ W).alloc (.map #[] 0)).trans (Fr.three.mono fun k _ e => by subst e; exact hLb)

set_option maxRecDepth 100000 in
set_option maxHeartbeats 2000000 in
theorem c_Step_busy (w : World) (L : ML) (m m1 : Mem) (h : MemRep w L m) (n : Int) (hn : 0 ≤ n) (hn63 : n ≤ 9223372036854775807) (hb : m.busy = true) (hs : Mem.stepLoop n.toNat m = some m1) (v : Int) (m2 : Mem)
    (hres : (if m1.now.top - m1.scan = 0 then some ({ m1 with busy := false, left := 0, moved := [], other := m1.other.empty }, 0, 0) else some (m1, m1.now.top - m1.scan, 0) : Option (Mem × Int × Int)) = some (m2, v, 0)) :
    Calls Try.prog 31 #[.pointer (some ⟨L.b, 0, none⟩), .int .i64 n] w fun e w' => e = .returned (.tuple #[.int .i64 v, .int .i64 0]) ∧ ∃ L', MemRep w' L' m2 ∧ Ev L L' w w' := by
  have c5 := h.c5
  rw [hb] at c5
  have hn' : ¬ n < 0 := by omega
  have hs' := Lib.hid hs
  have hres' := Lib.hid hres
  have hnn : ((n.toNat : Nat) : Int) = n := by omega
  have hnn' := Lib.hid hnn
  clear hb hs hres hnn
  go_enter Try.func31, Try.ntmps31
  go_wp2_with (fail)
  go_step3
  go_wp2_with (fail)
  refine (c_made w L m h).mono ?_
  rintro e w0 ⟨rfl, rfl⟩
  go_wp2
  go_step3
  go_wp2
  go_loopw [6, 7, 23] (fun _ _ i wr => ∃ (k : Nat) (mk : Mem), i = .int .i64 k ∧ k ≤ n.toNat ∧ MemRep wr L mk ∧ Fr (fun k => k ∈ L.fp) w wr ∧ Hid (Mem.stepLoop (n.toNat - k) mk = some m1)) (fun _ _ i _ => n.toNat - (intOf i).toNat)
  case atStart => exact ⟨0, m, rfl, by omega, h, Fr.refl _ _, hs'⟩
  case round =>
    obtain ⟨k, mk, rfl, hk, hx, fx, hst⟩ := hrel
    by_cases hlt : k < n.toNat
    · have hlt' : (k : Int) < n := by omega
      obtain ⟨r, hr⟩ : ∃ r, n.toNat - k = r + 1 := ⟨n.toNat - k - 1, by omega⟩
      rw [hr] at hst
      have x2 := hx.c2
      have x6 := hx.c6
      have y1 := hx.n.c1
      have y2 := hx.n.c2
      have yb1 := hx.n.b1
      have yb2 := hx.n.b2
      have yle := hx.n.le
      have ye1 : IntKind.i64.wrap ((mk.now.frm : Int) + (mk.now.used : Int)) = (mk.now.frm : Int) + (mk.now.used : Int) := IntWalk.i64_in _ (by omega)
      by_cases hsc : mk.scan = mk.now.top
      · have hbq : (mk.scan == (mk.now.frm : Int) + (mk.now.used : Int)) = true := by rw [beq_iff_eq]; exact hsc
        have hmm : m1 = mk := by
          have := hst.out
          unfold Mem.stepLoop at this
          rw [if_pos hsc] at this
          simp only [Option.some.injEq] at this
          exact this.symm
        subst hmm
        clear hst hsc hs' hnn' hr yb1 yb2 yle
        go_wp2_with (fail)
        go_quiet (fail)
        replace hx := hx.drewN nq
        replace fx := fx.drewN nq
        clear x2 x6 y1 y2
        generalize wr.drewN nq = wr at *
        have t2 := hx.c2
        have t6 := hx.c6
        have u1 := hx.n.c1
        have u2 := hx.n.c2
        have ub1 := hx.n.b1
        have ub2 := hx.n.b2
        have uble := hx.n.le
        have us0 := hx.sc0
        have us1 := hx.sc1
        have ue1 : IntKind.i64.wrap ((m1.now.frm : Int) + (m1.now.used : Int)) = (m1.now.frm : Int) + (m1.now.used : Int) := IntWalk.i64_in _ (by omega)
        have ue2 : IntKind.i64.wrap ((m1.now.frm : Int) + (m1.now.used : Int) - m1.scan) = (m1.now.frm : Int) + (m1.now.used : Int) - m1.scan := IntWalk.i64_in _ (by omega)
        clear ub1 ub2 uble us0 us1
        by_cases hz : m1.now.top - m1.scan = 0
        · have hr := hres'.out
          rw [if_pos hz] at hr
          simp only [Option.some.injEq, Prod.mk.injEq] at hr
          obtain ⟨rfl, rfl, _⟩ := hr
          have hz1 : ((m1.now.frm : Int) + (m1.now.used : Int) - m1.scan == 0) = true := by
            rw [beq_iff_eq]; exact hz
          have hz0 : Hid ((m1.now.frm : Int) + (m1.now.used : Int) - m1.scan = 0) := hz
          clear hz
          go_wp2_with (fail)
          go_quiet (fail)
          have hy0 : MemRep (wr.drewN nq) L m1 := hx.drewN nq
          have fy0 : Fr (fun k => k ∈ L.fp) w (wr.drewN nq) := fx.drewN nq
          clear t2 t6 u1 u2 hx fx
          generalize wr.drewN nq = W at *
          have hy1 := hy0.alloc (.map #[] 0)
          have v5 := hy1.c5
          have v7 := hy1.c7
          have v8 := hy1.c8
          have vf5 := hy1.fb 5
          have vf7 := hy1.fb 7
          have vf8 := hy1.fb 8
          have hmk := @run_makeMap Try.prog
          obtain ⟨hy2, ev2⟩ := step_stop W L m1 hy0
          replace ev2 := (Ev.of_fr fy0).trans ev2
          have o3 := hy2.c3
          simp only at o3
          clear hy1
          go_wp2_with (fail)
          generalize ((((W.alloc (.map #[] 0)).setCell ⟨L.b, 5, none⟩ (.bool false)).setCell ⟨L.b, 8, none⟩ (.int .i64 0)).setCell ⟨L.b, 7, none⟩ (.map (some W.heap.size))) = W2 at *
          refine (c_empty W2 L.o m1.other hy2.o).mono ?_
          rintro e W3 ⟨rfl, h3, f3⟩
          go_wp2
          try rw [Exit.noGoto_ret]
          go_ret2
          refine ⟨?_, _, hy2.upd .o h3 f3, ev2.trans (Ev.of_fr (f3.mono fun k _ hk => MemRep.spfp (wh := .o) hk))⟩
          show Ending.returned (.tuple #[.int .i64 ((m1.now.frm : Int) + (m1.now.used : Int) - m1.scan), .int .i64 0]) = _
          rw [hz0.out]
        · have hr := hres'.out
          rw [if_neg hz] at hr
          simp only [Option.some.injEq, Prod.mk.injEq] at hr
          obtain ⟨rfl, rfl, _⟩ := hr
          have hz1 : ((m1.now.frm : Int) + (m1.now.used : Int) - m1.scan == 0) = false := by
            rw [beq_eq_false_iff_ne]; exact hz
          clear hz
          go_wp2_with (fail)
          go_quiet (fail)
          go_wp2
          try rw [Exit.noGoto_ret]
          go_ret2
          exact ⟨rfl, L, hx.drewN nq, Ev.of_fr (fx.drewN nq)⟩
      · have hbq : (mk.scan == (mk.now.frm : Int) + (mk.now.used : Int)) = false := by rw [beq_eq_false_iff_ne]; exact hsc
        obtain ⟨hok, o, ho, hrest⟩ := stepLoop_round hst.out hsc
        have hscan := hok
        simp only [Sp.ok, Bool.and_eq_true, decide_eq_true_eq] at hscan
        have hsc0 : mk.scan = (mk.now.frm : Int) + ((mk.now.idx mk.scan : Nat) : Int) := by unfold Sp.idx; omega
        have hil : mk.now.idx mk.scan < mk.now.words.length := by unfold Sp.idx; omega
        have hol := objAt_le _ _ _ ho
        have hobj := fun q => c_object (wr.drewN q) L mk (hx.drewN q) mk.scan (mk.now.idx mk.scan) o hsc0 hil ho
        have hfix := Lib.hid (And.intro hok (And.intro ho (And.intro hrest (And.intro hscan (And.intro hsc0 (And.intro hil hol))))))
        clear hst hsc hok ho hrest hscan hsc0 hil hol
        go_wp2_with (fail)
        go_quiet (fail)
        go_wp2_with (fail)
        refine (hobj nq).mono ?_
        rintro e w2 ⟨rfl, n2, rfl⟩
        replace hx := (hx.drewN nq).drewN n2
        replace fx := (fx.drewN nq).drewN n2
        clear x2 x6 y1 y2 hobj
        generalize (wr.drewN nq).drewN n2 = wr at *
        have x0 := hx.c0
        have x2 := hx.c2
        have x3 := hx.c3
        have x6 := hx.c6
        have xf6 := hx.fb 6
        have hsc0 := hfix.out.2.2.2.2.1
        have hol := hfix.out.2.2.2.2.2.2
        have hscan := hfix.out.2.2.2.1
        have ye2 : IntKind.i64.wrap (mk.scan + 1) = mk.scan + 1 := IntWalk.i64_in _ (by omega)
        have hx1 := hx.scan1 hfix.out.1
        rcases hfix.out.2.2.1 with ⟨hio, hnext⟩ | ⟨hio, l, hl, hcase⟩
        · have ye3 : IntKind.i64.wrap (mk.scan - ((mk.now.frm : Int) + (o : Int))) = 0 := by
            rw [show mk.scan - ((mk.now.frm : Int) + (o : Int)) = 0 by omega]; rfl
          have hnext' := Lib.hid hnext
          clear hsc0 hol hscan hio hnext
          go_wp2_with (fail)
          go_quiet (fail)
          go_wp2
          go_roundw
          case rel => exact ⟨k + 1, _, by go_num, by omega, (hx.drewN nq).scan1 hfix.out.1, (fx.drewN nq).setCell _ _ (.inl (MemRep.mem_fp.2 (.inl rfl))), by rw [show n.toNat - (k + 1) = r by omega]; exact hnext'⟩
          case measure => simp [intOf]; omega
        · obtain ⟨j, hj⟩ : ∃ j, mk.now.idx mk.scan = o + 1 + j := ⟨mk.now.idx mk.scan - o - 1, by omega⟩
          have ye3 : IntKind.i64.wrap (mk.scan - ((mk.now.frm : Int) + (o : Int))) = (j : Int) + 1 := by
            rw [show mk.scan - ((mk.now.frm : Int) + (o : Int)) = (j : Int) + 1 by omega]; exact IntWalk.i64_in _ (by omega)
          have ye4 : IntKind.i64.wrap (j : Int) = (j : Int) := IntWalk.i64_in _ (by omega)
          have hoo : mk.now.ok ((mk.now.frm : Int) + (o : Int)) = true := by
            simp only [Sp.ok, Bool.and_eq_true, decide_eq_true_eq]
            have := hfix.out.2.2.2.2.2.1
            omega
          have hoi : mk.now.idx ((mk.now.frm : Int) + (o : Int)) = o := by unfold Sp.idx; omega
          have hwd := fun q => Calls.quiet_of (n := q) (w := wr) (c_word _ _ _ ((hx.drewN q).n) _ hoo)
          rw [hoi] at hwd
          have hwc := hx.n.word (i := o) (by have := hfix.out.2.2.2.2.2.1; omega)
          obtain ⟨vv, hvv⟩ : ∃ vv, mk.now.words.getD o 0 = vv := ⟨_, rfl⟩
          rw [hvv] at hwc hl
          obtain ⟨hl60, hv0, hv1, b, oo, cap, p, cap', q1, q2, q3, hD⟩ := hx.shapeCell hl
          clear hvv
          rw [show mk.now.idx mk.scan - o - 1 = j by omega] at hcase
          have hjl : j < l.length := by
            rcases hcase with ⟨hc, _⟩ | ⟨hc, _⟩ <;> exact (List.getElem?_eq_some_iff.1 hc).1
          obtain ⟨b', o', rfl, q4⟩ := q3 j hjl
          have hjl' : (j : Int) < (l.length : Int) := by omega
          have x0' := hx.c0
          clear x0 x0' hsc0 hol hio hl hj hoi hoo q3
          rcases hcase with ⟨hc, hnext⟩ | ⟨hc, m3, hm3, hnext⟩
          · rw [List.getD_eq_getElem?_getD, hc] at q4
            simp only [Option.getD_some] at q4
            have hnext' := Lib.hid hnext
            clear hc hnext hscan
            go_wp2_with (fail)
            go_quiet ((go_at_call 61; exact hwd _))
            go_wp2
            go_roundw
            case rel => exact ⟨k + 1, _, by go_num, by omega, (hx.drewN nq).scan1 hfix.out.1, (fx.drewN nq).setCell _ _ (.inl (MemRep.mem_fp.2 (.inl rfl))), by rw [show n.toNat - (k + 1) = r by omega]; exact hnext'⟩
            case measure => simp [intOf]; omega
          · rw [List.getD_eq_getElem?_getD, hc] at q4
            simp only [Option.getD_some] at q4
            have hnext' := Lib.hid hnext
            have hm3' := Lib.hid hm3
            clear hc hnext hm3 hscan
            go_wp2_with (fail)
            go_quiet ((go_at_call 61; exact hwd _))
            replace hx := hx.drewN nq
            replace fx := fx.drewN nq
            clear x2 x3 x6 xf6 hwd hwc q1 q2 q4 hx1
            generalize wr.drewN nq = wr at *
            have x2 := hx.c2
            have x3 := hx.c3
            have x6 := hx.c6
            go_wp2_with (fail)
            go_region_held3 (fun w' => w'.cell? ⟨L.b, 2, none⟩ = some (.pointer (some ⟨L.n.b, 0, none⟩)) ∧ w'.cell? ⟨L.b, 3, none⟩ = some (.pointer (some ⟨L.o.b, 0, none⟩)) ∧ w'.cell? ⟨L.b, 6, none⟩ = some (.int .i64 mk.scan)) (go_keep)
              (first
                | ((with_reducible refine (c_word _ _ _ (hx.drew).n mk.scan hfix.out.1).mono ?_); rintro e w3 ⟨rfl, n3, rfl⟩)
                | ((with_reducible refine (c_fwd_no _ L mk (hx.drewN (1 + n3)) mk.scan m3 hm3'.out).mono ?_); rintro e w4 ⟨rfl, h4, f4⟩; have k2 := h4.c2; have k3 := h4.c3; have k6 := h4.c6; rw [fwdIn_scan hm3'.out] at k6))
            have hok4 : m3.now.ok m3.scan = true := by
              rw [fwdIn_scan hm3'.out]
              exact (fwdIn_idx (wh := .n) (by simp) hm3'.out mk.scan).2.trans hfix.out.1
            have kf6 := h4.fb 6
            have hs4 := fwdIn_scan hm3'.out
            have h5 := h4.scan1 hok4
            rw [hs4] at h5
            have hs4' := Lib.hid hs4
            clear hs4
            go_wp2
            go_roundw
            case rel => exact ⟨k + 1, _, by go_num, by omega, h5, ((fx.drewN (1 + n3)).trans f4).setCell _ _ (.inl (MemRep.mem_fp.2 (.inl rfl))), by rw [show n.toNat - (k + 1) = r by omega, ← hs4'.out]; exact hnext'⟩
            case measure => simp [intOf]; omega
    · have hge : ¬ (k : Int) < n := by omega
      have hkn : n.toNat - k = 0 := by omega
      rw [hkn] at hst
      have hmm : m1 = mk := by have := hst.out; simp only [Mem.stepLoop, Option.some.injEq] at this; exact this.symm
      subst hmm
      clear hkn hs' hnn' hst hlt hk
      have t2 := hx.c2
      have t6 := hx.c6
      have u1 := hx.n.c1
      have u2 := hx.n.c2
      have ub1 := hx.n.b1
      have ub2 := hx.n.b2
      have uble := hx.n.le
      have us0 := hx.sc0
      have us1 := hx.sc1
      have ue1 : IntKind.i64.wrap ((m1.now.frm : Int) + (m1.now.used : Int)) = (m1.now.frm : Int) + (m1.now.used : Int) := IntWalk.i64_in _ (by omega)
      have ue2 : IntKind.i64.wrap ((m1.now.frm : Int) + (m1.now.used : Int) - m1.scan) = (m1.now.frm : Int) + (m1.now.used : Int) - m1.scan := IntWalk.i64_in _ (by omega)
      clear ub1 ub2 uble us0 us1
      by_cases hz : m1.now.top - m1.scan = 0
      · have hr := hres'.out
        rw [if_pos hz] at hr
        simp only [Option.some.injEq, Prod.mk.injEq] at hr
        obtain ⟨rfl, rfl, _⟩ := hr
        have hz1 : ((m1.now.frm : Int) + (m1.now.used : Int) - m1.scan == 0) = true := by
          rw [beq_iff_eq]; exact hz
        have hz0 : Hid ((m1.now.frm : Int) + (m1.now.used : Int) - m1.scan = 0) := hz
        clear hz
        go_wp2_with (fail)
        go_quiet (fail)
        have hy0 : MemRep (wr.drewN nq) L m1 := hx.drewN nq
        have fy0 : Fr (fun k => k ∈ L.fp) w (wr.drewN nq) := fx.drewN nq
        clear t2 t6 u1 u2 hx fx
        generalize wr.drewN nq = W at *
        have hy1 := hy0.alloc (.map #[] 0)
        have v5 := hy1.c5
        have v7 := hy1.c7
        have v8 := hy1.c8
        have vf5 := hy1.fb 5
        have vf7 := hy1.fb 7
        have vf8 := hy1.fb 8
        have hmk := @run_makeMap Try.prog
        obtain ⟨hy2, ev2⟩ := step_stop W L m1 hy0
        replace ev2 := (Ev.of_fr fy0).trans ev2
        have o3 := hy2.c3
        simp only at o3
        clear hy1
        go_wp2_with (fail)
        generalize ((((W.alloc (.map #[] 0)).setCell ⟨L.b, 5, none⟩ (.bool false)).setCell ⟨L.b, 8, none⟩ (.int .i64 0)).setCell ⟨L.b, 7, none⟩ (.map (some W.heap.size))) = W2 at *
        refine (c_empty W2 L.o m1.other hy2.o).mono ?_
        rintro e W3 ⟨rfl, h3, f3⟩
        go_wp2
        try rw [Exit.noGoto_ret]
        go_ret2
        refine ⟨?_, _, hy2.upd .o h3 f3, ev2.trans (Ev.of_fr (f3.mono fun k _ hk => MemRep.spfp (wh := .o) hk))⟩
        show Ending.returned (.tuple #[.int .i64 ((m1.now.frm : Int) + (m1.now.used : Int) - m1.scan), .int .i64 0]) = _
        rw [hz0.out]
      · have hr := hres'.out
        rw [if_neg hz] at hr
        simp only [Option.some.injEq, Prod.mk.injEq] at hr
        obtain ⟨rfl, rfl, _⟩ := hr
        have hz1 : ((m1.now.frm : Int) + (m1.now.used : Int) - m1.scan == 0) = false := by
          rw [beq_eq_false_iff_ne]; exact hz
        clear hz
        go_wp2_with (fail)
        go_quiet (fail)
        go_wp2
        try rw [Exit.noGoto_ret]
        go_ret2
        exact ⟨rfl, L, hx.drewN nq, Ev.of_fr (fx.drewN nq)⟩
end Go.Proofs.Ytnedmmopkhmejaa
