/- Walk: Flip. -/
import Derived.Test.YtnedmmopkhmejaaKHW15
set_option linter.unusedVariables false
set_option linter.unusedSimpArgs false
namespace Go.Proofs.Ytnedmmopkhmejaa
open Go.RowKit Go.Proofs.Hp

/-- The halves change places. -/
theorem MemRep.flip {w w' : World} {L : ML} {m : Mem} (h : MemRep w L m) {mb' : Nat} (hb : w'.heap[L.b]? = some (memBlock { L with n := L.o, o := L.n, mb := mb' } { m with now := m.other, other := m.now, busy := true, scan := (m.other.frm : Int), left := (m.now.used : Int), moved := [] }))
    (hf : Fr (fun k => k = L.b) w w') (hmb : w'.heap[mb']? = some (.map #[] 0)) (hn : mb' ∉ L.fp) (hD : ¬ L.D mb') :
    MemRep w' { L with n := L.o, o := L.n, mb := mb' } { m with now := m.other, other := m.now, busy := true, scan := (m.other.frm : Int), left := (m.now.used : Int), moved := [] } := by
  obtain ⟨a0, a1, a2, a3, a4, _⟩ := h.apart
  have ho : ∀ a, SpRep w' (L.spL a) (m.sp a) := fun a => (h.spR a).fr hf (fun k hk e => (h.sp_b a).1 (by subst e; exact hk))
  have hbm : mb' ≠ L.b := fun e => hn (MemRep.mem_fp.2 (.inl e))
  have b2 := h.o.b2
  have b1 := h.n.b1
  have ble := h.n.le
  refine ⟨hb, ho .y, ho .o, ho .n, ownsRow_of_blocks h.kn fun k hk => hf.block k (ownsRow_lt h.kn hk) (fun e => a4 (by subst e; exact hk)), ⟨#[], 0, hmb, rfl, Go.MapKept.stamped_empty 0⟩,
    h.sh.of_blocks fun k hk => hf.block k (h.Dlt k hk) (fun e => h.dj k (by subst e; exact MemRep.mem_fp.2 (.inl rfl)) hk), ?_, ?_, fun k hk => Nat.lt_of_lt_of_le (h.Dlt k hk) hf.size, h.sl, h.sll, by simp, by simp; omega, by simp, by simp; omega, h.kb, h.kl⟩
  · have hnd := h.nd
    simp only [ML.fp, List.nodup_cons, List.mem_cons, not_or] at hnd ⊢
    obtain ⟨⟨_, q1⟩, _, q2⟩ := hnd
    have hp : List.Perm (L.y.fp ++ (L.o.fp ++ (L.n.fp ++ kvBlocks L.kv))) (L.y.fp ++ (L.n.fp ++ (L.o.fp ++ kvBlocks L.kv))) := by
      refine List.Perm.append_left _ ?_
      rw [← List.append_assoc, ← List.append_assoc]
      exact List.Perm.append_right _ List.perm_append_comm
    refine ⟨⟨Ne.symm hbm, fun q => q1 (hp.mem_iff.1 q)⟩, fun q => hn ?_, hp.nodup_iff.2 q2⟩
    simp only [ML.fp, List.mem_cons]
    exact .inr (.inr (hp.mem_iff.1 q))
  · intro k hk
    rcases MemRep.mem_fp.1 hk with q | q | q | q | q | q
    · exact h.dj k (MemRep.mem_fp.2 (.inl q))
    · subst q; exact hD
    · exact h.dj k (MemRep.mem_fp.2 (by simp only at q; simp [q]))
    · exact h.dj k (MemRep.mem_fp.2 (by simp only at q; simp [q]))
    · exact h.dj k (MemRep.mem_fp.2 (by simp only at q; simp [q]))
    · exact h.dj k (MemRep.mem_fp.2 (by simp only at q; simp [q]))

set_option maxRecDepth 100000 in
theorem c_Flip_busy (w : World) (L : ML) (m : Mem) (h : MemRep w L m) (v : Value) (hv : ∃ p n c, v = .slice p n c) (hb : m.busy = true) :
    Calls Try.prog 43 #[.pointer (some ⟨L.b, 0, none⟩), v] w fun e w' => e = .returned (.tuple #[.slice none 0 0, .int .i64 12]) ∧ w' = w := by
  obtain ⟨p, n, c, rfl⟩ := hv
  have c5 := h.c5
  rw [hb] at c5
  go_enter Try.func43, Try.ntmps43
  go_wp2_with (fail)
  refine (c_made w L m h).mono ?_
  rintro e w0 ⟨rfl, rfl⟩
  go_wp2
  go_ret2
  exact ⟨rfl, rfl⟩

theorem fwdAll_len {y : Bool} : ∀ (rs : List Int) {m m' : Mem} {out : List Int}, Mem.fwdAll y m rs = some (out, m') → out.length = rs.length
  | [], _, _, _, h => by simp only [Mem.fwdAll, Option.some.injEq, Prod.mk.injEq] at h; rw [← h.1]
  | r :: rs, m, m', out, h => by
    unfold Mem.fwdAll at h
    split at h
    · cases h
    · split at h
      · cases h
      · rename_i hf
        simp only [Option.some.injEq, Prod.mk.injEq] at h
        rw [← h.1, List.length_cons, List.length_cons, fwdAll_len rs hf]
theorem minorE_len {m m' : Mem} {roots out : List Int} {e : Int} (h : m.minorE roots = some (m', out, e)) : out.length ≤ roots.length := by
  unfold Mem.minorE at h
  split at h
  · simp only [Option.some.injEq, Prod.mk.injEq] at h; rw [← h.2.1]; simp
  · split at h
    · cases h
    · split at h
      · simp only [Option.some.injEq, Prod.mk.injEq] at h; rw [← h.2.1]; simp
      · obtain ⟨⟨o, mm⟩, hmi, hr2⟩ := Option.map_eq_some_iff.1 h
        simp only [Prod.mk.injEq] at hr2
        obtain ⟨m1, m2, m3, q1, _⟩ := minor_parts hmi
        rw [← hr2.2.1, fwdAll_len _ q1]; exact Nat.le_refl _

/-- 'forward(s, &out[k])'. -/
theorem OutAt.c_fwd {W : World} {L : ML} {mk mk' : Mem} {D : Nat → Prop} {g k n cap : Nat} {outs : List Int} (h : MemRep W L mk) (ho : OutAt W D (.slice (some ⟨g, 0, none⟩) n cap) outs) (hD : ∀ j, D j → j ∉ L.fp ∧ ¬ L.D j) (y : Bool) (hk : k < outs.length) (to : Int)
    (hf : mk.forward y outs[k] = some (mk', to)) :
    Calls Try.prog 81 #[.pointer (some ⟨L.b, 0, none⟩), .pointer (some ⟨(L.spL (Mem.src y)).b, 0, none⟩), .pointer (some ⟨g, k, none⟩)] W
      fun e w' => e = .returned (.tuple #[]) ∧ MemRep w' L mk' ∧ OutAt w' D (.slice (some ⟨g, 0, none⟩) n cap) (outs.set k to) ∧ Fr (fun j => j ∈ L.fp ∨ D j) W w' := by
  obtain ⟨p, cap', hv, ho | ⟨g', hp, hDg, hr⟩⟩ := ho
  · rw [ho] at hk; simp at hk
  · simp only [Value.slice.injEq] at hv
    obtain ⟨rfl, hn', rfl⟩ := hv
    cases hp
    have hc := hr.cell (i := k) (by simpa using hk)
    rw [List.getElem_map] at hc
    refine (c_forward_out W L mk h y g k outs[k] to mk' (hD g hDg).1 (hD g hDg).2 hc (hr.free k) hf).mono ?_
    rintro e w' ⟨rfl, h', w1, f1, rfl⟩
    have hr1 : Row w1 g 3 (outs.map (.int .i64)) := hr.of_block (f1.block g hr.lt (hD g hDg).1)
    exact ⟨rfl, h', ⟨_, cap, by simp [hn'], .inr ⟨g, rfl, hDg, by rw [List.map_set]; exact hr1.set (by simpa using hk) _⟩⟩, (f1.mono fun j _ q => .inl q).setCell _ _ (.inl (.inr hDg))⟩

set_option maxRecDepth 100000 in
set_option maxHeartbeats 4000000 in
theorem c_Flip (w : World) (L : ML) (m m' : Mem) (h : MemRep w L m) (D : Nat → Prop) (v : Value) (roots out : List Int) (er : Int) (hr : IntsAt w D v roots) (hl : roots.length ≤ 1048576) (hb : m.busy = false) (hm : m.flipE roots = some (m', out, er)) :
    Calls Try.prog 43 #[.pointer (some ⟨L.b, 0, none⟩), v] w fun e w' => ∃ v' L', e = .returned (.tuple #[v', .int .i64 er]) ∧ MemRep w' L' m' ∧ Ev L L' w w' ∧ OutAt w' (fun k => w.heap.size ≤ k ∧ k ∉ L'.fp) v' out := by
  have c5 := h.c5
  rw [hb] at c5
  unfold Mem.flipE at hm
  rw [if_neg (by simp [hb])] at hm
  clear hb
  cases hme : m.minorE roots with
  | none => rw [hme] at hm; cases hm
  | some r =>
    obtain ⟨m1, out1, e1⟩ := r
    rw [hme] at hm
    simp only at hm
    have hcm := c_Minor w L m m1 h D v roots out1 e1 hr hl hme
    have hol : out1.length ≤ 1048576 := Nat.le_trans (minorE_len hme) hl
    clear hme
    obtain ⟨p, cap, rfl, _⟩ := hr
    by_cases h0 : e1 = 0
    · subst h0
      simp only [ne_eq, not_true_eq_false, if_false] at hm
      obtain ⟨⟨out2, m2⟩, hfw, hr2⟩ := Option.map_eq_some_iff.1 hm
      simp only [Prod.mk.injEq] at hr2
      obtain ⟨rfl, rfl, rfl⟩ := hr2
      have hfwH := Lib.hid hfw
      have hfwHH := Lib.hid hfw
      clear hm hfw
      have hmk := @run_makeMap Try.prog
      go_enter Try.func43, Try.ntmps43
      go_wp2_with (fail)
      refine (c_made w L m h).mono ?_
      rintro e w0 ⟨rfl, rfl⟩
      go_wp2_with (fail)
      refine hcm.mono ?_
      rintro e W ⟨v', L1, rfl, h1, ev1, o1⟩
      clear hcm c5
      obtain ⟨vp, vcap, rfl, ho⟩ := o1
      have x2 := h1.c2
      have x3 := h1.c3
      have z2 := h1.fb 2
      have z3 := h1.fb 3
      rw [ev1.b] at x2 x3 z2 z3
      go_wp2_with (fail)
      go_region
      have hbk := h1.blk
      rw [ev1.b] at hbk
      have hb2 : (((W.setCell ⟨L.b, 2, none⟩ (.pointer (some ⟨L1.o.b, 0, none⟩))).setCell ⟨L.b, 3, none⟩ (.pointer (some ⟨L1.n.b, 0, none⟩))).drew).heap[L.b]? =
          some (.cells #[L1.shv, ptrV L1.y.b, ptrV L1.o.b, ptrV L1.n.b, L1.kv, .bool m1.busy, .int .i64 m1.scan, .map (some L1.mb), .int .i64 m1.left] 100 (0, 0)) := by
        show ((W.setCell ⟨L.b, 2, none⟩ (.pointer (some ⟨L1.o.b, 0, none⟩))).setCell ⟨L.b, 3, none⟩ (.pointer (some ⟨L1.n.b, 0, none⟩))).heap[L.b]? = _
        rw [heap_setCell_same _ (heap_setCell_same _ hbk)]; rfl
      have f2 : Fr (fun k => k = L.b) W (((W.setCell ⟨L.b, 2, none⟩ (.pointer (some ⟨L1.o.b, 0, none⟩))).setCell ⟨L.b, 3, none⟩ (.pointer (some ⟨L1.n.b, 0, none⟩))).drew) :=
        Fr.drew (Fr.setCell (Fr.setCell (Fr.refl (fun q => q = L.b) W) ⟨L.b, 2, none⟩ _ (.inl rfl)) ⟨L.b, 3, none⟩ _ (.inl rfl))
      go_wp2_with (fail)
      clear x2 x3 z2 z3
      generalize (((W.setCell ⟨L.b, 2, none⟩ (.pointer (some ⟨L1.o.b, 0, none⟩))).setCell ⟨L.b, 3, none⟩ (.pointer (some ⟨L1.n.b, 0, none⟩))).drew) = W2 at *
      have hLb := ev1.b
      have hnb := (h1.sp_b .n).1
      have hob := (h1.sp_b .o).1
      rw [hLb] at hnb hob
      have o1 := h1.o.fr f2 (fun k hk e => hob (by subst e; exact hk))
      have n1 := h1.n.fr f2 (fun k hk e => hnb (by subst e; exact hk))
      have y1 := o1.c1
      have y2 := n1.c2
      have x2 : W2.cell? ⟨L.b, 2, none⟩ = some (.pointer (some ⟨L1.o.b, 0, none⟩)) := by rw [cell_of hb2]; rfl
      have x3 : W2.cell? ⟨L.b, 3, none⟩ = some (.pointer (some ⟨L1.n.b, 0, none⟩)) := by rw [cell_of hb2]; rfl
      have x5 : W2.cell? ⟨L.b, 5, none⟩ = some (.bool m1.busy) := by rw [cell_of hb2]; rfl
      have x6 : W2.cell? ⟨L.b, 6, none⟩ = some (.int .i64 m1.scan) := by rw [cell_of hb2]; rfl
      have x7 : W2.cell? ⟨L.b, 7, none⟩ = some (.map (some L1.mb)) := by rw [cell_of hb2]; rfl
      have x8 : W2.cell? ⟨L.b, 8, none⟩ = some (.int .i64 m1.left) := by rw [cell_of hb2]; rfl
      have z5 := free_of hb2 5
      have z6 := free_of hb2 6
      have z7 := free_of hb2 7
      have z8 := free_of hb2 8
      have hlt2 : L.b < W2.heap.size := lt_of_block hb2
      have hal : ∀ (U : World) (o : Obj) (i : Nat), L.b < U.heap.size → (U.alloc o).cell? ⟨L.b, i, none⟩ = U.cell? ⟨L.b, i, none⟩ := fun U o i hU => World.cell?_of_block (al_old _ _ _ hU)
      have haf : ∀ (U : World) (o : Obj) (i : Nat), L.b < U.heap.size → (U.alloc o).frozen? ⟨L.b, i, none⟩ = U.frozen? ⟨L.b, i, none⟩ := fun U o i hU => World.frozen?_of_block (al_old _ _ _ hU)
      have ay1 := (o1.alloc (.map #[] 0)).c1
      have ay2 := (n1.alloc (.map #[] 0)).c2
      have hLbH := Lib.hid hLb
      clear hLb
      go_region
      have hWF : ∃ WF, WF = (((((W2.setCell ⟨L.b, 5, none⟩ (.bool true)).setCell ⟨L.b, 6, none⟩ (.int .i64 m1.other.frm)).setCell ⟨L.b, 8, none⟩ (.int .i64 m1.now.used)).setCell ⟨L.b, 7, none⟩ (.map (some W2.heap.size))).alloc (.map #[] 0)).drew := ⟨_, rfl⟩
      obtain ⟨WF, hWF⟩ := hWF
      rw [← hWF]
      have fF : Fr (fun k => k = L.b) W WF := by
        rw [hWF]
        exact f2.trans (Fr.drew (Fr.alloc (Fr.setCell (Fr.setCell (Fr.setCell (Fr.setCell (Fr.refl (fun q => q = L.b) W2) ⟨L.b, 5, none⟩ _ (.inl rfl)) ⟨L.b, 6, none⟩ _ (.inl rfl)) ⟨L.b, 8, none⟩ _ (.inl rfl)) ⟨L.b, 7, none⟩ _ (.inl rfl)) _))
      have hsz : ((((W2.setCell ⟨L.b, 5, none⟩ (.bool true)).setCell ⟨L.b, 6, none⟩ (.int .i64 m1.other.frm)).setCell ⟨L.b, 8, none⟩ (.int .i64 m1.now.used)).setCell ⟨L.b, 7, none⟩ (.map (some W2.heap.size))).heap.size = W2.heap.size := by simp
      have hmap : WF.heap[W2.heap.size]? = some (.map #[] 0) := by
        rw [hWF]; exact al_at _ _ _ hsz.symm
      have hblk : WF.heap[L.b]? = some (.cells #[L1.shv, ptrV L1.y.b, ptrV L1.o.b, ptrV L1.n.b, L1.kv, .bool true, .int .i64 m1.other.frm, .map (some W2.heap.size), .int .i64 m1.now.used] 100 (0, 0)) := by
        rw [hWF]
        refine (al_old _ _ _ (by rw [hsz]; exact hlt2)).trans ?_
        rw [heap_setCell_same _ (heap_setCell_same _ (heap_setCell_same _ (heap_setCell_same _ hb2)))]; rfl
      have hs2 : W.heap.size ≤ W2.heap.size := f2.size
      have hsW : w.heap.size ≤ W.heap.size := ev1.fr.size
      have h2 := h1.flip (w' := WF) (mb' := W2.heap.size) (by rw [hLbH.out]; exact hblk) (by rw [hLbH.out]; exact fF) hmap (fun q => by have := h1.lt q; omega) (fun q => by have := h1.Dlt _ q; omega)
      have hfp2 : ∀ k, k ∈ ML.fp { L1 with n := L1.o, o := L1.n, mb := W2.heap.size } → k ∈ L1.fp ∨ k = W2.heap.size := fun k hk => by
        rcases MemRep.mem_fp.1 hk with q | q | q | q | q | q
        · exact .inl (MemRep.mem_fp.2 (.inl q))
        · exact .inr q
        · exact .inl (MemRep.mem_fp.2 (by simp only at q; simp [q]))
        · exact .inl (MemRep.mem_fp.2 (by simp only at q; simp [q]))
        · exact .inl (MemRep.mem_fp.2 (by simp only at q; simp [q]))
        · exact .inl (MemRep.mem_fp.2 (by simp only at q; simp [q]))
      have hLbm : L.b ∈ L1.fp := MemRep.mem_fp.2 (.inl hLbH.out.symm)
      have hev2 : Ev L { L1 with n := L1.o, o := L1.n, mb := W2.heap.size } w WF :=
        ev1.trans ⟨rfl, rfl, rfl, fun k hk => (hfp2 k hk).elim .inl (fun e => .inr (by omega)), fF.mono fun k _ e => by rw [e]; exact hLbm⟩
      have ho2 : OutAt WF (fun k => w.heap.size ≤ k ∧ k ∉ ML.fp { L1 with n := L1.o, o := L1.n, mb := W2.heap.size }) (.slice vp out1.length vcap) out1 := by
        have q : OutAt W (fun k => w.heap.size ≤ k ∧ k ∉ L1.fp) (.slice vp out1.length vcap) out1 := ⟨vp, vcap, rfl, ho⟩
        exact (q.mono (D' := fun k => (w.heap.size ≤ k ∧ k ∉ L1.fp) ∧ k ≠ W2.heap.size) fun k hk hl => ⟨hk, by omega⟩).of_blocks (fun k hk hl => fF.block k hl (fun e => hk.1.2 (by rw [e]; exact hLbm))) |>.mono fun k hk _ => ⟨hk.1.1, fun q => (hfp2 k q).elim hk.1.2 hk.2⟩
      clear hWF fF hsz hmap hblk hfp2 hLbm ho x2 x3 x5 x6 x7 x8 z5 z6 z7 z8 y1 y2 ay1 ay2 hal haf hlt2 hb2 o1 n1 hbk f2 hmk hs2
      generalize hL2 : ({ L1 with n := L1.o, o := L1.n, mb := W2.heap.size } : ML) = L2 at *
      go_wp2_with (fail)
      have hF0 : Fr (fun k => k ∈ L2.fp ∨ w.heap.size ≤ k) WF WF := Fr.refl _ _
      have hm2' := hfwH
      have hbL : L2.b = L.b := hev2.b
      have hL2o : L2.o = L1.n := by rw [← hL2]
      have hbLH := Lib.hid hbL
      have hL2oH := Lib.hid hL2o
      have hL2H := Lib.hid hL2
      clear hL2 hbL hL2o hfwH hm2'
      go_loopw [72] (fun i wr => ∃ (k : Nat) (done : List Int) (mk : Mem), i = .int .i64 k ∧ k ≤ out1.length ∧ done.length = k ∧ MemRep wr L2 mk ∧ OutAt wr (fun k => w.heap.size ≤ k ∧ k ∉ L2.fp) (.slice vp out1.length vcap) (done ++ out1.drop k) ∧ Fr (fun j => j ∈ L2.fp ∨ (w.heap.size ≤ j ∧ j ∉ L2.fp)) WF wr ∧
        Hid (∃ rest, Mem.fwdAll false mk (out1.drop k) = some (rest, m2) ∧ done ++ rest = out2)) (fun i _ => out1.length - (intOf i).toNat)
      case atStart => exact ⟨0, [], _, rfl, by omega, rfl, h2, by simpa using ho2, Fr.refl _ _, Lib.hid ⟨out2, by simpa using hfwHH.out, rfl⟩⟩
      case round =>
        clear h2 ho2 hF0 h1 hfwHH
        obtain ⟨k, done, mk, rfl, hk, hdl, hM, hO, hF, hst⟩ := hrel
        have hDd : ∀ j, (w.heap.size ≤ j ∧ j ∉ L2.fp) → j ∉ L2.fp ∧ ¬ L2.D j := fun j hj => ⟨hj.2, fun q => by rw [hev2.D] at q; have := h.Dlt j q; omega⟩
        by_cases hlt : k < out1.length
        · have hlen : (done ++ out1.drop k).length = out1.length := by simp; omega
          have hcons : out1.drop k = out1[k] :: out1.drop (k + 1) := List.drop_eq_getElem_cons hlt
          rw [hcons] at hst hO
          obtain ⟨mk', to, hfw, hnext⟩ := fwdAll_cons hst.out
          have hlt1 : k < (done ++ out1[k] :: out1.drop (k + 1)).length := by rw [← hcons]; omega
          have hget : (done ++ out1[k] :: out1.drop (k + 1))[k] = out1[k] := by rw [List.getElem_append_right (by omega)]; simp [hdl]
          obtain ⟨g, rfl⟩ : ∃ g, vp = some ⟨g, 0, none⟩ := by
            obtain ⟨p', cap', hv, ho | ⟨g, hp, _⟩⟩ := hO
            · have := congrArg List.length ho
              rw [List.length_append, List.length_cons, List.length_nil] at this
              omega
            · simp only [Value.slice.injEq] at hv; exact ⟨g, hv.1.trans hp⟩
          have hco := OutAt.c_fwd (hM.drewN 1) (hO.of_blocks (w' := wr.drewN 1) fun _ _ _ => rfl) hDd false hlt1 to (by rw [hget]; exact hfw)
          rw [set_mid _ _ _ _ _ hdl] at hco
          have x3 := hM.c3
          rw [hbLH.out] at x3 hco
          rw [hL2oH.out] at x3
          replace hco : Calls Try.prog 81 #[.pointer (some ⟨L.b, 0, none⟩), .pointer (some ⟨L1.n.b, 0, none⟩), .pointer (some ⟨g, k, none⟩)] (wr.drewN 1)
              fun e w' => e = .returned (.tuple #[]) ∧ MemRep w' L2 mk' ∧ OutAt w' (fun k => w.heap.size ≤ k ∧ k ∉ L2.fp) (.slice (some ⟨g, 0, none⟩) out1.length vcap) (done ++ [to] ++ out1.drop (k + 1)) ∧ Fr (fun j => j ∈ L2.fp ∨ (w.heap.size ≤ j ∧ j ∉ L2.fp)) (wr.drewN 1) w' := by
            rw [← hL2oH.out]; exact hco
          have hltH := Lib.hid hlt
          have hdlH := Lib.hid hdl
          have hnextH := Lib.hid hnext
          clear hget hlen hcons hst hnext hfw hlt1 hdl hM hO
          go_wp2_with (fail)
          refine wp_region_still_tail 8 (by kernel_rfl) (by kernel_rfl) ?_
          show wpStill _ _ (wr.drewN 1) (fun a' => wpList _ _ _ _ a' (wr.drewN 1)) _ _
          simp only [List.take_succ_cons, List.take_zero, List.drop_succ_cons, List.drop_zero]
          repeat still_step
          refine wpStill_nil ?_
          go_wp2_with (fail)
          refine hco.mono ?_
          rintro e w1 ⟨rfl, hM', hO', hF'⟩
          clear x3 hco
          go_wp2
          go_roundw
          case rel => exact ⟨k + 1, done ++ [to], mk', by go_num, (by have := hltH.out; omega), (by simp; exact hdlH.out), hM', hO', (hF.drewN 1).trans hF', hnextH⟩
          case measure => have := hltH.out; simp [intOf]; omega
        · obtain rfl : k = out1.length := by omega
          rw [List.drop_length] at hst hO
          obtain ⟨rfl, rfl⟩ := fwdAll_nil hst.out
          rw [List.append_nil] at hO
          clear hst hlt hk
          obtain ⟨vp', vcap', hvv, hO'⟩ := hO
          have hOO : OutAt wr (fun k => w.heap.size ≤ k ∧ k ∉ L2.fp) (.slice vp out1.length vcap) done := ⟨vp', vcap', hvv, hO'⟩
          have hfin : Ev L L2 w wr := by
            have hsz := hev2.fr.size
            refine ⟨hev2.b, hev2.D, hev2.shv, hev2.fp, hev2.fr.trans' hF fun j hj => ?_⟩
            rcases hj with q | q
            · exact hev2.fp j q
            · exact .inr q.1
          clear hO' hvv hF
          go_wp2
          go_ret2
          exact ⟨_, L2, rfl, hM, hfin, hOO⟩
    · rw [if_pos h0] at hm
      simp only [Option.some.injEq, Prod.mk.injEq] at hm
      obtain ⟨rfl, rfl, rfl⟩ := hm
      have hne : (e1 != 0) = true := by simpa using h0
      clear h0
      go_enter Try.func43, Try.ntmps43
      go_wp2_with (fail)
      refine (c_made w L m h).mono ?_
      rintro e w0 ⟨rfl, rfl⟩
      go_wp2_with (fail)
      refine hcm.mono ?_
      rintro e w1 ⟨v', L1, rfl, h1, ev1, o1⟩
      clear hcm
      obtain ⟨vp, vcap, rfl, ho⟩ := o1
      go_wp2
      go_ret2
      exact ⟨_, L1, rfl, h1, ev1, OutAt.nil _ _⟩
end Go.Proofs.Ytnedmmopkhmejaa
