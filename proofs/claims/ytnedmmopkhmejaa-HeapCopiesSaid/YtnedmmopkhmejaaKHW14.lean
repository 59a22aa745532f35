/- Walk: minor (2). -/
import Derived.Test.YtnedmmopkhmejaaKHW13
set_option linter.unusedVariables false
set_option linter.unusedSimpArgs false
namespace Go.Proofs.Ytnedmmopkhmejaa
open Go.RowKit Go.Proofs.Hp
attribute [local go_sem] Oper.semAt_some

theorem MR.c_out {W : World} {L : ML} {m0 mk mk' : Mem} {B mb g k n cap : Nat} {outs : List Int} (h : MR W L m0 B mb (.slice (some ⟨g, 0, none⟩) n cap) mk outs) (hk : k < outs.length) (to : Int) (hf : mk.forward true outs[k] = some (mk', to)) :
    Calls Try.prog 81 #[.pointer (some ⟨L.b, 0, none⟩), .pointer (some ⟨L.y.b, 0, none⟩), .pointer (some ⟨g, k, none⟩)] W
      fun e w' => e = .returned (.tuple #[]) ∧ MR w' L m0 B mb (.slice (some ⟨g, 0, none⟩) n cap) mk' (outs.set k to) ∧ Fr (fun j => j ∈ L.fp ∨ B ≤ j) W w' := by
  obtain ⟨p, cap', hv, ho | ⟨g', hp, hD, hr⟩⟩ := h.out
  · rw [ho] at hk; simp at hk
  · simp only [Value.slice.injEq] at hv
    obtain ⟨rfl, hn', rfl⟩ := hv
    cases hp
    have hc := hr.cell (i := k) (by simpa using hk)
    rw [List.getElem_map] at hc
    refine (c_forward_out W (L.mbTo mb) mk h.rep true g k outs[k] to mk' (fun q => ?_) (fun q => ?_) hc (hr.free k) hf).mono ?_
    · rcases mbTo_fp q with q | q
      · have := h.fpl g q; omega
      · exact hD.2 q
    · have := h.Dl g q; omega
    · rintro e w' ⟨rfl, h', w1, f1, rfl⟩
      refine ⟨rfl, h.outSet hk to f1 h', (f1.mono fun j _ q => (mbTo_fp q).elim .inl (fun e => .inr (by have := h.mbB; omega))).setCell _ _ (.inl (.inr (by have := hD.1; show B ≤ g; omega)))⟩

theorem MR.c_in {W : World} {L : ML} {m0 mk mk' : Mem} {B mb : Nat} {v : Value} {outs : List Int} (h : MR W L m0 B mb v mk outs) (a : Int) (hf : mk.fwdIn true .n a = some mk') :
    Calls Try.prog 81 #[.pointer (some ⟨L.b, 0, none⟩), .pointer (some ⟨L.y.b, 0, none⟩), .pointer (some ⟨L.n.wb, mk.now.idx a, none⟩)] W
      fun e w' => e = .returned (.tuple #[]) ∧ MR w' L m0 B mb v mk' outs ∧ Fr (fun j => j ∈ (L.mbTo mb).fp) W w' := by
  refine (c_forward_in W (L.mbTo mb) mk h.rep true .n a mk' (by simp) hf).mono ?_
  rintro e w' ⟨rfl, h', f1⟩
  exact ⟨rfl, h.fwd h' f1, f1⟩

theorem MR.wide {W W' : World} {L : ML} {m0 mk : Mem} {B mb : Nat} {v : Value} {outs : List Int} (h : MR W L m0 B mb v mk outs) (f : Fr (fun j => j ∈ (L.mbTo mb).fp) W W') : Fr (fun j => j ∈ L.fp ∨ B ≤ j) W W' :=
  f.mono fun j _ q => (mbTo_fp q).elim .inl (fun e => .inr (by have := h.mbB; omega))

/-- At the start. -/
theorem MR.start {w W : World} {L : ML} {m : Mem} {v : Value} {roots : List Int} (h : MemRep w L m) (hf : Fr (fun _ => False) w W) (hb : W.heap[w.heap.size]? = some (box (ptrV L.b) 27)) (ho : W.ownsRow (w.heap.size + 1) 3 1 v roots.length (roots.map (.int .i64))) :
    MR ((W.alloc (.map #[] 0)).setCell ⟨L.b, 7, none⟩ (.map (some W.heap.size))) L m w.heap.size W.heap.size v { m with moved := [] } roots ∧
    Fr (fun j => j ∈ L.fp ∨ w.heap.size ≤ j) w ((W.alloc (.map #[] 0)).setCell ⟨L.b, 7, none⟩ (.map (some W.heap.size))) := by
  have h1 : MemRep W L m := h.fr hf (fun _ _ => id) (fun _ _ => id)
  have h2 := h1.alloc (.map #[] 0)
  have hlt := lt_of_block hb
  have hbk : ((W.alloc (.map #[] 0)).setCell ⟨L.b, 7, none⟩ (.map (some W.heap.size))).heap[L.b]? = some (memBlock (L.mbTo W.heap.size) { m with moved := [] }) := by
    rw [heap_setCell_same _ h2.blk]; rfl
  have f3 : Fr (fun k => k = L.b) (W.alloc (.map #[] 0)) ((W.alloc (.map #[] 0)).setCell ⟨L.b, 7, none⟩ (.map (some W.heap.size))) := (Fr.refl _ _).setCell _ _ (.inl rfl)
  have hLb : L.b < w.heap.size := h.lt (MemRep.mem_fp.2 (.inl rfl))
  have f4 : Fr (fun k => k = L.b) W ((W.alloc (.map #[] 0)).setCell ⟨L.b, 7, none⟩ (.map (some W.heap.size))) := ((Fr.refl _ W).alloc _).trans f3
  have hmb := h.apart.1
  have hml := h.mv.lt
  refine ⟨⟨h2.newMap hbk f3 (al_same W _) (fun q => by have := h1.lt q; omega) (fun q => by have := h1.Dlt _ q; omega) ⟨rfl, rfl, rfl, rfl, rfl, rfl⟩ h1.sc0 h1.sc1 h1.lf0 h1.lf1, fun k hk => h.lt hk, fun k hk => h.Dlt k hk, hlt, f4.blk hb (by omega),
    h1.mv.of_block (f4.block _ h1.mv.lt (Ne.symm hmb)), fun q => ?_, ?_, fun g hg => ⟨by have := (ho.lt g hg).1; omega, by have := (ho.lt g hg).2; omega, Nat.lt_of_lt_of_le (ho.lt g hg).2 f4.size⟩⟩, (hf.mono fun _ _ q => q.elim).trans' f4 (fun k e => .inl (.inl (by subst e; exact MemRep.mem_fp.2 (.inl rfl))))⟩
  · obtain ⟨a0, _, _, _, _, b1, b2, b3, b4, _⟩ := h.apart
    rcases MemRep.mem_fp.1 q with q | q | q | q | q | q
    · exact a0 q.symm
    · have : L.mb = W.heap.size := q; have := hf.size; omega
    · exact b1 q
    · exact b2 q
    · exact b3 q
    · exact b4 q
  · exact ((OutAt.of_owns ho).mono (D' := fun g => w.heap.size < g ∧ g ≠ W.heap.size) fun k hk hl => ⟨by omega, by omega⟩).of_blocks fun k hk hl => f4.block k hl (by omega)

theorem fwdAll_cons {y : Bool} {mk m1 : Mem} {r : Int} {rs done out : List Int} (h : ∃ rest, Mem.fwdAll y mk (r :: rs) = some (rest, m1) ∧ done ++ rest = out) :
    ∃ mk' to, mk.forward y r = some (mk', to) ∧ ∃ rest, Mem.fwdAll y mk' rs = some (rest, m1) ∧ (done ++ [to]) ++ rest = out := by
  obtain ⟨rest, h1, h2⟩ := h
  unfold Mem.fwdAll at h1
  split at h1
  · cases h1
  · rename_i mk' to hf
    split at h1
    · cases h1
    · rename_i rs1 m2 hf2
      simp only [Option.some.injEq, Prod.mk.injEq] at h1
      obtain ⟨rfl, rfl⟩ := h1
      exact ⟨mk', to, hf, rs1, hf2, by simpa using h2⟩
theorem fwdAll_nil {y : Bool} {mk m1 : Mem} {done out : List Int} (h : ∃ rest, Mem.fwdAll y mk [] = some (rest, m1) ∧ done ++ rest = out) : mk = m1 ∧ done = out := by
  obtain ⟨rest, h1, h2⟩ := h
  simp only [Mem.fwdAll, Option.some.injEq, Prod.mk.injEq] at h1
  obtain ⟨rfl, rfl⟩ := h1
  exact ⟨rfl, by simpa using h2⟩
theorem fwdKnown_cons {mk m2 : Mem} {x : Int × Int} {ks : List (Int × Int)} (h : Mem.fwdKnown mk (x :: ks) = some m2) : ∃ mk', mk.fwdIn true .n (x.1 + 1 + x.2) = some mk' ∧ Mem.fwdKnown mk' ks = some m2 := by
  unfold Mem.fwdKnown at h
  split at h
  · cases h
  · rename_i m1 hf; exact ⟨m1, hf, h⟩
theorem fwdIn_keeps {m m' : Mem} {y : Bool} {a : Int} (h : m.fwdIn y .n a = some m') : m'.known = m.known ∧ m'.shapes = m.shapes ∧ m'.now.frm = m.now.frm ∧ m'.now.words.length = m.now.words.length ∧ m.now.has a = true ∧ m'.now.used = m'.now.used := by
  unfold Mem.fwdIn at h
  split at h
  · rename_i hh
    split at h
    · rename_i m1 to hf
      simp only [Option.some.injEq] at h
      obtain ⟨_, _, e3, e4, e5, e6, _, _, e9⟩ := forward_keeps hf
      subst h
      refine ⟨e6, e5, e3, ?_, hh, rfl⟩
      show ((m1.now.put a to).words.length) = _
      rw [put_len]; exact e4
    · cases h
  · cases h
theorem arr141 (ts : Array Value) (h : ts.size = 141) : ∃ us : Nat → Value, ts = #[us 0, us 1, us 2, us 3, us 4, us 5, us 6, us 7, us 8, us 9, us 10, us 11, us 12, us 13, us 14, us 15, us 16, us 17, us 18, us 19, us 20, us 21, us 22, us 23, us 24, us 25, us 26, us 27, us 28, us 29, us 30, us 31, us 32, us 33, us 34, us 35, us 36, us 37, us 38, us 39, us 40, us 41, us 42, us 43, us 44, us 45, us 46, us 47, us 48, us 49, us 50, us 51, us 52, us 53, us 54, us 55, us 56, us 57, us 58, us 59, us 60, us 61, us 62, us 63, us 64, us 65, us 66, us 67, us 68, us 69, us 70, us 71, us 72, us 73, us 74, us 75, us 76, us 77, us 78, us 79, us 80, us 81, us 82, us 83, us 84, us 85, us 86, us 87, us 88, us 89, us 90, us 91, us 92, us 93, us 94, us 95, us 96, us 97, us 98, us 99, us 100, us 101, us 102, us 103, us 104, us 105, us 106, us 107, us 108, us 109, us 110, us 111, us 112, us 113, us 114, us 115, us 116, us 117, us 118, us 119, us 120, us 121, us 122, us 123, us 124, us 125, us 126, us 127, us 128, us 129, us 130, us 131, us 132, us 133, us 134, us 135, us 136, us 137, us 138, us 139, us 140] := by
  refine ⟨fun k => ts.getD k undef, ?_⟩
  have e : ts = ((List.range 141).map fun k => ts.getD k undef).toArray := by
    refine Array.ext (by simp [h]) fun i h1 h2 => ?_
    simp [Array.getD, h1]
  exact e

theorem scanAll_step {mk m3 : Mem} {a : Int} (h : ∃ f, Mem.scanAll f mk a = some m3) (ha : a < mk.now.top) : ∃ l m1 n, mk.fieldsAt mk.now a = some l ∧ Mem.scanFields mk a l 0 = some m1 ∧ m1.size m1.now a = some n ∧ ∃ f, Mem.scanAll f m1 (a + (n : Int)) = some m3 := by
  obtain ⟨f, h⟩ := h
  cases f with
  | zero => cases h
  | succ f =>
    unfold Mem.scanAll at h
    rw [if_pos ha] at h
    split at h
    · cases h
    · rename_i l hl
      split at h
      · cases h
      · rename_i m1 hm
        split at h
        · cases h
        · rename_i n hn
          exact ⟨l, m1, n, hl, hm, hn, f, h⟩
theorem scanAll_end {mk m3 : Mem} {a : Int} (h : ∃ f, Mem.scanAll f mk a = some m3) (ha : ¬ a < mk.now.top) : mk = m3 := by
  obtain ⟨f, h⟩ := h
  cases f with
  | zero => cases h
  | succ f =>
    unfold Mem.scanAll at h
    rw [if_neg ha] at h
    simpa using h
theorem scanFields_at {mk m1 : Mem} {a : Int} {sh : List Bool} {k : Nat} (hk : k < sh.length) (h : Mem.scanFields mk a (sh.drop k) (k : Int) = some m1) :
    (sh[k] = false ∧ Mem.scanFields mk a (sh.drop (k + 1)) ((k + 1 : Nat) : Int) = some m1) ∨ (sh[k] = true ∧ ∃ mk', mk.fwdIn true .n (a + 1 + (k : Int)) = some mk' ∧ Mem.scanFields mk' a (sh.drop (k + 1)) ((k + 1 : Nat) : Int) = some m1) := by
  rw [List.drop_eq_getElem_cons hk] at h
  unfold Mem.scanFields at h
  cases hb : sh[k] with
  | false => rw [hb] at h; exact .inl ⟨rfl, h⟩
  | true =>
    rw [hb, if_pos rfl] at h
    split at h
    · cases h
    · rename_i m' hf; exact .inr ⟨rfl, m', hf, h⟩
theorem set_mid (d tl : List Int) (r to : Int) (k : Nat) (hk : d.length = k) : (d ++ r :: tl).set k to = (d ++ [to]) ++ tl := by
  subst hk; simp

set_option maxRecDepth 100000 in
set_option maxHeartbeats 8000000 in
theorem c_minor (w : World) (L : ML) (m m1 m2 m3 : Mem) (h : MemRep w L m) (D : Nat → Prop) (v : Value) (roots out : List Int) (hr : IntsAt w D v roots) (hl : roots.length ≤ 1048576)
    (hm1 : Mem.fwdAll true { m with moved := [] } roots = some (out, m1)) (hm2 : Mem.fwdKnown m1 m1.known = some m2) (hm3 : Mem.scanAll (m.now.words.length + 1) m2 m.now.top = some m3) :
    Calls Try.prog 86 #[.pointer (some ⟨L.b, 0, none⟩), v] w fun e w' => ∃ v' L', e = .returned v' ∧ MemRep w' L' { m3 with moved := m.moved, young := m3.young.empty, known := [] } ∧ Ev L L' w w' ∧
      OutAt w' (fun k => w.heap.size ≤ k ∧ k ∉ L'.fp) v' out := by
  refine (callsIn_wide (n := 9)).1 (callsIn_of_wp_marks Try.func86 rfl trivial (wpIn_wide.2 ?_) rfl)
  simp only [Try.ntmps86, List.size_toArray, List.length_cons, List.length_nil, Nat.reduceAdd, Nat.reduceSub, Array.replicate_succ, Array.replicate_zero, List.push_toArray, List.append_toArray, List.nil_append, List.cons_append]
  have hmk := @run_makeMap Try.prog
  have hr1 : IntsAt (w.alloc (box (ptrV L.b) 27)) D v roots := hr.fr (S := fun _ => False) ((Fr.refl _ w).alloc _) (fun _ _ => id)
  have hb1 := al_same w (box (ptrV L.b) 27)
  have hF1 : Fr (fun _ => False) w (w.alloc (box (ptrV L.b) 27)) := (Fr.refl _ w).alloc _
  have hs1 := al_size w (box (ptrV L.b) 27)
  have hcl := hr1.clone hl
  obtain ⟨p, cap, rfl, _⟩ := hr
  simp only [box, ptrV] at hcl
  go_wp2_with (fail)
  refine hcl.mono ?_
  rintro e W ⟨v, rfl, ho, hbl⟩
  clear hcl hr1
  have hF2 : Fr (fun _ => False) w W := hF1.trans (Fr.of_below hbl)
  have hb2 : W.heap[w.heap.size]? = some (box (ptrV L.b) 27) := (Fr.of_below (S := fun _ => False) hbl).blk hb1 id
  have ho2 : W.ownsRow (w.heap.size + 1) 3 1 v roots.length (roots.map (.int .i64)) := by
    rw [show (w.alloc (.cells #[.pointer (some ⟨L.b, 0, none⟩)] 27)).heap.size = w.heap.size + 1 from al_size _ _] at ho; exact ho
  clear ho hbl hF1 hb1 hs1
  have hW := h.fr hF2 (fun _ _ => id) (fun _ _ => id)
  have x0 : W.cell? ⟨w.heap.size, 0, none⟩ = some (.pointer (some ⟨L.b, 0, none⟩)) := by rw [cell_of hb2]; rfl
  have x2 := hW.c2
  have n1 := hW.n.c1
  have n2 := hW.n.c2
  have nb1 := hW.n.b1
  have nb2 := hW.n.b2
  have nle := hW.n.le
  have e1 : IntKind.i64.wrap ((m.now.frm : Int) + (m.now.used : Int)) = (m.now.frm : Int) + (m.now.used : Int) := IntWalk.i64_in _ (by omega)
  have hm1' := Lib.hid hm1
  have hm2' := Lib.hid hm2
  have hm3' := Lib.hid hm3
  clear hm1 hm2 hm3
  obtain ⟨vp, vcap, rfl⟩ := ownsRow_slice ho2
  go_wp2_with (fail)
  go_quiet (fail)
  have hF3 := hF2.drewN nq
  have hb3 : (W.drewN nq).heap[w.heap.size]? = some (box (ptrV L.b) 27) := hb2
  have ho3 : (W.drewN nq).ownsRow (w.heap.size + 1) 3 1 (.slice vp roots.length vcap) roots.length (roots.map (.int .i64)) := ownsRow_of_blocks ho2 fun _ _ => rfl
  clear x0 x2 n1 n2 nb1 nb2 nle hF2 hb2 ho2 hW
  generalize W.drewN nq = W at *
  have hW := h.fr hF3 (fun _ _ => id) (fun _ _ => id)
  have x0 : W.cell? ⟨w.heap.size, 0, none⟩ = some (.pointer (some ⟨L.b, 0, none⟩)) := by rw [cell_of hb3]; rfl
  have x7 := hW.c7
  have y7 := (hW.alloc (.map #[] 0)).c7
  have z7 := (hW.alloc (.map #[] 0)).fb 7
  obtain ⟨hM, hF⟩ := MR.start h hF3 hb3 ho3
  obtain ⟨B, hB⟩ : ∃ B, B = w.heap.size := ⟨_, rfl⟩
  rw [← hB] at hM hF x0 ⊢
  have hB' := Lib.hid hB
  clear hB hb3 hF3 ho3 hW
  go_wp2_with (fail)
  generalize (W.alloc (.map #[] 0)).setCell ⟨L.b, 7, none⟩ (.map (some W.heap.size)) = W0 at *
  generalize W.heap.size = mb at *
  clear x0 x7 y7 z7 hmk
  go_loopw [42] (fun i wr => ∃ (k : Nat) (done : List Int) (mk : Mem), i = .int .i64 k ∧ k ≤ roots.length ∧ done.length = k ∧ MR wr L m B mb (.slice vp roots.length vcap) mk (done ++ roots.drop k) ∧ Fr (fun j => j ∈ L.fp ∨ B ≤ j) w wr ∧
      Hid (∃ rest, Mem.fwdAll true mk (roots.drop k) = some (rest, m1) ∧ done ++ rest = out)) (fun i _ => roots.length - (intOf i).toNat)
  case atStart => exact ⟨0, [], _, rfl, by omega, rfl, by simpa using hM, hF, Lib.hid ⟨out, by simpa using hm1'.out, rfl⟩⟩
  case round =>
    clear hM hF hm1'
    obtain ⟨k, done, mk, rfl, hk, hdl, hM, hF, hst⟩ := hrel
    by_cases hlt : k < roots.length
    · have hlen : (done ++ roots.drop k).length = roots.length := by simp; omega
      have hcons : roots.drop k = roots[k] :: roots.drop (k + 1) := List.drop_eq_getElem_cons hlt
      rw [hcons] at hst hM
      obtain ⟨mk', to, hfw, hnext⟩ := fwdAll_cons hst.out
      have hlt1 : k < (done ++ roots[k] :: roots.drop (k + 1)).length := by rw [← hcons]; omega
      have hget : (done ++ roots[k] :: roots.drop (k + 1))[k] = roots[k] := by rw [List.getElem_append_right (by omega)]; simp [hdl]
      obtain ⟨g, rfl⟩ : ∃ g, vp = some ⟨g, 0, none⟩ := by
        obtain ⟨p', cap', hv, ho | ⟨g, hp, _⟩⟩ := hM.out
        · have := congrArg List.length ho
          rw [List.length_append, List.length_cons, List.length_nil] at this
          omega
        · simp only [Value.slice.injEq] at hv; exact ⟨g, hv.1.trans hp⟩
      have hco := (hM.drewN 1).c_out hlt1 to (by rw [hget]; exact hfw)
      rw [set_mid _ _ _ _ _ hdl] at hco
      have x0 : wr.cell? ⟨B, 0, none⟩ = some (.pointer (some ⟨L.b, 0, none⟩)) := by rw [cell_of hM.b0]; rfl
      have x1 : wr.cell? ⟨L.b, 1, none⟩ = some (.pointer (some ⟨L.y.b, 0, none⟩)) := hM.rep.c1
      have hltH := Lib.hid hlt
      have hdlH := Lib.hid hdl
      have hnextH := Lib.hid hnext
      clear hget hlen hcons hst hnext hfw hlt1 hdl
      go_wp2_with (fail)
      refine wp_region_still_tail 8 (by kernel_rfl) (by kernel_rfl) ?_
      show wpStill _ _ (wr.drewN 1) (fun a' => wpList _ _ _ _ a' (wr.drewN 1)) _ _
      simp only [List.take_succ_cons, List.take_zero, List.drop_succ_cons, List.drop_zero]
      repeat still_step
      refine wpStill_nil ?_
      go_wp2_with (fail)
      refine hco.mono ?_
      rintro e w1 ⟨rfl, hM', hF'⟩
      clear x0 x1 hco
      go_wp2
      go_roundw
      case rel => exact ⟨k + 1, done ++ [to], mk', by go_num, (by have := hltH.out; omega), (by simp; exact hdlH.out), hM', (hF.drewN 1).trans hF', hnextH⟩
      case measure => have := hltH.out; simp [intOf]; omega
    · obtain rfl : k = roots.length := by omega
      rw [List.drop_length] at hst hM
      obtain ⟨rfl, rfl⟩ := fwdAll_nil hst.out
      rw [List.append_nil] at hM
      clear hst hlt hk
      obtain ⟨kp, kcap, hkv⟩ := hM.rep.kvS
      have x0 : wr.cell? ⟨B, 0, none⟩ = some (.pointer (some ⟨L.b, 0, none⟩)) := by rw [cell_of hM.b0]; rfl
      have x4 : wr.cell? ⟨L.b, 4, none⟩ = some L.kv := hM.rep.c4
      replace hkv : L.kv = .slice kp mk.known.length kcap := hkv
      rw [hkv] at x4
      have hkl := hM.rep.kl
      have hkv' := Lib.hid hkv
      clear hkv
      go_wp2_with (fail)
      clear x0 x4
      obtain ⟨ks, hks⟩ : ∃ ks, mk.known = ks := ⟨_, rfl⟩
      rw [hks] at hm2' hkv' hkl ⊢
      have hks' := Lib.hid hks
      clear hks
      go_loopw [60] (fun i wr => ∃ (k : Nat) (mk : Mem), i = .int .i64 k ∧ k ≤ ks.length ∧ MR wr L m B mb (.slice vp roots.length vcap) mk done ∧ Fr (fun j => j ∈ L.fp ∨ B ≤ j) w wr ∧
        Hid (mk.known = ks ∧ Mem.fwdKnown mk (ks.drop k) = some m2)) (fun i _ => ks.length - (intOf i).toNat)
      case atStart => exact ⟨0, mk, rfl, by omega, hM, hF, Lib.hid ⟨hks'.out, by simpa using hm2'.out⟩⟩
      case round =>
        clear hM hF hm2' hks'
        obtain ⟨k, mk, rfl, hk, hM, hF, hst⟩ := hrel
        by_cases hlt : k < ks.length
        · obtain ⟨hkn, hfk⟩ := hst.out
          rw [List.drop_eq_getElem_cons hlt] at hfk
          obtain ⟨mk', hfw, hfk'⟩ := fwdKnown_cons hfk
          clear hfk hst
          obtain ⟨ekn, esh, efr, ewl, hhas, _⟩ := fwdIn_keeps hfw
          have hok := has_ok hM.rep.n hhas
          obtain ⟨g, gc, hg, g1, g2⟩ := hM.rep.knownAt (k := k) (by rw [hkn]; exact hlt)
          replace hg : L.kv = .slice (some ⟨g, 0, none⟩) mk.known.length gc := hg
          rw [hkv'.out] at hg
          simp only [Value.slice.injEq] at hg
          obtain ⟨rfl, hgl, rfl⟩ := hg
          clear hgl
          have hkb := hM.rep.kb _ (List.getElem_mem (by rw [hkn]; exact hlt))
          have hkk : mk.known[k]'(by rw [hkn]; exact hlt) = ks[k] := by simp only [hkn]
          rw [hkk] at g1 g2 hkb
          clear hkk
          have hltH := Lib.hid hlt
          generalize ks[k] = kk at *
          obtain ⟨ka, kf⟩ := kk
          simp only at hok hfw hkb g1 g2 hhas
          have hM1 := hM.fr (S := fun _ => False) ((Fr.refl _ wr).alloc (.cells #[.int .i64 ka, .int .i64 kf] 131)) (fun _ q => q.elim)
          have hbx := al_same wr (.cells #[.int .i64 ka, .int .i64 kf] 131)
          have hF1 := hF.alloc (.cells #[.int .i64 ka, .int .i64 kf] 131)
          have w1 : IntKind.i64.wrap (ka + 1) = ka + 1 := IntWalk.i64_in _ (by omega)
          have w2 : IntKind.i64.wrap (ka + 1 + kf) = ka + 1 + kf := IntWalk.i64_in _ (by omega)
          have hnextH : Hid (mk'.known = ks ∧ Mem.fwdKnown mk' (ks.drop (k + 1)) = some m2) := ⟨ekn.trans hkn, hfk'⟩
          clear hkb hfk' hhas ekn esh efr ewl
          go_wp2_with (fail)
          have hmbl : mb < wr.heap.size := hM.mbl
          have hfb : ∀ j ∈ (L.mbTo mb).fp, j ≠ wr.heap.size := fun j hj e => by have := hM.rep.lt hj; omega
          generalize hbe : wr.heap.size = bx at *
          generalize wr.alloc (.cells #[.int .i64 ka, .int .i64 kf] 131) = W1 at *
          clear hbe hM hF g1 g2 hlt hmbl hkn
          have x0 : W1.cell? ⟨B, 0, none⟩ = some (.pointer (some ⟨L.b, 0, none⟩)) := by rw [cell_of hM1.b0]; rfl
          have x1 : W1.cell? ⟨L.b, 1, none⟩ = some (.pointer (some ⟨L.y.b, 0, none⟩)) := hM1.rep.c1
          have x2 : W1.cell? ⟨L.b, 2, none⟩ = some (.pointer (some ⟨L.n.b, 0, none⟩)) := hM1.rep.c2
          have xa : W1.cell? ⟨bx, 0, none⟩ = some (.int .i64 ka) := by rw [cell_of hbx]; rfl
          have xb : W1.cell? ⟨bx, 1, none⟩ = some (.int .i64 kf) := by rw [cell_of hbx]; rfl
          have hcw : Calls Try.prog 61 #[.pointer (some ⟨L.n.b, 0, none⟩), .int .i64 (ka + 1 + kf)] W1.drew fun e w' => e = .returned (.pointer (some ⟨L.n.wb, mk.now.idx (ka + 1 + kf), none⟩)) ∧ ∃ n, w' = W1.drew.drewN n :=
            c_word _ _ _ (hM1.rep.drew).n (ka + 1 + kf) hok
          have hco := fun n3 => (hM1.drewN (1 + n3)).c_in (ka + 1 + kf) hfw
          have hnB : B ∉ (L.mbTo mb).fp := fun q => by
            rcases mbTo_fp q with q | q
            · have := hM1.fpl B q; omega
            · have := hM1.mbB; omega
          have hnbx : bx ∉ (L.mbTo mb).fp := fun q => hfb bx q rfl
          go_region_held3 (fun w' => w'.cell? ⟨B, 0, none⟩ = some (.pointer (some ⟨L.b, 0, none⟩)) ∧ w'.cell? ⟨L.b, 1, none⟩ = some (.pointer (some ⟨L.y.b, 0, none⟩)) ∧ w'.cell? ⟨L.b, 2, none⟩ = some (.pointer (some ⟨L.n.b, 0, none⟩)) ∧
              w'.cell? ⟨bx, 0, none⟩ = some (.int .i64 ka) ∧ w'.cell? ⟨bx, 1, none⟩ = some (.int .i64 kf)) (go_keep)
            (first
              | ((with_reducible refine hcw.mono ?_); rintro e w3 ⟨rfl, n3, rfl⟩)
              | ((with_reducible refine (hco n3).mono ?_); rintro e w4 ⟨rfl, h4, f4⟩; have k1 : w4.cell? ⟨L.b, 1, none⟩ = some (.pointer (some ⟨L.y.b, 0, none⟩)) := h4.rep.c1
                 have k2 : w4.cell? ⟨L.b, 2, none⟩ = some (.pointer (some ⟨L.n.b, 0, none⟩)) := h4.rep.c2
                 have k0 := f4.cell (w := W1.drewN (1 + n3)) x0 hnB; have ka := f4.cell (w := W1.drewN (1 + n3)) xa hnbx; have kb := f4.cell (w := W1.drewN (1 + n3)) xb hnbx))
          clear x0 x1 x2 xa xb k0 k1 k2 ka kb hcw
          have f5 := (hF1.drewN (1 + n3)).trans ((hM1.drewN (1 + n3)).wide f4)
          go_wp2
          go_roundw
          case rel => exact ⟨k + 1, mk', by go_num, (by have := hltH.out; omega), h4, f5, hnextH⟩
          case measure => have := hltH.out; simp [intOf]; omega
        · obtain rfl : k = ks.length := by omega
          obtain ⟨_, hfk⟩ := hst.out
          rw [List.drop_length] at hfk
          simp only [Mem.fwdKnown, Option.some.injEq] at hfk
          subst hfk
          clear hst hlt hk hkl hkv'
          have hfr0 := hM.rep.n.b2
          have hwl0 := hM.rep.n.b1
          obtain ⟨fr, hfr⟩ : ∃ fr, fr = mk.now.frm := ⟨_, rfl⟩
          obtain ⟨wl, hwl⟩ : ∃ wl, wl = mk.now.words.length := ⟨_, rfl⟩
          have hfr0H := Lib.hid hfr
          have hwl0H := Lib.hid hwl
          clear hfr hwl hfr0 hwl0
          go_wp2_with (fail)
          refine wp_loop (fun a' wr => ∃ (Ds : List Nat), a'.tmps.size = 141 ∧ a'.defers = Ds.map markOf ∧ a'.tmps.getD 2 undef = .pointer (some ⟨B, 0, none⟩) ∧ a'.tmps.getD 5 undef = .slice vp roots.length vcap ∧ a'.tmps.getD 7 undef = .map (some L.mb) ∧ (∃ (a : Int) (mk : Mem), (a'.tmps.getD 6 undef) = .int .i64 a ∧ 0 ≤ a ∧ MR wr L m B mb (.slice vp roots.length vcap) mk done ∧ mk.now.frm = fr ∧ mk.now.words.length = wl ∧ Ds.Nodup ∧ (∀ D ∈ Ds, mb < D ∧ (Value.slice vp roots.length vcap).ownBlock ≠ some D ∧ wr.heap[D]? = some (.deferred (some []))) ∧ Fr (fun j => j ∈ L.fp ∨ B ≤ j) w wr ∧ Hid (∃ f, Mem.scanAll f mk a = some m3))) (fun a' wr => fr + wl + 1 - (intOf (a'.tmps.getD 6 undef)).toNat) ?_ ?_
          · skip
            refine ⟨[], rfl, rfl, rfl, rfl, rfl, ?_⟩
            exact ⟨_, mk, rfl, by omega, hM, hfr0H.out.symm, hwl0H.out.symm, List.nodup_nil, by simp, hF, Lib.hid ⟨_, hm3'.out⟩⟩
          · skip
            rintro ⟨ts, ds⟩ wr ⟨Ds, hsz, hds, f2, f5, f7, hrel⟩
            simp only at hds
            subst hds
            obtain ⟨us, rfl⟩ := arr141 ts hsz
            replace f2 : us 2 = .pointer (some ⟨B, 0, none⟩) := f2
            replace f5 : us 5 = .slice vp roots.length vcap := f5
            replace f7 : us 7 = .map (some L.mb) := f7
            rw [f2]
            rw [f5]
            rw [f7]
            clear hsz f2 f5 f7
            clear hM hF hm3'
            obtain ⟨a, mk, h6, ha0, hM, hfr, hwl, hnd, hop, hF, hst⟩ := hrel
            replace h6 : us 6 = .int .i64 a := h6
            rw [h6]
            clear h6 hfr0H hwl0H
            have hfrH := Lib.hid hfr
            have hwlH := Lib.hid hwl
            clear hfr hwl
            have x0 : wr.cell? ⟨B, 0, none⟩ = some (.pointer (some ⟨L.b, 0, none⟩)) := by rw [cell_of hM.b0]; rfl
            have x2 : wr.cell? ⟨L.b, 2, none⟩ = some (.pointer (some ⟨L.n.b, 0, none⟩)) := hM.rep.c2
            have n1 : wr.cell? ⟨L.n.b, 1, none⟩ = some (.int .i64 mk.now.frm) := hM.rep.n.c1
            have n2 : wr.cell? ⟨L.n.b, 2, none⟩ = some (.int .i64 mk.now.used) := hM.rep.n.c2
            have nb1 := hM.rep.n.b1
            have nb2 := hM.rep.n.b2
            have nle := hM.rep.n.le
            have e1 : IntKind.i64.wrap ((mk.now.frm : Int) + (mk.now.used : Int)) = (mk.now.frm : Int) + (mk.now.used : Int) := IntWalk.i64_in _ (by omega)
            by_cases hlt : a < (mk.now.frm : Int) + (mk.now.used : Int)
            · obtain ⟨sh, m1, n, hsh, hsf, hsz, hst2⟩ := scanAll_step hst.out hlt
              have hst2H := Lib.hid hst2
              have hsfH := Lib.hid hsf
              have hszH := Lib.hid hsz
              have hshH := Lib.hid hsh
              have hltH := Lib.hid hlt
              have hltb : (a <  (mk.now.frm : Int) + (mk.now.used : Int)) := hlt
              clear hst hst2 hsf hsz hsh hlt
              go_wp2_with (fail)
              go_quiet (fail)
              go_wp2_with (fail)
              have hM2 := hM.drewN nq
              have hF2 := hF.drewN nq
              have hop2 : ∀ D ∈ Ds, mb < D ∧ (Value.slice vp roots.length vcap).ownBlock ≠ some D ∧ (wr.drewN nq).heap[D]? = some (.deferred (some [])) := hop
              have x02 : (wr.drewN nq).cell? ⟨B, 0, none⟩ = some (.pointer (some ⟨L.b, 0, none⟩)) := x0
              have x22 : (wr.drewN nq).cell? ⟨L.b, 2, none⟩ = some (.pointer (some ⟨L.n.b, 0, none⟩)) := x2
              clear hM hF hop x0 x2 n1 n2
              generalize wr.drewN nq = W at *
              refine wp_region_still_tail 6 (by kernel_rfl) (by kernel_rfl) ?_
              show wpStill _ _ (W.drewN 1) (fun a' => wpList _ _ _ _ a' (W.drewN 1)) _ _
              simp only [List.take_succ_cons, List.take_zero, List.drop_succ_cons, List.drop_zero]
              repeat still_step
              refine wpStill_nil ?_
              go_wp2_with (fail)
              refine (c_refs _ L.b L.n.b a).mono ?_
              rintro e wE ⟨rfl, rfl⟩
              go_wp2_with (fail)
              have hsz1 : (W.drewN 1).heap.size = W.heap.size := rfl
              obtain ⟨k1, k2, k3⟩ := al3 (W.drewN 1) (box (ptrV L.b) 27) (box (ptrV L.n.b) 95) (box (.int .i64 a) 3)
              have fE : Fr (fun _ => False) W ((((W.drewN 1).alloc (box (ptrV L.b) 27)).alloc (box (ptrV L.n.b) 95)).alloc (box (.int .i64 a) 3)) := ((((Fr.refl _ W).drewN 1).alloc _).alloc _).alloc _
              have sE : ((((W.drewN 1).alloc (box (ptrV L.b) 27)).alloc (box (ptrV L.n.b) 95)).alloc (box (.int .i64 a) 3)).heap.size = W.heap.size + 3 := by simp only [al_size, hsz1]
              rw [hsz1] at k1 k2 k3
              generalize ((((W.drewN 1).alloc (box (ptrV L.b) 27)).alloc (box (ptrV L.n.b) 95)).alloc (box (.int .i64 a) 3)) = WE at *
              clear hsz1
              obtain ⟨hoka, hs60, _⟩ := hM2.rep.fields (s := mk.now) hshH.out
              have hshA : mk.shapeAt (mk.now.get a) = some sh := by
                have := hshH.out; unfold Mem.fieldsAt at this; rw [if_pos hoka] at this; exact this
              have hv0 : 0 ≤ mk.now.get a := by
                unfold Mem.shapeAt at hshA; split at hshA; assumption; cases hshA
              have hv1 : mk.shapes[(mk.now.get a).toNat]? = some sh := by
                unfold Mem.shapeAt at hshA; rw [if_pos hv0] at hshA; exact hshA
              simp only [Sp.ok, Bool.and_eq_true, decide_eq_true_eq] at hoka
              have hmbl := hM2.mbl
              have hmbB := hM2.mbB
              have hvo := hM2.vo
              have hDlt : ∀ D ∈ Ds, D < W.heap.size := fun D hD => lt_of_block (hop2 D hD).2.2
              have hfpn : ∀ j, W.heap.size ≤ j → j ∉ (L.mbTo mb).fp := fun j hj q => by have := hM2.rep.lt q; omega
              have hfpD : ∀ j, mb < j → j ∉ (L.mbTo mb).fp := fun j hj q => by
                rcases mbTo_fp q with q | q
                · have := hM2.fpl j q; omega
                · omega
              have hseq := c_refs1 8 (L.mbTo mb) .n a (mk.now.get a) W.heap.size (W.heap.size + 1) (W.heap.size + 1 + 1) mk.now.frm mk.now.words.length mk.shapes sh w hv0 hv1 hoka
              refine (wpIn_wide (n := 9)).1 (wpIn_rangeFunc_ord (n := 9) (gf := 108) rfl (enters Try.func108 (by kernel_rfl) rfl) hseq ?hps
                (fun k A => ∃ mk', MR A L m B mb (.slice vp roots.length vcap) mk' done ∧ mk'.now.frm = mk.now.frm ∧ mk'.now.words.length = mk.now.words.length ∧ mk'.shapes = mk.shapes ∧ (k = 0 → mk' = mk) ∧ A.heap[W.heap.size]? = some (box (ptrV L.b) 27) ∧
                  A.heap[W.heap.size + 1]? = some (box (ptrV L.n.b) 95) ∧ A.heap[W.heap.size + 1 + 1]? = some (box (.int .i64 a) 3) ∧ (∀ D ∈ Ds, A.heap[D]? = some (.deferred (some []))) ∧ Fr (fun j => j ∈ L.fp ∨ B ≤ j) w A ∧
                  Hid (Mem.scanFields mk' a (sh.drop k) (k : Int) = some m1))
                (fun _ _ _ => False) ?hI (fun _ _ _ _ _ h => h) ?h0 ?hR ?hskip ?hbody ?hdone (fun _ _ _ _ h => h.elim))
              case hps =>
                intro k vs hk
                unfold refArgs at hk
                split at hk
                · cases hk; rfl
                · cases hk
              case hI =>
                rintro k A C hf ⟨mk', q1, q2, q3, q4, q5, q6, q7, q8, q9, q10, q11⟩
                rw [sE] at hf
                refine ⟨mk', q1.fr hf (fun j hj => ⟨by omega, by omega, fun e => by have := (hvo j e).2.2; omega⟩), q2, q3, q4, q5, hf.blk q6 (by omega), hf.blk q7 (by omega), hf.blk q8 (by omega), fun D hD => hf.blk (q9 D hD) (by have := hDlt D hD; omega), q10.trans (hf.mono fun j _ hj => .inr (by omega)), q11⟩
              case h0 =>
                intro C hf hsC
                have hf2 := fE.trans hf
                exact ⟨mk, hM2.fr hf2 (fun _ q => q.elim), rfl, rfl, rfl, fun _ => rfl, hf.blk k1 id, hf.blk k2 id, hf.blk k3 id, fun D hD => hf2.blk (hop2 D hD).2.2 id, hF2.trans (hf2.mono fun _ _ h => h.elim), Lib.hid (by simpa using hsfH.out)⟩
              case hR =>
                rintro k A ⟨mk', q1, q2, q3, q4, q5, q6, q7, q8, q9, q10, q11⟩
                refine ⟨q6, q7, q8, fun j hj => q10.block j (h.Dlt j hj) (fun q => ?_), mk', q1.rep, q2, q3, q4, fun hk => by rw [q5 hk]; rfl, fun hk => ?_⟩
                · rcases q with q | q
                  · exact h.dj j q hj
                  · have := q1.Dl j hj; omega
                · obtain ⟨hkl, hke⟩ := List.getElem?_eq_some_iff.1 hk
                  rcases scanFields_at hkl q11.out with ⟨e, _⟩ | ⟨_, mk2, e, _⟩
                  · rw [hke] at e; cases e
                  · exact has_ok q1.rep.n (fwdIn_keeps e).2.2.2.2.1
              case hskip =>
                rintro k A hk hk2 ⟨mk', q1, q2, q3, q4, q5, q6⟩
                have hfl : sh[k] = false := by
                  unfold refArgs at hk2
                  split at hk2
                  · cases hk2
                  · rename_i hne
                    rw [List.getElem?_eq_getElem hk] at hne
                    cases hq : sh[k] with
                    | false => rfl
                    | true => rw [hq] at hne; exact absurd rfl hne
                obtain ⟨q6, q7, q8, q9, q10, q11⟩ := q6
                refine ⟨mk', q1, q2, q3, q4, fun e => by omega, q6, q7, q8, q9, q10, ?_⟩
                rcases scanFields_at hk q11.out with ⟨_, e⟩ | ⟨e, _⟩
                · exact Lib.hid e
                · rw [hfl] at e; cases e
              case hbody =>
                intro l' k vs W3 hk hvs hI3 hsz3
                have hsk : sh[k]? = some true := by unfold refArgs at hvs; split at hvs; assumption; cases hvs
                obtain rfl : vs = #[.int .i64 k, .pointer (some ⟨L.n.wb, (a + 1 + (k : Int)).toNat - mk.now.frm, none⟩)] := by
                  unfold refArgs at hvs; rw [if_pos hsk] at hvs; cases hvs; rfl
                clear hvs hI3
                gi_wp2
                refine ⟨trivial, ?_⟩
                rintro W2 ⟨mk', q1, q2, q3, q4, q5, q6, q7, q8, q9, q10, q11⟩ hs2
                rw [sE] at hs2 ⊢
                obtain ⟨mk2, hfw, hsf2⟩ : ∃ mk2, mk'.fwdIn true .n (a + 1 + (k : Int)) = some mk2 ∧ Mem.scanFields mk2 a (sh.drop (k + 1)) ((k + 1 : Nat) : Int) = some m1 := by
                  rcases scanFields_at hk q11.out with ⟨e, _⟩ | ⟨_, mk2, e, e2⟩
                  · rw [List.getElem?_eq_getElem hk, e] at hsk; simp at hsk
                  · exact ⟨mk2, e, e2⟩
                have hsf2H := Lib.hid hsf2
                have hkp := fwdIn_keeps hfw
                have q1d : MR W2.drew L m B mb (.slice vp roots.length vcap) mk' done := q1.fr (S := fun _ => False) ((Fr.refl _ W2).drew) (fun _ q => q.elim)
                have hco := q1d.c_in (a + 1 + (k : Int)) hfw
                unfold Sp.idx at hco
                rw [q2] at hco
                have hkpH := Lib.hid hkp
                have q2H := Lib.hid q2
                have q3H := Lib.hid q3
                have q4H := Lib.hid q4
                have x0' : W2.cell? ⟨B, 0, none⟩ = some (.pointer (some ⟨L.b, 0, none⟩)) := by rw [cell_of q1.b0]; rfl
                have x1' : W2.cell? ⟨L.b, 1, none⟩ = some (.pointer (some ⟨L.y.b, 0, none⟩)) := q1.rep.c1
                have hmix : Try.prog.follows .mixedOrders = true := by kernel_rfl
                clear hkp hsf2 hfw hsk hoka hv1 hv0 hshA q5 q2 q3 q4
                gi_wp2_with (fail)
                gi_region_with_o (refine ⟨trivial, ?_⟩; gi_at_call 81; refine (CallsIn.inRound l' (callsIn_wide.2 hco)).mono ?_; rintro e w4 ⟨rfl, h4, f4⟩)
                all_goals (
                  have f4' : Fr (fun j => j ∈ (L.mbTo mb).fp) W2 w4 := Fr.of_drewN (w := W2) 1 f4
                  show (∀ j, (j = W.heap.size + 3 ∨ j = W.heap.size + 3 + 1) → w4.heap[j]? = W2.heap[j]?) ∧ _
                  exact ⟨fun j hj => f4'.block j (by omega) (hfpn j (by omega)), mk2, h4, hkpH.out.2.2.1.trans q2H.out, hkpH.out.2.2.2.1.trans q3H.out, hkpH.out.2.1.trans q4H.out, fun e => by omega, f4'.blk q6 (hfpn _ (by omega)), f4'.blk q7 (hfpn _ (by omega)),
                    f4'.blk q8 (hfpn _ (by omega)), fun D hD => f4'.blk (q9 D hD) (hfpD D (hop2 D hD).1), q10.trans (q1.wide f4'), hsf2H⟩)
              case hdone =>
                rintro A ⟨mk', q1, q2, q3, q4, q5, q6, q7, q8, q9, q10, q11⟩ hD
                have hmm : mk' = m1 := by
                  have := q11.out; rw [List.drop_length] at this; simpa [Mem.scanFields] using this
                subst hmm
                have hDn : WE.heap.size ∉ Ds := fun q => by have := hDlt _ q; omega
                have hszc : ∀ q, Calls Try.prog 112 #[.pointer (some ⟨L.b, 0, none⟩), .pointer (some ⟨L.n.b, 0, none⟩), .int .i64 a] (A.drewN q) fun e w' => e = .returned (.int .i64 (n : Int)) ∧ ∃ k, w' = A.drewN k :=
                  fun q => Calls.quiet_of (c_size (A.drewN q) (L.mbTo mb) mk' (q1.rep.drewN q) .n a n hszH.out)
                have hn61 : n ≤ 61 ∧ 1 ≤ n := by
                  have := hszH.out
                  unfold Mem.size at this
                  obtain ⟨l, hl1, hl2⟩ := Option.map_eq_some_iff.1 this
                  have := (q1.rep.fields (s := mk'.now) hl1).2.1
                  omega
                have hopn : ∀ D ∈ WE.heap.size :: Ds, mb < D ∧ (Value.slice vp roots.length vcap).ownBlock ≠ some D ∧ A.heap[D]? = some (.deferred (some [])) := fun D hD' => by
                  rcases List.mem_cons.1 hD' with e | e
                  · rw [e]; exact ⟨by omega, fun e => by have := (hvo _ e).2.2; omega, hD⟩
                  · exact ⟨(hop2 D e).1, (hop2 D e).2.1, q9 D e⟩
                have y0 : A.cell? ⟨B, 0, none⟩ = some (.pointer (some ⟨L.b, 0, none⟩)) := by rw [cell_of q1.b0]; rfl
                have y2 : A.cell? ⟨L.b, 2, none⟩ = some (.pointer (some ⟨L.n.b, 0, none⟩)) := q1.rep.c2
                have wn : IntKind.i64.wrap (a + (n : Int)) = a + (n : Int) := IntWalk.i64_in _ (by omega)
                have hq2 := q2.trans hfrH.out
                have hq3 := q3.trans hwlH.out
                have hqH := Lib.hid (And.intro hq2 hq3)
                have hltN : a < (fr : Int) + (wl : Int) := by rw [← hfrH.out, ← hwlH.out]; omega
                clear hq2 hq3 q2 q3 q4 q5 q6 q7 q8 q9 q11
                go_wp2_with (fail)
                go_quiet ((go_at_call 112; exact hszc _))
                go_wp2
                refine ⟨⟨(WE.heap.size :: Ds), rfl, rfl, rfl, rfl, rfl, ?_⟩, ?_⟩
                · exact ⟨a + (n : Int), mk', rfl, by omega, q1.drewN nq, hqH.out.1, hqH.out.2, List.nodup_cons.2 ⟨hDn, hnd⟩, hopn, q10.drewN nq, hst2H⟩
                · show fr + wl + 1 - (intOf (.int .i64 (a + (n : Int)))).toNat < fr + wl + 1 - (intOf (.int .i64 a)).toNat
                  simp [intOf]; omega
            · have hmm := scanAll_end hst.out hlt
              subst hmm
              clear hst
              go_wp2_with (fail)
              go_quiet (fail)
              have hM2 := hM.drewN nq
              have hF2 := hF.drewN nq
              have hop2 : ∀ D ∈ Ds, mb < D ∧ (Value.slice vp roots.length vcap).ownBlock ≠ some D ∧ (wr.drewN nq).heap[D]? = some (.deferred (some [])) := hop
              clear hM hF hop x0 x2 n1 n2
              generalize wr.drewN nq = W at *
              have x0 : W.cell? ⟨B, 0, none⟩ = some (.pointer (some ⟨L.b, 0, none⟩)) := by rw [cell_of hM2.b0]; rfl
              have x7 : W.cell? ⟨L.b, 7, none⟩ = some (.map (some mb)) := hM2.rep.c7
              have z7 : W.frozen? ⟨L.b, 7, none⟩ = false := hM2.rep.fb 7
              have hBm := hM2.mbB
              have hmbLt := hM2.fpl L.mb (MemRep.mem_fp.2 (.inr (.inl rfl)))
              have hLbLt := hM2.fpl L.b (MemRep.mem_fp.2 (.inl rfl))
              have f7 : Fr (fun k => k = L.b) W (W.setCell ⟨L.b, 7, none⟩ (.map (some L.mb))) := (Fr.refl _ W).setCell _ _ (.inl rfl)
              have hblk0 : W.heap[L.b]? = some (memBlock (L.mbTo mb) mk) := hM2.rep.blk
              have h7 : MemRep (W.setCell ⟨L.b, 7, none⟩ (.map (some L.mb))) L { mk with moved := m.moved } :=
                hM2.rep.reMap (mb' := L.mb) (m' := { mk with moved := m.moved }) (by show (W.setCell ⟨L.b, 7, none⟩ (.map (some L.mb))).heap[L.b]? = _; rw [heap_setCell_same _ hblk0]; rfl) f7 hM2.old hM2.nmb (h.dj L.mb (MemRep.mem_fp.2 (.inr (.inl rfl)))) ⟨rfl, rfl, rfl, rfl, rfl⟩ hM2.rep.sc0 hM2.rep.sc1 hM2.rep.lf0 hM2.rep.lf1
              have b07 := f7.blk hM2.b0 (by omega)
              have F7 : Fr (fun j => j ∈ L.fp ∨ B ≤ j) w (W.setCell ⟨L.b, 7, none⟩ (.map (some L.mb))) := hF2.trans (f7.mono fun j _ e => .inl (by rw [e]; exact MemRep.mem_fp.2 (.inl rfl)))
              have hop7 : ∀ D ∈ Ds, mb < D ∧ (Value.slice vp roots.length vcap).ownBlock ≠ some D ∧ (W.setCell ⟨L.b, 7, none⟩ (.map (some L.mb))).heap[D]? = some (.deferred (some [])) := fun D hD =>
                ⟨(hop2 D hD).1, (hop2 D hD).2.1, f7.blk (hop2 D hD).2.2 (by have := (hop2 D hD).1; omega)⟩
              have o7 := hM2.out.of_blocks (w' := W.setCell ⟨L.b, 7, none⟩ (.map (some L.mb))) fun k hk hl => f7.block k hl (by omega)
              have y1 := h7.c1
              have y0 : (W.setCell ⟨L.b, 7, none⟩ (.map (some L.mb))).cell? ⟨B, 0, none⟩ = some (.pointer (some ⟨L.b, 0, none⟩)) := by rw [cell_of b07]; rfl
              go_wp2_with (fail)
              clear x0 x7 z7 f7 hop2
              generalize W.setCell ⟨L.b, 7, none⟩ (.map (some L.mb)) = W2 at *
              refine (c_empty W2 L.y mk.young h7.y).mono ?_
              rintro e W3 ⟨rfl, h3, f3⟩
              have h8 := h7.upd .y h3 f3
              have hyB : ∀ j, j ∈ L.y.fp → j < B := fun j hj => hM2.fpl j (MemRep.spfp (wh := .y) hj)
              have b08 := f3.blk b07 (fun q => by have := hyB _ q; omega)
              have F8 := F7.trans (f3.mono fun j _ hj => .inl (MemRep.spfp (wh := .y) hj))
              have hop8 : ∀ D ∈ Ds, mb < D ∧ (Value.slice vp roots.length vcap).ownBlock ≠ some D ∧ W3.heap[D]? = some (.deferred (some [])) := fun D hD =>
                ⟨(hop7 D hD).1, (hop7 D hD).2.1, f3.blk (hop7 D hD).2.2 (fun q => by have := hyB _ q; have := (hop7 D hD).1; omega)⟩
              have o8 := o7.of_blocks (w' := W3) fun k hk hl => f3.block k hl (fun q => by have := hyB _ q; omega)
              have x0 : W3.cell? ⟨B, 0, none⟩ = some (.pointer (some ⟨L.b, 0, none⟩)) := by rw [cell_of b08]; rfl
              have x4 := h8.c4
              have z4 := h8.fb 4
              clear y0 y1 hop7 o7 F7 b07
              have f9 : Fr (fun k => k = L.b) W3 (W3.setCell ⟨L.b, 4, none⟩ (.slice none 0 0)) := (Fr.refl _ W3).setCell _ _ (.inl rfl)
              have h9 := h8.noKnown (w' := W3.setCell ⟨L.b, 4, none⟩ (.slice none 0 0)) (by rw [heap_setCell_same _ h8.blk]; rfl) f9
              have F9 : Fr (fun j => j ∈ L.fp ∨ B ≤ j) w (W3.setCell ⟨L.b, 4, none⟩ (.slice none 0 0)) := F8.trans (f9.mono fun j _ e => .inl (by rw [e]; exact MemRep.mem_fp.2 (.inl rfl)))
              have hop9 : ∀ D ∈ Ds, (W3.setCell ⟨L.b, 4, none⟩ (.slice none 0 0)).heap[D]? = some (.deferred (some [])) := fun D hD => f9.blk (hop8 D hD).2.2 (by have := (hop8 D hD).1; omega)
              have o9 := o8.of_blocks (w' := W3.setCell ⟨L.b, 4, none⟩ (.slice none 0 0)) fun k hk hl => f9.block k hl (by omega)
              have hDs : ∀ D ∈ Ds, mb < D ∧ (Value.slice vp roots.length vcap).ownBlock ≠ some D := fun D hD => ⟨(hop8 D hD).1, (hop8 D hD).2.1⟩
              clear hop8 o8 F8 b08
              go_wp2
              have hsub : ∀ j, j ∈ ML.fp { L with kv := .slice none 0 0 } → j ∈ L.fp := fun j hj => by
                rcases MemRep.mem_fp.1 hj with q | q | q | q | q | q
                · exact MemRep.mem_fp.2 (.inl q)
                · exact MemRep.mem_fp.2 (.inr (.inl q))
                · exact MemRep.mem_fp.2 (by simp only at q; simp [q])
                · exact MemRep.mem_fp.2 (by simp only at q; simp [q])
                · exact MemRep.mem_fp.2 (by simp only at q; simp [q])
                · simp [kvBlocks] at q
              have hBw := hB'.out
              refine leaves_marks Ds _ hnd hop9 (fun w' hw' => ⟨_, results_tmp rfl _ _ _, .slice vp roots.length vcap, { L with kv := .slice none 0 0 }, rfl, ?_, ⟨rfl, rfl, rfl, fun k hk => .inl (hsub k hk), ?_⟩, ?_⟩)
              · exact h9.fr hw' (fun k hk q => by have := hM2.fpl k (hsub k hk); have := (hDs k q).1; omega) (fun k hk q => by have := hM2.Dl k hk; have := (hDs k q).1; omega)
              · refine (F9.trans (hw'.mono fun j _ q => .inr (by have := (hDs j q).1; omega))).mono fun j hj q => q.elim id (fun q => by omega)
              · exact (o9.own hw' (fun k q => (hDs k q).2)).mono fun k hk hl => ⟨by omega, fun q => by have := hM2.fpl k (hsub k q); omega⟩
end Go.Proofs.Ytnedmmopkhmejaa
