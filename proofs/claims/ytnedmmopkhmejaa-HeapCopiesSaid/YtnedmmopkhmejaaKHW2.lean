/- Walks of the methods of spaces that write. -/
import Derived.Test.YtnedmmopkhmejaaKHW1
import Derived.StillTailTactics
set_option linter.unusedVariables false
set_option linter.unusedSimpArgs false
namespace Go.Proofs.Ytnedmmopkhmejaa
open Go.RowKit Go.Proofs.Hp

theorem Try.zeroInt (w : World) : (zeroValue 3).run Try.prog w = .ok (.int .i64 0) w := by kernel_rfl
theorem Try.zeroBool (w : World) : (zeroValue 4).run Try.prog w = .ok (.bool false) w := by kernel_rfl

theorem zeroCells_one (z : Value) (n : Nat) : (Builtin.zeroCells #[z] n).toList = List.replicate n z := by
  simp [Builtin.zeroCells]
  apply List.ext_getElem
  · simp
  · intro i h1 h2
    simp [Nat.mod_one]

/-- 'clear' at a row of a known block. -/
theorem run_clear_row {P : Program} (w : World) (t e ty : TypeId) (z : Value) (ht : P.underlying t = some (.slice e)) (hv : ∀ w, (zeroValue e).run P w = .ok z w) (hz : z.cells = #[z]) (h1 : z.oneCell' = true) (b o n cp : Nat) (hn : 0 < n)
    (c : Array Value) (T : TypeId) (hb : w.heap[b]? = some (.cells c T (0, 0))) (hc : o + n ≤ c.size) :
    (Builtin.clear_ #[t] ty #[.slice (some ⟨b, o, none⟩) n cp]).run P w = .ok (.tuple #[]) (w.setRow b (c.toList.take o ++ List.replicate n z ++ c.toList.drop (o + n)).toArray) := by
  have hst := run_storeCells_at (P := P) b o T (List.replicate n z) 0 c w hb (by simpa using hc) (by intro v hv'; rw [List.eq_of_mem_replicate hv']; exact h1)
  simp only [Nat.add_zero, List.length_replicate] at hst
  obtain ⟨m, rfl⟩ : ∃ m, n = m + 1 := ⟨n - 1, by omega⟩
  simp [Builtin.clear_, run_underlying ht, hv, hz, zeroCells_one, hst]

set_option maxRecDepth 100000 in
theorem c_take (w : World) (L : SpL) (s : Sp) (h : SpRep w L s) (n : Nat) (hn : 0 < n) (hr : s.used + n ≤ s.words.length) :
    Calls Try.prog 115 #[.pointer (some ⟨L.b, 0, none⟩), .int .i64 n] w fun e w' => e = .returned (.int .i64 s.top) ∧ SpRep w' L (s.taken n) ∧ Fr (fun k => k = L.b ∨ k = L.wb) w w' := by
  obtain ⟨c, hc, hcs, hset⟩ := h.setWords s.used (List.replicate n 0) (by simpa using hr)
  simp only [List.map_replicate, List.length_replicate] at hset hcs
  have hc0 := h.c0
  have hc1 := h.c1
  have hc2 := h.c2
  have hb := h.b1
  have hb2 := h.b2
  have hle := h.le
  have hwc := h.wc
  have hfb := h.fb 2
  have e1 : IntKind.i64.wrap ((s.frm : Int) + (s.used : Int)) = (s.frm : Int) + (s.used : Int) := IntWalk.i64_in _ (by omega)
  have e2 : IntKind.i64.wrap ((s.used : Int) + (n : Int)) = (s.used : Int) + (n : Int) := IntWalk.i64_in _ (by omega)
  go_enter Try.func115, Try.ntmps115
  go_wp2
  go_quiet (fail)
  go_wp2
  refine wp_region_still_tail 15 (by kernel_rfl) (by kernel_rfl) ?_
  show wpStill _ _ (w.drewN (nq + 1)) (fun a' => wpList _ _ _ _ a' (w.drewN (nq + 1))) _ _
  simp only [List.take_succ_cons, List.take_zero, List.drop_succ_cons, List.drop_zero]
  obtain ⟨w1, hw1⟩ : ∃ w1, (w.drewN (nq + 1)).setRow L.wb (c.toList.take s.used ++ List.replicate n (Value.int .i64 0) ++ c.toList.drop (s.used + n)).toArray = w1 := ⟨_, rfl⟩
  have hcl : ∀ ty, (Builtin.clear_ #[34] ty #[.slice (some ⟨L.wb, s.used, none⟩) n (L.wc - s.used)]).run Try.prog (w.drewN (nq + 1)) = .ok (.tuple #[]) w1 := fun ty => by
    rw [← hw1]
    exact run_clear_row (P := Try.prog) (w.drewN (nq + 1)) 34 3 ty (.int .i64 0) Try.underlying34 Try.zeroInt rfl rfl L.wb s.used n _ hn c 3 hc hcs
  have h1 : SpRep w1 L { s with words := s.words.take s.used ++ List.replicate n 0 ++ s.words.drop (s.used + n) } := by rw [← hw1]; exact hset.of_blocks (fun _ _ => rfl)
  have f1 : Fr (fun k => k = L.b ∨ k = L.wb) w w1 := by rw [← hw1]; exact ((Fr.refl _ w).drewN _).setRow _ _ (.inl (.inr rfl))
  have d2 := h1.c2
  have d3 := h1.fb 2
  simp only at d2
  clear hw1 hset
  have e3 : ((s.used : Int) + (n : Int)).toNat - s.used = n := by omega
  have k1 : (0 : Int) ≤ (s.used : Int) + (n : Int) := by omega
  have k2 : (s.used : Int) + (n : Int) ≤ (L.wc : Int) := by omega
  have k3 : (s.used : Int) ≤ (s.used : Int) + (n : Int) := by omega
  have k4 : ¬ (L.wc = s.used) := by omega
  repeat still_step
  refine wpStill_nil ?_
  go_wp2
  go_ret
  refine ⟨rfl, ?_, ?_⟩
  · have := h1.setUsed (u := s.used + n) (by simp; omega)
    simpa [Sp.taken] using this
  · exact f1.setCell _ _ (.inl (.inl rfl))

set_option maxRecDepth 100000 in
theorem c_lay (w : World) (L : SpL) (s : Sp) (h : SpRep w L s) (n : Nat) (sh : Int) (hn : 0 < n) (hr : s.used + n ≤ s.words.length) :
    Calls Try.prog 84 #[.pointer (some ⟨L.b, 0, none⟩), .int .i64 n, .int .i64 sh] w fun e w' => e = .returned (.int .i64 s.top) ∧ SpRep w' L (s.lay n sh) ∧ Fr (fun k => k ∈ L.fp) w w' := by
  have hb := h.b1
  have hb2 := h.b2
  have hlen := h.len
  go_enter Try.func84, Try.ntmps84
  go_wp2_with (fail)
  refine (c_take w L s h n hn hr).mono ?_
  rintro e w1 ⟨rfl, h1, f1⟩
  have c1 : w1.cell? ⟨L.b, 1, none⟩ = some (.int .i64 s.frm) := h1.c1
  have c3 : w1.cell? ⟨L.b, 3, none⟩ = some (.slice (some ⟨L.sb, 0, none⟩) s.starts.length L.sc) := h1.c3
  have l1 : (s.taken n).words.length = s.words.length := by simp [Sp.taken]; omega
  have hsc := h1.start (i := s.used) (by omega)
  have hsf := h1.fs s.used
  have e1 : IntKind.i64.wrap (s.top - (s.frm : Int)) = (s.used : Int) := by
    rw [show s.top - (s.frm : Int) = (s.used : Int) by simp [Sp.top]; omega]; exact IntWalk.i64_in _ (by omega)
  have k1 : (s.used : Int) < (s.starts.length : Int) := by omega
  have h2 := (h1.drewN 1).setStart (i := s.used) (by omega) true
  have f2 : Fr (fun k => k ∈ L.fp) w ((w1.drewN 1).setCell ⟨L.sb, s.used, none⟩ (.bool true)) :=
    ((f1.mono (fun k _ h => by rcases h with rfl | rfl <;> simp [SpL.fp])).drewN 1).setCell _ _ (.inl (by simp [SpL.fp]))
  clear l1 hlen
  go_wp2_with (fail)
  refine wp_region_still_tail 12 (by kernel_rfl) (by kernel_rfl) ?_
  show wpStill _ _ (w1.drewN 1) (fun a' => wpList _ _ _ _ a' (w1.drewN 1)) _ _
  simp only [List.take_succ_cons, List.take_zero, List.drop_succ_cons, List.drop_zero]
  repeat still_step
  refine wpStill_nil ?_
  go_wp2_with (fail)
  generalize (w1.drewN 1).setCell ⟨L.sb, s.used, none⟩ (.bool true) = w2 at *
  have hk : s.used + n ≤ (s.taken n).words.length := by simp [Sp.taken]; omega
  have cw := c_word w2 L _ h2 s.top (by simp [Sp.ok, Sp.top, Sp.taken]; omega)
  rw [show Sp.idx _ s.top = s.used by simp [Sp.idx, Sp.top, Sp.taken]; omega] at cw
  refine cw.mono ?_
  rintro e w3 ⟨rfl, n3, rfl⟩
  have hwc := h2.word (i := s.used) (by simp; omega)
  have hwf := h2.fw s.used
  clear hk
  go_wp2
  go_ret
  refine ⟨rfl, ?_, ?_⟩
  · have := (h2.drewN n3).setWord (i := s.used) (by simp [Sp.taken]; omega) sh
    simpa [Sp.lay, Sp.taken] using this
  · exact (f2.drewN _).setCell _ _ (.inl (by simp [SpL.fp]))

set_option maxRecDepth 100000 in
theorem c_empty (w : World) (L : SpL) (s : Sp) (h : SpRep w L s) :
    Calls Try.prog 82 #[.pointer (some ⟨L.b, 0, none⟩)] w fun e w' => e = .returned (.tuple #[]) ∧ SpRep w' L s.empty ∧ Fr (fun k => k ∈ L.fp) w w' := by
  have h1 : SpRep (w.setCell ⟨L.b, 2, none⟩ (.int .i64 0)) L { s with used := 0 } := h.setUsed (u := 0) (by omega)
  have f1 : Fr (fun k => k ∈ L.fp) w (w.setCell ⟨L.b, 2, none⟩ (.int .i64 0)) := (Fr.refl _ _).setCell _ _ (.inl (by simp [SpL.fp]))
  have hn := h.pos
  have hlen := h.len
  have c2 := h.c2
  have fb2 := h.fb 2
  obtain ⟨w1, hw1⟩ : ∃ w1, w.setCell ⟨L.b, 2, none⟩ (.int .i64 0) = w1 := ⟨_, rfl⟩
  rw [hw1] at h1 f1
  have c3 : w1.cell? ⟨L.b, 3, none⟩ = some (.slice (some ⟨L.sb, 0, none⟩) s.starts.length L.sc) := h1.c3
  obtain ⟨c, hc, hcs, hset⟩ := h1.ss.setRow 0 (List.replicate s.starts.length (.bool false)) (by simp)
  simp only [List.length_replicate] at hcs hset
  obtain ⟨w2, hw2⟩ : ∃ w2, w1.setRow L.sb (c.toList.take 0 ++ List.replicate s.starts.length (Value.bool false) ++ c.toList.drop (0 + s.starts.length)).toArray = w2 := ⟨_, rfl⟩
  have hcl : ∀ ty, (Builtin.clear_ #[73] ty #[.slice (some ⟨L.sb, 0, none⟩) s.starts.length L.sc]).run Try.prog w1 = .ok (.tuple #[]) w2 := fun ty => by
    rw [← hw2]
    exact run_clear_row (P := Try.prog) w1 73 4 ty (.bool false) Try.underlying73 Try.zeroBool rfl rfl L.sb 0 s.starts.length _ (by omega) c 4 hc hcs
  have h2 : SpRep w2 L s.empty := by
    have e1 := h1.ne2
    have e2 := h1.ne3
    refine ⟨?_, ?_, ?_, h1.nd, h1.pos, by simp [Sp.empty], by simp [Sp.empty, hlen], h1.b1, h1.b2, h1.wc, by simpa [Sp.empty] using h1.sc⟩
    · rw [← hw2, setRow_other _ _ _ _ e1, h1.blk]; simp [spBlock, Sp.empty]
    · exact h1.ws.of_block (by rw [← hw2, setRow_other _ _ _ _ e2])
    · rw [hw2] at hset; simpa [Sp.empty, List.drop_of_length_le] using hset
  have f2 : Fr (fun k => k ∈ L.fp) w w2 := by rw [← hw2]; exact f1.setRow _ _ (.inl (by simp [SpL.fp]))
  clear hw2 hset hlen hc hcs
  go_enter Try.func82, Try.ntmps82
  go_wp2_with (fail)
  go_end0
  exact ⟨rfl, h2, f2⟩

/-- 'make' of n one-cell elements. -/
theorem run_made {P : Program} (w : World) (t e : TypeId) (i : TypeInfo) (z : Value) (ht : P.underlying t = some (.slice e)) (hi : P.info? e = some i) (hz : i.zero = some z) (hc : z.cells = #[z]) (hs : i.size = 1) (hb : i.bytes ≤ 100) (n : Nat) (hn : n ≤ 1048576) :
    (Instr.makeSlice t (.int .i64 n) (.int .i64 n)).run P w = .ok (.slice (some ⟨w.heap.size, 0, none⟩) n n) (w.alloc (.cells (List.replicate n z).toArray e)) := by
  have hbn : i.bytes * n ≤ 100 * 1048576 := Nat.mul_le_mul hb hn
  have hbi : (i.bytes : Int) * (n : Int) ≤ 100 * 1048576 := by have := Int.ofNat_le.2 hbn; rwa [Int.natCast_mul] at this
  rw [run_makeSlice w t e i z ht hi hz .i64 .i64 n n (by omega) (by omega) (by rw [hs]; rw [Int.toNat_natCast]; omega) (by omega) (by omega)]
  have hm : madeCells z.cells ((n : Int).toNat * i.size) = (List.replicate n z).toArray := by
    rw [hc, hs]
    simp [madeCells]
    apply Array.ext
    · simp
    · intro k h1 h2; simp [Nat.mod_one]
  rw [hm]; simp only [Int.toNat_natCast]

theorem Try.infoI : (Try.prog.info? 3).map (fun i => (i.zero, i.size, i.bytes)) = some (some (.int .i64 0), 1, 8) := by kernel_rfl
theorem Try.infoB : (Try.prog.info? 4).map (fun i => (i.zero, i.size, i.bytes)) = some (some (.bool false), 1, 1) := by kernel_rfl

theorem run_make_ints (w : World) (n : Nat) (hn : n ≤ 1048576) : (Instr.makeSlice 34 (.int .i64 n) (.int .i64 n)).run Try.prog w = .ok (.slice (some ⟨w.heap.size, 0, none⟩) n n) (w.alloc (.cells (List.replicate n (Value.int .i64 0)).toArray 3)) := by
  obtain ⟨i, h1, h2, h3, h4⟩ := info_parts Try.infoI
  exact run_made w _ _ i _ Try.underlying34 h1 h2 rfl h3 (by omega) n hn
theorem run_make_bools (w : World) (n : Nat) (hn : n ≤ 1048576) : (Instr.makeSlice 73 (.int .i64 n) (.int .i64 n)).run Try.prog w = .ok (.slice (some ⟨w.heap.size, 0, none⟩) n n) (w.alloc (.cells (List.replicate n (Value.bool false)).toArray 4)) := by
  obtain ⟨i, h1, h2, h3, h4⟩ := info_parts Try.infoB
  exact run_made w _ _ i _ Try.underlying73 h1 h2 rfl h3 (by omega) n hn

theorem row_new {w : World} {b : Nat} {T : TypeId} {vs : List Value} (h : w.heap[b]? = some (.cells vs.toArray T (0, 0))) : Row w b T vs := ⟨_, h, by simp, by simp⟩

set_option maxRecDepth 100000 in
theorem c_spaceOf (w : World) (frm n : Nat) (hf : frm ≤ 1048576) (hp : 0 < n) (hn : n ≤ 1048576) :
    Calls Try.prog 45 #[.int .i64 frm, .int .i64 n] w fun e w' => ∃ L : SpL, e = .returned (.pointer (some ⟨L.b, 0, none⟩)) ∧ SpRep w' L (Sp.fresh frm n) ∧ (∀ k ∈ L.fp, w.heap.size ≤ k) ∧ Fr (fun _ => False) w w' := by
  have hi := fun w => run_make_ints w n hn
  have hb := fun w => run_make_bools w n hn
  go_enter Try.func45, Try.ntmps45
  go_wp2
  go_region
  · go_wp2
    go_ret
    refine ⟨⟨w.heap.size + 1 + 1, w.heap.size, n, w.heap.size + 1, n⟩, rfl, ⟨?_, ?_, ?_, ?_, by simpa [Sp.fresh] using hp, by simp [Sp.fresh], by simp [Sp.fresh], by simpa [Sp.fresh] using hn, by simpa [Sp.fresh] using hf, by simp [Sp.fresh], by simp [Sp.fresh]⟩, ?_, ?_⟩
    · exact (al3 w _ _ _).2.2.trans (by simp [spBlock, Sp.fresh])
    · exact row_new ((al3 w _ _ _).1.trans (by simp [Sp.fresh]))
    · exact row_new ((al3 w _ _ _).2.1.trans (by simp [Sp.fresh]))
    · simp [SpL.fp]; omega
    · intro k hk; simp [SpL.fp] at hk; omega
    · exact ((((Fr.refl _ w).alloc _).alloc _).alloc _).drew
  · go_wp2
    go_ret
    refine ⟨⟨w.heap.size + 1 + 1, w.heap.size + 1, n, w.heap.size, n⟩, rfl, ⟨?_, ?_, ?_, ?_, by simpa [Sp.fresh] using hp, by simp [Sp.fresh], by simp [Sp.fresh], by simpa [Sp.fresh] using hn, by simpa [Sp.fresh] using hf, by simp [Sp.fresh], by simp [Sp.fresh]⟩, ?_, ?_⟩
    · exact (al3 w _ _ _).2.2.trans (by simp [spBlock, Sp.fresh])
    · exact row_new ((al3 w _ _ _).2.1.trans (by simp [Sp.fresh]))
    · exact row_new ((al3 w _ _ _).1.trans (by simp [Sp.fresh]))
    · simp [SpL.fp]; omega
    · intro k hk; simp [SpL.fp] at hk; omega
    · exact ((((Fr.refl _ w).alloc _).alloc _).alloc _).drew
end Go.Proofs.Ytnedmmopkhmejaa
