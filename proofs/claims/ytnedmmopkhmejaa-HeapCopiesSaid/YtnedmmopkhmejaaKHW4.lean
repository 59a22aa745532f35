/- The walk of 'forward'. -/
import Derived.Test.YtnedmmopkhmejaaKHW3
import Derived.Test.YtnedmmopkhmejaaKHMap
set_option linter.unusedVariables false
set_option linter.unusedSimpArgs false
namespace Go.Proofs.Ytnedmmopkhmejaa
open Go.RowKit Go.Proofs.Hp

/-- Where a word that is forwarded may lie: outside the memory, among the taken words of the present half, in the young space. -/
def Loc (L : ML) (m : Mem) (pb po : Nat) : Prop := (pb ∉ L.fp ∧ ¬ L.D pb) ∨ (pb = L.n.wb ∧ po < m.now.used) ∨ pb = L.y.wb

/-- What 'forward' leaves. -/
def Fwd (L : ML) (m m' : Mem) (pb po : Nat) (a to : Int) (w : World) (e : Ending) (w' : World) : Prop :=
  e = .returned (.tuple #[]) ∧ ∃ w1, MemRep w1 L m' ∧ Fr (fun k => k ∈ L.fp) w w1 ∧ w1.cell? ⟨pb, po, none⟩ = some (.int .i64 a) ∧ w1.frozen? ⟨pb, po, none⟩ = false ∧
    (w' = w1.setCell ⟨pb, po, none⟩ (.int .i64 to) ∨ (w' = w1 ∧ to = a))

theorem c_forward_no (w : World) (L : ML) (m : Mem) (h : MemRep w L m) (y : Bool) (pb po : Nat) (a : Int)
    (hp : w.cell? ⟨pb, po, none⟩ = some (.int .i64 a)) (hpf : w.frozen? ⟨pb, po, none⟩ = false) (hb : (m.sp (Mem.src y)).begins a = false) :
    Calls Try.prog 81 #[.pointer (some ⟨L.b, 0, none⟩), .pointer (some ⟨(L.spL (Mem.src y)).b, 0, none⟩), .pointer (some ⟨pb, po, none⟩)] w (Fwd L m m pb po a a w) := by
  have hc := c_begins w _ _ (h.spR (Mem.src y)) a
  rw [hb] at hc
  clear hb
  go_enter Try.func81, Try.ntmps81
  go_wp2_with (fail)
  refine hc.mono ?_
  rintro e w1 ⟨rfl, n, rfl⟩
  go_wp2
  refine bodyPost_ret (v := .tuple #[]) (results_none rfl _ _ _) rfl ?_
  exact ⟨rfl, _, h.drewN n, (Fr.refl _ w).drewN n, hp, hpf, .inr ⟨rfl, rfl⟩⟩

theorem c_forward_had (w : World) (L : ML) (m : Mem) (h : MemRep w L m) (y : Bool) (pb po : Nat) (a to : Int)
    (hp : w.cell? ⟨pb, po, none⟩ = some (.int .i64 a)) (hpf : w.frozen? ⟨pb, po, none⟩ = false) (hb : (m.sp (Mem.src y)).begins a = true) (hl : m.look a = some to) :
    Calls Try.prog 81 #[.pointer (some ⟨L.b, 0, none⟩), .pointer (some ⟨(L.spL (Mem.src y)).b, 0, none⟩), .pointer (some ⟨pb, po, none⟩)] w (Fwd L m m pb po a to w) := by
  have hc := c_begins w _ _ (h.spR (Mem.src y)) a
  rw [hb] at hc
  have hlk := fun n => run_lookup_ints (P := Try.prog) (w.drewN n) 97 3 3 Try.underlying97 Try.underlying3 Try.zeroInt L.mb m.moved (h.drewN n).mv a
  rw [show m.moved.lookup a = some to from hl] at hlk
  simp only [Option.getD_some, Option.isSome_some] at hlk
  have h7 := h.c7
  clear hb hl
  go_enter Try.func81, Try.ntmps81
  go_wp2_with (fail)
  refine hc.mono ?_
  rintro e w1 ⟨rfl, n, rfl⟩
  replace hlk := hlk n
  go_wp2
  go_end0
  exact ⟨rfl, _, h.drewN n, (Fr.refl _ w).drewN n, hp, hpf, .inl rfl⟩

theorem Sp.idx_lt {w : World} {L : SpL} {s : Sp} (h : SpRep w L s) {a : Int} (hb : s.begins a = true) : (s.frm : Int) ≤ a ∧ a < (s.frm : Int) + (s.used : Int) ∧ s.idx a < s.used := by
  simp only [Sp.begins, Sp.has, Bool.and_eq_true, decide_eq_true_eq] at hb
  have := hb.1
  refine ⟨this.1, this.2, ?_⟩
  unfold Sp.idx; omega

theorem Try.infoSp : (Try.prog.info? 117).map (fun i => (i.zero, i.size, i.bytes)) = some (some (.agg #[.slice none 0 0, .int .i64 0, .int .i64 0, .slice none 0 0]), 4, 64) := by kernel_rfl

theorem copy_words (w : World) (L LS : SpL) (s sS : Sp) (h : SpRep w L s) (hS : SpRep w LS sS) (i n j : Nat) (dCap sCap : Nat) (hi : i + n ≤ s.words.length) (hj : j + n ≤ sS.words.length) :
    ∃ w', (∀ ty, (Builtin.copy_ #[34, 34] ty #[.slice (some ⟨L.wb, i, none⟩) (s.words.length - i) dCap, .slice (some ⟨LS.wb, j, none⟩) n sCap]).run Try.prog w = .ok (.int .i64 n) w') ∧
      SpRep w' L (s.paste i ((sS.words.drop j).take n)) ∧ Fr (fun k => k = L.wb) w w' := by
  have hl : ((sS.words.drop j).take n).length = n := by simp; omega
  obtain ⟨c, hc, hcs, hset⟩ := h.setWords i ((sS.words.drop j).take n) (by omega)
  rw [hl] at hcs hset
  refine ⟨_, fun ty => ?_, by unfold Sp.paste; rw [hl]; exact hset, (Fr.refl _ w).setRow _ _ (.inl rfl)⟩
  have hr := run_copy_row (P := Try.prog) w 34 34 ty 3 L.wb i (s.words.length - i) dCap ⟨LS.wb, j, none⟩ n sCap c 3 (((sS.words.drop j).take n).map (Value.int .i64)) Try.underlying34 (by kernel_rfl) hc
    (by rw [List.length_map, hl]; exact (Nat.min_eq_left (by omega)).symm)
    (by
      intro k v hk
      rw [List.getElem?_map, Option.map_eq_some_iff] at hk
      obtain ⟨x, hx, rfl⟩ := hk
      have hkn : k < n := by
        rcases Nat.lt_or_ge k n with q | q
        · exact q
        · rw [List.getElem?_eq_none (by omega)] at hx; cases hx
      have hadd : (⟨LS.wb, j, none⟩ : Addr).add k = ⟨LS.wb, j + k, none⟩ := by unfold Addr.add; split <;> simp_all
      rw [hadd, hS.word (i := j + k) (by omega)]
      rw [List.getElem?_take_of_lt hkn, List.getElem?_drop] at hx
      rw [List.getD_eq_getElem?_getD, hx]; rfl)
    (by rw [List.length_map, hl]; exact hcs) (by intro v hv; obtain ⟨x, _, rfl⟩ := List.mem_map.1 hv; rfl)
  rw [List.length_map, hl] at hr
  exact hr

theorem paste_lay_get (s : Sp) (n : Nat) (sh : Int) (xs : List Int) (po : Nat) (hx : xs.length = n) (hu : s.used + n ≤ s.words.length) (hp : po < s.used) :
    ((s.lay n sh).paste s.used xs).words.getD po 0 = s.words.getD po 0 := by
  simp only [Sp.paste, Sp.lay, List.getD_eq_getElem?_getD]
  rw [List.append_assoc, List.getElem?_append_left (by simp; omega), List.getElem?_take_of_lt hp, List.getElem?_set_ne (by omega), List.append_assoc, List.getElem?_append_left (by simp; omega), List.getElem?_take_of_lt hp]

set_option maxRecDepth 100000 in
set_option maxHeartbeats 1000000 in
theorem c_forward_move (w : World) (L : ML) (m : Mem) (h : MemRep w L m) (y : Bool) (pb po : Nat) (a : Int) (hloc : Loc L m pb po)
    (hp : w.cell? ⟨pb, po, none⟩ = some (.int .i64 a)) (hpf : w.frozen? ⟨pb, po, none⟩ = false) (hb : (m.sp (Mem.src y)).begins a = true) (hl : m.look a = none)
    (n : Nat) (hn : m.size (m.sp (Mem.src y)) a = some n) (hroom : m.now.used + n ≤ m.now.words.length) (hleft : y = true ∨ (n : Int) ≤ m.left)
    (hsrc : (m.sp (Mem.src y)).idx a + n ≤ (m.sp (Mem.src y)).words.length) :
    Calls Try.prog 81 #[.pointer (some ⟨L.b, 0, none⟩), .pointer (some ⟨(L.spL (Mem.src y)).b, 0, none⟩), .pointer (some ⟨pb, po, none⟩)] w
      (Fwd L m (m.move y a n) pb po a m.now.top w) := by
  have hc := c_begins w _ _ (h.spR (Mem.src y)) a
  rw [hb] at hc
  have hlk := fun k => run_lookup_ints (P := Try.prog) (w.drewN k) 97 3 3 Try.underlying97 Try.underlying3 Try.zeroInt L.mb m.moved (h.drewN k).mv a
  rw [show m.moved.lookup a = none from hl] at hlk
  simp only [Option.getD_none, Option.isSome_none] at hlk
  have hok := begins_ok (h.spR (Mem.src y)) hb
  have hidx := Sp.idx_lt (h.spR (Mem.src y)) hb
  have h7 := h.c7
  have hn0 : 0 < n := by
    unfold Mem.size at hn
    cases hq : m.fieldsAt (m.sp (Mem.src y)) a with
    | none => rw [hq] at hn; cases hn
    | some l => rw [hq] at hn; simp at hn; omega
  have hsne : Mem.src y ≠ .n := by cases y <;> simp [Mem.src]
  have hl' := Lib.hid hl
  have hn' := Lib.hid hn
  have hfix := Lib.hid (And.intro hroom (And.intro hleft (And.intro hsrc (And.intro hidx (And.intro hloc hsne)))))
  clear hb hl hn hroom hleft hsrc hidx hloc hsne
  go_enter Try.func81, Try.ntmps81
  go_wp2_with (fail)
  refine hc.mono ?_
  rintro e w1 ⟨rfl, n1, rfl⟩
  replace hlk := hlk n1
  go_wp2_with (fail)
  refine (c_size (w.drewN n1) L m (h.drewN n1) (Mem.src y) a n hn'.out).mono ?_
  rintro e w2 ⟨rfl, n2, rfl⟩
  -- the laying of the new object
  have h2 : MemRep ((w.drewN n1).drewN n2) L m := (h.drewN n1).drewN n2
  have f2 : Fr (fun k => k ∈ L.fp) w ((w.drewN n1).drewN n2) := ((Fr.refl _ w).drewN n1).drewN n2
  replace hp : ((w.drewN n1).drewN n2).cell? ⟨pb, po, none⟩ = some (.int .i64 a) := hp
  replace hpf : ((w.drewN n1).drewN n2).frozen? ⟨pb, po, none⟩ = false := hpf
  clear hlk h7 hc
  generalize (w.drewN n1).drewN n2 = w2 at *
  have c2 := h2.c2
  have hw := (h2.spR (Mem.src y)).getw hok
  have hbn : ¬ L.b ∈ L.n.fp := (h2.sp_b .n).1
  have hwn : ¬ (L.spL (Mem.src y)).wb ∈ L.n.fp := h2.spfp_ne (b := .n) hfix.out.2.2.2.2.2 (by simp [SpL.fp])
  go_wp2_with (fail)
  go_region_held3 (fun w' => w'.cell? ⟨L.b, 2, none⟩ = some (.pointer (some ⟨L.n.b, 0, none⟩)) ∧ w'.cell? ⟨(L.spL (Mem.src y)).wb, (m.sp (Mem.src y)).idx a, none⟩ = some (.int .i64 ((m.sp (Mem.src y)).get a))) (go_keep)
    (first
      | ((with_reducible refine (c_word _ _ _ ((h2.drew).spR (Mem.src y)) a hok).mono ?_); rintro e w3 ⟨rfl, n3, rfl⟩)
      | ((with_reducible refine (c_lay _ L.n m.now ((h2.drewN (1 + n3)).n) n _ hn0 hfix.out.1).mono ?_); rintro e w4 ⟨rfl, h4, f4⟩; have k2 := f4.cell (w := w2.drewN (1 + n3)) c2 hbn; have kw := f4.cell (w := w2.drewN (1 + n3)) hw hwn))
  -- the words are copied
  have m4 : MemRep w4 L { m with now := m.now.lay n ((m.sp (Mem.src y)).get a) } := (h2.drewN (1 + n3)).upd .n h4 f4
  have f4' : Fr (fun k => k ∈ L.fp) w w4 := (f2.drewN (1 + n3)).trans (f4.mono fun k _ hk => MemRep.spfp (wh := .n) hk)
  have hS : SpRep w4 (L.spL (Mem.src y)) (m.sp (Mem.src y)) := ((h2.drewN (1 + n3)).spR (Mem.src y)).fr f4 (fun k hk => h2.spfp_ne (b := .n) hfix.out.2.2.2.2.2 hk)
  have hll : (m.now.lay n ((m.sp (Mem.src y)).get a)).words.length = m.now.words.length := by have := hfix.out.1; simp [Sp.lay]; omega
  have hfr := (hfix.out.2.2.2.1)
  obtain ⟨hf1, hf2, hf3⟩ := hfr
  have hs1 := hS.b1
  have hs2 := hS.b2
  have hs3 := hS.wc
  have hs4 := hS.le
  have hd1 := h4.wc
  rw [hll] at hd1
  obtain ⟨w5, hcp, h5, f5⟩ := copy_words (w4.drewN 1) L.n (L.spL (Mem.src y)) _ _ (h4.drewN 1) (hS.drewN 1) m.now.used n (a.toNat - (m.sp (Mem.src y)).frm) (L.n.wc - m.now.used) ((L.spL (Mem.src y)).wc - (a.toNat - (m.sp (Mem.src y)).frm)) (by rw [hll]; exact hfix.out.1) (by have := hfix.out.2.2.1; simp only [Sp.idx] at this; exact this)
  rw [hll] at hcp
  have d0 : w4.cell? ⟨L.n.b, 0, none⟩ = some (.slice (some ⟨L.n.wb, 0, none⟩) m.now.words.length L.n.wc) := by have := h4.c0; rw [hll] at this; exact this
  have d1 : w4.cell? ⟨L.n.b, 1, none⟩ = some (.int .i64 m.now.frm) := h4.c1
  have g0 := hS.c0
  have g1 := hS.c1
  have hb2 := h2.n.b1
  have hb3 := h2.n.b2
  have hrm := hfix.out.1
  have hsr := hfix.out.2.2.1
  simp only [Sp.idx] at hsr hf3
  have e1 : IntKind.i64.wrap (m.now.top - (m.now.frm : Int)) = (m.now.used : Int) := by
    rw [show m.now.top - (m.now.frm : Int) = (m.now.used : Int) by simp [Sp.top]; omega]; exact IntWalk.i64_in _ (by omega)
  have e2 : IntKind.i64.wrap (a - ((m.sp (Mem.src y)).frm : Int)) = a - ((m.sp (Mem.src y)).frm : Int) := IntWalk.i64_in _ (by omega)
  have e3 : IntKind.i64.wrap (a - ((m.sp (Mem.src y)).frm : Int) + (n : Int)) = a - ((m.sp (Mem.src y)).frm : Int) + (n : Int) := IntWalk.i64_in _ (by omega)
  have k1 : (m.now.used : Int) ≤ (m.now.words.length : Int) := by omega
  have k2' : ¬ (L.n.wc = m.now.used) := by omega
  have k3 : 0 ≤ a - ((m.sp (Mem.src y)).frm : Int) := by omega
  have k4 : 0 ≤ a - ((m.sp (Mem.src y)).frm : Int) + (n : Int) := by omega
  have k5 : a - ((m.sp (Mem.src y)).frm : Int) + (n : Int) ≤ ((L.spL (Mem.src y)).wc : Int) := by omega
  have k6 : a - ((m.sp (Mem.src y)).frm : Int) ≤ max (a - ((m.sp (Mem.src y)).frm : Int) + (n : Int)) 0 := by omega
  have k8 : ((m.sp (Mem.src y)).frm : Int) ≤ a := by omega
  have k7 : ¬ ((L.spL (Mem.src y)).wc = a.toNat - (m.sp (Mem.src y)).frm) := by omega
  have e4 : (a - ((m.sp (Mem.src y)).frm : Int) + (n : Int)).toNat - (a.toNat - (m.sp (Mem.src y)).frm) = n := by omega
  have m5 : MemRep w5 L { m with now := (m.now.lay n ((m.sp (Mem.src y)).get a)).paste m.now.used (((m.sp (Mem.src y)).words.drop ((m.sp (Mem.src y)).idx a)).take n) } := (m4.drewN 1).upd .n h5 (f5.mono fun k _ hk => by subst hk; simp [ML.spL, SpL.fp])
  have j7 := m5.c7
  obtain ⟨w6, hmu, mv6, f6⟩ := run_mapUpdate_ints (P := Try.prog) w5 97 3 3 Try.underlying97 Try.underlying3 L.mb m.moved m5.mv a m.now.top hl'.out
  have m6 := m5.updMap mv6 f6
  have j3 := m6.c3
  have j8 : w6.cell? ⟨L.b, 8, none⟩ = some (.int .i64 m.left) := m6.c8
  have jf := m6.fb 8
  have hlf := m6.lf1
  have hlf0 := m6.lf0
  simp only at hlf hlf0
  have f46 : Fr (fun k => k ∈ L.n.fp ∨ k = L.mb) (w2.drewN (1 + n3)) w6 :=
    ((f4.mono (fun _ _ hk => .inl hk)).drewN 1).trans ((f5.mono (fun k _ hk => by subst hk; exact .inl (by simp [SpL.fp]))).trans (f6.mono (fun _ _ hk => .inr hk)))
  have hjp : w6.cell? ⟨pb, po, none⟩ = some (.int .i64 a) ∧ w6.frozen? ⟨pb, po, none⟩ = false ∧ pb ≠ L.b := by
    rcases hfix.out.2.2.2.2.1 with q | q | q
    · have hns : ¬ (pb ∈ L.n.fp ∨ pb = L.mb) := by
        rintro (t | t)
        · exact q.1 (MemRep.spfp (wh := .n) t)
        · exact q.1 (MemRep.mem_fp.2 (.inr (.inl t)))
      exact ⟨f46.cell hp hns, f46.free hp hpf hns, fun e => q.1 (MemRep.mem_fp.2 (.inl e))⟩
    · obtain ⟨rfl, hpo⟩ := q
      have hle := h2.n.le
      have hx := h2.n.word (i := po) (by omega)
      have hxa : m.now.words.getD po 0 = a := by
        have h3 := hx.symm.trans hp
        simpa using h3
      have hS' := hfix.out.2.2.1
      have hlen2 : (((m.sp (Mem.src y)).words.drop ((m.sp (Mem.src y)).idx a)).take n).length = n := by simp; omega
      have hroom := hfix.out.1
      have hz := m6.n.word (i := po) (by simp [Sp.paste, Sp.lay]; omega)
      rw [show ({ m with now := (m.now.lay n ((m.sp (Mem.src y)).get a)).paste m.now.used (((m.sp (Mem.src y)).words.drop ((m.sp (Mem.src y)).idx a)).take n), moved := m.moved ++ [(a, m.now.top)] } : Mem).now.words.getD po 0 = m.now.words.getD po 0 from paste_lay_get m.now n _ _ po hlen2 hroom hpo, hxa] at hz
      exact ⟨hz, m6.n.fw po, fun e => (h2.sp_b .n).1 (by rw [← e]; simp [ML.spL, SpL.fp])⟩
    · subst q
      have hns : ¬ (L.y.wb ∈ L.n.fp ∨ L.y.wb = L.mb) := by
        rintro (t | t)
        · exact h2.spfp_ne (a := .y) (b := .n) (by simp) (by simp [ML.spL, SpL.fp]) t
        · exact (h2.sp_b .y).2 (by rw [← t]; simp [ML.spL, SpL.fp])
      exact ⟨f46.cell hp hns, f46.free hp hpf hns, fun e => (h2.sp_b .y).1 (by rw [← e]; simp [ML.spL, SpL.fp])⟩
  obtain ⟨jp, jpf, hpb⟩ := hjp
  have hpb' : L.b ≠ pb := Ne.symm hpb
  have f26 : Fr (fun k => k ∈ L.fp) w w6 := (f2.drewN (1 + n3)).trans (f46.mono fun k _ hk => hk.elim (fun q => MemRep.spfp (wh := .n) q) (fun q => MemRep.mem_fp.2 (.inr (.inl q))))
  have heq : (binOp .eql 95 (.pointer (some ⟨(L.spL (Mem.src y)).b, 0, none⟩)) (.pointer (some ⟨L.o.b, 0, none⟩))).run Try.prog w6 = .ok (.bool (!y)) w6 := by
    obtain ⟨i, hi1, hi2, hi3, hi4⟩ := info_parts Try.infoSp
    cases y with
    | false => exact run_eql_ptr_same w6 ⟨L.o.b, 0, none⟩ Try.underlying95 hi1
    | true => exact run_eql_ptr_other w6 Try.underlying95 hi1 (by omega) (fun e => m6.spfp_ne (a := .y) (b := .o) (by simp) (k := L.y.b) (by simp [ML.spL, SpL.fp]) (by rw [show L.y.b = L.o.b from congrArg Addr.block e]; simp [ML.spL, SpL.fp])) m6.y.blk m6.o.blk
  clear hw hbn hwn kw hll hf1 hf2 hf3 hs1 hs2 hs3 hs4 hd1 hb2 hb3 hrm hsr hn0
  go_wp2_with (fail)
  clear m4 h4 f4
  cases y with
  | true =>
    simp only [Bool.not_true] at heq
    clear hlf hlf0
    refine wp_region_still_tail 41 (by kernel_rfl) (by kernel_rfl) ?_
    show wpStill _ _ (w4.drewN 1) (fun a' => wpList _ _ _ _ a' (w4.drewN 1)) _ _
    simp only [List.take_succ_cons, List.take_zero, List.drop_succ_cons, List.drop_zero]
    repeat still_step
    refine wpStill_nil ?_
    go_wp2
    go_end0
    exact ⟨rfl, w6, m6, f26, jp, jpf, .inl rfl⟩
  | false =>
    simp only [Bool.not_false] at heq
    have hleft : (n : Int) ≤ m.left := by have := hfix.out.2.1; simpa using this
    have e5 : IntKind.i64.wrap (m.left - (n : Int)) = m.left - (n : Int) := IntWalk.i64_in _ (by omega)
    have hjc : (w6.setCell ⟨L.b, 8, none⟩ (.int .i64 (m.left - (n : Int)))).cell? ⟨pb, po, none⟩ = some (.int .i64 a) := by
      rw [World.cell?_setCell_far _ _ _ _ hpb']; exact jp
    have m7 : MemRep (w6.setCell ⟨L.b, 8, none⟩ (.int .i64 (m.left - (n : Int)))) L (m.move false a n) :=
      m6.updBlk (by rw [heap_setCell_same _ m6.blk]; rfl) ((Fr.refl _ w6).setCell _ _ (.inl rfl)) ⟨rfl, rfl, rfl, rfl, rfl, rfl, rfl, rfl⟩ ⟨rfl, rfl, rfl, rfl, rfl, rfl⟩ m6.sc0 m6.sc1 (by simp [Mem.move]; omega) (by simp [Mem.move]; omega)
    clear hlf hlf0 hleft
    refine wp_region_still_tail 41 (by kernel_rfl) (by kernel_rfl) ?_
    show wpStill _ _ (w4.drewN 1) (fun a' => wpList _ _ _ _ a' (w4.drewN 1)) _ _
    simp only [List.take_succ_cons, List.take_zero, List.drop_succ_cons, List.drop_zero]
    repeat still_step
    refine wpStill_nil ?_
    go_wp2
    go_end0
    exact ⟨rfl, _, m7, f26.setCell _ _ (.inl (MemRep.mem_fp.2 (.inl rfl))), hjc, by rw [World.frozen?_setCell]; exact jpf, .inl rfl⟩

/-- 'forward', whatever the case. -/
theorem c_forward (w : World) (L : ML) (m : Mem) (h : MemRep w L m) (y : Bool) (pb po : Nat) (a to : Int) (m' : Mem) (hloc : Loc L m pb po)
    (hp : w.cell? ⟨pb, po, none⟩ = some (.int .i64 a)) (hpf : w.frozen? ⟨pb, po, none⟩ = false) (hf : m.forward y a = some (m', to)) :
    Calls Try.prog 81 #[.pointer (some ⟨L.b, 0, none⟩), .pointer (some ⟨(L.spL (Mem.src y)).b, 0, none⟩), .pointer (some ⟨pb, po, none⟩)] w (Fwd L m m' pb po a to w) := by
  unfold Mem.forward at hf
  by_cases hb : (m.sp (Mem.src y)).begins a = true
  · rw [if_pos hb] at hf
    cases hl : m.look a with
    | some t =>
      rw [hl] at hf
      simp only [Option.some.injEq, Prod.mk.injEq] at hf
      obtain ⟨rfl, rfl⟩ := hf
      exact c_forward_had w L m h y pb po a _ hp hpf hb hl
    | none =>
      rw [hl] at hf
      simp only at hf
      cases hn : m.size (m.sp (Mem.src y)) a with
      | none => rw [hn] at hf; cases hf
      | some n =>
        rw [hn] at hf
        simp only at hf
        by_cases hc : m.now.used + n ≤ m.now.words.length ∧ (y = true ∨ (n : Int) ≤ m.left) ∧ (m.sp (Mem.src y)).idx a + n ≤ (m.sp (Mem.src y)).words.length
        · rw [if_pos hc] at hf
          simp only [Option.some.injEq, Prod.mk.injEq] at hf
          obtain ⟨rfl, rfl⟩ := hf
          exact c_forward_move w L m h y pb po a hloc hp hpf hb hl n hn hc.1 hc.2.1 hc.2.2
        · rw [if_neg hc] at hf; cases hf
  · rw [if_neg hb] at hf
    simp only [Option.some.injEq, Prod.mk.injEq] at hf
    obtain ⟨rfl, rfl⟩ := hf
    exact c_forward_no w L _ h y pb po _ hp hpf (by simpa using hb)

/-- 'forward' at a word outside the memory. -/
theorem c_forward_out (w : World) (L : ML) (m : Mem) (h : MemRep w L m) (y : Bool) (pb po : Nat) (a to : Int) (m' : Mem) (hfp : pb ∉ L.fp) (hD : ¬ L.D pb)
    (hp : w.cell? ⟨pb, po, none⟩ = some (.int .i64 a)) (hpf : w.frozen? ⟨pb, po, none⟩ = false) (hf : m.forward y a = some (m', to)) :
    Calls Try.prog 81 #[.pointer (some ⟨L.b, 0, none⟩), .pointer (some ⟨(L.spL (Mem.src y)).b, 0, none⟩), .pointer (some ⟨pb, po, none⟩)] w
      fun e w' => e = .returned (.tuple #[]) ∧ MemRep w' L m' ∧ ∃ w1, Fr (fun k => k ∈ L.fp) w w1 ∧ w' = w1.setCell ⟨pb, po, none⟩ (.int .i64 to) := by
  refine (c_forward w L m h y pb po a to m' (.inl ⟨hfp, hD⟩) hp hpf hf).mono ?_
  rintro e w' ⟨rfl, w1, h1, f1, hc, hfz, rfl | ⟨rfl, rfl⟩⟩
  · exact ⟨rfl, h1.fr (S := fun k => k = pb) ((Fr.refl _ w1).setCell _ _ (.inl rfl)) (fun k hk e => hfp (by subst e; exact hk)) (fun k hk e => hD (by subst e; exact hk)), w1, f1, rfl⟩
  · refine ⟨rfl, h1, w', f1, ?_⟩
    rw [setCell_id hc]

theorem has_ok {w : World} {L : SpL} {s : Sp} (h : SpRep w L s) {a : Int} (hb : s.has a = true) : s.ok a = true := by
  have := h.le
  simp only [Sp.has, Sp.ok, Bool.and_eq_true, decide_eq_true_eq] at *
  omega

theorem put_len (s : Sp) (a v : Int) : (s.put a v).words.length = s.words.length := by simp [Sp.put]

theorem MemRep.put {w : World} {L : ML} {m : Mem} (h : MemRep w L m) (wh : Wh) (a v : Int) (ha : (m.sp wh).ok a = true) :
    MemRep (w.setCell ⟨(L.spL wh).wb, (m.sp wh).idx a, none⟩ (.int .i64 v)) L (m.setSp ((m.sp wh).put a v) wh) := by
  refine h.upd wh ((h.spR wh).setWord ?_ v) ((Fr.refl _ w).setCell _ _ (.inl (by simp [SpL.fp])))
  simp only [Sp.ok, Bool.and_eq_true, decide_eq_true_eq] at ha
  unfold Sp.idx; omega

theorem forward_keeps {m m' : Mem} {y : Bool} {a to : Int} (hf : m.forward y a = some (m', to)) :
    m'.young = m.young ∧ m'.other = m.other ∧ m'.now.frm = m.now.frm ∧ m'.now.words.length = m.now.words.length ∧ m'.shapes = m.shapes ∧ m'.known = m.known ∧ m'.busy = m.busy ∧ m'.scan = m.scan ∧ m.now.used ≤ m'.now.used := by
  unfold Mem.forward at hf
  split at hf
  · split at hf
    · simp only [Option.some.injEq, Prod.mk.injEq] at hf
      obtain ⟨rfl, _⟩ := hf
      simp
    · split at hf
      · cases hf
      · split at hf
        · rename_i n _ hc
          simp only [Option.some.injEq, Prod.mk.injEq] at hf
          obtain ⟨rfl, _⟩ := hf
          obtain ⟨h1, _, h3⟩ := hc
          simp [Mem.move, Sp.paste, Sp.lay]
          omega
        · cases hf
  · simp only [Option.some.injEq, Prod.mk.injEq] at hf
    obtain ⟨rfl, _⟩ := hf
    simp

/-- 'forward' at a word of the present half, or of the young space. -/
theorem c_forward_in (w : World) (L : ML) (m : Mem) (h : MemRep w L m) (y : Bool) (wh : Wh) (a : Int) (m' : Mem) (hwh : wh ≠ .o) (hf : m.fwdIn y wh a = some m') :
    Calls Try.prog 81 #[.pointer (some ⟨L.b, 0, none⟩), .pointer (some ⟨(L.spL (Mem.src y)).b, 0, none⟩), .pointer (some ⟨(L.spL wh).wb, (m.sp wh).idx a, none⟩)] w
      fun e w' => e = .returned (.tuple #[]) ∧ MemRep w' L m' ∧ Fr (fun k => k ∈ L.fp) w w' := by
  unfold Mem.fwdIn at hf
  split at hf
  · rename_i hhas
    have hok := has_ok (h.spR wh) hhas
    split at hf
    · rename_i m1 to hf1
      simp only [Option.some.injEq] at hf
      simp only [Sp.has, Bool.and_eq_true, decide_eq_true_eq] at hhas
      have hloc : Loc L m (L.spL wh).wb ((m.sp wh).idx a) := by
        cases wh with
        | n =>
          refine .inr (.inl ⟨rfl, ?_⟩)
          simp only [Mem.sp] at *
          unfold Sp.idx; omega
        | y => exact .inr (.inr rfl)
        | o => exact absurd rfl hwh
      obtain ⟨e1, e2, e3, e4, _⟩ := forward_keeps hf1
      have ei : (m1.sp wh).idx a = (m.sp wh).idx a ∧ (m1.sp wh).ok a = true := by
        cases wh with
        | n => simp only [Mem.sp, Sp.idx, Sp.ok, e3, e4, true_and]; exact hok
        | y => simp only [Mem.sp, e1, true_and]; exact hok
        | o => exact absurd rfl hwh
      refine (c_forward w L m h y _ _ _ to m1 hloc ((h.spR wh).getw hok) ((h.spR wh).fw _) hf1).mono ?_
      rintro e w' ⟨rfl, w1, h1, f1, hc, hfz, hw'⟩
      have h2 := h1.put wh a to ei.2
      rw [ei.1, hf] at h2
      have f2 : Fr (fun k => k ∈ L.fp) w (w1.setCell ⟨(L.spL wh).wb, (m.sp wh).idx a, none⟩ (.int .i64 to)) := f1.setCell _ _ (.inl (MemRep.spfp (wh := wh) (by simp [SpL.fp])))
      rcases hw' with rfl | ⟨rfl, rfl⟩
      · exact ⟨rfl, h2, f2⟩
      · rw [setCell_id hc] at h2
        exact ⟨rfl, h2, f1⟩
    · cases hf
  · cases hf
end Go.Proofs.Ytnedmmopkhmejaa
