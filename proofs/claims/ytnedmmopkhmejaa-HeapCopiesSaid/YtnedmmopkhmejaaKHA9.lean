/- Walk: Play. -/
import Derived.Test.YtnedmmopkhmejaaKHA8
set_option linter.unusedVariables false
set_option linter.unusedSimpArgs false
namespace Go.Proofs.Ytnedmmopkhmejaa
open Go.RowKit Go.Proofs.Hp
attribute [local go_sem] Oper.semAt_some

/-- A slice of acts. -/
def ActsAt (w : World) (D : Nat → Prop) (v : Value) (xs : List (Int × Int × Int × Int)) : Prop :=
  ∃ p cap, v = .slice p xs.length cap ∧ (xs = [] ∨ ∃ b o, p = some ⟨b, o, none⟩ ∧ D b ∧ ∀ i x, xs[i]? = some x → w.cell? ⟨b, o + i * 4, none⟩ = some (.int .i64 x.1) ∧
    w.cell? ⟨b, o + i * 4 + 1, none⟩ = some (.int .i64 x.2.1) ∧ w.cell? ⟨b, o + i * 4 + 2, none⟩ = some (.int .i64 x.2.2.1) ∧ w.cell? ⟨b, o + i * 4 + 3, none⟩ = some (.int .i64 x.2.2.2))

theorem PRep.own_lt {w : World} {pb : Nat} {L : ML} {rv : Value} {p : Pl} (h : PRep w pb L rv p) {k : Nat} (hk : pOwn pb L rv p.roots.length k) : k < w.heap.size := by
  rcases hk with q | q | ⟨q, q'⟩
  · exact h.rep.lt q
  · rw [q]; exact lt_of_block h.blk
  · obtain ⟨v, cap, hv, ho | ⟨g, hp, hD, hr⟩⟩ := h.out
    · rw [ho] at q; simp at q
    · rw [hv, hp] at q'
      simp only [Value.ownBlock, Option.some.injEq] at q'
      rw [← q']; exact hr.lt
theorem PRep.fr {S : Nat → Prop} {w w' : World} {pb : Nat} {L : ML} {rv : Value} {p : Pl} (h : PRep w pb L rv p) (f : Fr S w w') (ho : ∀ k, pOwn pb L rv p.roots.length k → ¬ S k) (hD : ∀ k, L.D k → ¬ S k) : PRep w' pb L rv p := by
  refine ⟨h.rep.fr f (fun k hk => ho k (.inl hk)) hD, (f.block pb (lt_of_block h.blk) (ho pb (.inr (.inl rfl)))).trans h.blk, ?_, h.pf, h.pD⟩
  obtain ⟨v, cap, hv, hq | ⟨g, hp, hDg, hr⟩⟩ := h.out
  · exact ⟨v, cap, hv, .inl hq⟩
  · refine ⟨v, cap, hv, ?_⟩
    by_cases hn : p.roots = []
    · exact .inl hn
    · refine .inr ⟨g, hp, hDg, hr.of_block (f.block g hr.lt (ho g (.inr (.inr ⟨by simpa using hn, by rw [hv, hp]; rfl⟩))))⟩

theorem Try.infoErrno : (Try.prog.info? 28).map (fun i => (i.zero, i.size, i.bytes)) = some (some (.int .i64 0), 1, 8) := by kernel_rfl

/-- The errors, in a row of the call's own, apart from the player. -/
structure ErrR (B : Nat) (w : World) (pb : Nat) (L : ML) (rv : Value) (n : Nat) (ev : Value) (es : List Int) : Prop where
  own : w.ownsRow B 28 1 ev es.length (es.map (.int .i64))
  ne : ∀ k, ev.ownBlock = some k → ¬ pOwn pb L rv n k ∧ ¬ L.D k ∧ B ≤ k ∧ k < w.heap.size
theorem kv_own {v : Value} {k : Nat} (h : k ∈ kvBlocks v) (hs : ∃ p n c, v = .slice p n c) : v.ownBlock = some k ∨ ∃ p n c, v = .slice (some p) n c ∧ p.block = k := by
  obtain ⟨p, n, c, rfl⟩ := hs
  cases p with
  | none => simp [kvBlocks] at h
  | some a => exact .inr ⟨a, n, c, rfl, by simp [kvBlocks] at h; exact h.symm⟩
theorem owns_block {w : World} {B : Nat} {T : TypeId} {s : Nat} {v : Value} {n : Nat} {xs : List Value} (h : w.ownsRow B T s v n xs) {k : Nat} (hk : k ∈ kvBlocks v) : v.ownBlock = some k := by
  rcases h.2 with ⟨rfl, _⟩ | ⟨g, cap, cur, rfl, _⟩
  · simp [kvBlocks] at hk
  · simp [kvBlocks] at hk; subst hk; rfl
theorem owns_lt {w : World} {B : Nat} {T : TypeId} {s : Nat} {v : Value} {n : Nat} {xs : List Value} (h : w.ownsRow B T s v n xs) {k : Nat} (hk : v.ownBlock = some k) : B ≤ k ∧ k < w.heap.size := h.lt k hk
theorem ErrR.ev {B : Nat} {w w' : World} {pb : Nat} {L L' : ML} {rv rv' : Value} {n : Nat} {ev : Value} {es : List Int} (h : ErrR B w pb L rv n ev es) (e : PEv pb L L' rv rv' n w w') : ErrR B w' pb L' rv' n ev es := by
  refine ⟨ownsRow_of_blocks h.own fun k hk => ?_, fun k hk => ?_⟩
  · have q := h.ne k (owns_block h.own hk)
    exact e.fr.block k q.2.2.2 q.1
  · have q := h.ne k hk
    refine ⟨fun g => ?_, by rw [e.D]; exact q.2.1, q.2.2.1, Nat.lt_of_lt_of_le q.2.2.2 e.fr.size⟩
    rcases e.own k g with g | g
    · exact q.1 g
    · have := q.2.2.2; omega

/-- One error more. -/
theorem ErrR.snoc {B : Nat} {w1 : World} {pb : Nat} {L : ML} {rv : Value} {p : Pl} {ev : Value} {es : List Int} (h : ErrR B w1 pb L rv p.roots.length ev es) (hp : PRep w1 pb L rv p) (hB : B ≤ w1.heap.size) (hlen : es.length ≤ 1048576) (er : Int) :
    ∃ v' W4, (Builtin.append_ #[66, 66] 66 #[ev, .slice (some ⟨w1.heap.size, 0, none⟩) 1 1]).run Try.prog (w1.alloc (.cells #[.int .i64 er] 28)) = .ok v' W4 ∧
      ErrR B W4 pb L rv p.roots.length v' (es ++ [er]) ∧ PRep W4 pb L rv p ∧ Fr (fun k => B ≤ k) w1 W4 := by
  obtain ⟨i0, hi, hz0, hz1, hz2⟩ := info_parts Try.infoErrno
  have o2 := ownsRow_of_blocks h.own fun k hk => al_old w1 (.cells #[.int .i64 er] 28) k (ownsRow_lt h.own hk)
  obtain ⟨v', W4, hap, o4, g4, _, at4⟩ := run_append_own_at (P := Try.prog) (w1.alloc (.cells #[.int .i64 er] 28)) B 66 66 28 i0 (.int .i64 0) 1 8 Try.underlying66 hi hz0 hz1 hz2 rfl (by decide) ev es.length _ o2
    ⟨w1.heap.size, 0, none⟩ 1 1 [.int .i64 er] rfl (cell_one_new _ _ _) (by simp [Value.oneCell']) (by simp only [maxLen]; omega) (by omega) (by rw [al_size]; omega)
  have f4 : Fr (fun k => ev.ownBlock = some k) w1 W4 :=
    ⟨g4.os, g4.tape, g4.output, by have := g4.size; rw [al_size] at this; omega, fun k hk hne => (g4.block k (by rw [al_size]; omega) (fun e => hne e.symm)).trans (al_old _ _ _ hk)⟩
  refine ⟨v', W4, hap, ⟨by rw [List.length_append, List.map_append]; exact o4, fun k hk => ?_⟩, hp.fr f4 (fun k hk q => (h.ne k q).1 hk) (fun k hk q => (h.ne k q).2.1 hk), f4.mono fun k _ q => (h.ne k q).2.2.1⟩
  have hlt := owns_lt o4 hk
  rcases at4 with e | e
  · have q := h.ne k (by rw [← e]; exact hk)
    exact ⟨q.1, q.2.1, hlt.1, hlt.2⟩
  · rw [hk, al_size] at e
    simp only [Option.some.injEq] at e
    exact ⟨fun q => by have := hp.own_lt q; omega, fun q => by have := hp.rep.Dlt k q; omega, hlt.1, hlt.2⟩

theorem Fr.to_below {S : Nat → Prop} {B : Nat} {w W W' : World} (hb : Below B w W) (hB : B ≤ W.heap.size) (f : Fr S W W') (hS : ∀ k, S k → B ≤ k) : Below B w W' :=
  hb.trans ⟨f.os, f.tape, f.output, f.size, fun k hk => f.block k (by omega) (fun q => by have := hS k q; omega)⟩

set_option maxRecDepth 100000 in
set_option maxHeartbeats 4000000 in
theorem c_Play (w : World) (D : Nat → Prop) (v : Value) (ss : List (List Bool)) (h : ShRep w D v ss) (hD : ∀ k, D k → k < w.heap.size) (Y H : Nat) (hsz : Mem.sizedE ss = 0) (hY0 : 0 < Y) (hH0 : 0 < H) (hY : Y ≤ 1024) (hH : H ≤ 4096)
    (n : Nat) (hn : n ≤ 200) (E : Nat → Prop) (av : Value) (xs : List (Int × Int × Int × Int)) (hx : ActsAt w E av xs) (hE : ∀ k, E k → k < w.heap.size) (hxl : xs.length ≤ 2000) (hwf : ∀ x ∈ xs, x.2.1 ≤ 9223372036854775807)
    (p' : Pl) (es : List Int) (hrun : Pl.runE ⟨Mem.newM ss H Y, List.replicate n 0⟩ xs = some (p', es)) :
    Calls Try.prog 30 #[v, .int .i64 H, .int .i64 Y, .int .i64 n, av] w fun e w' => ∃ L pb rv ev, e = .returned (.tuple #[.pointer (some ⟨L.b, 0, none⟩), rv, ev, .int .i64 0]) ∧
      PRep w' pb L rv p' ∧ ErrR w.heap.size w' pb L rv n ev es ∧ Below w.heap.size w w' ∧ (∀ k, pOwn pb L rv n k → w.heap.size ≤ k) ∧ (∀ k, L.D k → w.heap.size ≤ k) := by
  have hnew := c_New w D v ss h hD Y H hsz hY0 hH0 hY hH
  have hmk := fun w => run_make_ints w n (by omega)
  have hI0 : PInv ⟨Mem.newM ss H Y, List.replicate n 0⟩ Y H := by
    have q : ss.length ≤ 60 ∧ ∀ l ∈ ss, l.length ≤ 60 := by
      unfold Mem.sizedE at hsz
      split at hsz
      · cases hsz
      · split at hsz
        · cases hsz
        · rename_i g1 g2
          simp only [List.any_eq_true, decide_eq_true_eq, not_exists, not_and] at g2
          exact ⟨by omega, fun l hl => by have := g2 l hl; omega⟩
    exact ⟨Mem.Inv.new q.1 q.2 hY0 hH0 hY hH, fun r hr => .inl (List.eq_of_mem_replicate hr)⟩
  have hI0H := Lib.hid hI0
  clear hI0
  obtain ⟨sp, scap, rfl, -⟩ := h
  have hx' := hx
  obtain ⟨ap, acap, rfl, hcx⟩ := hx
  clear hsz hY0 hH0 hY hH
  go_enter Try.func30, Try.ntmps30
  go_wp2_with (fail)
  refine hnew.mono ?_
  rintro e W1 ⟨L0, rfl, hM, hb1, hfp, hLD⟩
  clear hnew
  have hpl : Pl.playedE (n : Int) xs.length = 0 := by
    unfold Pl.playedE
    rw [if_neg (by omega), if_neg (by omega)]
  have hpd := c_played W1 (n : Int) ap xs.length acap
  rw [hpl] at hpd
  clear hpl
  go_wp2_with (fail)
  refine hpd.mono ?_
  rintro e W1' ⟨rfl, rfl⟩
  clear hpd
  go_wp2_with (fail)
  have hP0 : PRep ((W1'.alloc (.cells (Array.replicate n (Value.int .i64 0)) 3)).alloc (.cells #[.pointer (some ⟨L0.b, 0, none⟩), .slice (some ⟨W1'.heap.size, 0, none⟩) n n, .bool false] 140)) (W1'.heap.size + 1) L0 (.slice (some ⟨W1'.heap.size, 0, none⟩) n n) ⟨Mem.newM ss H Y, List.replicate n 0⟩ := by
    have g1 := al_same W1' (.cells (Array.replicate n (Value.int .i64 0)) 3)
    refine ⟨(hM.alloc _).alloc _, ?_, ⟨some ⟨W1'.heap.size, 0, none⟩, n, by simp, ?_⟩, fun q => by have := hM.lt q; omega, fun q => by have := hM.Dlt _ q; omega⟩
    · have := al_same (W1'.alloc (.cells (Array.replicate n (Value.int .i64 0)) 3)) (.cells #[.pointer (some ⟨L0.b, 0, none⟩), .slice (some ⟨W1'.heap.size, 0, none⟩) n n, .bool false] 140)
      rw [al_size] at this
      exact this
    · refine .inr ⟨_, rfl, ⟨fun q => by have := hM.lt q; omega, fun q => by have := hM.Dlt _ q; omega, by omega⟩, row_new ?_⟩
      refine (al_old _ _ _ (by rw [al_size]; omega)).trans (g1.trans ?_)
      simp
  have hB3 : Below w.heap.size w ((W1'.alloc (.cells (Array.replicate n (Value.int .i64 0)) 3)).alloc (.cells #[.pointer (some ⟨L0.b, 0, none⟩), .slice (some ⟨W1'.heap.size, 0, none⟩) n n, .bool false] 140)) :=
    (hb1.alloc hb1.size _).alloc (by rw [al_size]; have := hb1.size; omega) _
  have hO3 : ∀ k, pOwn (W1'.heap.size + 1) L0 (.slice (some ⟨W1'.heap.size, 0, none⟩) n n) n k → w.heap.size ≤ k := by
    have := hb1.size
    rintro k (q | q | ⟨_, q⟩)
    · exact hfp k q
    · omega
    · simp only [Value.ownBlock, Option.some.injEq] at q; omega
  generalize hpb : W1'.heap.size + 1 = pb at *
  generalize hW3 : (W1'.alloc (.cells (Array.replicate n (Value.int .i64 0)) 3)).alloc (.cells #[.pointer (some ⟨L0.b, 0, none⟩), .slice (some ⟨W1'.heap.size, 0, none⟩) n n, .bool false] 140) = W3 at *
  generalize hrv0 : (Value.slice (some ⟨W1'.heap.size, 0, none⟩) n n) = rv0 at *
  clear hW3 hrv0 hpb hmk hM hb1 hx' hfp
  go_loopw [17, 42] (fun ev i wr => ∃ (k : Nat) (L : ML) (rv : Value) (p : Pl) (es : List Int), i = .int .i64 k ∧ k ≤ xs.length ∧ Pl.runE ⟨Mem.newM ss H Y, List.replicate n 0⟩ (xs.take k) = some (p, es) ∧ p.roots.length = n ∧ es.length = k ∧
      PRep wr pb L rv p ∧ ErrR w.heap.size wr pb L rv n ev es ∧ Below w.heap.size w wr ∧ (∀ j, pOwn pb L rv n j → w.heap.size ≤ j) ∧ L.b = L0.b ∧ L.D = L0.D) (fun _ i _ => xs.length - (intOf i).toNat)
  case atStart => exact ⟨0, L0, rv0, _, [], rfl, Nat.zero_le _, rfl, by simp, rfl, hP0, ⟨⟨rfl, .inl ⟨rfl, rfl⟩⟩, fun k q => by cases q⟩, hB3, hO3, rfl, rfl⟩
  case round =>
    obtain ⟨k, L, rv, p, es1, rfl, hk, hrk, hpn, hek, hP, hEr, hBw, hO, hLb, hLDe⟩ := hrel
    have hLbH := Lib.hid hLb
    have hLDH := Lib.hid hLDe
    have hekH := Lib.hid hek
    have hpnH := Lib.hid hpn
    have hrkH := Lib.hid hrk
    clear hLb hLDe hek hpn hrk hP0 hB3 hO3
    by_cases hlt : k < xs.length
    · obtain ⟨x, hxk⟩ : ∃ x, xs[k]? = some x := ⟨xs[k], List.getElem?_eq_getElem hlt⟩
      rcases hcx with hcx | ⟨b, o, rfl, hEb, hcx⟩
      · rw [hcx] at hlt; simp at hlt
      · obtain ⟨y0, y1, y2, y3⟩ := hcx k x hxk
        have hEl := hE b hEb
        have z0 := (Fr.of_below (S := fun _ => False) hBw).cell y0 id
        have z1 := (Fr.of_below (S := fun _ => False) hBw).cell y1 id
        have z2 := (Fr.of_below (S := fun _ => False) hBw).cell y2 id
        have z3 := (Fr.of_below (S := fun _ => False) hBw).cell y3 id
        obtain ⟨x0, x1, x2, x3⟩ := x
        have hxm : (x0, x1, x2, x3) ∈ xs := List.mem_of_getElem? hxk
        have hx1 : x1 ≤ 9223372036854775807 := hwf _ hxm
        simp only at z0 z1 z2 z3
        clear y0 y1 y2 y3
        have hltI : (k : Int) < (xs.length : Int) := by omega
        obtain ⟨pq, eq, hq1, hq2, -⟩ := Pl.run_of (xs.take k) hI0H.out
        rw [hrkH.out] at hq1
        simp only [Option.some.injEq, Prod.mk.injEq] at hq1
        obtain ⟨rfl, -⟩ := hq1
        obtain ⟨p1, er, ha, hok⟩ := Pl.act_of hq2.inv x0 x1 x2 x3
        have hPa := hP.alloc (.cells #[.int .i64 x0, .int .i64 x1, .int .i64 x2, .int .i64 x3] 78)
        have hca := c_pact _ pb L rv p p1 hPa (by rw [hpnH.out]; omega) x0 x1 x2 x3 er hx1 ha
        have hHH := Lib.hid (And.intro hq2 (And.intro hok ha))
        have hEH := Lib.hid hEr
        have hBwH := Lib.hid hBw
        have hOH := Lib.hid hO
        clear hq2 hok ha hP hPa hEr hBw hO
        obtain ⟨evp, evc, hevs⟩ : ∃ q c, u17 = .slice q es1.length c := ownsRow_slice hEH.out.own
        go_wp2_with (fail)
        refine hca.mono ?_
        rintro e w1 ⟨rfl, L1, rv1, hP1, e1⟩
        have e1' : PEv pb L L1 rv rv1 n wr w1 := by
          rw [hpnH.out] at e1
          exact (PEv.of_fr ((Fr.refl _ wr).alloc _)).trans e1
        have hn1 : p1.roots.length = n := hHH.out.2.1.len.trans hpnH.out
        have hEr1 := hEH.out.ev e1'
        have hO1 : ∀ j, pOwn pb L1 rv1 n j → w.heap.size ≤ j := fun j hj => (e1'.own j hj).elim (hOH.out j) (fun q => Nat.le_trans hBwH.out.size q)
        have hB1 : Below w.heap.size w w1 := Fr.to_below hBwH.out hBwH.out.size e1'.fr hOH.out
        rw [← hn1] at hEr1
        obtain ⟨v', W4, hap, hEr4, hP4, f4⟩ := hEr1.snoc hP1 hB1.size (by rw [hekH.out]; omega) er
        rw [hn1] at hEr4
        have hB4 : Below w.heap.size w W4 := Fr.to_below hB1 hB1.size f4 fun _ q => q
        have hfin := Lib.hid (And.intro hEr4 (And.intro hP4 (And.intro hB4 (And.intro hO1 (And.intro (e1'.b.trans hLbH.out) (e1'.D.trans hLDH.out))))))
        obtain ⟨v'p, v'c, hv's⟩ : ∃ q c, v' = .slice q (es1 ++ [er]).length c := ownsRow_slice hEr4.own
        clear hEr4 hP4 hB4 hO1 e1' e1 hEr1 hB1 hca hP1 f4 z0 z1 z2 z3
        have hn1H := Lib.hid hn1
        clear hn1
        subst hevs hv's
        go_wp2_with (at_builtin; refine wpList_append_run rfl _ _ 66 rfl _ _ rfl rfl _ _ hap ?_)
        go_roundw
        case rel =>
          refine ⟨k + 1, L1, rv1, p1, es1 ++ [er], by go_num, by omega, ?_, hn1H.out, by rw [List.length_append, hekH.out]; rfl, hfin.out.2.1, (by have q := hfin.out.1; simp only [List.length_append, List.length_singleton] at q; exact q), hfin.out.2.2.1, hfin.out.2.2.2.1, hfin.out.2.2.2.2.1, hfin.out.2.2.2.2.2⟩
          rw [List.take_add_one, hxk]
          exact Pl.runE_snoc _ (x0, x1, x2, x3) hrkH.out hHH.out.2.2
        case measure => simp [intOf]; omega
    · obtain rfl : k = xs.length := by omega
      have hr := hrkH.out
      rw [List.take_length, hrun] at hr
      simp only [Option.some.injEq, Prod.mk.injEq] at hr
      obtain ⟨rfl, rfl⟩ := hr
      have c1 := hP.c1
      have hgeI : ¬ (xs.length : Int) < (xs.length : Int) := by omega
      have hHH := Lib.hid (And.intro hP (And.intro hEr (And.intro hBw hO)))
      obtain ⟨evp, evc, hevs⟩ := ownsRow_slice hEr.own
      obtain ⟨rvp, rvc, hrvs, -⟩ := hP.out
      subst hevs hrvs
      clear hP hEr hBw hO hrun hlt hcx
      go_wp2_with (fail)
      go_quiet (fail)
      go_wp2
      refine bodyPost_ret (v := .tuple #[.pointer (some ⟨L0.b, 0, none⟩), .slice rvp p'.roots.length rvc, .slice evp es.length evc, .int .i64 0]) (by simp [results, Try.results30, go_sem]) rfl ?_
      refine ⟨L, pb, .slice rvp p'.roots.length rvc, .slice evp es.length evc, by rw [hLbH.out], hHH.out.1.drewN _, ?_, below_drewN hHH.out.2.2.1 _, hHH.out.2.2.2, fun k hk => hLD k (by rw [← hLDH.out]; exact hk)⟩
      exact hHH.out.2.1.ev (PEv.of_fr ((Fr.refl _ wr).drewN _))
end Go.Proofs.Ytnedmmopkhmejaa
