/- Walk: HeapCopies. -/
import Derived.Test.YtnedmmopkhmejaaKHF3
import Derived.Test.YtnedmmopkhmejaaKHQ6
set_option linter.unusedVariables false
set_option linter.unusedSimpArgs false
namespace Go.Proofs.Ytnedmmopkhmejaa
open Go.RowKit Go.Proofs.Hp
attribute [local go_sem] Oper.semAt_some

/-- One call more, on the memory and on its copy. -/
theorem copies_step {m mk : Mem} {Y H k : Nat} {cs : List Call5} {gs : List (Int × Int)} {mvk : List (Int × Int)} {c : Call5} (hr : Mem.callsE m (cs.take k) = some (mk, gs)) (hI : mk.Inv Y H) (hs : Mem.SameMv mvk mk.moved) (hc : cs[k]? = some c) :
    ∃ m' v e mv', mk.callE c = some (m', v, e) ∧ (mk.withMv mvk).callE c = some (m'.withMv mv', v, e) ∧ Mem.SameMv mv' m'.moved ∧ m'.Inv Y H ∧ Mem.callsE m (cs.take (k + 1)) = some (m', gs ++ [(v, e)]) := by
  obtain ⟨m', v, e, h1, h2⟩ := hI.callE c
  obtain ⟨mv', h3, h4⟩ := Mem.callE_mv hs h1
  refine ⟨m', v, e, mv', h1, h3, h4, h2, ?_⟩
  rw [List.take_add_one, hc]
  exact Mem.callsE_snoc _ hr h1

theorem callsE_app : ∀ (xs ys : List Call5) {m m1 m2 : Mem} {g1 g2 : List (Int × Int)}, Mem.callsE m xs = some (m1, g1) → Mem.callsE m1 ys = some (m2, g2) → Mem.callsE m (xs ++ ys) = some (m2, g1 ++ g2)
  | [], ys, m, m1, m2, g1, g2, h1, h2 => by cases h1; exact h2
  | x :: xs, ys, m, m1, m2, g1, g2, h1, h2 => by
    unfold Mem.callsE at h1
    cases hx : m.callE x with
    | none => rw [hx] at h1; cases h1
    | some r =>
      obtain ⟨n1, v, e⟩ := r
      rw [hx] at h1
      simp only at h1
      cases hr : Mem.callsE n1 xs with
      | none => rw [hr] at h1; cases h1
      | some q =>
        obtain ⟨n2, gq⟩ := q
        rw [hr] at h1
        simp only [Option.map_some, Option.some.injEq, Prod.mk.injEq] at h1
        obtain ⟨rfl, rfl⟩ := h1
        have := callsE_app xs ys hr h2
        show Mem.callsE m (x :: (xs ++ ys)) = _
        unfold Mem.callsE
        rw [hx]
        simp only
        rw [this]; rfl
theorem callsE_total {Y H : Nat} : ∀ (cs : List Call5) {m : Mem}, m.Inv Y H → ∃ m1 gs, Mem.callsE m cs = some (m1, gs)
  | [], m, _ => ⟨m, [], rfl⟩
  | c :: cs, m, h => by
    obtain ⟨m1, v, e, h1, h2⟩ := h.callE c
    obtain ⟨m2, gs, h3⟩ := callsE_total cs h2
    exact ⟨m2, (v, e) :: gs, by unfold Mem.callsE; rw [h1]; simp only; rw [h3]; rfl⟩
/-- What a call gave, by its place. -/
theorem copies_at {m mk mE m' : Mem} {Y H k : Nat} {cs : List Call5} {gs gE : List (Int × Int)} {c : Call5} {v e : Int} (hE : Mem.callsE m cs = some (mE, gE)) (hr : Mem.callsE m (cs.take k) = some (mk, gs)) (hc : cs[k]? = some c) (h1 : mk.callE c = some (m', v, e)) (hI : m'.Inv Y H) : gE[k]? = some (v, e) := by
  obtain ⟨m2, g2, h2⟩ := callsE_total (cs.drop (k + 1)) hI
  obtain ⟨hk, hck⟩ := List.getElem?_eq_some_iff.1 hc
  have h3 : Mem.callsE mk (c :: cs.drop (k + 1)) = some (m2, (v, e) :: g2) := by unfold Mem.callsE; rw [h1]; simp only; rw [h2]; rfl
  have h4 := callsE_app _ _ hr h3
  have h5 : cs.take k ++ c :: cs.drop (k + 1) = cs := by rw [← hck, List.getElem_cons_drop, List.take_append_drop]
  rw [h5, hE] at h4
  simp only [Option.some.injEq, Prod.mk.injEq] at h4
  have hl := Mem.callsE_len _ hr
  rw [List.length_take] at hl
  rw [h4.2, List.getElem?_append_right (by omega), hl, show k - min k cs.length = 0 by omega]
  rfl

/-- What stands behind the copy: the memory, its copy, the first picture and the first room. -/
structure CS (w0 W : World) (L : ML) (m : Mem) (K : ML) (n : Mem) (rv : Value) (rs : List Int) (B1 B2 : Nat) (a1 a2 a3 : Value) (p : Pic) (cv : Value) (cs : List Call5) : Prop where
  two : TwoR w0 W L m K n rv rs
  h1 : W.heap[B1]? = some (.cells #[a1, a2, a3] 42 (0, 0))
  h2 : W.heap[B2]? = some (.cells #[.int .i64 m.young.used, .int .i64 m.now.used, .int .i64 m.left] 54 (0, 0))
  n1 : B1 ∉ L.fp ∧ B1 ∉ K.fp
  n2 : B2 ∉ L.fp ∧ B2 ∉ K.fp
  pic : PicAt W (fun k => k ∉ L.fp ∧ k ∉ K.fp) a1 a2 a3 p
  calls : CallsAt W (fun k => k ∉ L.fp ∧ k ∉ K.fp) cv cs

theorem CallsAt.monoD {w : World} {D D' : Nat → Prop} {v : Value} {cs : List Call5} (h : CallsAt w D v cs) (g : ∀ k, D k → D' k) : CallsAt w D' v cs := by
  obtain ⟨p, cap, hv, q⟩ := h
  exact ⟨p, cap, hv, q.imp id fun ⟨b, o, r1, r2, r3⟩ => ⟨b, o, r1, g b r2, fun i c hi => let ⟨q0, q1, q2, q3, rv, q4, q5⟩ := r3 i c hi; ⟨q0, q1, q2, q3, rv, q4, q5.monoD g⟩⟩⟩

/-- From Play to the copy. -/
theorem CS.start {w0 W3 W4 W6 W8 : World} {L K : ML} {m n : Mem} {rv : Value} {rs : List Int} {a1 a2 a3 : Value} {p : Pic} {F : Nat → Prop} {cv : Value} {cs : List Call5} (hO : OwnR w0 W3 L m) (ho : OutAt W3 (fun k => 0 ≤ k ∧ k ∉ L.fp) rv rs) (hc : CallsAt w0 F cv cs) (hF : ∀ k, F k → k < w0.heap.size)
    (hp : PicAt W4 (fun k => W3.heap.size ≤ k ∧ k < W4.heap.size) a1 a2 a3 p) (b4 : Below W3.heap.size W3 W4) (b6 : Below (W4.alloc (.cells #[a1, a2, a3] 42)).heap.size (W4.alloc (.cells #[a1, a2, a3] 42)) W6)
    (hr : MemRep W8 K n) (hD : K.D = L.D) (b8 : Below (W6.alloc (.cells #[.int .i64 m.young.used, .int .i64 m.now.used, .int .i64 m.left] 54)).heap.size (W6.alloc (.cells #[.int .i64 m.young.used, .int .i64 m.now.used, .int .i64 m.left] 54)) W8)
    (hf : ∀ k ∈ K.fp, (W6.alloc (.cells #[.int .i64 m.young.used, .int .i64 m.now.used, .int .i64 m.left] 54)).heap.size ≤ k) :
    CS w0 W8 L m K n rv rs W4.heap.size W6.heap.size a1 a2 a3 p cv cs := by
  have bA : Below W4.heap.size W4 (W4.alloc (.cells #[a1, a2, a3] 42)) := (Below.refl _ _).alloc (Nat.le_refl _) _
  have bB : Below W6.heap.size W6 (W6.alloc (.cells #[.int .i64 m.young.used, .int .i64 m.now.used, .int .i64 m.left] 54)) := (Below.refl _ _).alloc (Nat.le_refl _) _
  have s4 := b4.size
  have sA : W4.heap.size + 1 = (W4.alloc (.cells #[a1, a2, a3] 42)).heap.size := by simp
  have s6 := b6.size
  have sB : W6.heap.size + 1 = (W6.alloc (.cells #[.int .i64 m.young.used, .int .i64 m.now.used, .int .i64 m.left] 54)).heap.size := by simp
  have b36 : Below W3.heap.size W3 (W6.alloc (.cells #[.int .i64 m.young.used, .int .i64 m.now.used, .int .i64 m.left] 54)) := ((b4.trans (bA.mono s4)).trans (b6.mono (by omega))).trans (bB.mono (by omega))
  have hO7 := hO.below b36
  have ho7 : OutAt (W6.alloc (.cells #[.int .i64 m.young.used, .int .i64 m.now.used, .int .i64 m.left] 54)) (fun k => 0 ≤ k ∧ k ∉ L.fp) rv rs := ho.ev (Ev.of_fr (Fr.of_below b36))
  have hT := TwoR.of_copy hO7 ho7 hD hr b8 hf
  have hL : ∀ k ∈ L.fp, k < W3.heap.size := fun k hk => hO.rep.lt hk
  refine ⟨hT, ?_, (b8.block _ (by omega)).trans (al_same _ _), ⟨fun q => by have := hL _ q; omega, fun q => by have := hf _ q; omega⟩, ⟨fun q => by have := hL _ q; omega, fun q => by have := hf _ q; omega⟩, ?_, ?_⟩
  · exact (b8.block _ (by omega)).trans ((bB.block _ (by omega)).trans ((b6.block _ (by omega)).trans (al_same _ _)))
  · exact ((((hp.bl bA).bl b6).bl bB).bl b8).monoD fun k hk => ⟨fun q => by have := hL _ q; omega, fun q => by have := hf _ q; omega⟩
  · exact (hc.fr (Fr.of_below (S := fun _ => False) hT.bl) (fun _ _ => id)).monoD fun k hk => ⟨fun q => by have := hO.fpB k q; have := hF k hk; omega, fun q => by have := hf _ q; have := hF k hk; have := hO.bl.size; omega⟩

/-- Behind the second picture. -/
structure C2 (W1 : World) (L0 K0 : ML) (W : World) (L : ML) (m : Mem) (K : ML) (n : Mem) (gv : Value) (gs : List (Int × Int)) (B1 B2 B3 : Nat) (a1 a2 a3 b1 b2 b3 : Value) (m0 : Mem) (p : Pic) : Prop where
  cr : CR W1 L0 K0 W L m K n gv gs
  h1 : W.heap[B1]? = some (.cells #[a1, a2, a3] 42 (0, 0))
  h2 : W.heap[B2]? = some (.cells #[.int .i64 m0.young.used, .int .i64 m0.now.used, .int .i64 m0.left] 54 (0, 0))
  h3 : W.heap[B3]? = some (.cells #[b1, b2, b3] 42 (0, 0))
  p1 : PicAt W (fun _ => True) a1 a2 a3 p
  p3 : PicAt W (fun _ => True) b1 b2 b3 p
theorem C2.below {W1 W W' : World} {L0 K0 L K : ML} {m n m0 : Mem} {gv : Value} {gs : List (Int × Int)} {B1 B2 B3 : Nat} {a1 a2 a3 b1 b2 b3 : Value} {p : Pic} (h : C2 W1 L0 K0 W L m K n gv gs B1 B2 B3 a1 a2 a3 b1 b2 b3 m0 p) (hb : Below W.heap.size W W') : C2 W1 L0 K0 W' L m K n gv gs B1 B2 B3 a1 a2 a3 b1 b2 b3 m0 p :=
  ⟨h.cr.below hb, (hb.block _ (lt_of_block h.h1)).trans h.h1, (hb.block _ (lt_of_block h.h2)).trans h.h2, (hb.block _ (lt_of_block h.h3)).trans h.h3, h.p1.bl hb, h.p3.bl hb⟩
theorem picAt_fr {S : Nat → Prop} {w w' : World} {D : Nat → Prop} {v1 v2 v3 : Value} {p : Pic} (h : PicAt w D v1 v2 v3 p) (hf : Fr S w w') (hD : ∀ k, D k → ¬ S k) : PicAt w' D v1 v2 v3 p :=
  have ints : ∀ {v : Value} {xs : List Int}, IntsAt w D v xs → IntsAt w' D v xs := fun ⟨q, cap, hv, q3⟩ => ⟨q, cap, hv, q3.imp id fun ⟨b, o, r1, r2, r3⟩ => ⟨b, o, r1, r2, fun j hj => hf.cell (r3 j hj) (hD b r2)⟩⟩
  ⟨ints h.1, h.2.1.of_blocks fun k hk hl => hf.block k hl (hD k hk), ints h.2.2.1, h.2.2.2⟩
/-- The second picture has come. -/
theorem C2.start {w0 W1 w W : World} {L K K' : ML} {m n0 n : Mem} {rv gv cv : Value} {rs : List Int} {gs : List (Int × Int)} {B1 B2 : Nat} {a1 a2 a3 b1 b2 b3 : Value} {p : Pic} {cs : List Call5} (hS : CS w0 W1 L m K n0 rv rs B1 B2 a1 a2 a3 p cv cs) (hC : CR W1 L K w L m K' n gv gs) (hb : Below w.heap.size w W) (hp : PicAt W (fun _ => True) b1 b2 b3 p) :
    C2 W1 L K (W.alloc (.cells #[b1, b2, b3] 42)) L m K' n gv gs B1 B2 W.heap.size a1 a2 a3 b1 b2 b3 m p := by
  have hC' := hC.below hb
  have f := hC'.fr
  have bB : Below W.heap.size W (W.alloc (.cells #[b1, b2, b3] 42)) := (Below.refl _ _).alloc (Nat.le_refl _) _
  have ff := f.trans' (Fr.of_below (S := fun _ => False) bB) (fun k q => q.elim)
  exact ⟨hC'.below bB, ff.blk hS.h1 (fun q => q.elim hS.n1.1 hS.n1.2), ff.blk hS.h2 (fun q => q.elim hS.n2.1 hS.n2.2), al_same _ _, (picAt_fr hS.pic ff fun k q z => z.elim q.1 q.2).monoD fun _ _ => trivial, hp.bl bB⟩

theorem copies_below {w0 W1 W : World} {L L' K K' : ML} {m n0 m' n : Mem} {rv gv cv : Value} {rs : List Int} {gs : List (Int × Int)} {B1 B2 : Nat} {a1 a2 a3 : Value} {p : Pic} {cs : List Call5} (hS : CS w0 W1 L m K n0 rv rs B1 B2 a1 a2 a3 p cv cs) (hC : CR W1 L K W L' m' K' n gv gs) : Below w0.heap.size w0 W :=
  Fr.to_below hS.two.bl hS.two.bl.size hC.fr fun k q => q.elim (hS.two.b1 k) (hS.two.b2 k)

set_option maxRecDepth 100000 in
set_option maxHeartbeats 8000000 in
theorem c_HeapCopies (w : World) (D : Nat → Prop) (v : Value) (ss : List (List Bool)) (h : ShRep w D v ss) (hD : ∀ k, D k → k < w.heap.size) (half young : Int) (hh : 0 ≤ half ∧ half ≤ 65535) (hy : 0 ≤ young ∧ young ≤ 65535)
    (rt : Int) (hrt : 0 ≤ rt ∧ rt ≤ 255) (E : Nat → Prop) (av : Value) (xs : List (Int × Int × Int × Int)) (hx : ActsAt w E av xs) (hE : ∀ k, E k → k < w.heap.size) (hwf : ∀ x ∈ xs, x.2.1 ≤ 9223372036854775807)
    (F : Nat → Prop) (cv : Value) (cs : List Call5) (hcs : CallsAt w F cv cs) (hF : ∀ k, F k → k < w.heap.size) (hcl : cs.length ≤ 9223372036854775807) (hcw : ∀ c ∈ cs, c.1.2.1 ≤ 9223372036854775807) :
    Calls Try.prog 10 #[v, .int .u16 half, .int .u16 young, .int .u8 rt, av, cv] w fun e w' => e = .returned (.bool true) ∧ Below w.heap.size w w' := by
  have hshH := Lib.hid h
  have hxH := Lib.hid hx
  have hwfH := Lib.hid hwf
  have hDH := Lib.hid hD
  have hEH := Lib.hid hE
  have hcsH := Lib.hid (And.intro hcs (And.intro hF hcw))
  have hsh := c_short w F cv cs hcs hcl
  obtain ⟨p, cap, rfl, -⟩ := h
  obtain ⟨ap, acap, rfl, -⟩ := hx
  obtain ⟨cp, ccap, rfl, -⟩ := hcs
  have hlg := c_light w D _ ss hshH.out ap xs.length acap
  clear hwf hD hE hF hcw hcl
  cases hle : lightE ss xs.length with
  | false =>
    rw [hle] at hlg
    clear hle hsh
    go_enter Try.func10, Try.ntmps10
    go_wp2_with (fail)
    refine hlg.mono ?_
    rintro e w1 ⟨rfl, rfl⟩
    clear hlg
    go_wp2_with (fail)
    refine (c_sanity _).mono ?_
    rintro e w2 ⟨rfl, hb⟩
    go_wp2
    go_ret
    exact ⟨rfl, hb⟩
  | true =>
    rw [hle] at hlg
    obtain ⟨l8, l300, l70⟩ := light_of hle
    have l70H := Lib.hid l70
    clear hle l70
    cases hse : shortE cs with
    | false =>
      rw [hse] at hsh
      clear hse
      go_enter Try.func10, Try.ntmps10
      go_wp2_with (fail)
      refine hlg.mono ?_
      rintro e w1 ⟨rfl, rfl⟩
      clear hlg
      go_wp2_with (fail)
      refine hsh.mono ?_
      rintro e w1 ⟨rfl, rfl⟩
      clear hsh
      go_wp2_with (fail)
      refine (c_sanity _).mono ?_
      rintro e w2 ⟨rfl, hb⟩
      go_wp2
      go_ret
      exact ⟨rfl, hb⟩
    | true =>
      rw [hse] at hsh
      have hcB := Lib.hid (short_of hse)
      clear hse
      have hsc := c_spaces w half young hh hy
      generalize hH' : 1 + half.toNat % 600 = H at hsc
      generalize hY' : 1 + young.toNat % 100 = Y at hsc
      have hH0 : 0 < H ∧ H ≤ 600 := by omega
      have hY0 : 0 < Y ∧ Y ≤ 100 := by omega
      obtain ⟨n, hn⟩ : ∃ n : Nat, (n : Int) = rt % 21 := ⟨(rt % 21).toNat, by omega⟩
      have hn0 : n ≤ 20 := by omega
      clear hH' hY' hh hy
      by_cases hsz : Mem.sizedE ss = 0
      · obtain ⟨p', es, hrun, hok, -⟩ := Pl.run_of xs (inv_new n hsz hY0.1 hH0.1 (by omega) (by omega))
        have hpl := (c_Play w D _ ss hshH.out hDH.out Y H hsz hY0.1 hH0.1 (by omega) (by omega) n (by omega) E _ xs hxH.out hEH.out (by omega) hwfH.out p' es hrun).mono
          (R' := fun e w' => ∃ L rv ev, e = .returned (.tuple #[.pointer (some ⟨L.b, 0, none⟩), rv, ev, .int .i64 0]) ∧ OwnR w w' L p'.mem ∧ OutAt w' (fun k => 0 ≤ k ∧ k ∉ L.fp) rv p'.roots ∧ ∃ p n z, ev = .slice p n z)
          fun e w' ⟨L, pb, rv, ev, q1, q2, q3, q4, q5, _⟩ => ⟨L, rv, ev, q1, ⟨q2.rep, fun k hk => q5 k (.inl hk), q4⟩, q2.out.mono fun k hk _ => ⟨Nat.zero_le _, hk.1⟩, let ⟨p, z, hp⟩ := ownsRow_slice q3.own; ⟨p, _, z, hp⟩⟩
        have hI := hok.inv.inv
        have hcur := hok.inv.cur
        have hrl : p'.roots.length = n := by have := hok.len; simpa using this
        obtain ⟨pc, hpc, -⟩ := (Pl.Like.refl hok.inv (by omega)).pic
        generalize p'.mem = m at *
        generalize p'.roots = rs at *
        clear hok hrun
        rw [hn] at hpl
        have hIH := Lib.hid hI
        have hcurH := Lib.hid hcur
        have hrlH := Lib.hid (And.intro hrl hn0)
        have hpcH := Lib.hid hpc
        clear hI hcur hrl hn hsz hpc hH0 hY0 l70H hshH hxH hwfH hDH hEH l8 l300 hn0
        go_enter Try.func10, Try.ntmps10
        go_wp2_with (fail)
        refine hlg.mono ?_
        rintro e w1 ⟨rfl, rfl⟩
        go_wp2_with (fail)
        refine hsh.mono ?_
        rintro e w1 ⟨rfl, rfl⟩
        clear hlg hsh
        go_wp2_with (fail)
        refine hsc.mono ?_
        rintro e w2 ⟨rfl, rfl⟩
        clear hsc
        go_wp2_with (fail)
        refine hpl.mono ?_
        rintro e W3 ⟨L, rv, ev, rfl, hO, ho, evp, evn, evz, rfl⟩
        clear hpl
        have hpi := c_Picture W3 L m hO.rep hIH.out _ _ rs ho.ints (by have := hrlH.out; omega) pc 0 hpcH.out
        have hOH := Lib.hid (And.intro hO ho)
        obtain ⟨rp, rc, rfl, -⟩ := ho
        clear hO
        go_wp2_with (fail)
        refine hpi.mono ?_
        rintro e W4 ⟨a1, a2, a3, rfl, hP, b4⟩
        clear hpi
        have hPH := Lib.hid (And.intro hP b4)
        obtain ⟨p1, c1, rfl, -⟩ := hP.1
        obtain ⟨p2, c2, rfl, -⟩ := hP.2.1
        obtain ⟨p3, c3, rfl, -⟩ := hP.2.2.1
        have hrm := c_Room (W4.alloc (.cells #[.slice p1 pc.shapes.length c1, .slice p2 pc.fields.length c2, .slice p3 pc.roots.length c3] 42)) L m ((hOH.out.1.rep.below b4).alloc _)
        clear hP b4
        go_wp2_with (fail)
        refine hrm.mono ?_
        rintro e W6 ⟨rfl, b6⟩
        clear hrm
        have b6H := Lib.hid b6
        have hcp := (c_Copy (W6.alloc (.cells #[.int .i64 m.young.used, .int .i64 m.now.used, .int .i64 m.left] 54)) L m (((hOH.out.1.rep.below hPH.out.2).alloc _ |>.below b6).alloc _)).mono
          (R' := fun e w' => ∃ (K : ML) (mv : List (Int × Int)), e = .returned (.pointer (some ⟨K.b, 0, none⟩)) ∧ CS w2 w' L m K (m.withMv mv) (.slice rp rs.length rc) rs W4.heap.size W6.heap.size (.slice p1 pc.shapes.length c1) (.slice p2 pc.fields.length c2) (.slice p3 pc.roots.length c3) pc (.slice cp cs.length ccap) cs ∧ Hid (Mem.SameMv mv m.moved))
          fun e w' ⟨K, mv, q1, q2, q3, q4, q5, q6⟩ => ⟨K, mv, q1, CS.start hOH.out.1 hOH.out.2 hcsH.out.1 hcsH.out.2.1 hPH.out.1 hPH.out.2 b6H.out q3 q2 q5 q6, Lib.hid q4⟩
        clear b6
        go_wp2_with (fail)
        refine hcp.mono ?_
        rintro e W8 ⟨K, mv, rfl, hCS, hmv⟩
        clear hcp b6H hPH hOH
        go_wp2_with (fail)
        have hCSH := Lib.hid hCS
        have hCR0 := CR.start hCS.two
        have hcl60 : cs.length ≤ 60 := hcB.out.1
        obtain ⟨i0, hi⟩ : ∃ i0, Hid (Try.prog.info? 89 = some i0 ∧ i0.zero = some (.agg #[.int .i64 0, .int .i64 0]) ∧ i0.size = 2 ∧ i0.bytes = 16) := by
          obtain ⟨i0, hi, hz0, hz1, hz2⟩ := info_parts Try.infoGot
          exact ⟨i0, Lib.hid ⟨hi, hz0, hz1, hz2⟩⟩
        clear hCS
        go_loopw [23, 86] (fun gv i wr => ∃ (k : Nat) (K' : ML) (mk : Mem) (mvk : List (Int × Int)) (gs : List (Int × Int)) (gq : Option Addr) (gz : Nat), gv = .slice gq gs.length gz ∧ i = .int .i64 k ∧ k ≤ cs.length ∧
          Hid (gs.length = k ∧ Mem.callsE m (cs.take k) = some (mk, gs) ∧ mk.Inv Y H ∧ Mem.SameMv mvk mk.moved ∧ K'.b = K.b) ∧ CR W8 L K wr L m K' (mk.withMv mvk) (.slice gq gs.length gz) gs) (fun _ i _ => cs.length - (intOf i).toNat)
        case atStart => exact ⟨0, K, m, mv, [], none, 0, rfl, rfl, by omega, Lib.hid ⟨rfl, rfl, hIH.out, hmv.out, rfl⟩, hCR0⟩
        case round =>
          clear hCR0
          obtain ⟨k, K', mk, mvk, gs, gq, gz, rfl, rfl, hk, hst, hCR⟩ := hrel
          by_cases hlt : k < cs.length
          · obtain ⟨⟨⟨x0, x1, x2, x3⟩, crs⟩, hck⟩ : ∃ c, cs[k]? = some c := ⟨cs[k], List.getElem?_eq_getElem hlt⟩
            have hcm : ((x0, x1, x2, x3), crs) ∈ cs := List.mem_of_getElem? hck
            obtain ⟨m', v0, e0, mv', s1, s2, s3, s4, s5⟩ := copies_step hst.out.2.1 hst.out.2.2.1 hst.out.2.2.2.1 hck
            obtain ⟨b, o, crp, crz, rfl, z0, z1, z2, z3, z4, hints⟩ := (hCSH.out.calls.fr hCR.fr (fun j q z => z.elim q.1 q.2)).at hck
            simp only at z0 z1 z2 z3 z4
            have hCR1 := hCR.alloc (.cells #[.int .i64 x0, .int .i64 x1, .int .i64 x2, .int .i64 x3, .slice crp crs.length crz] 38)
            have hq := (c_called _ K' (mk.withMv mvk) (m'.withMv mv') hCR1.r2 x0 x1 x2 x3 _ _ crs (hints.fr ((Fr.refl (fun _ => False) wr).alloc _) (fun _ _ => id)) (by have := hcB.out.2 _ hcm; simp only at this; omega) (hcsH.out.2.2 _ hcm) v0 e0 s2).mono
              (R' := fun e w' => ∃ (K2 : ML) (op : Option Addr) (on oz : Nat), e = .returned (.tuple #[.int .i64 v0, .slice op on oz, .int .i64 e0]) ∧ CR W8 L K w' L m K2 (m'.withMv mv') (.slice gq gs.length gz) gs ∧ Hid (K2.b = K.b))
              fun e w' ⟨K2, op, on, oz, g1, g2, g3⟩ => ⟨K2, op, on, oz, g1, hCR1.ev2 g2 g3, Lib.hid (g3.b.trans hst.out.2.2.2.2)⟩
            rw [hst.out.2.2.2.2] at hq
            have hS := Lib.hid (And.intro s3 (And.intro s4 (And.intro s5 hst.out.1)))
            clear s1 s2 s3 s4 s5 hCR hCR1 hck hcm hints
            go_wp2_with (fail)
            refine hq.mono ?_
            rintro e W ⟨K2, op, on, oz, rfl, hCR2, hb2⟩
            clear hq z0 z1 z2 z3 z4
            obtain ⟨NB, hNB⟩ : ∃ NB, W.heap.size = NB := ⟨_, rfl⟩
            have hgl : gs.length ≤ 60 := by have := hS.out.2.2.2; omega
            go_wp2_with (first | (refine wpList_g1 rfl _ rfl rfl NB hNB ?_) | (at_builtin; refine wpList_append_lies _ rfl _ _ _ rfl W8.heap.size 89 i0 (.agg #[.int .i64 0, .int .i64 0]) 2 16 Try.underlying87 hi.out.1 hi.out.2.1 hi.out.2.2.1 hi.out.2.2.2 rfl (by decide) (.slice gq gs.length gz) gs.length (flatGot gs) rfl (own_alloc hCR2.own _) ⟨_, 0, none⟩ 1 1 (gotCells (v0, e0)) rfl rfl (World.news_of_block (al_at W (.cells #[.int .i64 v0, .int .i64 e0] 89) _ hNB.symm)) (by simp [Value.oneCell', gotCells]) (by decide) (by simp only [maxLen]; omega) (by omega) (by rw [al_size]; have := hCR2.fr.size; omega) _ rfl ?_; intro g gcap w9 hown hgrow hat hglt))
            have hCR3 := Lib.hid (hCR2.app (v0, e0) rfl hown hgrow (hat.imp id (fun e => by rw [al_size] at e; omega)))
            clear hCR2 hown hgrow hat
            go_roundw
            case rel => exact ⟨k + 1, K2, m', mv', gs ++ [(v0, e0)], _, _, by rw [List.length_append]; rfl, by go_num, by omega, Lib.hid ⟨by rw [List.length_append, hS.out.2.2.2]; rfl, hS.out.2.2.1, hS.out.2.1, hS.out.1, hb2.out⟩, by have q := hCR3.out; rw [List.length_append]; exact q⟩
            case measure => simp [intOf]; omega
          · obtain rfl : k = cs.length := by omega
            clear hlt hk
            have hst' := hst.out
            rw [List.take_length] at hst'
            have hE := Lib.hid hst'
            have hpi := (c_Picture wr L m hCR.r1 hIH.out _ _ rs (hCSH.out.two.ro.ints.fr hCR.fr (fun j q z => z.elim q.1 q.2)) (by have := hrlH.out; omega) pc 0 hpcH.out).mono
              (R' := fun e w' => ∃ b1 b2 b3, e = .returned (.tuple #[.agg #[b1, b2, b3], .int .i64 0]) ∧ PicAt w' (fun _ => True) b1 b2 b3 pc ∧ Below wr.heap.size wr w') fun e w' ⟨b1, b2, b3, g1, g2, g3⟩ => ⟨b1, b2, b3, g1, g2.monoD fun _ _ => trivial, g3⟩
            have hCRH := Lib.hid hCR
            clear hst hst' hCR
            go_wp2_with (fail)
            refine hpi.mono ?_
            rintro e W9 ⟨b1, b2, b3, rfl, hP, b9⟩
            clear hpi
            have hC2 := C2.start hCSH.out hCRH.out b9 hP
            obtain ⟨q1, d1, rfl, -⟩ := hP.1
            obtain ⟨q2, d2, rfl, -⟩ := hP.2.1
            obtain ⟨q3, d3, rfl, -⟩ := hP.2.2.1
            have key : ∃ P : World → Prop, (∀ W, P W → C2 W8 L K W L m K' (mk.withMv mvk) (.slice gq gs.length gz) gs W4.heap.size W6.heap.size W9.heap.size (.slice p1 pc.shapes.length c1) (.slice p2 pc.fields.length c2) (.slice p3 pc.roots.length c3) (.slice q1 pc.shapes.length d1) (.slice q2 pc.fields.length d2) (.slice q3 pc.roots.length d3) m pc) ∧ (∀ W W', P W → Below W.heap.size W W' → P W') ∧ P (W9.alloc (.cells #[.slice q1 pc.shapes.length d1, .slice q2 pc.fields.length d2, .slice q3 pc.roots.length d3] 42)) :=
              ⟨_, fun W q => q, fun W W' q hb => C2.below q hb, hC2⟩
            obtain ⟨P, hP1, hP2, hP3⟩ := key
            have hsp : Hid (∀ W, P W → Calls Try.prog 22 #[.agg #[.slice p1 pc.shapes.length c1, .slice p2 pc.fields.length c2, .slice p3 pc.roots.length c3], .agg #[.slice q1 pc.shapes.length d1, .slice q2 pc.fields.length d2, .slice q3 pc.roots.length d3]] W fun e w' => e = .returned (.bool true) ∧ P w') :=
              Lib.hid fun W q => (c_SamePictures W _ _ _ _ _ _ _ _ pc pc (hP1 W q).p1 (hP1 W q).p3).mono fun e w' z => ⟨by rw [z.1, Pic.same_refl], hP2 _ _ q z.2⟩
            have hrm : Hid (∀ W, P W → Calls Try.prog 24 #[.pointer (some ⟨L.b, 0, none⟩)] W fun e w' => e = .returned (.agg #[.int .i64 m.young.used, .int .i64 m.now.used, .int .i64 m.left]) ∧ P w') :=
              Lib.hid fun W q => (c_Room W L m (hP1 W q).cr.r1).mono fun e w' z => ⟨z.1, hP2 _ _ q z.2⟩
            have hck : Hid (∀ W, P W → Calls Try.prog 26 #[.pointer (some ⟨L.b, 0, none⟩)] W fun e w' => e = .returned (.int .i64 0) ∧ P w') :=
              Lib.hid fun W q => (c_Check W L m (hP1 W q).cr.r1 hIH.out).mono fun e w' z => ⟨z.1, hP2 _ _ q z.2⟩
            have hce : Hid (∀ W, P W → (W.cell? ⟨W6.heap.size, 0, none⟩ = some (.int .i64 m.young.used) ∧ W.cell? ⟨W6.heap.size, 1, none⟩ = some (.int .i64 m.now.used) ∧ W.cell? ⟨W6.heap.size, 2, none⟩ = some (.int .i64 m.left))) :=
              Lib.hid fun W q => ⟨by rw [cell_of (hP1 W q).h2]; rfl, by rw [cell_of (hP1 W q).h2]; rfl, by rw [cell_of (hP1 W q).h2]; rfl⟩
            have hQ := hP1 _ hP3
            have hPd := hP2 _ (W9.alloc (.cells #[.slice q1 pc.shapes.length d1, .slice q2 pc.fields.length d2, .slice q3 pc.roots.length d3] 42)).drew hP3 (below_drewN (Below.refl _ _) 1)
            have x0 : (W9.alloc (.cells #[.slice q1 pc.shapes.length d1, .slice q2 pc.fields.length d2, .slice q3 pc.roots.length d3] 42)).cell? ⟨W4.heap.size, 0, none⟩ = some (.slice p1 pc.shapes.length c1) := by rw [cell_of hQ.h1]; rfl
            have x1 : (W9.alloc (.cells #[.slice q1 pc.shapes.length d1, .slice q2 pc.fields.length d2, .slice q3 pc.roots.length d3] 42)).cell? ⟨W4.heap.size, 1, none⟩ = some (.slice p2 pc.fields.length c2) := by rw [cell_of hQ.h1]; rfl
            have x2 : (W9.alloc (.cells #[.slice q1 pc.shapes.length d1, .slice q2 pc.fields.length d2, .slice q3 pc.roots.length d3] 42)).cell? ⟨W4.heap.size, 2, none⟩ = some (.slice p3 pc.roots.length c3) := by rw [cell_of hQ.h1]; rfl
            have y0 : (W9.alloc (.cells #[.slice q1 pc.shapes.length d1, .slice q2 pc.fields.length d2, .slice q3 pc.roots.length d3] 42)).cell? ⟨W9.heap.size, 0, none⟩ = some (.slice q1 pc.shapes.length d1) := by rw [cell_of hQ.h3]; rfl
            have y1 : (W9.alloc (.cells #[.slice q1 pc.shapes.length d1, .slice q2 pc.fields.length d2, .slice q3 pc.roots.length d3] 42)).cell? ⟨W9.heap.size, 1, none⟩ = some (.slice q2 pc.fields.length d2) := by rw [cell_of hQ.h3]; rfl
            have y2 : (W9.alloc (.cells #[.slice q1 pc.shapes.length d1, .slice q2 pc.fields.length d2, .slice q3 pc.roots.length d3] 42)).cell? ⟨W9.heap.size, 2, none⟩ = some (.slice q3 pc.roots.length d3) := by rw [cell_of hQ.h3]; rfl
            have hP1H := Lib.hid hP1
            have hP2H := Lib.hid hP2
            have hPdH := Lib.hid hPd
            clear hP1 hP2 hPd hQ hP hC2 b9 hP3
            go_wp2_with (fail)
            go_region_law (first
              | ((go_simp; with_reducible refine (hsp.out _ hPdH.out).mono ?_); rintro e w4 ⟨rfl, hP4⟩; obtain ⟨r0, r1, r2⟩ := hce.out _ hP4; dsimp only)
              | ((go_simp; with_reducible refine (hrm.out _ hP4).mono ?_); rintro e w5 ⟨rfl, hP5⟩; obtain ⟨t0, t1, t2⟩ := hce.out _ hP5; dsimp only)
              | ((go_simp; with_reducible refine (hck.out _ hP5).mono ?_); rintro e w6 ⟨rfl, hP6⟩; dsimp only))
            all_goals
              have hQ6 := Lib.hid (hP1H.out _ hP6).cr
              clear hP4 hP5 hP6 r0 r1 r2 t0 t1 t2 x0 x1 x2 y0 y1 y2 hsp hrm hck hce hP1H hP2H hPdH
              go_wp2_with (fail)
              go_loopw [131] (fun i wr => ∃ (k : Nat) (L' : ML) (m2 : Mem) (g2 : List (Int × Int)), i = .int .i64 k ∧ k ≤ cs.length ∧ Hid (Mem.callsE m (cs.take k) = some (m2, g2) ∧ m2.Inv Y H ∧ L'.b = L.b) ∧ CR W8 L K wr L' m2 K' (mk.withMv mvk) (.slice gq gs.length gz) gs) (fun i _ => cs.length - (intOf i).toNat)
              case atStart => exact ⟨0, L, m, [], rfl, by omega, Lib.hid ⟨rfl, hIH.out, rfl⟩, hQ6.out⟩
              case round =>
                clear hQ6
                obtain ⟨k, L', m2, g2, rfl, hk, hst, hCR⟩ := hrel
                by_cases hlt : k < cs.length
                · obtain ⟨⟨⟨x0, x1, x2, x3⟩, crs⟩, hck⟩ : ∃ c, cs[k]? = some c := ⟨cs[k], List.getElem?_eq_getElem hlt⟩
                  have hcm : ((x0, x1, x2, x3), crs) ∈ cs := List.mem_of_getElem? hck
                  obtain ⟨m', v0, e0, mv', s1, -, -, s4, s5⟩ := copies_step hst.out.1 hst.out.2.1 (Mem.SameMv.refl _) hck
                  have hgk := copies_at hE.out.2.1 hst.out.1 hck s1 s4
                  obtain ⟨b, o, crp, crz, rfl, z0, z1, z2, z3, z4, hints⟩ := (hCSH.out.calls.fr hCR.fr (fun j q z => z.elim q.1 q.2)).at hck
                  simp only at z0 z1 z2 z3 z4
                  have hCR1 := hCR.alloc (.cells #[.int .i64 x0, .int .i64 x1, .int .i64 x2, .int .i64 x3, .slice crp crs.length crz] 38)
                  have hq := (c_called _ L' m2 m' hCR1.r1 x0 x1 x2 x3 _ _ crs (hints.fr ((Fr.refl (fun _ => False) wr).alloc _) (fun _ _ => id)) (by have := hcB.out.2 _ hcm; simp only at this; omega) (hcsH.out.2.2 _ hcm) v0 e0 s1).mono
                    (R' := fun e w' => ∃ (L2 : ML) (op : Option Addr) (on oz : Nat), e = .returned (.tuple #[.int .i64 v0, .slice op on oz, .int .i64 e0]) ∧ CR W8 L K w' L2 m' K' (mk.withMv mvk) (.slice gq gs.length gz) gs ∧ Hid (L2.b = L.b))
                    fun e w' ⟨L2, op, on, oz, g1, g2, g3⟩ => ⟨L2, op, on, oz, g1, hCR1.ev1 g2 g3, Lib.hid (g3.b.trans hst.out.2.2)⟩
                  rw [hst.out.2.2] at hq
                  have hS := Lib.hid (And.intro s4 (And.intro s5 hgk))
                  have hgl : k < gs.length := (List.getElem?_eq_some_iff.1 hgk).1
                  clear s1 s4 s5 hCR hCR1 hck hcm hints hgk
                  go_wp2_with (fail)
                  refine hq.mono ?_
                  rintro e W ⟨L2, op, on, oz, rfl, hCR2, hb2⟩
                  clear hq z0 z1 z2 z3 z4
                  obtain ⟨g, rfl, y0, y1⟩ := owns_got hCR2.own hS.out.2.2
                  simp only at y0 y1
                  have hCRH := Lib.hid hCR2
                  clear hCR2
                  go_wp2
                  go_roundw
                  case rel => exact ⟨k + 1, L2, m', g2 ++ [(v0, e0)], by go_num, by omega, Lib.hid ⟨hS.out.2.1, hS.out.1, hb2.out⟩, hCRH.out⟩
                  case measure => simp [intOf]; omega
                · obtain rfl : k = cs.length := by omega
                  clear hlt hk
                  have hst' := hst.out
                  rw [List.take_length, hE.out.2.1] at hst'
                  obtain ⟨hmm, -, hLb⟩ := hst'
                  simp only [Option.some.injEq, Prod.mk.injEq] at hmm
                  obtain ⟨rfl, rfl⟩ := hmm
                  have hLbH := Lib.hid hLb
                  have hCRH := Lib.hid hCR
                  clear hst hCR hLb
                  go_wp2_with (fail)
                  refine (c_sanity _).mono ?_
                  rintro e W11 ⟨rfl, hb11⟩
                  have hC11 := hCRH.out.below hb11
                  have hr1 := (c_Room W11 L' mk hC11.r1).mono (R' := fun e w' => e = .returned (.agg #[.int .i64 mk.young.used, .int .i64 mk.now.used, .int .i64 mk.left]) ∧ CR W8 L K w' L' mk K' (mk.withMv mvk) (.slice gq gs.length gz) gs) fun e w' ⟨q1, q2⟩ => ⟨q1, hC11.below q2⟩
                  rw [hLbH.out] at hr1
                  clear hb11 hC11 hCRH
                  go_wp2_with (fail)
                  refine hr1.mono ?_
                  rintro e W12 ⟨rfl, hC12⟩
                  clear hr1
                  have hr2 := (c_Room W12 K' (mk.withMv mvk) hC12.r2).mono (R' := fun e w' => e = .returned (.agg #[.int .i64 mk.young.used, .int .i64 mk.now.used, .int .i64 mk.left]) ∧ CR W8 L K w' L' mk K' (mk.withMv mvk) (.slice gq gs.length gz) gs) fun e w' ⟨q1, q2⟩ => ⟨q1, hC12.below q2⟩
                  rw [hE.out.2.2.2.2] at hr2
                  clear hC12
                  go_wp2_with (fail)
                  refine hr2.mono ?_
                  rintro e W13 ⟨rfl, hC13⟩
                  clear hr2
                  have hfin := copies_below hCSH.out hC13
                  clear hC13
                  go_wp2
                  go_ret
                  exact ⟨rfl, hfin⟩
      · have hpl := c_Play_limit w D _ ss hshH.out (by omega) (fun l hl => by have := l70H.out l hl; omega) (Y : Int) (H : Int) (n : Int) hsz ap xs.length acap
        rw [hn] at hpl
        clear hn hsz l70H
        go_enter Try.func10, Try.ntmps10
        go_wp2_with (fail)
        refine hlg.mono ?_
        rintro e w1 ⟨rfl, rfl⟩
        go_wp2_with (fail)
        refine hsh.mono ?_
        rintro e w1 ⟨rfl, rfl⟩
        clear hlg hsh
        go_wp2_with (fail)
        refine hsc.mono ?_
        rintro e w2 ⟨rfl, rfl⟩
        clear hsc
        go_wp2_with (fail)
        refine hpl.mono ?_
        rintro e w3 ⟨rfl, rfl⟩
        clear hpl
        go_wp2_with (fail)
        refine (c_sanity _).mono ?_
        rintro e w2 ⟨rfl, hb⟩
        go_wp2
        go_ret
        exact ⟨rfl, hb⟩
end Go.Proofs.Ytnedmmopkhmejaa
