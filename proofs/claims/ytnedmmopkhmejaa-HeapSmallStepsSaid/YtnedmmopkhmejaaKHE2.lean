/- Walk: HeapSmallSteps. -/
import Derived.Test.YtnedmmopkhmejaaKHE1
import Derived.Test.YtnedmmopkhmejaaKHQ6
set_option linter.unusedVariables false
set_option linter.unusedSimpArgs false
namespace Go.Proofs.Ytnedmmopkhmejaa
open Go.RowKit Go.Proofs.Hp
attribute [local go_sem] Oper.semAt_some

theorem stepE_cur' {m m' : Mem} {Y H : Nat} (h : m.Inv Y H) {n v e : Int} (hs : m.stepE n = some (m', v, e)) {rs : List Int} (hr : ∀ r ∈ rs, r = 0 ∨ m.isCur r) : ∀ r ∈ rs, r = 0 ∨ m'.isCur r := fun r q => (hr r q).imp id fun k => h.stepE_cur hs k

set_option maxRecDepth 100000 in
set_option maxHeartbeats 8000000 in
theorem c_HeapSmallSteps (w : World) (D : Nat → Prop) (v : Value) (ss : List (List Bool)) (h : ShRep w D v ss) (hD : ∀ k, D k → k < w.heap.size) (half young : Int) (hh : 0 ≤ half ∧ half ≤ 65535) (hy : 0 ≤ young ∧ young ≤ 65535)
    (rt : Int) (hrt : 0 ≤ rt ∧ rt ≤ 255) (E : Nat → Prop) (av : Value) (xs : List (Int × Int × Int × Int)) (hx : ActsAt w E av xs) (hE : ∀ k, E k → k < w.heap.size) (hwf : ∀ x ∈ xs, x.2.1 ≤ 9223372036854775807) (o1 o2 : Int) (ho1 : 0 ≤ o1 ∧ o1 ≤ 255) (ho2 : 0 ≤ o2 ∧ o2 ≤ 255) :
    Calls Try.prog 9 #[v, .int .u16 half, .int .u16 young, .int .u8 rt, av, .int .u8 o1, .int .u8 o2] w fun e w' => e = .returned (.bool true) ∧ Below w.heap.size w w' := by
  have hshH := Lib.hid h
  have hxH := Lib.hid hx
  have hwfH := Lib.hid hwf
  obtain ⟨p, cap, rfl, -⟩ := h
  obtain ⟨ap, acap, rfl, -⟩ := hx
  have hlg := c_light w D _ ss hshH.out ap xs.length acap
  clear hwf
  cases hle : lightE ss xs.length with
  | false =>
    rw [hle] at hlg
    clear hle
    go_enter Try.func9, Try.ntmps9
    go_wp2_with (fail)
    refine hlg.mono ?_
    rintro e w1 ⟨rfl, rfl⟩
    go_wp2_with (fail)
    refine (c_sanity _).mono ?_
    rintro e w2 ⟨rfl, hb⟩
    go_wp2
    go_ret
    exact ⟨rfl, hb⟩
  | true =>
    rw [hle] at hlg
    obtain ⟨l8, l300, l70⟩ := light_of hle
    clear hle
    have hsc := c_spaces w half young hh hy
    generalize hH' : 1 + half.toNat % 600 = H at hsc
    generalize hY' : 1 + young.toNat % 100 = Y at hsc
    have hH0 : 0 < H ∧ H ≤ 600 := by omega
    have hY0 : 0 < Y ∧ Y ≤ 100 := by omega
    obtain ⟨n, hn⟩ : ∃ n : Nat, (n : Int) = rt % 21 := ⟨(rt % 21).toNat, by omega⟩
    have hn0 : n ≤ 20 := by omega
    clear hH' hY' hh hy
    by_cases hsz : Mem.sizedE ss = 0
    · obtain ⟨p', es, hrun, hok, -⟩ := Pl.run_of xs (inv_new n hsz hY0.1 hH0.1 (by omega) (by omega))
      have hpl := (c_Play w D _ ss hshH.out hD Y H hsz hY0.1 hH0.1 (by omega) (by omega) n (by omega) E _ xs hxH.out hE (by omega) hwfH.out p' es hrun).mono
        (R' := fun e w' => ∃ L rv ev, e = .returned (.tuple #[.pointer (some ⟨L.b, 0, none⟩), rv, ev, .int .i64 0]) ∧ OwnR w w' L p'.mem ∧ OutAt w' (fun k => 0 ≤ k ∧ k ∉ L.fp) rv p'.roots)
        fun e w' ⟨L, pb, rv, ev, q1, q2, _, q4, q5, _⟩ => ⟨L, rv, ev, q1, ⟨q2.rep, fun k hk => q5 k (.inl hk), q4⟩, q2.out.mono fun k hk _ => ⟨Nat.zero_le _, hk.1⟩⟩
      have hI := hok.inv.inv
      have hcur := hok.inv.cur
      have hrl : p'.roots.length = n := by have := hok.len; simpa using this
      generalize p'.mem = m at *
      generalize p'.roots = rs at *
      clear hok hrun
      rw [hn] at hpl
      have hIH := Lib.hid hI
      have hcurH := Lib.hid hcur
      have hrlH := Lib.hid hrl
      clear hI hcur hrl hn hsz l70 hE hD
      go_enter Try.func9, Try.ntmps9
      go_wp2_with (fail)
      refine hlg.mono ?_
      rintro e w1 ⟨rfl, rfl⟩
      go_wp2_with (fail)
      refine hsc.mono ?_
      rintro e w2 ⟨rfl, rfl⟩
      go_wp2_with (fail)
      refine hpl.mono ?_
      rintro e W3 ⟨L, rv, ev, rfl, hO, ho⟩
      clear hpl hlg hsc
      have hcp := (c_Copy W3 L m hO.rep).mono (R' := fun e w' => ∃ (K : ML) (mv : List (Int × Int)), e = .returned (.pointer (some ⟨K.b, 0, none⟩)) ∧ TwoR w2 w' L m K (m.withMv mv) rv rs ∧ Hid (Mem.SameMv mv m.moved))
        fun e w' ⟨K, mv, q1, q2, q3, q4, q5, q6⟩ => ⟨K, mv, q1, TwoR.of_copy hO ho q2 q3 q5 q6, Lib.hid q4⟩
      have hoH := Lib.hid ho
      clear hO ho
      obtain ⟨rvp, rvc, hrvs, -⟩ := hoH.out
      subst hrvs
      clear hoH
      go_wp2_with (fail)
      refine hcp.mono ?_
      rintro e W4 ⟨K, mv, rfl, hT4, hmv⟩
      clear hcp
      obtain ⟨ma, va, ea, sa, hIa, -⟩ := hIH.out.stepE o1
      obtain ⟨mb, vb, eb, sb, hIb, -⟩ := hIa.stepE o2
      obtain ⟨sab, rfl, rfl⟩ := hIH.out.stepE_add ho1.1 ho2.1 sa sb
      obtain ⟨mv1, sn, hmv1⟩ := Mem.stepE_mv hmv.out sab
      have hcb := stepE_cur' hIa sb (stepE_cur' hIH.out sa hcurH.out)
      obtain ⟨pc, pc1, pc2⟩ := hIb.pic_withMv hmv1 (by rw [hrlH.out]; omega) hcb
      have hst1 := (c_Step W4 L m ma hT4.r1 o1 va 0 (by omega) sa).mono (R' := fun e w' => ∃ L', e = .returned (.tuple #[.int .i64 va, .int .i64 0]) ∧ TwoR w2 w' L' ma K (m.withMv mv) (.slice rvp rs.length rvc) rs ∧ L'.b = L.b)
        fun e w' ⟨L', q1, q2, q3⟩ => ⟨L', q1, hT4.ev1 q2 q3, q3.b⟩
      have hIbH := Lib.hid hIb
      have hIbn := Lib.hid (hIb.withMv hmv1)
      have hsb := Lib.hid sb
      have hsn := Lib.hid sn
      have hpc1 := Lib.hid pc1
      have hpc2 := Lib.hid pc2
      have wo : IntKind.i64.wrap (o1 + o2) = o1 + o2 := IntWalk.i64_in _ (by omega)
      clear hT4 sa sb sab sn hIa hIb hmv1 hmv hcb pc1 pc2
      go_wp2_with (fail)
      refine hst1.mono ?_
      rintro e W5 ⟨L1, rfl, hT5, hb5⟩
      clear hst1
      have hst2 := (c_Step W5 L1 ma mb hT5.r1 o2 vb 0 (by omega) hsb.out).mono (R' := fun e w' => ∃ L', e = .returned (.tuple #[.int .i64 vb, .int .i64 0]) ∧ TwoR w2 w' L' mb K (m.withMv mv) (.slice rvp rs.length rvc) rs ∧ Hid (L'.b = L.b))
        fun e w' ⟨L', q1, q2, q3⟩ => ⟨L', q1, hT5.ev1 q2 q3, Lib.hid (q3.b.trans hb5)⟩
      rw [hb5] at hst2
      clear hT5 hb5
      go_wp2_with (fail)
      refine hst2.mono ?_
      rintro e W6 ⟨L2, rfl, hT6, hb6⟩
      clear hst2
      have hst3 := (c_Step W6 K (m.withMv mv) (mb.withMv mv1) hT6.r2 (o1 + o2) vb 0 (by omega) hsn.out).mono (R' := fun e w' => ∃ K', e = .returned (.tuple #[.int .i64 vb, .int .i64 0]) ∧ TwoR w2 w' L2 mb K' (mb.withMv mv1) (.slice rvp rs.length rvc) rs ∧ Hid (K'.b = K.b))
        fun e w' ⟨L', q1, q2, q3⟩ => ⟨L', q1, hT6.ev2 q2 q3, Lib.hid q3.b⟩
      clear hT6
      go_wp2_with (fail)
      refine hst3.mono ?_
      rintro e W7 ⟨K2, rfl, hT7, hc7⟩
      clear hst3 wo
      have hp1 := (c_Picture W7 L2 mb hT7.r1 hIbH.out _ _ rs hT7.ro.ints (by rw [hrlH.out]; omega) pc 0 hpc1.out).mono (R' := fun e w' => ∃ v1 v2 v3, e = .returned (.tuple #[.agg #[v1, v2, v3], .int .i64 0]) ∧ PicAt w' (fun _ => True) v1 v2 v3 pc ∧ TwoR w2 w' L2 mb K2 (mb.withMv mv1) (.slice rvp rs.length rvc) rs)
        fun e w' ⟨v1, v2, v3, q1, q2, q3⟩ => ⟨v1, v2, v3, q1, q2.monoD fun _ _ => trivial, hT7.below q3⟩
      rw [hb6.out] at hp1
      clear hT7
      go_wp2_with (fail)
      refine hp1.mono ?_
      rintro e W8 ⟨v1, v2, v3, rfl, hP8, hT8⟩
      clear hp1
      have hP8H := Lib.hid hP8
      obtain ⟨p1, c1, rfl, -⟩ := hP8.1
      obtain ⟨p2, c2, rfl, -⟩ := hP8.2.1
      obtain ⟨p3, c3, rfl, -⟩ := hP8.2.2.1
      clear hP8
      have hT9 := hT8.below ((Below.refl _ W8).alloc (Nat.le_refl _) (.cells #[.slice p1 pc.shapes.length c1, .slice p2 pc.fields.length c2, .slice p3 pc.roots.length c3] 42))
      have hp2 := (c_Picture _ K2 (mb.withMv mv1) hT9.r2 hIbn.out _ _ rs hT9.ro.ints (by rw [hrlH.out]; omega) pc 0 hpc2.out).mono (R' := fun e w' => ∃ v1 v2 v3, e = .returned (.tuple #[.agg #[v1, v2, v3], .int .i64 0]) ∧
          SmR w2 (w'.alloc (.cells #[v1, v2, v3] 42)) L2 mb K2 (mb.withMv mv1) (.slice rvp rs.length rvc) rs W8.heap.size w'.heap.size (.slice p1 pc.shapes.length c1) (.slice p2 pc.fields.length c2) (.slice p3 pc.roots.length c3) v1 v2 v3 pc)
        fun e w' ⟨v1, v2, v3, q1, q2, q3⟩ => ⟨v1, v2, v3, q1, SmR.start hP8H.out q3 (q2.monoD fun _ _ => trivial) (hT9.below q3)⟩
      rw [hc7.out] at hp2
      clear hT8 hT9 hP8H
      go_wp2_with (fail)
      refine hp2.mono ?_
      rintro e W10 ⟨v1, v2, v3, rfl, hS⟩
      clear hp2
      have hS0 := Lib.hid hS
      obtain ⟨q1, d1, rfl, -⟩ := hS.p2.1
      obtain ⟨q2, d2, rfl, -⟩ := hS.p2.2.1
      obtain ⟨q3, d3, rfl, -⟩ := hS.p2.2.2.1
      clear hS
      go_wp2_with (fail)
      refine (c_sanity _).mono ?_
      rintro e W11 ⟨rfl, hb⟩
      have hS1 := hS0.out.below hb
      clear hb hS0
      have key : ∃ P : World → Prop, (∀ W, P W → SmR w2 W L2 mb K2 (mb.withMv mv1) (.slice rvp rs.length rvc) rs W8.heap.size W10.heap.size (.slice p1 pc.shapes.length c1) (.slice p2 pc.fields.length c2) (.slice p3 pc.roots.length c3) (.slice q1 pc.shapes.length d1) (.slice q2 pc.fields.length d2) (.slice q3 pc.roots.length d3) pc) ∧ (∀ W W', P W → Below W.heap.size W W' → P W') ∧ P W11 :=
        ⟨_, fun W q => q, fun W W' q hb => SmR.below q hb, hS1⟩
      obtain ⟨P, hP1, hP2, hP3⟩ := key
      have hP1H := Lib.hid hP1
      have hP2H := Lib.hid hP2
      clear hP1 hP2 hS1
      have hr1 := (c_Room W11 L2 mb (hP1H.out _ hP3).two.r1).mono (R' := fun e w' => e = .returned (.agg #[.int .i64 mb.young.used, .int .i64 mb.now.used, .int .i64 mb.left]) ∧ P w') fun e w' ⟨q1, q2⟩ => ⟨q1, hP2H.out _ _ hP3 q2⟩
      rw [hb6.out] at hr1
      clear hP3
      go_wp2_with (fail)
      refine hr1.mono ?_
      rintro e W12 ⟨rfl, hP3⟩
      clear hr1
      have hr2 := (c_Room W12 K2 (mb.withMv mv1) (hP1H.out _ hP3).two.r2).mono (R' := fun e w' => e = .returned (.agg #[.int .i64 mb.young.used, .int .i64 mb.now.used, .int .i64 mb.left]) ∧ P w') fun e w' ⟨q1, q2⟩ => ⟨q1, hP2H.out _ _ hP3 q2⟩
      rw [hc7.out] at hr2
      clear hP3
      go_wp2_with (fail)
      refine hr2.mono ?_
      rintro e W13 ⟨rfl, hP3⟩
      clear hr2
      have hy1 := (c_Busy W13 L2 mb (hP1H.out _ hP3).two.r1).mono (R' := fun e w' => e = .returned (.bool mb.busy) ∧ P w') fun e w' ⟨q1, q2⟩ => ⟨q1, by rw [← q2]; exact hP3⟩
      rw [hb6.out] at hy1
      clear hP3
      go_wp2_with (fail)
      refine hy1.mono ?_
      rintro e W14 ⟨rfl, hP3⟩
      clear hy1
      have hy2 := (c_Busy W14 K2 (mb.withMv mv1) (hP1H.out _ hP3).two.r2).mono (R' := fun e w' => e = .returned (.bool mb.busy) ∧ P w') fun e w' ⟨q1, q2⟩ => ⟨q1, by rw [← q2]; exact hP3⟩
      rw [hc7.out] at hy2
      clear hP3
      go_wp2_with (fail)
      refine hy2.mono ?_
      rintro e W15 ⟨rfl, hP3⟩
      clear hy2
      have hS := hP1H.out _ hP3
      have a0 : W15.cell? ⟨W8.heap.size, 0, none⟩ = some (.slice p1 pc.shapes.length c1) := by rw [cell_of hS.h1]; rfl
      have a1 : W15.cell? ⟨W8.heap.size, 1, none⟩ = some (.slice p2 pc.fields.length c2) := by rw [cell_of hS.h1]; rfl
      have a2 : W15.cell? ⟨W8.heap.size, 2, none⟩ = some (.slice p3 pc.roots.length c3) := by rw [cell_of hS.h1]; rfl
      have b0 : W15.cell? ⟨W10.heap.size, 0, none⟩ = some (.slice q1 pc.shapes.length d1) := by rw [cell_of hS.h2]; rfl
      have b1 : W15.cell? ⟨W10.heap.size, 1, none⟩ = some (.slice q2 pc.fields.length d2) := by rw [cell_of hS.h2]; rfl
      have b2 : W15.cell? ⟨W10.heap.size, 2, none⟩ = some (.slice q3 pc.roots.length d3) := by rw [cell_of hS.h2]; rfl
      have hsp := (c_SamePictures W15 _ _ _ _ _ _ _ _ pc pc hS.p1 hS.p2).mono (R' := fun e w' => e = .returned (.bool true) ∧ P w') fun e w' q => ⟨by rw [q.1, Pic.same_refl], hP2H.out _ _ hP3 q.2⟩
      clear hS hP3
      go_wp2_with (fail)
      refine hsp.mono ?_
      rintro e W16 ⟨rfl, hP3⟩
      clear hsp a0 a1 a2 b0 b1 b2
      have hk1 := (c_Check W16 L2 mb (hP1H.out _ hP3).two.r1 hIbH.out).mono (R' := fun e w' => e = .returned (.int .i64 0) ∧ P w') fun e w' ⟨q1, q2⟩ => ⟨q1, hP2H.out _ _ hP3 q2⟩
      rw [hb6.out] at hk1
      clear hP3
      go_wp2_with (fail)
      refine hk1.mono ?_
      rintro e W17 ⟨rfl, hP3⟩
      clear hk1
      have hk2 := (c_Check W17 K2 (mb.withMv mv1) (hP1H.out _ hP3).two.r2 hIbn.out).mono (R' := fun e w' => e = .returned (.int .i64 0) ∧ P w') fun e w' ⟨q1, q2⟩ => ⟨q1, hP2H.out _ _ hP3 q2⟩
      rw [hc7.out] at hk2
      clear hP3
      go_wp2_with (fail)
      refine hk2.mono ?_
      rintro e W18 ⟨rfl, hP3⟩
      clear hk2
      have hfin := (hP1H.out _ hP3).two.bl
      clear hP3
      go_wp2
      go_ret
      exact ⟨rfl, hfin⟩
    · have hpl := c_Play_limit w D _ ss hshH.out (by omega) (fun l hl => by have := l70 l hl; omega) (Y : Int) (H : Int) (n : Int) hsz ap xs.length acap
      rw [hn] at hpl
      clear hn hsz l70
      go_enter Try.func9, Try.ntmps9
      go_wp2_with (fail)
      refine hlg.mono ?_
      rintro e w1 ⟨rfl, rfl⟩
      go_wp2_with (fail)
      refine hsc.mono ?_
      rintro e w2 ⟨rfl, rfl⟩
      go_wp2_with (fail)
      refine hpl.mono ?_
      rintro e w3 ⟨rfl, rfl⟩
      go_wp2_with (fail)
      refine (c_sanity _).mono ?_
      rintro e w2 ⟨rfl, hb⟩
      go_wp2
      go_ret
      exact ⟨rfl, hb⟩
end Go.Proofs.Ytnedmmopkhmejaa
