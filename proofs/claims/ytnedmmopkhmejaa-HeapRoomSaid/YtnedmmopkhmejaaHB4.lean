/- Walk: HeapRoom. -/
import Derived.Test.YtnedmmopkhmejaaHB3
namespace Go.Proofs.Ytnedmmopkhmejaa
open Go.RowKit Go.Proofs.Hp
attribute [local go_sem] Oper.semAt_some

theorem step_zero {m m' : Mem} {n v e : Int} (hn : 0 ≤ n) (h : m.stepE n = some (m', v, e)) : e = 0 := by
  unfold Mem.stepE at h
  rw [if_neg (by omega)] at h
  split at h
  · cases h; rfl
  · split at h
    · cases h
    · split at h <;> cases h <;> rfl
theorem inv_new {ss : List (List Bool)} {Y H : Nat} (n : Nat) (hsz : Mem.sizedE ss = 0) (hY0 : 0 < Y) (hH0 : 0 < H) (hY : Y ≤ 1024) (hH : H ≤ 4096) : PInv ⟨Mem.newM ss H Y, List.replicate n 0⟩ Y H := by
  have q : ss.length ≤ 60 ∧ ∀ l ∈ ss, l.length ≤ 60 := by
    unfold Mem.sizedE at hsz
    split at hsz
    · cases hsz
    · split at hsz
      · cases hsz
      · rename_i g1 g2
        simp only [List.any_eq_true, decide_eq_true_eq, not_exists, not_and] at g2
        exact ⟨by omega, fun l hl => by have := g2 l hl; omega⟩
  exact ⟨Mem.Inv.new q.1 q.2 hY0 hH0 hY hH, fun r hr => .inl (List.eq_of_mem_replicate hr)⟩
theorem inv_room {m : Mem} {Y H : Nat} (h : m.Inv Y H) : (m.young.used : Int) ≤ Y ∧ 0 ≤ m.left ∧ (m.now.used : Int) + m.left ≤ H := by
  have h1 := h.ty.le
  have h2 := h.geo.yl
  have h3 := h.rm
  have h4 := h.lf
  omega

theorem light_of {ss : List (List Bool)} {n : Nat} (h : lightE ss n = true) : ss.length ≤ 8 ∧ n ≤ 300 ∧ ∀ l ∈ ss, l.length ≤ 70 := by
  unfold lightE fitE at h
  simp only [Bool.and_eq_true, decide_eq_true_eq, List.all_eq_true] at h
  refine ⟨h.1.1, h.2, fun l hl => ?_⟩
  have := h.1.2.1 l hl
  unfold fitRow at this
  simp only [Bool.not_eq_true', Bool.or_eq_false_iff, decide_eq_false_iff_not] at this
  omega

set_option maxRecDepth 100000 in
set_option maxHeartbeats 8000000 in
theorem c_HeapRoom (w : World) (D : Nat → Prop) (v : Value) (ss : List (List Bool)) (h : ShRep w D v ss) (hD : ∀ k, D k → k < w.heap.size) (half young : Int) (hh : 0 ≤ half ∧ half ≤ 65535) (hy : 0 ≤ young ∧ young ≤ 65535)
    (rt : Int) (hrt : 0 ≤ rt ∧ rt ≤ 255) (E : Nat → Prop) (av : Value) (xs : List (Int × Int × Int × Int)) (hx : ActsAt w E av xs) (hE : ∀ k, E k → k < w.heap.size) (hwf : ∀ x ∈ xs, x.2.1 ≤ 9223372036854775807) (sp : Int) (hsp : 0 ≤ sp ∧ sp ≤ 255) :
    Calls Try.prog 5 #[v, .int .u16 half, .int .u16 young, .int .u8 rt, av, .int .u8 sp] w fun e w' => e = .returned (.bool true) ∧ Below w.heap.size w w' := by
  have hshH := Lib.hid h
  have hxH := Lib.hid hx
  have hwfH := Lib.hid hwf
  obtain ⟨p, cap, rfl, -⟩ := h
  obtain ⟨ap, acap, rfl, -⟩ := hx
  have hlg := c_light w D _ ss hshH.out ap xs.length acap
  clear hwf
  cases hle : lightE ss xs.length with
  | false =>
    rw [hle] at hlg
    clear hle
    go_enter Try.func5, Try.ntmps5
    go_wp2_with (fail)
    refine hlg.mono ?_
    rintro e w1 ⟨rfl, rfl⟩
    go_wp2_with (fail)
    refine (c_sanity _).mono ?_
    rintro e w2 ⟨rfl, hb⟩
    go_wp2
    go_ret
    exact ⟨rfl, hb⟩
  | true =>
    rw [hle] at hlg
    obtain ⟨l8, l300, l70⟩ := light_of hle
    clear hle
    by_cases hz : ss.length = 0
    · have hzI : ((ss.length : Nat) : Int) = 0 := by omega
      have hzB : (((ss.length : Nat) : Int) == 0) = true := by simp [hzI]
      clear hzI hz l8 l70
      go_enter Try.func5, Try.ntmps5
      go_wp2_with (fail)
      refine hlg.mono ?_
      rintro e w1 ⟨rfl, rfl⟩
      go_wp2_with (fail)
      refine (c_sanity _).mono ?_
      rintro e w2 ⟨rfl, hb⟩
      go_wp2
      go_ret
      exact ⟨rfl, hb⟩
    · have hzB : (((ss.length : Nat) : Int) == 0) = false := by rw [beq_eq_false_iff_ne]; omega
      have hsc := c_spaces w half young hh hy
      generalize hH' : 1 + half.toNat % 600 = H at hsc
      generalize hY' : 1 + young.toNat % 100 = Y at hsc
      have hH0 : 0 < H ∧ H ≤ 600 := by omega
      have hY0 : 0 < Y ∧ Y ≤ 100 := by omega
      obtain ⟨n, hn⟩ : ∃ n : Nat, (n : Int) = 1 + rt % 20 := ⟨(1 + rt % 20).toNat, by omega⟩
      have hn0 : 0 < n ∧ n ≤ 20 := by omega
      clear hH' hY' hh hy
      by_cases hsz : Mem.sizedE ss = 0
      · obtain ⟨p', es, hrun, hok, -⟩ := Pl.run_of xs (inv_new n hsz hY0.1 hH0.1 (by omega) (by omega))
        have hpl := (c_Play w D _ ss hshH.out hD Y H hsz hY0.1 hH0.1 (by omega) (by omega) n (by omega) E _ xs hxH.out hE (by omega) hwfH.out p' es hrun).mono
          (R' := fun e w' => ∃ L rv ev, e = .returned (.tuple #[.pointer (some ⟨L.b, 0, none⟩), rv, ev, .int .i64 0]) ∧ OwnR w w' L p'.mem ∧ OutAt w' (fun k => 0 ≤ k ∧ k ∉ L.fp) rv p'.roots)
          fun e w' ⟨L, pb, rv, ev, q1, q2, _, q4, q5, _⟩ => ⟨L, rv, ev, q1, ⟨q2.rep, fun k hk => q5 k (.inl hk), q4⟩, q2.out.mono fun k hk _ => ⟨Nat.zero_le _, hk.1⟩⟩
        have hI := hok.inv.inv
        have hmsh : p'.mem.shapes = ss := hok.shapes
        have hrl : p'.roots.length = n := by have := hok.len; simpa using this
        generalize p'.mem = m at *
        generalize p'.roots = rs at *
        clear hok hrun
        rw [hn] at hpl
        obtain ⟨sN, hsN⟩ : ∃ sN : Nat, (sp % (ss.length : Int)).toNat = sN := ⟨_, rfl⟩
        have hs0 : 0 ≤ sp % (ss.length : Int) := Int.emod_nonneg _ (by omega)
        have hs1 : sp % (ss.length : Int) < (ss.length : Int) := Int.emod_lt_of_pos _ (by omega)
        have hsl : sN < ss.length := by omega
        obtain ⟨b, o, cap', u, nl, c, hv, hcell, hnl⟩ := hshH.out.row hsl
        simp only [Value.slice.injEq, true_and] at hv
        obtain ⟨rfl, rfl⟩ := hv
        have hnl70 : nl ≤ 70 := by rw [hnl]; exact l70 _ (List.getElem_mem hsl)
        have hIH := Lib.hid hI
        have hrm1 := inv_room hI
        have hmshH := Lib.hid hmsh
        have hrlH := Lib.hid hrl
        have hcellH := Lib.hid hcell
        have hnlH := Lib.hid hnl
        have hsNH := Lib.hid hsN
        have hbl := lt_of_cell hcell
        clear hI hmsh hrl hcell hnl hsN hn hsz l70 hE hD
        go_enter Try.func5, Try.ntmps5
        go_wp2_with (fail)
        refine hlg.mono ?_
        rintro e w1 ⟨rfl, rfl⟩
        go_wp2_with (fail)
        refine hsc.mono ?_
        rintro e w2 ⟨rfl, rfl⟩
        go_wp2_with (fail)
        refine hpl.mono ?_
        rintro e W3 ⟨L, rv, ev, rfl, hO, ho⟩
        clear hpl hlg hsc
        have hroom := (c_Room W3 L m hO.rep).mono (R' := fun e w' => e = .returned (.agg #[.int .i64 m.young.used, .int .i64 m.now.used, .int .i64 m.left]) ∧ OwnR w2 w' L m ∧ OutAt w' (fun k => 0 ≤ k ∧ k ∉ L.fp) rv rs)
          fun e w' ⟨q1, q2⟩ => ⟨q1, hO.below q2, ho.ev (Ev.of_fr (Fr.of_below q2))⟩
        clear hO ho
        go_wp2_with (fail)
        refine hroom.mono ?_
        rintro e W4 ⟨rfl, hO4, ho4⟩
        clear hroom
        have hO5 := hO4.below (W' := W4.alloc (.cells #[.int .i64 m.young.used, .int .i64 m.now.used, .int .i64 m.left] 54)) ((Below.refl _ _).alloc (Nat.le_refl _) _)
        have ho5 := ho4.ev (W' := W4.alloc (.cells #[.int .i64 m.young.used, .int .i64 m.now.used, .int .i64 m.left] 54)) (Ev.of_fr ((Fr.refl _ W4).alloc _))
        have hz5 := al_same W4 (.cells #[.int .i64 m.young.used, .int .i64 m.now.used, .int .i64 m.left] 54)
        have r0 : (W4.alloc (.cells #[.int .i64 m.young.used, .int .i64 m.now.used, .int .i64 m.left] 54)).cell? ⟨W4.heap.size, 0, none⟩ = some (.int .i64 m.young.used) := by rw [cell_of hz5]; rfl
        have r1 : (W4.alloc (.cells #[.int .i64 m.young.used, .int .i64 m.now.used, .int .i64 m.left] 54)).cell? ⟨W4.heap.size, 1, none⟩ = some (.int .i64 m.now.used) := by rw [cell_of hz5]; rfl
        have r2 : (W4.alloc (.cells #[.int .i64 m.young.used, .int .i64 m.now.used, .int .i64 m.left] 54)).cell? ⟨W4.heap.size, 2, none⟩ = some (.int .i64 m.left) := by rw [cell_of hz5]; rfl
        obtain ⟨m1, lv, e1, hs1', hI1, hsh1⟩ := hIH.out.stepE (2 * (H : Int))
        obtain rfl := step_zero (by omega) hs1'
        have hst := (c_Step _ L m m1 hO5.rep (2 * (H : Int)) lv 0 (by omega) hs1').mono (R' := fun e w' => ∃ L', e = .returned (.tuple #[.int .i64 lv, .int .i64 0]) ∧ OwnR w2 w' L' m1 ∧ OutAt w' (fun k => 0 ≤ k ∧ k ∉ L'.fp) rv rs ∧ L'.b = L.b)
          fun e w' ⟨L', q1, q2, q3⟩ => ⟨L', q1, hO5.ev q2 q3, ho5.ev q3, q3.b⟩
        have hM1 := Lib.hid (And.intro hI1 (hsh1.trans hmshH.out))
        clear hO4 ho4 hO5 ho5 hz5 hs1' hI1 hsh1
        have q1 : ¬ (m.young.used : Int) < 0 := by omega
        have q2 : ¬ (Y : Int) < (m.young.used : Int) := by omega
        have q3 : ¬ (m.now.used : Int) < 0 := by omega
        have q4 : ¬ m.left < 0 := by omega
        have q5 : ¬ (H : Int) - m.left < (m.now.used : Int) := by omega
        go_wp2_with (fail)
        refine hst.mono ?_
        rintro e W6 ⟨L1, rfl, hO6, ho6, hb6⟩
        have hwh := (c_whole W6 L1 m1 hO6.rep hM1.out.1 _ rv rs ho6.ints (by rw [hrlH.out]; omega) 7 (by omega)).mono (R' := fun e w' => ∃ v' seen ok L' m' out, e = .returned (.tuple #[v', .int .i64 seen, .bool ok]) ∧ OwnR w2 w' L' m' ∧ L'.b = L.b ∧ L'.D = L1.D ∧ WhR W6 w' L1 L' rs.length m1 m' Y H v' ok out)
          fun e w' ⟨v', seen, ok, L', m', out, q1, q2⟩ => ⟨v', seen, ok, L', m', out, q1, hO6.ev q2.rep q2.ev, q2.ev.b.trans hb6, q2.ev.D, q2⟩
        rw [hb6] at hwh
        have hD6 := Lib.hid hO6.rep.Dlt
        have hW6 := Lib.hid hO6.bl.size
        clear hst r0 r1 r2 q1 q2 q3 q4 q5 hO6 hb6
        obtain ⟨rvp, rvc, hrvs, -⟩ := ho6
        subst hrvs
        go_wp2_with (fail)
        refine hwh.mono ?_
        rintro e W7 ⟨v7, seen, ok, L7, m7, out, rfl, hO7, hb7, hD7, hR7⟩
        clear hwh
        cases ok with
        | false =>
          go_wp2_with (fail)
          refine (c_sanity _).mono ?_
          rintro e W8 ⟨rfl, hb⟩
          have hfin := (hO7.below hb).bl
          clear hR7 hO7
          go_wp2
          go_ret
          exact ⟨rfl, hfin⟩
        | true =>
          obtain ⟨y1, y2, y3, y4⟩ := hR7.yes rfl
          have hsh7 : m7.shapes = ss := hR7.sh.trans hM1.out.2
          have hlen7 : out.length = n := y1.trans hrlH.out
          have hsa : m7.shapeAt (sp % (ss.length : Int)) = some ss[sN] := by
            unfold Mem.shapeAt
            rw [if_pos hs0, hsh7, hsNH.out]
            exact List.getElem?_eq_getElem hsl
          have hcell7 : W7.cell? ⟨b, o + (sp % (ss.length : Int)).toNat, none⟩ = some (.slice u nl c) := by
            rw [hsNH.out, hO7.bl.cell hbl]; exact hcellH.out
          obtain ⟨ag, acp, hvs, hag⟩ : ∃ g cap, v7 = .slice (some ⟨g, 0, none⟩) out.length cap ∧ (W6.heap.size ≤ g ∧ g ∉ L7.fp) ∧ Row W7 g 3 (out.map (.int .i64)) := by
            obtain ⟨p0, c0, e0, e1 | ⟨g, e1, e2, e3⟩⟩ := y4
            · rw [e1] at hlen7; simp at hlen7; omega
            · exact ⟨g, c0, by rw [e0, e1], e2, e3⟩
          subst hvs
          have hal := c_Alloc W7 L7 m7 hO7.rep (sp % (ss.length : Int))
          rw [hb7] at hal
          have hO7H := Lib.hid hO7
          have hy2H := Lib.hid y2
          have hy3H := Lib.hid y3
          have hy4H := Lib.hid y4
          have hagH := Lib.hid hag
          have hb7H := Lib.hid hb7
          have hD7H := Lib.hid hD7
          have hsaH := Lib.hid hsa
          have hlen7H := Lib.hid hlen7
          clear hR7 hO7 y1 y2 y3 y4 hsh7 hag hb7 hD7 hsa hlen7 hcellH
          by_cases hbig : (Y : Int) < 1 + (nl : Int)
          · have hfull := hy2H.out.full hsaH.out (by have := hnlH.out; push_cast; omega)
            rw [hfull] at hal
            replace hal := hal.mono (R' := fun e w' => e = .returned (.tuple #[.int .i64 0, .int .i64 14]) ∧ OwnR w2 w' L7 m7) fun e w' ⟨q1, q2, q3⟩ => ⟨q1, hO7H.out.fr q2 q3⟩
            clear hfull
            go_wp2_with (fail)
            refine hal.mono ?_
            rintro e W8 ⟨rfl, hO8⟩
            clear hal hcell7
            go_wp2_with (fail)
            refine (c_sanity _).mono ?_
            rintro e W9 ⟨rfl, hb⟩
            have hfin := (hO8.below hb).bl
            clear hO8
            go_wp2
            go_ret
            exact ⟨rfl, hfin⟩
          · obtain ⟨m8, at', z1, z2, z3, z4, z5, z6, z7, z8⟩ := hy2H.out.alloc hsaH.out (by have := hnlH.out; push_cast; omega)
            rw [z1] at hal
            have hout0 : 0 < out.length := by rw [hlen7H.out]; omega
            replace hal := hal.mono (R' := fun e w' => e = .returned (.tuple #[.int .i64 at', .int .i64 0]) ∧ OwnR w2 w' L7 m8 ∧ Row w' ag 3 (out.map (.int .i64)) ∧ W7.heap.size ≤ w'.heap.size) fun e w' ⟨q1, q2, q3⟩ =>
              ⟨q1, hO7H.out.fr q2 q3, hagH.out.2.of_block (q3.block ag hagH.out.2.lt hagH.out.1.2), q3.size⟩
            have hzz := Lib.hid (And.intro z2 (And.intro z3 (And.intro z4 (And.intro z5 (And.intro z6 (And.intro z7 z8))))))
            clear z1 z2 z3 z4 z5 z6 z7 z8
            go_wp2_with (fail)
            refine hal.mono ?_
            rintro e W8 ⟨rfl, hO8, hrow8, hsz8⟩
            have hlm : (out.map (Value.int .i64)).length = out.length := by simp
            obtain ⟨c8, hc8⟩ : ∃ c8, W8.cell? ⟨ag, 0, none⟩ = some c8 := ⟨_, hrow8.cell (i := 0) (by rw [hlm]; exact hout0)⟩
            have hz8 := hrow8.free 0
            have f9 : Fr (fun k => k = ag) W8 (W8.setCell ⟨ag, 0, none⟩ (.int .i64 at')) := (Fr.refl _ _).setCell _ _ (.inl rfl)
            have hrow9 := hrow8.set (i := 0) (by rw [hlm]; exact hout0) (.int .i64 at')
            have hO9 : OwnR w2 (W8.setCell ⟨ag, 0, none⟩ (.int .i64 at')) L7 m8 :=
              ⟨hO8.rep.fr f9 (fun k hk e => hagH.out.1.2 (by subst e; exact hk)) (fun k hk e => by rw [hD7H.out] at hk; have := hD6.out k hk; have := hagH.out.1.1; omega), hO8.fpB,
                Fr.to_below hO8.bl hO8.bl.size f9 fun k e => by rw [e]; exact Nat.le_trans hW6.out hagH.out.1.1⟩
            obtain ⟨m9, out2, e9, hmE, hMR⟩ := hzz.out.1.minorE (out.set 0 at')
            have hints : IntsAt (W8.setCell ⟨ag, 0, none⟩ (.int .i64 at')) (fun _ => True) (.slice (some ⟨ag, 0, none⟩) out.length acp) (out.set 0 at') :=
              OutAt.ints ⟨some ⟨ag, 0, none⟩, acp, by simp, .inr ⟨ag, rfl, trivial, by rw [List.map_set]; exact hrow9⟩⟩
            have hmn := (c_Minor _ L7 m8 m9 hO9.rep (fun _ => True) _ (out.set 0 at') out2 e9 hints (by rw [List.length_set, hlen7H.out]; omega) hmE).mono (R' := fun e w' => ∃ v' L', e = .returned (.tuple #[v', .int .i64 e9]) ∧ OwnR w2 w' L' m9 ∧ L'.b = L.b)
              fun e w' ⟨v', L', q1, q2, q3, _⟩ => ⟨v', L', q1, hO9.ev q2 q3, q3.b.trans hb7H.out⟩
            rw [hb7H.out] at hmn
            have hres : e9 = 0 ∨ (e9 = 14 ∧ (H : Int) < (m9.now.used : Int) + (1 + (nl : Int))) := by
              have hr0 : m8.rooted (out.set 0 at') = 0 := Mem.rooted_of (by rw [List.length_set, hlen7H.out]; omega) fun r hr => by
                rcases List.mem_or_eq_of_mem_set hr with q | q
                · exact (hy2H.out.cur r q).imp id (hzz.out.2.2.1 r)
                · rw [q]; exact .inr (.inl hzz.out.2.1)
              cases hMR with
              | rooted _ q1 q2 => exact absurd (q1.symm.trans hr0) q2
              | ok => exact .inl rfl
              | full n0 q1 q2 q3 =>
                refine .inr ⟨rfl, ?_⟩
                have k1 := hzz.out.2.2.2.2.2.2 _ _ q2
                have k2 := hzz.out.2.2.2.1
                have k3 := hzz.out.2.2.2.2.1
                have k4 := (hy2H.out.inv.idle hy3H.out).2.1
                have k5 := hzz.out.1.geo.nl
                have k6 := hnlH.out
                unfold Sp.room at q3
                rw [k5, k3, k4] at q3
                push_cast at k1
                omega
            have hu9 : (m9.now.used : Int) ≤ 4096 ∧ 0 ≤ (m9.now.used : Int) := by
              have k1 := hMR.inv hzz.out.1
              have k2 := k1.tn.le
              have k3 := k1.geo.nl
              omega
            have hne8 : (((out.length : Nat) : Int) == 0) = false := by rw [beq_eq_false_iff_ne]; omega
            have hlt8 : (0 : Int) < (out.length : Int) := by omega
            have hresH := Lib.hid hres
            clear hal hrow8 hsz8 hlm f9 hrow9 hO8 hO9 hmE hMR hints hres hcell7 hout0
            go_wp2_with (fail)
            refine hmn.mono ?_
            rintro e W10 ⟨v10, L10, rfl, hO10, hb10⟩
            have hO10H := Lib.hid hO10
            have hb10H := Lib.hid hb10
            clear hmn hO10 hb10 hc8 hz8 hne8 hlt8
            go_wp2_with (fail)
            refine (c_sanity _).mono ?_
            rintro e W11 ⟨rfl, hb11⟩
            have hO11 := hO10H.out.below hb11
            by_cases he0 : e9 = 0
            · subst he0
              have hfin := hO11.bl
              clear hO11 hb11
              go_wp2
              go_ret
              exact ⟨rfl, hfin⟩
            · obtain ⟨h14, hgt⟩ := hresH.out.resolve_left he0
              subst h14
              have hrm := (c_Room W11 L10 m9 hO11.rep).mono (R' := fun e w' => e = .returned (.agg #[.int .i64 m9.young.used, .int .i64 m9.now.used, .int .i64 m9.left]) ∧ Below w2.heap.size w2 w') fun e w' ⟨q1, q2⟩ => ⟨q1, (hO11.below q2).bl⟩
              rw [hb10H.out] at hrm
              clear hO11 hb11 he0
              have hfd := room_old
              go_wp2_with (fail)
              refine hrm.mono ?_
              rintro e W12 ⟨rfl, hfin⟩
              clear hrm
              go_wp2
              go_ret
              exact ⟨rfl, hfin⟩
      · have hpl := c_Play_limit w D _ ss hshH.out (by omega) (fun l hl => by have := l70 l hl; omega) (Y : Int) (H : Int) (n : Int) hsz ap xs.length acap
        rw [hn] at hpl
        clear hn hsz l70
        go_enter Try.func5, Try.ntmps5
        go_wp2_with (fail)
        refine hlg.mono ?_
        rintro e w1 ⟨rfl, rfl⟩
        go_wp2_with (fail)
        refine hsc.mono ?_
        rintro e w2 ⟨rfl, rfl⟩
        go_wp2_with (fail)
        refine hpl.mono ?_
        rintro e w3 ⟨rfl, rfl⟩
        go_wp2_with (fail)
        refine (c_sanity _).mono ?_
        rintro e w2 ⟨rfl, hb⟩
        go_wp2
        go_ret
        exact ⟨rfl, hb⟩
end Go.Proofs.Ytnedmmopkhmejaa
