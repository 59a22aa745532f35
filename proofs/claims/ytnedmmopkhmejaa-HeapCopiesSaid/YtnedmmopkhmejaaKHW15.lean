/- Walk: Minor. -/
import Derived.Test.YtnedmmopkhmejaaKHW14
set_option linter.unusedVariables false
set_option linter.unusedSimpArgs false
namespace Go.Proofs.Ytnedmmopkhmejaa
open Go.RowKit Go.Proofs.Hp

theorem minor_parts {m mm : Mem} {roots out : List Int} (h : m.minor roots = some (out, mm)) : ∃ m1 m2 m3, Mem.fwdAll true { m with moved := [] } roots = some (out, m1) ∧ Mem.fwdKnown m1 m1.known = some m2 ∧
    Mem.scanAll (m.now.words.length + 1) m2 m.now.top = some m3 ∧ mm = { m3 with moved := m.moved, young := m3.young.empty, known := [] } := by
  unfold Mem.minor at h
  split at h
  · cases h
  · rename_i out' m1 h1
    split at h
    · cases h
    · rename_i m2 h2
      split at h
      · cases h
      · rename_i m3 h3
        simp only [Option.some.injEq, Prod.mk.injEq] at h
        obtain ⟨rfl, rfl⟩ := h
        exact ⟨m1, m2, m3, h1, h2, h3, rfl⟩

theorem OutAt.nil (w : World) (D : Nat → Prop) : OutAt w D (.slice none 0 0) [] := ⟨none, 0, rfl, .inl rfl⟩

set_option maxRecDepth 100000 in
set_option maxHeartbeats 2000000 in
theorem c_Minor (w : World) (L : ML) (m m' : Mem) (h : MemRep w L m) (D : Nat → Prop) (v : Value) (roots out : List Int) (er : Int) (hr : IntsAt w D v roots) (hl : roots.length ≤ 1048576) (hm : m.minorE roots = some (m', out, er)) :
    Calls Try.prog 34 #[.pointer (some ⟨L.b, 0, none⟩), v] w fun e w' => ∃ v' L', e = .returned (.tuple #[v', .int .i64 er]) ∧ MemRep w' L' m' ∧ Ev L L' w w' ∧ OutAt w' (fun k => w.heap.size ≤ k ∧ k ∉ L'.fp) v' out := by
  have hrt := c_rooted w L m h D v roots hr (by omega)
  obtain ⟨p, cap, rfl, hc⟩ := hr
  have hr : IntsAt w D (.slice p roots.length cap) roots := ⟨p, cap, rfl, hc⟩
  clear hc
  unfold Mem.minorE at hm
  by_cases h0 : m.rooted roots = 0
  · rw [if_neg (by simpa using h0)] at hm
    rw [h0] at hrt
    cases hn : m.needed roots with
    | none => rw [hn] at hm; cases hm
    | some n =>
      rw [hn] at hm
      simp only at hm
      by_cases hgt : n > m.now.room - m.left
      · rw [if_pos hgt] at hm
        simp only [Option.some.injEq, Prod.mk.injEq] at hm
        obtain ⟨rfl, rfl, rfl⟩ := hm
        have hgb : decide (n > m.now.room - m.left) = true := decide_eq_true hgt
        have hwr : IntKind.i64.wrap (m.now.room - m.left) = m.now.room - m.left := IntWalk.i64_in _ (by have := h.n.b1; have := h.n.le; have := h.lf0; have := h.lf1; unfold Sp.room; omega)
        have hnH := Lib.hid hn
        clear hgt h0 hn
        go_enter Try.func34, Try.ntmps34
        go_wp2_with (fail)
        refine hrt.mono ?_
        rintro e w1 ⟨rfl, hb⟩
        have h1 := h.below hb
        have hr1 : IntsAt w1 D (.slice p roots.length cap) roots := hr.fr (S := fun _ => False) (Fr.of_below hb) (fun _ _ => id)
        clear hrt hr
        have x2 := h1.c2
        have x8 := h1.c8
        have hcn := c_needed w1.drew L m h1.drew D _ roots (hr1.fr (S := fun _ => False) ((Fr.refl _ w1).drew) (fun _ _ => id)) (by omega) n hnH.out
        go_wp2_with (fail)
        go_region_held3 (fun w' => w'.cell? ⟨L.b, 2, none⟩ = some (.pointer (some ⟨L.n.b, 0, none⟩)) ∧ w'.cell? ⟨L.b, 8, none⟩ = some (.int .i64 m.left)) (go_keep)
          (first
            | ((with_reducible refine hcn.mono ?_); rintro e w3 ⟨rfl, hb3⟩; have h3 := (h1.drew).below hb3; have y2 := h3.c2; have y8 := h3.c8)
            | ((with_reducible refine (c_room w3 L.n m.now h3.n).mono ?_); rintro e w4 ⟨rfl, n4, rfl⟩))
        have h4 := h3.drewN n4
        have hB4 : Below w.heap.size w (w3.drewN n4) := hb.trans ((below_drewN ((below_drewN (Below.refl w1.heap.size w1) 1).trans hb3) n4).mono hb.size)
        clear x2 x8 y2 y8 hcn h3 h1 hb3 hb
        go_wp2
        go_ret2
        exact ⟨_, L, rfl, h4, Ev.of_fr (Fr.of_below hB4), OutAt.nil _ _⟩
      · rw [if_neg hgt] at hm
        obtain ⟨⟨out', mm⟩, hmi, hr2⟩ := Option.map_eq_some_iff.1 hm
        simp only [Prod.mk.injEq] at hr2
        obtain ⟨rfl, rfl, rfl⟩ := hr2
        obtain ⟨m1, m2, m3, q1, q2, q3, rfl⟩ := minor_parts hmi
        have hgb : decide (n > m.now.room - m.left) = false := decide_eq_false hgt
        have hwr : IntKind.i64.wrap (m.now.room - m.left) = m.now.room - m.left := IntWalk.i64_in _ (by have := h.n.b1; have := h.n.le; have := h.lf0; have := h.lf1; unfold Sp.room; omega)
        have hnH := Lib.hid hn
        have q1H := Lib.hid q1
        have q2H := Lib.hid q2
        have q3H := Lib.hid q3
        clear hgt h0 hn hm hmi q1 q2 q3
        go_enter Try.func34, Try.ntmps34
        go_wp2_with (fail)
        refine hrt.mono ?_
        rintro e w1 ⟨rfl, hb⟩
        have h1 := h.below hb
        have hr1 : IntsAt w1 D (.slice p roots.length cap) roots := hr.fr (S := fun _ => False) (Fr.of_below hb) (fun _ _ => id)
        clear hrt hr
        have x2 := h1.c2
        have x8 := h1.c8
        have hcn := c_needed w1.drew L m h1.drew D _ roots (hr1.fr (S := fun _ => False) ((Fr.refl _ w1).drew) (fun _ _ => id)) (by omega) n hnH.out
        go_wp2_with (fail)
        go_region_held3 (fun w' => w'.cell? ⟨L.b, 2, none⟩ = some (.pointer (some ⟨L.n.b, 0, none⟩)) ∧ w'.cell? ⟨L.b, 8, none⟩ = some (.int .i64 m.left)) (go_keep)
          (first
            | ((with_reducible refine hcn.mono ?_); rintro e w3 ⟨rfl, hb3⟩; have h3 := (h1.drew).below hb3; have y2 := h3.c2; have y8 := h3.c8)
            | ((with_reducible refine (c_room w3 L.n m.now h3.n).mono ?_); rintro e w4 ⟨rfl, n4, rfl⟩))
        have h4 := h3.drewN n4
        have hB4 : Below w.heap.size w (w3.drewN n4) := hb.trans ((below_drewN ((below_drewN (Below.refl w1.heap.size w1) 1).trans hb3) n4).mono hb.size)
        have hr4 : IntsAt (w3.drewN n4) D (.slice p roots.length cap) roots := ((hr1.fr (S := fun _ => False) ((Fr.refl _ w1).drew) (fun _ _ => id)).fr (S := fun _ => False) (Fr.of_below hb3) (fun _ _ => id)).fr (S := fun _ => False) ((Fr.refl _ w3).drewN n4) (fun _ _ => id)
        clear x2 x8 y2 y8 hcn h3 h1 hb3 hb hr1
        generalize w3.drewN n4 = W at *
        go_wp2_with (fail)
        refine (c_minor W L m m1 m2 m3 h4 D _ roots out' hr4 hl q1H.out q2H.out q3H.out).mono ?_
        rintro e W5 ⟨v', L', rfl, h5, ev5, o5⟩
        have hfin := (Ev.of_fr (L := L) (Fr.of_below hB4)).trans ev5
        have hofin := o5.mono (D' := fun k => w.heap.size ≤ k ∧ k ∉ L'.fp) fun k hk _ => ⟨Nat.le_trans hB4.size hk.1, hk.2⟩
        obtain ⟨vp, vcap, rfl, ho⟩ := hofin
        clear o5
        go_wp2
        go_ret2
        exact ⟨_, L', rfl, h5, hfin, ⟨vp, vcap, rfl, ho⟩⟩
  · rw [if_pos (by simpa using h0)] at hm
    simp only [Option.some.injEq, Prod.mk.injEq] at hm
    obtain ⟨rfl, rfl, rfl⟩ := hm
    have hne : (m.rooted roots != 0) = true := by simpa using h0
    generalize m.rooted roots = er at *
    clear h0
    go_enter Try.func34, Try.ntmps34
    go_wp2_with (fail)
    refine hrt.mono ?_
    rintro e w1 ⟨rfl, hb⟩
    go_wp2
    go_ret2
    exact ⟨_, L, rfl, h.below hb, Ev.of_fr (Fr.of_below hb), OutAt.nil _ _⟩
end Go.Proofs.Ytnedmmopkhmejaa
