/- Walks: one call of a memory's method by number. -/
import Derived.Test.YtnedmmopkhmejaaKHE1
import Derived.Test.YtnedmmopkhmejaaKHQ8
import Derived.Deep.AppendLies
set_option linter.unusedVariables false
set_option linter.unusedSimpArgs false
namespace Go.Proofs.Ytnedmmopkhmejaa
open Go.RowKit Go.Proofs.Hp
attribute [local go_sem] Oper.semAt_some

set_option maxRecDepth 100000 in
theorem c_kind (w : World) (k a b c : Int) (rv : Value) (hrv : ∃ p n z, rv = .slice p n z) :
    Calls Try.prog 49 #[.agg #[.int .i64 k, .int .i64 a, .int .i64 b, .int .i64 c, rv]] w fun e w' => e = .returned (.int .i64 (Mem.kindOf k)) ∧ Below w.heap.size w w' := by
  obtain ⟨p, n, z, rfl⟩ := hrv
  have hb := al_same w (.cells #[.int .i64 k, .int .i64 a, .int .i64 b, .int .i64 c, .slice p n z] 38)
  have y0 : (w.alloc (.cells #[.int .i64 k, .int .i64 a, .int .i64 b, .int .i64 c, .slice p n z] 38)).cell? ⟨w.heap.size, 0, none⟩ = some (.int .i64 k) := by rw [cell_of hb]; rfl
  have hB : Below w.heap.size w (w.alloc (.cells #[.int .i64 k, .int .i64 a, .int .i64 b, .int .i64 c, .slice p n z] 38)) := (Below.refl _ _).alloc (Nat.le_refl _) _
  have h1 : -7 < k.tmod 7 := by have := Int.lt_tmod_of_pos k (show (0 : Int) < 7 by decide); omega
  have h2 : k.tmod 7 < 7 := Int.tmod_lt_of_pos k (by decide)
  have hk : Hid (Mem.kindOf k = (k.tmod 7 + 7).tmod 7) := Lib.hid rfl
  generalize Mem.kindOf k = kd at *
  clear hb
  go_enter Try.func49, Try.ntmps49
  go_wp2_with (fail)
  go_ret
  exact ⟨by rw [hk.out, Int.tmod_eq_emod_of_nonneg (show 0 ≤ k.tmod 7 + 7 by omega)]; rfl, hB⟩

/-- What one call leaves. -/
def CallR (w : World) (L : ML) (m' : Mem) (v e0 : Int) (e : Ending) (w' : World) : Prop := ∃ (L' : ML) (p : Option Addr) (n z : Nat), e = .returned (.tuple #[.int .i64 v, .slice p n z, .int .i64 e0]) ∧ MemRep w' L' m' ∧ Ev L L' w w'

set_option maxRecDepth 100000 in
set_option maxHeartbeats 4000000 in
theorem c_called (w : World) (L : ML) (m m' : Mem) (h : MemRep w L m) (k a b c : Int) (D : Nat → Prop) (rv : Value) (roots : List Int) (hr : IntsAt w D rv roots) (hl : roots.length ≤ 1048576) (ha : a ≤ 9223372036854775807) (v e0 : Int) (hm : m.callE ((k, a, b, c), roots) = some (m', v, e0)) :
    Calls Try.prog 17 #[.pointer (some ⟨L.b, 0, none⟩), .agg #[.int .i64 k, .int .i64 a, .int .i64 b, .int .i64 c, rv]] w (CallR w L m' v e0) := by
  obtain ⟨p, z, hrv, hc⟩ := hr
  have hr : IntsAt w D rv roots := ⟨p, z, hrv, hc⟩
  have hbk := al_same w (.cells #[.int .i64 k, .int .i64 a, .int .i64 b, .int .i64 c, rv] 38)
  have f0 : Fr (fun _ => False) w (w.alloc (.cells #[.int .i64 k, .int .i64 a, .int .i64 b, .int .i64 c, rv] 38)) := (Fr.refl _ w).alloc _
  have hkd := (c_kind (w.alloc (.cells #[.int .i64 k, .int .i64 a, .int .i64 b, .int .i64 c, rv] 38)) k a b c rv ⟨p, _, z, hrv⟩).mono
    (R' := fun e w' => e = .returned (.int .i64 (Mem.kindOf k)) ∧ MemRep w' L m ∧ IntsAt w' D rv roots ∧ w'.heap[w.heap.size]? = some (.cells #[.int .i64 k, .int .i64 a, .int .i64 b, .int .i64 c, rv] 38 (0, 0)) ∧ Fr (fun _ => False) w w')
    fun e w' ⟨q1, q2⟩ => by
      have f1 := f0.trans (Fr.of_below (S := fun _ => False) q2)
      exact ⟨q1, h.fr f1 (fun _ _ => id) (fun _ _ => id), hr.fr f1 (fun _ _ => id), (Fr.of_below (S := fun _ => False) q2).blk hbk id, f1⟩
  have hmH := Lib.hid hm
  clear hm hc hr h hbk f0
  unfold Mem.callE at hmH
  simp only at hmH
  generalize Mem.kindOf k = kd at *
  subst hrv
  go_enter Try.func17, Try.ntmps17
  go_wp2_with (fail)
  refine hkd.mono ?_
  rintro e W ⟨rfl, hM, hR, hB, hF⟩
  clear hkd
  have y1 : W.cell? ⟨w.heap.size, 1, none⟩ = some (.int .i64 a) := by rw [cell_of hB]; rfl
  have y2 : W.cell? ⟨w.heap.size, 2, none⟩ = some (.int .i64 b) := by rw [cell_of hB]; rfl
  have y3 : W.cell? ⟨w.heap.size, 3, none⟩ = some (.int .i64 c) := by rw [cell_of hB]; rfl
  have y4 : W.cell? ⟨w.heap.size, 4, none⟩ = some (.slice p roots.length z) := by rw [cell_of hB]; rfl
  have hFH := Lib.hid hF
  clear hB hF
  by_cases k0 : kd = 0
  · have hm := hmH.out
    rw [if_pos k0] at hm
    have hq := (c_Alloc W L m hM a).mono (R' := fun e w' => ∃ L', e = .returned (.tuple #[.int .i64 v, .int .i64 e0]) ∧ MemRep w' L' m' ∧ Ev L L' W w') fun e w' ⟨q1, q2, q3⟩ => by
      simp only [Option.some.injEq] at hm
      rw [hm] at q1 q2
      exact ⟨L, q1, q2, Ev.of_fr q3⟩
    subst k0
    clear hm hM hR hmH
    go_wp2_with (fail)
    refine hq.mono ?_
    rintro e W' ⟨L', rfl, q1, q2⟩
    have hfin := (Ev.of_fr (hFH.out.mono fun _ _ q => q.elim)).trans q2
    clear hq hFH q2 y1 y2 y3 y4
    go_wp2
    exact bodyPost_ret (v := .tuple #[.int .i64 v, .slice none 0 0, .int .i64 e0]) (by simp [results, Try.results17, go_sem]) rfl ⟨L', _, _, _, rfl, q1, hfin⟩
  · by_cases k1 : kd = 1
    · have hm := hmH.out
      rw [if_neg k0, if_pos k1] at hm
      have hq := (c_Shape W L m hM a).mono (R' := fun e w' => ∃ L', e = .returned (.tuple #[.int .i64 v, .int .i64 e0]) ∧ MemRep w' L' m' ∧ Ev L L' W w') fun e w' ⟨q1, q2⟩ => by
        simp only [Option.some.injEq, Prod.mk.injEq] at hm
        obtain ⟨h1, h2⟩ := hm
        rw [h2] at q1
        rw [← h1]
        exact ⟨L, q1, hM.below q2, Ev.of_fr (Fr.of_below q2)⟩
      subst k1
      clear hm hM hR hmH k0
      go_wp2_with (fail)
      refine hq.mono ?_
      rintro e W' ⟨L', rfl, q1, q2⟩
      have hfin := (Ev.of_fr (hFH.out.mono fun _ _ q => q.elim)).trans q2
      clear hq hFH q2 y1 y2 y3 y4
      go_wp2
      exact bodyPost_ret (v := .tuple #[.int .i64 v, .slice none 0 0, .int .i64 e0]) (by simp [results, Try.results17, go_sem]) rfl ⟨L', _, _, _, rfl, q1, hfin⟩
    · by_cases k2 : kd = 2
      · have hm := hmH.out
        rw [if_neg k0, if_neg k1, if_pos k2] at hm
        have hq := (c_Get W L m m' hM a b v e0 hm).mono (R' := fun e w' => ∃ L', e = .returned (.tuple #[.int .i64 v, .int .i64 e0]) ∧ MemRep w' L' m' ∧ Ev L L' W w') fun e w' ⟨q1, q2, q3⟩ => ⟨L, q1, q2, Ev.of_fr q3⟩
        subst k2
        clear hm hM hR hmH k0 k1
        go_wp2_with (fail)
        refine hq.mono ?_
        rintro e W' ⟨L', rfl, q1, q2⟩
        have hfin := (Ev.of_fr (hFH.out.mono fun _ _ q => q.elim)).trans q2
        clear hq hFH q2 y1 y2 y3 y4
        go_wp2
        exact bodyPost_ret (v := .tuple #[.int .i64 v, .slice none 0 0, .int .i64 e0]) (by simp [results, Try.results17, go_sem]) rfl ⟨L', _, _, _, rfl, q1, hfin⟩
      · by_cases k3 : kd = 3
        · have hm := hmH.out
          rw [if_neg k0, if_neg k1, if_neg k2, if_pos k3] at hm
          obtain ⟨⟨n1, e1⟩, hs, hm2⟩ := Option.map_eq_some_iff.1 hm
          simp only [Prod.mk.injEq] at hm2
          obtain ⟨rfl, rfl, rfl⟩ := hm2
          have hq := (c_Set W L m n1 hM a b c e1 hs).mono (R' := fun e w' => ∃ L', e = .returned (.int .i64 e1) ∧ MemRep w' L' n1 ∧ Ev L L' W w') fun e w' q => q
          subst k3
          clear hm hs hM hR hmH k0 k1 k2
          go_wp2_with (fail)
          refine hq.mono ?_
          rintro e W' ⟨L', rfl, q1, q2⟩
          have hfin := (Ev.of_fr (hFH.out.mono fun _ _ q => q.elim)).trans q2
          clear hq hFH q2 y1 y2 y3 y4
          go_wp2
          exact bodyPost_ret (v := .tuple #[.int .i64 0, .slice none 0 0, .int .i64 e1]) (by simp [results, Try.results17, go_sem]) rfl ⟨L', _, _, _, rfl, q1, hfin⟩
        · by_cases k4 : kd = 4
          · have hm := hmH.out
            rw [if_neg k0, if_neg k1, if_neg k2, if_neg k3, if_pos k4] at hm
            obtain ⟨⟨n1, o1, e1⟩, hs, hm2⟩ := Option.map_eq_some_iff.1 hm
            simp only [Prod.mk.injEq] at hm2
            obtain ⟨rfl, rfl, rfl⟩ := hm2
            have hq := (c_Minor W L m n1 hM D _ roots o1 e1 hR hl hs).mono (R' := fun e w' => ∃ (L' : ML) (op : Option Addr) (on oz : Nat), e = .returned (.tuple #[.slice op on oz, .int .i64 e1]) ∧ MemRep w' L' n1 ∧ Ev L L' W w') fun e w' ⟨v', L', q1, q2, q3, op, oz, q4, _⟩ => ⟨L', op, o1.length, oz, by rw [q1, q4], q2, q3⟩
            subst k4
            clear hm hs hM hR hmH k0 k1 k2 k3
            go_wp2_with (fail)
            refine hq.mono ?_
            rintro e W' ⟨L', op, on, oz, rfl, q1, q2⟩
            have hfin := (Ev.of_fr (hFH.out.mono fun _ _ q => q.elim)).trans q2
            clear hq hFH q2 y1 y2 y3 y4
            go_wp2
            exact bodyPost_ret (v := .tuple #[.int .i64 0, .slice op on oz, .int .i64 e1]) (by simp [results, Try.results17, go_sem]) rfl ⟨L', _, _, _, rfl, q1, hfin⟩
          · by_cases k5 : kd = 5
            · have hm := hmH.out
              rw [if_neg k0, if_neg k1, if_neg k2, if_neg k3, if_neg k4, if_pos k5] at hm
              obtain ⟨⟨n1, o1, e1⟩, hs, hm2⟩ := Option.map_eq_some_iff.1 hm
              simp only [Prod.mk.injEq] at hm2
              obtain ⟨rfl, rfl, rfl⟩ := hm2
              have hq := (c_FlipE W L m n1 hM D _ roots o1 e1 hR hl hs).mono (R' := fun e w' => ∃ (L' : ML) (op : Option Addr) (on oz : Nat), e = .returned (.tuple #[.slice op on oz, .int .i64 e1]) ∧ MemRep w' L' n1 ∧ Ev L L' W w') fun e w' ⟨v', L', q1, q2, q3, op, oz, q4, _⟩ => ⟨L', op, o1.length, oz, by rw [q1, q4], q2, q3⟩
              subst k5
              clear hm hs hM hR hmH k0 k1 k2 k3 k4
              go_wp2_with (fail)
              refine hq.mono ?_
              rintro e W' ⟨L', op, on, oz, rfl, q1, q2⟩
              have hfin := (Ev.of_fr (hFH.out.mono fun _ _ q => q.elim)).trans q2
              clear hq hFH q2 y1 y2 y3 y4
              go_wp2
              exact bodyPost_ret (v := .tuple #[.int .i64 0, .slice op on oz, .int .i64 e1]) (by simp [results, Try.results17, go_sem]) rfl ⟨L', _, _, _, rfl, q1, hfin⟩
            · have hm := hmH.out
              rw [if_neg k0, if_neg k1, if_neg k2, if_neg k3, if_neg k4, if_neg k5] at hm
              have hq := c_Step W L m m' hM a v e0 ha hm
              have b0 : (kd == 0) = false := by rw [beq_eq_false_iff_ne]; exact k0
              have b1 : (kd == 1) = false := by rw [beq_eq_false_iff_ne]; exact k1
              have b2 : (kd == 2) = false := by rw [beq_eq_false_iff_ne]; exact k2
              have b3 : (kd == 3) = false := by rw [beq_eq_false_iff_ne]; exact k3
              have b4 : (kd == 4) = false := by rw [beq_eq_false_iff_ne]; exact k4
              have b5 : (kd == 5) = false := by rw [beq_eq_false_iff_ne]; exact k5
              clear hm hM hR hmH k0 k1 k2 k3 k4 k5
              go_wp2_with (fail)
              refine hq.mono ?_
              rintro e W' ⟨L', rfl, q1, q2⟩
              have hfin := (Ev.of_fr (hFH.out.mono fun _ _ q => q.elim)).trans q2
              clear hq hFH q2 y1 y2 y3 y4
              go_wp2
              exact bodyPost_ret (v := .tuple #[.int .i64 v, .slice none 0 0, .int .i64 e0]) (by simp [results, Try.results17, go_sem]) rfl ⟨L', _, _, _, rfl, q1, hfin⟩
end Go.Proofs.Ytnedmmopkhmejaa
