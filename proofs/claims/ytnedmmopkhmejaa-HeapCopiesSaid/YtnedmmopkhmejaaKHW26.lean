/- Walk: SamePictures. -/
import Derived.Test.YtnedmmopkhmejaaKHW25
import Derived.Test.YtnedmmopkhmejaaKHPure
set_option linter.unusedVariables false
set_option linter.unusedSimpArgs false
namespace Go.Proofs.Ytnedmmopkhmejaa
open Go.RowKit Go.Proofs.Hp
attribute [local go_sem] Oper.semAt_some

/-- A slice of slices of ints that may be read. -/
def RowsAt (w : World) (D : Nat → Prop) (v : Value) (rows : List (List Int)) : Prop :=
  ∃ p cap, v = .slice p rows.length cap ∧ (rows = [] ∨ ∃ b o, p = some ⟨b, o, none⟩ ∧ D b ∧ ∀ i (h : i < rows.length), ∃ u, w.cell? ⟨b, o + i, none⟩ = some u ∧ IntsAt w D u rows[i])
theorem RowsAt.of_blocks {w w' : World} {D : Nat → Prop} {v : Value} {rows : List (List Int)} (h : RowsAt w D v rows) (e : ∀ k, D k → k < w.heap.size → w'.heap[k]? = w.heap[k]?) : RowsAt w' D v rows := by
  obtain ⟨p, cap, hv, h | ⟨b, o, hp, hD, hc⟩⟩ := h
  · exact ⟨p, cap, hv, .inl h⟩
  · refine ⟨p, cap, hv, .inr ⟨b, o, hp, hD, fun i hi => ?_⟩⟩
    obtain ⟨u, q1, p', cap', q2, q3⟩ := hc i hi
    refine ⟨u, ?_, p', cap', q2, ?_⟩
    · rw [← q1]; exact World.cell?_of_block (e b hD (World.block_lt_of_cell? w _ q1))
    · rcases q3 with q3 | ⟨b', o', r1, r2, r3⟩
      · exact .inl q3
      · exact .inr ⟨b', o', r1, r2, fun j hj => by rw [← r3 j hj]; exact World.cell?_of_block (e b' r2 (World.block_lt_of_cell? w _ (r3 j hj)))⟩
theorem IntsAt.bl {w w' : World} {D : Nat → Prop} {v : Value} {xs : List Int} (h : IntsAt w D v xs) (hb : Below w.heap.size w w') : IntsAt w' D v xs := by
  obtain ⟨p', cap', q2, q3⟩ := h
  rcases q3 with q3 | ⟨b', o', r1, r2, r3⟩
  · exact ⟨p', cap', q2, .inl q3⟩
  · exact ⟨p', cap', q2, .inr ⟨b', o', r1, r2, fun j hj => by rw [← r3 j hj]; exact World.cell?_of_block (hb.block b' (World.block_lt_of_cell? w _ (r3 j hj)))⟩⟩
theorem RowsAt.bl {w w' : World} {D : Nat → Prop} {v : Value} {rows : List (List Int)} (h : RowsAt w D v rows) (hb : Below w.heap.size w w') : RowsAt w' D v rows := h.of_blocks fun k _ hk => hb.block k hk

/-- A picture: its three slices. -/
def PicAt (w : World) (D : Nat → Prop) (v1 v2 v3 : Value) (p : Pic) : Prop := IntsAt w D v1 p.shapes ∧ RowsAt w D v2 p.fields ∧ IntsAt w D v3 p.roots ∧ p.shapes.length ≤ 1048576 ∧ p.fields.length ≤ 1048576 ∧ p.roots.length ≤ 1048576 ∧ ∀ l ∈ p.fields, l.length ≤ 1048576
theorem PicAt.bl {w w' : World} {D : Nat → Prop} {v1 v2 v3 : Value} {p : Pic} (h : PicAt w D v1 v2 v3 p) (hb : Below w.heap.size w w') : PicAt w' D v1 v2 v3 p := ⟨h.1.bl hb, h.2.1.bl hb, h.2.2.1.bl hb, h.2.2.2⟩

theorem rows_take {xs ys : List (List Int)} {k : Nat} (hl : xs.length = ys.length) (hk : k < xs.length) (he : xs.take k = ys.take k) : ((xs[k] == ys[k]'(by omega)) = false → (xs == ys) = false) ∧ ((xs[k] == ys[k]'(by omega)) = true → xs.take (k + 1) = ys.take (k + 1)) := by
  refine ⟨fun hne => ?_, fun h => ?_⟩
  · rw [beq_eq_false_iff_ne] at hne ⊢
    intro e
    apply hne
    subst e; rfl
  · rw [List.take_succ_eq_append_getElem hk, List.take_succ_eq_append_getElem (by omega), he, eq_of_beq h]
def SameB (b : Bool) (w : World) (e : Ending) (w' : World) : Prop := e = .returned (.bool b) ∧ Below w.heap.size w w'
theorem SameB.of {bb b : Bool} {w w' : World} (h : bb = b) (hb : Below w.heap.size w w') : SameB bb w (.returned (.bool b)) w' := by subst h; exact ⟨rfl, hb⟩

set_option maxRecDepth 100000 in
set_option maxHeartbeats 2000000 in
theorem c_SamePictures (w : World) (D D' : Nat → Prop) (a1 a2 a3 b1 b2 b3 : Value) (p q : Pic) (hp : PicAt w D a1 a2 a3 p) (hq : PicAt w D' b1 b2 b3 q) :
    Calls Try.prog 22 #[.agg #[a1, a2, a3], .agg #[b1, b2, b3]] w (SameB (p.same q) w) := by
  obtain ⟨res, hres⟩ : ∃ r, r = p.same q := ⟨_, rfl⟩
  rw [← hres]
  have k0 : ((w.alloc (.cells #[a1, a2, a3] 42)).alloc (.cells #[b1, b2, b3] 42)).heap[w.heap.size]? = some (.cells #[a1, a2, a3] 42 (0, 0)) := by rw [al_old _ _ _ (by simp only [al_size]; omega), al_same]
  have k1 : ((w.alloc (.cells #[a1, a2, a3] 42)).alloc (.cells #[b1, b2, b3] 42)).heap[w.heap.size + 1]? = some (.cells #[b1, b2, b3] 42 (0, 0)) := by rw [al_at _ _ _ (by simp only [al_size])]
  have hbl : Below w.heap.size w ((w.alloc (.cells #[a1, a2, a3] 42)).alloc (.cells #[b1, b2, b3] 42)) := Fr.below (((Fr.refl _ w).alloc _).alloc _)
  have hp1 := hp.bl hbl
  have hq1 := hq.bl hbl
  obtain ⟨s1, hs1⟩ : ∃ b, b = (p.shapes == q.shapes) := ⟨_, rfl⟩
  obtain ⟨s2, hs2⟩ : ∃ b, b = (p.roots == q.roots) := ⟨_, rfl⟩
  have hresH := Lib.hid hres
  have hs1H := Lib.hid hs1
  have hs2H := Lib.hid hs2
  obtain ⟨p1, c1, rfl, -⟩ := hp.1
  obtain ⟨p2, c2, rfl, -⟩ := hp.2.1
  obtain ⟨p3, c3, rfl, -⟩ := hp.2.2.1
  obtain ⟨q1, d1, rfl, -⟩ := hq.1
  obtain ⟨q2, d2, rfl, -⟩ := hq.2.1
  obtain ⟨q3, d3, rfl, -⟩ := hq.2.2.1
  clear hres hs1 hs2 hp hq
  have cells : ∀ W, Below ((w.alloc (.cells #[.slice p1 p.shapes.length c1, .slice p2 p.fields.length c2, .slice p3 p.roots.length c3] 42)).alloc (.cells #[.slice q1 q.shapes.length d1, .slice q2 q.fields.length d2, .slice q3 q.roots.length d3] 42)).heap.size ((w.alloc (.cells #[.slice p1 p.shapes.length c1, .slice p2 p.fields.length c2, .slice p3 p.roots.length c3] 42)).alloc (.cells #[.slice q1 q.shapes.length d1, .slice q2 q.fields.length d2, .slice q3 q.roots.length d3] 42)) W →
      (W.cell? ⟨w.heap.size, 0, none⟩ = some (.slice p1 p.shapes.length c1) ∧ W.cell? ⟨w.heap.size, 1, none⟩ = some (.slice p2 p.fields.length c2) ∧ W.cell? ⟨w.heap.size, 2, none⟩ = some (.slice p3 p.roots.length c3)) ∧
      (W.cell? ⟨w.heap.size + 1, 0, none⟩ = some (.slice q1 q.shapes.length d1) ∧ W.cell? ⟨w.heap.size + 1, 1, none⟩ = some (.slice q2 q.fields.length d2) ∧ W.cell? ⟨w.heap.size + 1, 2, none⟩ = some (.slice q3 q.roots.length d3)) := fun W hW => by
    have f := Fr.of_below (S := fun _ => False) hW
    have j0 := f.blk k0 id
    have j1 := f.blk k1 id
    refine ⟨⟨?_, ?_, ?_⟩, ?_, ?_, ?_⟩ <;> first | (rw [cell_of j0]; rfl) | (rw [cell_of j1]; rfl)
  have cellsH := Lib.hid cells
  have hp1H := Lib.hid hp1
  have hq1H := Lib.hid hq1
  have hblH := Lib.hid hbl
  clear k0 k1 cells hp1 hq1 hbl
  obtain ⟨⟨x0, x1, x2⟩, y0, y1, y2⟩ := cellsH.out _ (Below.refl _ _)
  go_enter Try.func22, Try.ntmps22
  go_wp2_with (fail)
  clear x0 x1 x2 y0 y1 y2
  generalize ((w.alloc (.cells #[.slice p1 p.shapes.length c1, .slice p2 p.fields.length c2, .slice p3 p.roots.length c3] 42)).alloc (.cells #[.slice q1 q.shapes.length d1, .slice q2 q.fields.length d2, .slice q3 q.roots.length d3] 42)) = W0 at *
  have hse1 := (c_SameInts W0 _ _ _ _ p.shapes q.shapes hp1H.out.1 hq1H.out.1 (by have := hp1H.out.2.2.2.1; omega) (by have := hq1H.out.2.2.2.1; omega)).mono (R' := fun e w' => e = .returned (.bool s1) ∧ Below W0.heap.size W0 w') fun e w' ⟨q1, n, q2⟩ => ⟨by rw [hs1H.out]; exact q1, by rw [q2]; exact below_drewN (Below.refl _ _) n⟩
  refine hse1.mono ?_
  rintro e W1 ⟨rfl, hb1⟩
  clear hse1
  obtain ⟨⟨x0, x1, x2⟩, y0, y1, y2⟩ := cellsH.out _ hb1
  have hse2 := (c_SameInts W1 _ _ _ _ p.roots q.roots (hp1H.out.bl hb1).2.2.1 (hq1H.out.bl hb1).2.2.1 (by have := hp1H.out.2.2.2.2.2.1; omega) (by have := hq1H.out.2.2.2.2.2.1; omega)).mono (R' := fun e w' => e = .returned (.bool s2) ∧ Below W0.heap.size W0 w') fun e w' ⟨q1, n, q2⟩ => ⟨by rw [hs2H.out]; exact q1, by rw [q2]; exact below_drewN hb1 n⟩
  have hb1H := Lib.hid hb1
  clear hb1
  go_wp2_with (fail)
  refine hse2.mono ?_
  rintro e W2 ⟨rfl, hb2⟩
  clear hse2 x0 x1 x2 y0 y1 y2 hb1H
  obtain ⟨⟨x0, x1, x2⟩, y0, y1, y2⟩ := cellsH.out _ hb2
  have hbf := hblH.out.trans (hb2.mono hblH.out.size)
  have hlp := hp1H.out.2.2.2.2.1
  have hlq := hq1H.out.2.2.2.2.1
  have hb2H := Lib.hid hb2
  clear hb2
  cases s1 with
  | false =>
    have hr : res = false := by rw [hresH.out]; unfold Pic.same; rw [← hs1H.out]; rfl
    have hrH := Lib.hid hr
    clear hr
    go_wp2
    go_ret
    exact SameB.of hrH.out hbf
  | true =>
    cases s2 with
    | false =>
      have hr : res = false := by rw [hresH.out]; unfold Pic.same; rw [← hs1H.out, ← hs2H.out]; rfl
      have hrH := Lib.hid hr
      clear hr
      go_wp2
      go_ret
      exact SameB.of hrH.out hbf
    | true =>
      have hrf : res = (p.fields == q.fields) := by rw [hresH.out]; unfold Pic.same; rw [← hs1H.out, ← hs2H.out]; rfl
      have hrfH := Lib.hid hrf
      clear hrf
      by_cases hne : p.fields.length = q.fields.length
      · obtain ⟨n, hn⟩ : ∃ n, n = p.fields.length := ⟨_, rfl⟩
        have hn2 : q.fields.length = n := by omega
        have hneH := Lib.hid hne
        have hnH := Lib.hid hn
        have hn2H := Lib.hid hn2
        rw [← hn] at x1 hlp
        rw [hn2] at y1 hlq
        clear hne hn hn2
        go_wp2_with (fail)
        clear x0 x1 x2 y0 y1 y2
        go_loopw [7] (fun i wr => ∃ (k : Nat), i = .int .i64 k ∧ k ≤ n ∧ Below W0.heap.size W0 wr ∧ Hid (p.fields.take k = q.fields.take k)) (fun i _ => n - (intOf i).toNat)
        case atStart => exact ⟨0, rfl, by omega, hb2H.out, Lib.hid (by simp)⟩
        case round =>
          obtain ⟨k, rfl, hk, hbw, hst⟩ := hrel
          obtain ⟨⟨x0, x1, x2⟩, y0, y1, y2⟩ := cellsH.out _ hbw
          have hbf2 := hblH.out.trans (hbw.mono hblH.out.size)
          have hP := hp1H.out.bl hbw
          have hQ := hq1H.out.bl hbw
          have hbwH := Lib.hid hbw
          rw [← hnH.out] at x1
          rw [hn2H.out] at y1
          by_cases hlt : k < n
          · have hkx : k < p.fields.length := by rw [← hnH.out]; exact hlt
            have hky : k < q.fields.length := by rw [hn2H.out]; exact hlt
            obtain ⟨b, o, u, rfl, hu, hui⟩ : ∃ b o u, p2 = some ⟨b, o, none⟩ ∧ wr.cell? ⟨b, o + k, none⟩ = some u ∧ IntsAt wr D u p.fields[k] := by
              obtain ⟨p', cap', hv, hc⟩ := hP.2.1
              simp only [Value.slice.injEq] at hv
              rcases hc with e | ⟨b, o, hp, _, hcc⟩
              · rw [e] at hkx; simp at hkx
              · obtain ⟨u, r1, r2⟩ := hcc k hkx
                exact ⟨b, o, u, hv.1.trans hp, r1, r2⟩
            obtain ⟨b', o', u', rfl, hu', hui'⟩ : ∃ b o u, q2 = some ⟨b, o, none⟩ ∧ wr.cell? ⟨b, o + k, none⟩ = some u ∧ IntsAt wr D' u q.fields[k] := by
              obtain ⟨p', cap', hv, hc⟩ := hQ.2.1
              simp only [Value.slice.injEq] at hv
              rcases hc with e | ⟨b, o, hp, _, hcc⟩
              · rw [e] at hky; simp at hky
              · obtain ⟨u, r1, r2⟩ := hcc k hky
                exact ⟨b, o, u, hv.1.trans hp, r1, r2⟩
            obtain ⟨t1, t2⟩ := rows_take hneH.out hkx hst.out
            obtain ⟨bb, hbb⟩ : ∃ bb, bb = (p.fields[k] == q.fields[k]) := ⟨_, rfl⟩
            have hl1 : p.fields[k].length ≤ 1048576 := hp1H.out.2.2.2.2.2.2 _ (List.getElem_mem hkx)
            have hl2 : q.fields[k].length ≤ 1048576 := hq1H.out.2.2.2.2.2.2 _ (List.getElem_mem hky)
            rw [← hbb] at t1 t2
            have hcs : ∀ m, Calls Try.prog 21 #[u, u'] (wr.drewN m) fun e w' => e = .returned (.bool bb) ∧ ∃ j, w' = wr.drewN j := fun m =>
              (c_SameInts (wr.drewN m) _ _ _ _ p.fields[k] q.fields[k] (hui.bl (below_drewN (Below.refl _ _) m)) (hui'.bl (below_drewN (Below.refl _ _) m)) (by omega) (by omega)).mono fun e w' ⟨r1, j, r2⟩ => ⟨by rw [hbb]; exact r1, m + j, by rw [r2, World.drewN_drewN]⟩
            have t1H := Lib.hid t1
            have t2H := Lib.hid t2
            obtain ⟨up, uc, rfl⟩ : ∃ a c, u = .slice a p.fields[k].length c := by obtain ⟨a, c, e, _⟩ := hui; exact ⟨a, c, e⟩
            obtain ⟨up', uc', rfl⟩ : ∃ a c, u' = .slice a q.fields[k].length c := by obtain ⟨a, c, e, _⟩ := hui'; exact ⟨a, c, e⟩
            generalize p.fields[k].length = m1 at *
            generalize q.fields[k].length = m2 at *
            clear t1 t2 hP hQ hst hui hui' hbb hl1 hl2 hbf2 hbw
            go_wp2_with (fail)
            go_quiet ((go_at_call 21; exact hcs _))
            have hbq := below_drewN hbwH.out nq
            have hbf3 := hblH.out.trans (hbq.mono hblH.out.size)
            cases bb with
            | true =>
              have hnext := t2H.out rfl
              have hnextH := Lib.hid hnext
              clear hnext
              go_wp2
              go_roundw
              case rel => exact ⟨k + 1, by go_num, by omega, hbq, hnextH⟩
              case measure => simp [intOf]; omega
            | false =>
              have hr := hrfH.out.trans (t1H.out rfl)
              have hrH := Lib.hid hr
              clear hr
              go_wp2
              go_ret
              exact SameB.of hrH.out hbf3
          · have hkn : k = n := by omega
            have hall : res = true := by
              rw [hrfH.out]
              have e := hst.out
              rw [hkn] at e
              rw [List.take_of_length_le (by rw [← hnH.out]; exact Nat.le_refl _), List.take_of_length_le (by rw [hn2H.out]; exact Nat.le_refl _)] at e
              simp [e]
            have hallH := Lib.hid hall
            clear hall hkn hP hQ
            go_wp2
            go_ret
            exact SameB.of hallH.out hbf2
      · have hr : res = false := by rw [hrfH.out, beq_eq_false_iff_ne]; intro e; exact hne (by rw [e])
        have hrH := Lib.hid hr
        have hne2 : ¬ (p.fields.length : Int) = (q.fields.length : Int) := by omega
        have hne3 : ((p.fields.length : Int) != (q.fields.length : Int)) = true := by simp; omega
        clear hr hne
        go_wp2
        go_ret
        exact SameB.of hrH.out hbf
end Go.Proofs.Ytnedmmopkhmejaa
