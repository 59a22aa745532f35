/- Walks: Room, rooted, object. -/
import Derived.Test.YtnedmmopkhmejaaHW5
namespace Go.Proofs.Ytnedmmopkhmejaa
open Go.RowKit Go.Proofs.Hp

/-- A slice of ints that reads as xs, in blocks of D (where it is not empty). -/
def IntsAt (w : World) (D : Nat → Prop) (v : Value) (xs : List Int) : Prop :=
  ∃ p cap, v = .slice p xs.length cap ∧ (xs = [] ∨ ∃ b o, p = some ⟨b, o, none⟩ ∧ D b ∧ ∀ i (h : i < xs.length), w.cell? ⟨b, o + i, none⟩ = some (.int .i64 xs[i]))
theorem IntsAt.of_blocks {w w' : World} {D : Nat → Prop} {v : Value} {xs : List Int} (h : IntsAt w D v xs) (e : ∀ k, D k → w'.heap[k]? = w.heap[k]?) : IntsAt w' D v xs := by
  obtain ⟨p, cap, hv, h | ⟨b, o, hp, hD, hc⟩⟩ := h
  · exact ⟨p, cap, hv, .inl h⟩
  · exact ⟨p, cap, hv, .inr ⟨b, o, hp, hD, fun i hi => cell_same (e b hD) (hc i hi)⟩⟩
theorem lt_of_cell {w : World} {b o : Nat} {v : Value} (h : w.cell? ⟨b, o, none⟩ = some v) : b < w.heap.size := World.block_lt_of_cell? w ⟨b, o, none⟩ h

/-- The slice behind a change of blocks that are not its own. -/
theorem IntsAt.fr {S : Nat → Prop} {w w' : World} {D : Nat → Prop} {v : Value} {xs : List Int} (h : IntsAt w D v xs) (hf : Fr S w w') (hS : ∀ k, D k → ¬ S k) : IntsAt w' D v xs := by
  obtain ⟨p, cap, hv, h | ⟨b, o, hp, hD, hc⟩⟩ := h
  · exact ⟨p, cap, hv, .inl h⟩
  · exact ⟨p, cap, hv, .inr ⟨b, o, hp, hD, fun i hi => hf.cell (hc i hi) (hS b hD)⟩⟩

set_option maxRecDepth 100000 in
theorem c_Room (w : World) (L : ML) (m : Mem) (h : MemRep w L m) :
    Calls Try.prog 24 #[.pointer (some ⟨L.b, 0, none⟩)] w fun e w' => e = .returned (.agg #[.int .i64 m.young.used, .int .i64 m.now.used, .int .i64 m.left]) ∧ Below w.heap.size w w' := by
  have h0 := h.alloc (.cells #[.int .i64 0, .int .i64 0, .int .i64 0] 54)
  have hz := al_same w (.cells #[.int .i64 0, .int .i64 0, .int .i64 0] 54)
  have f0 : Fr (fun _ => False) w (w.alloc (.cells #[.int .i64 0, .int .i64 0, .int .i64 0] 54)) := (Fr.refl _ w).alloc _
  go_enter Try.func24, Try.ntmps24
  go_wp2_with (fail)
  generalize w.alloc (.cells #[.int .i64 0, .int .i64 0, .int .i64 0] 54) = W at *
  refine (c_made W L m h0).mono ?_
  rintro e w0 ⟨rfl, rfl⟩
  have c1 := h0.c1
  have c2 := h0.c2
  have c8 := h0.c8
  have y2 := h0.y.c2
  have n2 := h0.n.c2
  have z0 : W.cell? ⟨w.heap.size, 0, none⟩ = some (.int .i64 0) := by rw [cell_of hz]; rfl
  have z1 : W.cell? ⟨w.heap.size, 1, none⟩ = some (.int .i64 0) := by rw [cell_of hz]; rfl
  have z2 : W.cell? ⟨w.heap.size, 2, none⟩ = some (.int .i64 0) := by rw [cell_of hz]; rfl
  have zf0 := free_of hz 0
  have zf1 := free_of hz 1
  have zf2 := free_of hz 2
  go_wp2_with (fail)
  refine wp_region_still_tail 21 (by kernel_rfl) (by kernel_rfl) ?_
  show wpStill _ _ (W.drewN 1) (fun a' => wpList _ _ _ _ a' (W.drewN 1)) _ _
  simp only [List.take_succ_cons, List.take_zero, List.drop_succ_cons, List.drop_zero]
  repeat still_step
  refine wpStill_nil ?_
  go_wp2_with (fail)
  have hz' : ((((W.drewN 1).setCell ⟨w.heap.size, 0, none⟩ (.int .i64 m.young.used)).setCell ⟨w.heap.size, 1, none⟩ (.int .i64 m.now.used)).setCell ⟨w.heap.size, 2, none⟩ (.int .i64 m.left)).heap[w.heap.size]? =
      some (.cells #[.int .i64 m.young.used, .int .i64 m.now.used, .int .i64 m.left] 54 (0, 0)) := by
    rw [heap_setCell_same _ (heap_setCell_same _ (heap_setCell_same (w := W.drewN 1) _ hz))]; rfl
  have f1 : Fr (fun _ => False) w ((((W.drewN 1).setCell ⟨w.heap.size, 0, none⟩ (.int .i64 m.young.used)).setCell ⟨w.heap.size, 1, none⟩ (.int .i64 m.now.used)).setCell ⟨w.heap.size, 2, none⟩ (.int .i64 m.left)) :=
    (((f0.drewN 1).setCell _ _ (.inr (Nat.le_refl _))).setCell _ _ (.inr (Nat.le_refl _))).setCell _ _ (.inr (Nat.le_refl _))
  generalize (((W.drewN 1).setCell ⟨w.heap.size, 0, none⟩ (.int .i64 m.young.used)).setCell ⟨w.heap.size, 1, none⟩ (.int .i64 m.now.used)).setCell ⟨w.heap.size, 2, none⟩ (.int .i64 m.left) = W2 at *
  have r0 : W2.cell? ⟨w.heap.size, 0, none⟩ = some (.int .i64 m.young.used) := by rw [cell_of hz']; rfl
  have r1 : W2.cell? ⟨w.heap.size, 1, none⟩ = some (.int .i64 m.now.used) := by rw [cell_of hz']; rfl
  have r2 : W2.cell? ⟨w.heap.size, 2, none⟩ = some (.int .i64 m.left) := by rw [cell_of hz']; rfl
  exact bodyPost_ret (v := .agg #[.int .i64 m.young.used, .int .i64 m.now.used, .int .i64 m.left]) (by simp [results, Try.results24, go_sem, r0, r1, r2]) rfl ⟨rfl, f1.below⟩

set_option maxRecDepth 100000 in
theorem c_rooted (w : World) (L : ML) (m : Mem) (h : MemRep w L m) (D : Nat → Prop) (v : Value) (roots : List Int) (hr : IntsAt w D v roots) (hl : roots.length ≤ 140737488355328) :
    Calls Try.prog 57 #[.pointer (some ⟨L.b, 0, none⟩), v] w fun e w' => e = .returned (.int .i64 (m.rooted roots)) ∧ Below w.heap.size w w' := by
  obtain ⟨p, cap, rfl, hc⟩ := hr
  by_cases hlen : roots.length > 200
  · have hre : m.rooted roots = 3 := by unfold Mem.rooted; rw [if_pos hlen]
    rw [hre]
    have hlen' : (200 : Int) < (roots.length : Int) := by omega
    clear hre hc
    go_enter Try.func57, Try.ntmps57
    go_wp2_with (fail)
    refine (c_made w L m h).mono ?_
    rintro e w0 ⟨rfl, rfl⟩
    go_wp2
    go_ret
    exact ⟨rfl, Below.refl _ _⟩
  · have hlen' : ¬ (200 : Int) < (roots.length : Int) := by omega
    have hcells : ∀ i (hi : i < roots.length), ∃ b o, p = some ⟨b, o, none⟩ ∧ w.cell? ⟨b, o + i, none⟩ = some (.int .i64 roots[i]) := by
      intro i hi
      rcases hc with rfl | ⟨b, o, hp, _, hc⟩
      · simp at hi
      · exact ⟨b, o, hp, hc i hi⟩
    clear hc
    have hcells' := Lib.hid hcells
    clear hcells
    go_enter Try.func57, Try.ntmps57
    go_wp2_with (fail)
    refine (c_made w L m h).mono ?_
    rintro e w0 ⟨rfl, rfl⟩
    go_wp2
    go_loopw [6, 7, 8, 19] (fun _ _ _ i wr => ∃ k : Nat, k ≤ roots.length ∧ i = .int .i64 k ∧ Below w.heap.size w wr ∧ (∀ j (h : j < k) (h' : j < roots.length), (roots[j] != 0 && (m.cur roots[j]).isNone) = false)) (fun _ _ _ i _ => roots.length - (intOf i).toNat)
    case atStart => exact ⟨0, by omega, rfl, Below.refl _ _, fun j h => by omega⟩
    case round =>
      obtain ⟨k, hk, rfl, hb, hno⟩ := hrel
      have hno' := Lib.hid hno
      clear hno
      have h1 := h.below hb
      by_cases hlt : k < roots.length
      · obtain ⟨b, o, rfl, hcell⟩ := hcells'.out k hlt
        have hcell' := (Fr.of_below (S := fun _ => False) hb).cell hcell id
        have hcu0 := c_current wr L m h1 roots[k]
        have hend : ∀ w1, Below wr.heap.size wr w1 → Below w.heap.size w w1 := fun w1 q => hb.trans (q.mono hb.size)
        cases hcu : m.cur roots[k] with
        | some wh =>
          rw [hcu] at hcu0
          have hcu' := Lib.hid hcu
          clear hcu
          go_wp2_with (fail)
          refine hcu0.mono ?_
          rintro e w1 ⟨rfl, hb1⟩
          go_wp2
          all_goals
            go_roundw
            case rel => exact ⟨k + 1, by omega, by go_num, hend _ hb1, fun j hj h' => by
              rcases Nat.lt_or_ge j k with q | q
              · exact hno'.out j q h'
              · obtain rfl : j = k := by omega
                rw [hcu'.out]; simp⟩
            case measure => simp [intOf]; omega
        | none =>
          rw [hcu] at hcu0
          have hcu' := Lib.hid hcu
          clear hcu
          by_cases hz : roots[k] = 0
          · have hz' := Lib.hid hz
            have hz2 : (roots[k] != 0) = false := by simpa using hz
            clear hz
            go_wp2_with (fail)
            refine hcu0.mono ?_
            rintro e w1 ⟨rfl, hb1⟩
            go_wp2
            all_goals
              go_roundw
              case rel => exact ⟨k + 1, by omega, by go_num, hend _ hb1, fun j hj h' => by
                rcases Nat.lt_or_ge j k with q | q
                · exact hno'.out j q h'
                · obtain rfl : j = k := by omega
                  rw [hz'.out]; rfl⟩
              case measure => simp [intOf]; omega
          · have hz2 : (roots[k] != 0) = true := by simpa using hz
            have hfin : m.rooted roots = 5 := by
              unfold Mem.rooted
              rw [if_neg hlen, if_pos]
              rw [List.any_eq_true]
              exact ⟨roots[k], List.getElem_mem hlt, by rw [hcu'.out, hz2]; rfl⟩
            have hfin' := Lib.hid hfin
            clear hfin hz
            go_wp2_with (fail)
            refine hcu0.mono ?_
            rintro e w1 ⟨rfl, hb1⟩
            go_wp2
            go_ret
            exact ⟨by rw [hfin'.out]; rfl, hend _ hb1⟩
      · have hfin : m.rooted roots = 0 := by
          unfold Mem.rooted
          rw [if_neg hlen, if_neg]
          rw [Bool.not_eq_true, List.any_eq_false]
          intro x hx
          obtain ⟨j, hj, rfl⟩ := List.mem_iff_getElem.1 hx
          rw [hno'.out j (by omega) hj]; simp
        have hfin' := Lib.hid hfin
        clear hfin
        go_wp2
        go_ret
        exact ⟨by rw [hfin'.out]; rfl, hb⟩
end Go.Proofs.Ytnedmmopkhmejaa
