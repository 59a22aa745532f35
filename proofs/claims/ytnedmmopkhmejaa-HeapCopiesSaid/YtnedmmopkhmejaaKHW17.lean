/- Walks: slices.Contains at slots, bools, error numbers. -/
import Derived.Test.YtnedmmopkhmejaaKHW16
import Derived.Laws.StructEq
set_option linter.unusedVariables false
set_option linter.unusedSimpArgs false
namespace Go.Proofs.Ytnedmmopkhmejaa
open Go.RowKit Go.Proofs.Hp
attribute [local go_sem] Oper.semAt_some

theorem slotEql (a b c d : Int) (w : World) : (Op.equalIn 10000 131 (.agg #[.int .i64 a, .int .i64 b]) (.agg #[.int .i64 c, .int .i64 d])).run Try.prog w = .ok (a == c && b == d) w := by
  have u3 := Try.underlying3
  have a3 := Try.isAgg3
  have z3 := Try.sizeOf3
  have hS : Try.prog.underlying 131 = some (.struct (Try.prog.fieldsOf 131)) := by kernel_rfl
  have hp : Try.prog.stoodInHeld 131 = false := by kernel_rfl
  rw [show (10000 : Nat) = 9999 + 1 from rfl, run_equalIn_agg w 9999 131 _ _ hS hp]
  simp only [Program.fieldsOf, Try.underlying131]
  go_simp
  by_cases h1 : a = c <;> by_cases h2 : b = d <;> simp [h1, h2]
theorem slotGuard (x y : Operand) (a b c d : Int) (w : World) : (eqGuard .eql 131 x y (.agg #[.int .i64 a, .int .i64 b]) (.agg #[.int .i64 c, .int .i64 d])).run Try.prog w = .ok () w :=
  run_eqGuard_agg w _ _ x y _ _ (by kernel_rfl)
attribute [local go_sem] slotEql slotGuard

theorem box2_cells (w : World) (ka kf : Int) : ∀ n, ((w.alloc (.cells #[.int .i64 ka, .int .i64 kf] 131)).drewN n).cell? ⟨w.heap.size, 0, none⟩ = some (.int .i64 ka) ∧ ((w.alloc (.cells #[.int .i64 ka, .int .i64 kf] 131)).drewN n).cell? ⟨w.heap.size, 1, none⟩ = some (.int .i64 kf) := fun n => by
  refine ⟨?_, ?_⟩
  · show (w.alloc _).cell? _ = _; rw [cell_of (al_same _ _)]; rfl
  · show (w.alloc _).cell? _ = _; rw [cell_of (al_same _ _)]; rfl

/-- A slice of slots that may be read. -/
def SlotsAt (w : World) (v : Value) (l : List (Int × Int)) : Prop :=
  ∃ p cap, v = .slice p l.length cap ∧ ∀ k (h : k < l.length), ∃ g, p = some ⟨g, 0, none⟩ ∧ w.cell? ⟨g, k * 2, none⟩ = some (.int .i64 l[k].1) ∧ w.cell? ⟨g, k * 2 + 1, none⟩ = some (.int .i64 l[k].2)

theorem MemRep.slots {w : World} {L : ML} {m : Mem} (h : MemRep w L m) : SlotsAt w L.kv m.known := by
  obtain ⟨p, cap, hv⟩ := h.kvS
  refine ⟨p, cap, hv, fun k hk => ?_⟩
  obtain ⟨g, gc, hg, g1, g2⟩ := h.knownAt hk
  rw [hv] at hg
  simp only [Value.slice.injEq] at hg
  exact ⟨g, hg.1, g1, g2⟩
theorem SlotsAt.below {w w' : World} {v : Value} {l : List (Int × Int)} (h : SlotsAt w v l) (hb : Below w.heap.size w w') : SlotsAt w' v l := by
  obtain ⟨p, cap, hv, hc⟩ := h
  refine ⟨p, cap, hv, fun k hk => ?_⟩
  obtain ⟨g, h1, h2, h3⟩ := hc k hk
  exact ⟨g, h1, (Fr.of_below (S := fun _ => False) hb).cell h2 id, (Fr.of_below (S := fun _ => False) hb).cell h3 id⟩

/-- slices.Index: the first place, or -1. -/
def firstOf {α : Type} [BEq α] (l : List α) (x : α) : Int := if l.contains x then (l.idxOf x : Int) else -1

theorem contains_take_succ {α : Type} [BEq α] [LawfulBEq α] (l : List α) (x : α) (k : Nat) (hk : k < l.length) (h : (l.take k).contains x = false) (hx : (l[k] == x) = false) : (l.take (k + 1)).contains x = false := by
  rw [List.take_succ_eq_append_getElem hk]
  simp only [List.contains_eq_mem, decide_eq_false_iff_not, List.mem_append, List.mem_singleton, not_or] at h ⊢
  refine ⟨h, fun e => ?_⟩
  subst e; simp at hx
theorem contains_of_getElem {α : Type} [BEq α] [LawfulBEq α] (l : List α) (x : α) (k : Nat) (hk : k < l.length) (hx : l[k] = x) : l.contains x = true := by
  simp only [List.contains_eq_mem, decide_eq_true_eq]; rw [← hx]; exact List.getElem_mem hk

/-- What Index of slots answers: whether it is there. -/
def IdxR (b : Bool) (w : World) (e : Ending) (w' : World) : Prop := ∃ n : Int, e = .returned (.int .i64 n) ∧ decide (0 ≤ n) = b ∧ Below w.heap.size w w'

set_option maxRecDepth 100000 in
set_option maxHeartbeats 1000000 in
theorem c_IndexSlot (w : World) (v : Value) (l : List (Int × Int)) (h : SlotsAt w v l) (hl : l.length ≤ 1048576) (ka kf : Int) :
    Calls Try.prog 111 #[v, .agg #[.int .i64 ka, .int .i64 kf]] w (IdxR (l.contains (ka, kf)) w) := by
  have hb0 := box2_cells w ka kf 0
  have hbel : Below w.heap.size w (w.alloc (.cells #[.int .i64 ka, .int .i64 kf] 131)) := Fr.below ((Fr.refl _ w).alloc _)
  have h1 := h.below hbel
  obtain ⟨p, cap, rfl, hc⟩ := h
  have hb0' := Lib.hid hb0
  have hbel' := Lib.hid hbel
  have h1' := Lib.hid h1
  clear hb0 hbel hc h1
  go_enter Try.func111, Try.ntmps111
  go_wp2_with (fail)
  go_loopw [8] (fun i wr => ∃ (k : Nat), i = .int .i64 k ∧ k ≤ l.length ∧ Below w.heap.size w wr ∧ wr.cell? ⟨w.heap.size, 0, none⟩ = some (.int .i64 ka) ∧ wr.cell? ⟨w.heap.size, 1, none⟩ = some (.int .i64 kf) ∧ SlotsAt wr (.slice p l.length cap) l ∧ Hid ((l.take k).contains (ka, kf) = false)) (fun i _ => l.length - (intOf i).toNat)
  case atStart => exact ⟨0, rfl, by omega, hbel'.out, hb0'.out.1, hb0'.out.2, h1'.out, Lib.hid (by simp)⟩
  case round =>
    clear hb0' hbel' h1'
    obtain ⟨k, rfl, hk, hbel, q3, q4, hS, hst⟩ := hrel
    by_cases hlt : k < l.length
    · obtain ⟨p', cap', hv, hc⟩ := hS
      obtain ⟨g, hp, q1, q2⟩ := hc k hlt
      simp only [Value.slice.injEq] at hv
      obtain ⟨rfl, _, rfl⟩ := hv
      subst hp
      have hSS : SlotsAt wr (.slice (some ⟨g, 0, none⟩) l.length cap) l := ⟨_, _, rfl, hc⟩
      obtain ⟨x1, hx1⟩ : ∃ x, x = l[k].1 := ⟨_, rfl⟩
      obtain ⟨x2, hx2⟩ : ∃ x, x = l[k].2 := ⟨_, rfl⟩
      rw [← hx1] at q1
      rw [← hx2] at q2
      have hx : l[k] = (x1, x2) := by rw [hx1, hx2]
      have hxH := Lib.hid hx
      clear hx hx1 hx2 hc
      go_wp2_with (fail)
      have hdif : ¬ (ka = x1 ∧ kf = x2) → Hid ((l.take (k + 1)).contains (ka, kf) = false) := fun hne => Lib.hid (contains_take_succ l _ k hlt hst.out (by
        rw [hxH.out, beq_eq_false_iff_ne]
        intro e
        simp only [Prod.mk.injEq] at e
        exact hne ⟨e.1.symm, e.2.symm⟩))
      by_cases e1 : ka = x1
      · by_cases e2 : kf = x2
        · clear hdif
          subst e1 e2
          have hres : l.contains (ka, kf) = true := contains_of_getElem l _ k hlt hxH.out
          go_quiet (fail)
          have hbf := hbel.trans (below_drewN (Below.refl wr.heap.size wr) nq |>.mono hbel.size)
          go_wp2
          go_ret
          exact ⟨(k : Int), rfl, by rw [hres]; simp, hbf⟩
        · have hnext := hdif (fun q => e2 q.2)
          clear hdif
          subst e1
          go_quiet (fail)
          have hbf := hbel.trans (below_drewN (Below.refl wr.heap.size wr) nq |>.mono hbel.size)
          have hS2 : SlotsAt (wr.drewN nq) (.slice (some ⟨g, 0, none⟩) l.length cap) l := hSS
          go_wp2
          go_roundw
          case rel => exact ⟨k + 1, by go_num, by omega, hbf, q3, q4, hS2, hnext⟩
          case measure => simp [intOf]; omega
      · have hnext := hdif (fun q => e1 q.1)
        clear hdif
        go_quiet (fail)
        have hbf := hbel.trans (below_drewN (Below.refl wr.heap.size wr) nq |>.mono hbel.size)
        have hS2 : SlotsAt (wr.drewN nq) (.slice (some ⟨g, 0, none⟩) l.length cap) l := hSS
        go_wp2
        go_roundw
        case rel => exact ⟨k + 1, by go_num, by omega, hbf, q3, q4, hS2, hnext⟩
        case measure => simp [intOf]; omega
    · obtain rfl : k = l.length := by omega
      rw [List.take_length] at hst
      have hstH := Lib.hid hst.out
      clear hst hS
      go_wp2
      go_ret
      exact ⟨-1, rfl, by rw [hstH.out]; rfl, hbel⟩

/-- slices.Contains of slots. -/
def ConR (b : Bool) (w : World) (e : Ending) (w' : World) : Prop := e = .returned (.bool b) ∧ Below w.heap.size w w'
set_option maxRecDepth 100000 in
theorem c_ContainsSlot (w : World) (v : Value) (l : List (Int × Int)) (h : SlotsAt w v l) (hl : l.length ≤ 1048576) (ka kf : Int) :
    Calls Try.prog 73 #[v, .agg #[.int .i64 ka, .int .i64 kf]] w (ConR (l.contains (ka, kf)) w) := by
  have hb0 := box2_cells w ka kf 0
  have hbel : Below w.heap.size w (w.alloc (.cells #[.int .i64 ka, .int .i64 kf] 131)) := Fr.below ((Fr.refl _ w).alloc _)
  have hci := c_IndexSlot _ v l (h.below hbel) hl ka kf
  generalize l.contains (ka, kf) = bb at hci ⊢
  have q3 := hb0.1
  have q4 := hb0.2
  replace q3 : (w.alloc (.cells #[.int .i64 ka, .int .i64 kf] 131)).cell? ⟨w.heap.size, 0, none⟩ = some (.int .i64 ka) := q3
  replace q4 : (w.alloc (.cells #[.int .i64 ka, .int .i64 kf] 131)).cell? ⟨w.heap.size, 1, none⟩ = some (.int .i64 kf) := q4
  obtain ⟨p, cap, rfl, _⟩ := h
  clear hb0
  go_enter Try.func73, Try.ntmps73
  go_wp2_with (fail)
  refine hci.mono ?_
  rintro e w1 ⟨n, rfl, hn, hb⟩
  have hb2 := hbel.trans (hb.mono hbel.size)
  clear hci
  have hn' : decide (n ≥ 0) = bb := hn
  clear hn
  go_wp2
  go_ret
  exact ⟨rfl, hb2⟩
end Go.Proofs.Ytnedmmopkhmejaa
