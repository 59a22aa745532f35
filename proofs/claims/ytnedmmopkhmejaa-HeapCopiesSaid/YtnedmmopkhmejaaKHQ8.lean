/- Plain: one call of a memory's method by number (the law HeapCopies), and a memory whose new addresses stand in another order: it answers the same. -/
import Derived.Test.YtnedmmopkhmejaaKHPure
set_option linter.unusedVariables false
set_option linter.unusedSimpArgs false
namespace Go.Proofs.Hp
abbrev Call5 := (Int × Int × Int × Int) × List Int
namespace Mem
variable {m m1 m2 : Mem} {Y H : Nat} {y : Bool}

theorem withMv_self (m : Mem) : m.withMv m.moved = m := rfl
theorem fieldE_mv (mv : List (Int × Int)) (a f : Int) : (m.withMv mv).fieldE a f = m.fieldE a f := by
  have hc : (m.withMv mv).cur a = m.cur a := rfl
  unfold fieldE
  rw [hc]
  cases m.cur a with
  | none => rfl
  | some wh => cases wh <;> rfl
theorem shapeE_mv (mv : List (Int × Int)) (a : Int) : (m.withMv mv).shapeE a = m.shapeE a := by
  have hc : (m.withMv mv).cur a = m.cur a := rfl
  unfold shapeE
  rw [hc]
  cases m.cur a with
  | none => rfl
  | some wh => cases wh <;> rfl
theorem allocE_mv (mv : List (Int × Int)) (v : Int) : (m.withMv mv).allocE v = ((m.allocE v).1.withMv mv, (m.allocE v).2.1, (m.allocE v).2.2) ∧ (m.allocE v).1.moved = m.moved := by
  have hs : (m.withMv mv).shapeAt v = m.shapeAt v := rfl
  unfold allocE
  rw [hs]
  cases m.shapeAt v with
  | none => exact ⟨rfl, rfl⟩
  | some l =>
    simp only
    by_cases hr : m.young.room < ((l.length + 1 : Nat) : Int)
    · rw [if_pos (show (m.withMv mv).young.room < _ from hr), if_pos hr]; exact ⟨rfl, rfl⟩
    · rw [if_neg (show ¬ (m.withMv mv).young.room < _ from hr), if_neg hr]; exact ⟨rfl, rfl⟩
theorem getE_mv {mv : List (Int × Int)} (hs : SameMv mv m.moved) {a f v e : Int} (hf : m.getE a f = some (m1, v, e)) : ∃ mv1, (m.withMv mv).getE a f = some (m1.withMv mv1, v, e) ∧ SameMv mv1 m1.moved := by
  unfold getE at hf ⊢
  rw [fieldE_mv]
  cases hq : m.fieldE a f with
  | none => rw [hq] at hf; cases hf
  | some r =>
    rw [hq] at hf
    cases r with
    | inl e1 => simp only at hf ⊢; cases hf; exact ⟨mv, rfl, hs⟩
    | inr p =>
      obtain ⟨wh, r⟩ := p
      simp only at hf ⊢
      have hb : (m.withMv mv).busy = m.busy := rfl
      rw [hb]
      cases hc : (r && m.busy) with
      | false =>
        rw [hc] at hf
        simp only [Bool.false_eq_true, if_false, Option.some.injEq, Prod.mk.injEq] at hf ⊢
        obtain ⟨rfl, rfl, rfl⟩ := hf
        exact ⟨mv, ⟨rfl, by rw [withMv_sp], rfl⟩, hs⟩
      | true =>
        rw [hc] at hf
        simp only [if_true] at hf ⊢
        cases hw : m.fwdIn false wh (a + 1 + f) with
        | none => rw [hw] at hf; cases hf
        | some n1 =>
          obtain ⟨mv1, g1, g2⟩ := fwdIn_mv hs hw
          rw [hw] at hf
          rw [g1]
          simp only [Option.some.injEq, Prod.mk.injEq] at hf ⊢
          obtain ⟨rfl, rfl, rfl⟩ := hf
          exact ⟨mv1, ⟨rfl, by rw [withMv_sp], rfl⟩, g2⟩
theorem setE_mv {mv : List (Int × Int)} (hs : SameMv mv m.moved) {a f v e : Int} (hf : m.setE a f v = some (m1, e)) : ∃ mv1, (m.withMv mv).setE a f v = some (m1.withMv mv1, e) ∧ SameMv mv1 m1.moved := by
  unfold setE at hf ⊢
  rw [fieldE_mv]
  cases hq : m.fieldE a f with
  | none => rw [hq] at hf; cases hf
  | some r =>
    rw [hq] at hf
    cases r with
    | inl e1 => simp only at hf ⊢; cases hf; exact ⟨mv, rfl, hs⟩
    | inr p =>
      obtain ⟨wh, r⟩ := p
      have hc : (m.withMv mv).cur v = m.cur v := rfl
      have hw : (m.withMv mv).setSp (((m.withMv mv).sp wh).put (a + 1 + f) v) wh = (m.setSp ((m.sp wh).put (a + 1 + f) v) wh).withMv mv := by cases wh <;> rfl
      have hmv : (m.setSp ((m.sp wh).put (a + 1 + f) v) wh).moved = m.moved := by cases wh <;> rfl
      simp only [hc, hw] at hf ⊢
      generalize m.setSp ((m.sp wh).put (a + 1 + f) v) wh = m2 at *
      by_cases h1 : (r && (v != 0 && (m.cur v).isNone)) = true
      · rw [if_pos h1] at hf ⊢
        cases hf; exact ⟨mv, rfl, hs⟩
      · rw [if_neg h1] at hf ⊢
        have hk : ((m2.withMv mv).now.begins a && ((m2.withMv mv).young.begins v && !(m2.withMv mv).known.contains (a, f))) = (m2.now.begins a && (m2.young.begins v && !m2.known.contains (a, f))) := rfl
        rw [hk]
        by_cases h2 : (r && (m2.now.begins a && (m2.young.begins v && !m2.known.contains (a, f)))) = true
        · rw [if_pos h2] at hf ⊢
          have hl : (m2.withMv mv).known = m2.known := rfl
          rw [hl]
          by_cases h3 : m2.known.length < 1048576
          · rw [if_pos h3] at hf ⊢
            cases hf; exact ⟨mv, rfl, by rw [← hmv] at hs; exact hs⟩
          · rw [if_neg h3] at hf; cases hf
        · rw [if_neg h2] at hf ⊢
          cases hf; exact ⟨mv, rfl, by rw [← hmv] at hs; exact hs⟩
theorem neededLoop_mv (mv : List (Int × Int)) : ∀ (k i : Nat) (n : Int) (l : List Int), (m.withMv mv).neededLoop k i n l = m.neededLoop k i n l
  | 0, _, _, _ => rfl
  | k + 1, i, n, l => by
    unfold neededLoop
    cases l[i]? with
    | none => rfl
    | some a =>
      have h1 : (m.withMv mv).fieldsAt m.young a = m.fieldsAt m.young a := rfl
      have h2 : (m.withMv mv).young = m.young := rfl
      have h3 : (m.withMv mv).meetY = m.meetY := rfl
      simp only [h1, h2, h3]
      cases m.fieldsAt m.young a with
      | none => rfl
      | some sh =>
        simp only
        cases refVals m.young a sh 0 with
        | none => rfl
        | some vs => exact neededLoop_mv mv k (i + 1) _ _
theorem needed_mv (mv : List (Int × Int)) (roots : List Int) : (m.withMv mv).needed roots = m.needed roots := by
  unfold needed
  have h1 : (m.withMv mv).now = m.now := rfl
  have h2 : (m.withMv mv).known = m.known := rfl
  have h3 : (m.withMv mv).meetY = m.meetY := rfl
  have h4 : (m.withMv mv).young = m.young := rfl
  rw [h1, h2, h3, h4]
  cases knownVals m.now m.known with
  | none => rfl
  | some vs => exact neededLoop_mv mv _ _ _ _
theorem minor_mv (mv : List (Int × Int)) (roots : List Int) : (m.withMv mv).minor roots = (m.minor roots).map fun r => (r.1, r.2.withMv mv) := by
  unfold minor
  have h1 : ({ m.withMv mv with moved := [] } : Mem) = { m with moved := [] } := rfl
  have h2 : (m.withMv mv).now = m.now := rfl
  rw [h1, h2]
  cases fwdAll true { m with moved := [] } roots with
  | none => rfl
  | some r =>
    obtain ⟨out, n1⟩ := r
    simp only
    cases fwdKnown n1 n1.known with
    | none => rfl
    | some n2 =>
      simp only
      cases scanAll (m.now.words.length + 1) n2 m.now.top with
      | none => rfl
      | some n3 => rfl
theorem minor_moved {roots out : List Int} (h : m.minor roots = some (out, m1)) : m1.moved = m.moved := by
  unfold minor at h
  cases h1 : fwdAll true { m with moved := [] } roots with
  | none => rw [h1] at h; cases h
  | some r =>
    obtain ⟨o, n1⟩ := r
    rw [h1] at h
    simp only at h
    cases h2 : fwdKnown n1 n1.known with
    | none => rw [h2] at h; cases h
    | some n2 =>
      rw [h2] at h
      simp only at h
      cases h3 : scanAll (m.now.words.length + 1) n2 m.now.top with
      | none => rw [h3] at h; cases h
      | some n3 => rw [h3] at h; cases h; rfl
theorem minorE_mv {mv : List (Int × Int)} (hs : SameMv mv m.moved) {roots out : List Int} {e : Int} (hf : m.minorE roots = some (m1, out, e)) : (m.withMv mv).minorE roots = some (m1.withMv mv, out, e) ∧ SameMv mv m1.moved := by
  have h1 : (m.withMv mv).rooted roots = m.rooted roots := rfl
  have h2 : (m.withMv mv).now.room - (m.withMv mv).left = m.now.room - m.left := rfl
  unfold minorE at hf ⊢
  rw [h1, needed_mv, h2, minor_mv]
  by_cases h0 : m.rooted roots ≠ 0
  · rw [if_pos h0] at hf ⊢
    cases hf; exact ⟨rfl, hs⟩
  · rw [if_neg h0] at hf ⊢
    cases hn : m.needed roots with
    | none => rw [hn] at hf; cases hf
    | some n =>
      rw [hn] at hf
      simp only at hf ⊢
      by_cases h3 : n > m.now.room - m.left
      · rw [if_pos h3] at hf ⊢
        cases hf; exact ⟨rfl, hs⟩
      · rw [if_neg h3] at hf ⊢
        cases hm : m.minor roots with
        | none => rw [hm] at hf; cases hf
        | some r =>
          obtain ⟨o, n1⟩ := r
          rw [hm] at hf
          simp only [Option.map_some, Option.some.injEq, Prod.mk.injEq] at hf ⊢
          obtain ⟨rfl, rfl, rfl⟩ := hf
          exact ⟨⟨rfl, rfl, rfl⟩, by rw [minor_moved hm]; exact hs⟩
theorem flipE_mv {mv : List (Int × Int)} (hs : SameMv mv m.moved) {roots out : List Int} {e : Int} (hf : m.flipE roots = some (m1, out, e)) : ∃ mv1, (m.withMv mv).flipE roots = some (m1.withMv mv1, out, e) ∧ SameMv mv1 m1.moved := by
  unfold flipE at hf ⊢
  by_cases hb : m.busy = true
  · rw [if_pos hb] at hf
    rw [if_pos (show (m.withMv mv).busy = true from hb)]
    cases hf; exact ⟨mv, rfl, hs⟩
  · rw [if_neg hb] at hf
    rw [if_neg (show ¬ (m.withMv mv).busy = true from hb)]
    cases hm : m.minorE roots with
    | none => rw [hm] at hf; cases hf
    | some r =>
      obtain ⟨n1, o, e1⟩ := r
      obtain ⟨g1, g2⟩ := minorE_mv hs hm
      rw [hm] at hf
      rw [g1]
      simp only at hf ⊢
      by_cases h1 : e1 ≠ 0
      · rw [if_pos h1] at hf ⊢
        cases hf; exact ⟨mv, rfl, g2⟩
      · rw [if_neg h1] at hf ⊢
        refine ⟨m1.moved, ?_, SameMv.refl _⟩
        rw [withMv_self]
        exact hf

/-- One call by number. -/
def kindOf (k : Int) : Int := (k.tmod 7 + 7).tmod 7
def callE (m : Mem) (c : Call5) : Option (Mem × Int × Int) :=
  if kindOf c.1.1 = 0 then some (m.allocE c.1.2.1)
  else if kindOf c.1.1 = 1 then some (m, m.shapeE c.1.2.1)
  else if kindOf c.1.1 = 2 then m.getE c.1.2.1 c.1.2.2.1
  else if kindOf c.1.1 = 3 then (m.setE c.1.2.1 c.1.2.2.1 c.1.2.2.2).map fun r => (r.1, 0, r.2)
  else if kindOf c.1.1 = 4 then (m.minorE c.2).map fun r => (r.1, 0, r.2.2)
  else if kindOf c.1.1 = 5 then (m.flipE c.2).map fun r => (r.1, 0, r.2.2)
  else m.stepE c.1.2.1
theorem callE_mv {mv : List (Int × Int)} (hs : SameMv mv m.moved) {c : Call5} {v e : Int} (hf : m.callE c = some (m1, v, e)) : ∃ mv1, (m.withMv mv).callE c = some (m1.withMv mv1, v, e) ∧ SameMv mv1 m1.moved := by
  unfold callE at hf ⊢
  split at hf
  · rename_i h
    rw [if_pos h, (allocE_mv mv _).1]
    simp only [Option.some.injEq, Prod.mk.injEq] at hf ⊢
    refine ⟨mv, ⟨by rw [hf], by rw [hf], by rw [hf]⟩, ?_⟩
    have := (allocE_mv (m := m) mv c.1.2.1).2
    rw [hf] at this
    rw [this]; exact hs
  · rename_i h
    rw [if_neg h]
    split at hf
    · rename_i h
      rw [if_pos h, shapeE_mv]
      simp only [Option.some.injEq, Prod.mk.injEq] at hf ⊢
      obtain ⟨rfl, hf⟩ := hf
      exact ⟨mv, ⟨rfl, hf⟩, hs⟩
    · rename_i h
      rw [if_neg h]
      split at hf
      · rename_i h
        rw [if_pos h]; exact getE_mv hs hf
      · rename_i h
        rw [if_neg h]
        split at hf
        · rename_i h
          rw [if_pos h]
          cases hq : m.setE c.1.2.1 c.1.2.2.1 c.1.2.2.2 with
          | none => rw [hq] at hf; cases hf
          | some r =>
            obtain ⟨n1, e1⟩ := r
            obtain ⟨mv1, g1, g2⟩ := setE_mv hs hq
            rw [hq] at hf
            rw [g1]
            simp only [Option.map_some, Option.some.injEq, Prod.mk.injEq] at hf ⊢
            obtain ⟨rfl, rfl, rfl⟩ := hf
            exact ⟨mv1, ⟨rfl, rfl, rfl⟩, g2⟩
        · rename_i h
          rw [if_neg h]
          split at hf
          · rename_i h
            rw [if_pos h]
            cases hq : m.minorE c.2 with
            | none => rw [hq] at hf; cases hf
            | some r =>
              obtain ⟨n1, o, e1⟩ := r
              obtain ⟨g1, g2⟩ := minorE_mv hs hq
              rw [hq] at hf
              rw [g1]
              simp only [Option.map_some, Option.some.injEq, Prod.mk.injEq] at hf ⊢
              obtain ⟨rfl, rfl, rfl⟩ := hf
              exact ⟨mv, ⟨rfl, rfl, rfl⟩, g2⟩
          · rename_i h
            rw [if_neg h]
            split at hf
            · rename_i h
              rw [if_pos h]
              cases hq : m.flipE c.2 with
              | none => rw [hq] at hf; cases hf
              | some r =>
                obtain ⟨n1, o, e1⟩ := r
                obtain ⟨mv1, g1, g2⟩ := flipE_mv hs hq
                rw [hq] at hf
                rw [g1]
                simp only [Option.map_some, Option.some.injEq, Prod.mk.injEq] at hf ⊢
                obtain ⟨rfl, rfl, rfl⟩ := hf
                exact ⟨mv1, ⟨rfl, rfl, rfl⟩, g2⟩
            · rename_i h
              rw [if_neg h]; exact stepE_mv hs hf
theorem MinorR.inv_of {roots out : List Int} {e : Int} (h : MinorR m Y H roots m1 out e) (hI : Inv m Y H) : Inv m1 Y H := by
  cases h with
  | rooted e h1 h2 => exact hI
  | full n h1 h2 h3 => exact hI
  | ok m' out lk h1 h2 h3 h4 h5 => exact h3
theorem Inv.callE (h : Inv m Y H) (c : Call5) : ∃ m' v e, m.callE c = some (m', v, e) ∧ Inv m' Y H := by
  unfold Mem.callE
  by_cases h0 : kindOf c.1.1 = 0
  · rw [if_pos h0]; exact ⟨_, _, _, rfl, (h.allocE _).1⟩
  · rw [if_neg h0]
    by_cases h1 : kindOf c.1.1 = 1
    · rw [if_pos h1]; exact ⟨_, _, _, rfl, h⟩
    · rw [if_neg h1]
      by_cases h2 : kindOf c.1.1 = 2
      · rw [if_pos h2]
        obtain ⟨m', v, e, g1, g2, _⟩ := h.getE c.1.2.1 c.1.2.2.1
        exact ⟨m', v, e, g1, g2⟩
      · rw [if_neg h2]
        by_cases h3 : kindOf c.1.1 = 3
        · rw [if_pos h3]
          obtain ⟨m', e, g1, g2, _⟩ := h.setE c.1.2.1 c.1.2.2.1 c.1.2.2.2
          exact ⟨m', 0, e, by rw [g1]; rfl, g2⟩
        · rw [if_neg h3]
          by_cases h4 : kindOf c.1.1 = 4
          · rw [if_pos h4]
            obtain ⟨m', out, e, g1, g2⟩ := h.minorE c.2
            exact ⟨m', 0, e, by rw [g1]; rfl, g2.inv_of h⟩
          · rw [if_neg h4]
            by_cases h5 : kindOf c.1.1 = 5
            · rw [if_pos h5]
              obtain ⟨m', out, e, g1, g2⟩ := h.flipE c.2
              refine ⟨m', 0, e, by rw [g1]; rfl, ?_⟩
              cases g2 with
              | busy hb => exact h
              | err m1 out e hb hm he => exact hm.inv_of h
              | ok m1 m2 out1 out lk a1 a2 a3 a4 a5 a6 a7 a8 a9 a10 a11 => exact a8
            · rw [if_neg h5]
              obtain ⟨m', v, e, g1, g2, _⟩ := h.stepE c.1.2.1
              exact ⟨m', v, e, g1, g2⟩

/-- Calls one after the other: what each gives back. -/
def callsE : Mem → List Call5 → Option (Mem × List (Int × Int))
  | m, [] => some (m, [])
  | m, c :: cs =>
    match m.callE c with
    | none => none
    | some (m1, v, e) => (callsE m1 cs).map fun r => (r.1, (v, e) :: r.2)
theorem callsE_snoc : ∀ (cs : List Call5) {m m1 m2 : Mem} {gs : List (Int × Int)} {c : Call5} {v e : Int}, callsE m cs = some (m1, gs) → m1.callE c = some (m2, v, e) → callsE m (cs ++ [c]) = some (m2, gs ++ [(v, e)])
  | [], m, m1, m2, gs, c, v, e, h1, h2 => by
    cases h1
    simp only [List.nil_append, callsE, h2, Option.map_some]
  | x :: cs, m, m1, m2, gs, c, v, e, h1, h2 => by
    unfold callsE at h1
    cases hx : m.callE x with
    | none => rw [hx] at h1; cases h1
    | some r =>
      obtain ⟨n1, vx, ex⟩ := r
      rw [hx] at h1
      simp only at h1
      cases hr : callsE n1 cs with
      | none => rw [hr] at h1; cases h1
      | some q =>
        obtain ⟨n2, gq⟩ := q
        rw [hr] at h1
        simp only [Option.map_some, Option.some.injEq, Prod.mk.injEq] at h1
        obtain ⟨rfl, rfl⟩ := h1
        have := callsE_snoc cs hr h2
        show callsE m (x :: (cs ++ [c])) = _
        unfold callsE
        rw [hx]
        simp only
        rw [this]; rfl
/-- A copy and its memory, after the same calls. -/
structure Twin (m n : Mem) (Y H : Nat) : Prop where
  inv : Inv m Y H
  mv : ∃ mv, n = m.withMv mv ∧ SameMv mv m.moved
theorem callsE_len : ∀ (cs : List Call5) {m m1 : Mem} {gs : List (Int × Int)}, callsE m cs = some (m1, gs) → gs.length = cs.length
  | [], m, m1, gs, h => by cases h; rfl
  | c :: cs, m, m1, gs, h => by
    unfold callsE at h
    cases hx : m.callE c with
    | none => rw [hx] at h; cases h
    | some r =>
      obtain ⟨n1, v, e⟩ := r
      rw [hx] at h
      simp only at h
      cases hr : callsE n1 cs with
      | none => rw [hr] at h; cases h
      | some q =>
        obtain ⟨n2, gq⟩ := q
        rw [hr] at h
        simp only [Option.map_some, Option.some.injEq, Prod.mk.injEq] at h
        obtain ⟨rfl, rfl⟩ := h
        simp [callsE_len cs hr]
end Mem
end Go.Proofs.Hp
