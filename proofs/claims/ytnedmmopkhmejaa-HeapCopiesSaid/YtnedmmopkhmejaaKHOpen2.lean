/- Opener of an argument: a slice of structs of four ints and a slice of ints. -/
import Derived.Test.YtnedmmopkhmejaaKHOpen
import Derived.Test.YtnedmmopkhmejaaKHF2
set_option linter.unusedVariables false
set_option linter.unusedSimpArgs false
namespace Go.Proofs.Ytnedmmopkhmejaa.openers
open Go.ChangeShapes Go.WideShapes Go.ChangeAt Go.RowKit Go.Joins Go.Deep Go.Proofs.Hp
section
variable {H : Type} {enc : TypeId × Value → H} {P : Program} {w : World} {base : Nat} {spare : Nat → Bool} {held : Bool}
theorem ints_of {t e : TypeId} {fuel : Nat} {v : Value} {x : DataW H × List MemPlace} (hc : P.cellsOf e = 1) (ht : P.underlying t = some (.slice e)) (he : P.underlying e = some (.int .i64)) (h : DataW.trod enc P w base spare held fuel t [v] = some x) :
    ∃ xs, IntsAt w (fun k => k < w.heap.size) v xs := by
  obtain ⟨p, len, cap, rfl, _, h0 | ⟨b, o, rfl, hi⟩⟩ := rows_of (k := 1) (by omega) hc ht h
  · subst h0; exact ⟨[], p, cap, rfl, .inl rfl⟩
  · obtain ⟨xs, h1, h2⟩ := list_of (Q := fun i (x : Int) => w.cell? ⟨b, o + i, none⟩ = some (.int .i64 x)) len fun i hil => by
      obtain ⟨cs', n, y, q1, q2, q3⟩ := hi i hil
      obtain ⟨bv, q4, _, _⟩ := DataW.trod_int he q3
      have q5 := q2 0 (by omega)
      rw [q4] at q5
      exact ⟨bv, by simpa using q5⟩
    refine ⟨xs, some ⟨b, o, none⟩, cap, by rw [h1], ?_⟩
    by_cases hn : xs = []
    · exact .inl hn
    · have hpos : 0 < xs.length := by cases xs with | nil => exact absurd rfl hn | cons _ _ => simp
      exact .inr ⟨b, o, rfl, lt_of_cell (h2 0 _ (List.getElem?_eq_getElem hpos)), fun i hil => h2 i _ (List.getElem?_eq_getElem hil)⟩

theorem calls_of {t e e5 : TypeId} {f0 f1 f2 f3 f4 : Field} {fuel : Nat} {v : Value} {x : DataW H × List MemPlace} (hc : P.cellsOf e = 5) (ht : P.underlying t = some (.slice e)) (he : P.underlying e = some (.struct #[f0, f1, f2, f3, f4])) (hone : oneCellFields P #[f0, f1, f2, f3, f4] = true)
    (k0 : P.underlying f0.type = some (.int .i64)) (k1 : P.underlying f1.type = some (.int .i64)) (k2 : P.underlying f2.type = some (.int .i64)) (k3 : P.underlying f3.type = some (.int .i64)) (k4 : P.underlying f4.type = some (.slice e5)) (c5 : P.cellsOf e5 = 1) (k5 : P.underlying e5 = some (.int .i64))
    (h : DataW.trod enc P w base spare held fuel t [v] = some x) : ∃ xs : List Call5, CallsAt w (fun k => k < w.heap.size) v xs ∧ xs.length ≤ 9223372036854775807 ∧ ∀ x ∈ xs, x.1.2.1 ≤ 9223372036854775807 := by
  obtain ⟨p, len, cap, rfl, hlm, h0 | ⟨b, o, rfl, hi⟩⟩ := rows_of (k := 5) (by omega) hc ht h
  · subst h0; exact ⟨[], ⟨p, cap, rfl, .inl rfl⟩, by simp, fun x hx => by cases hx⟩
  · obtain ⟨xs, h1, h2⟩ := list_of (Q := fun i (x : Call5) => (w.cell? ⟨b, o + i * 5, none⟩ = some (.int .i64 x.1.1) ∧ w.cell? ⟨b, o + i * 5 + 1, none⟩ = some (.int .i64 x.1.2.1) ∧ w.cell? ⟨b, o + i * 5 + 2, none⟩ = some (.int .i64 x.1.2.2.1) ∧
        w.cell? ⟨b, o + i * 5 + 3, none⟩ = some (.int .i64 x.1.2.2.2) ∧ ∃ rv, w.cell? ⟨b, o + i * 5 + 4, none⟩ = some rv ∧ IntsAt w (fun k => k < w.heap.size) rv x.2) ∧ x.1.2.1 ≤ 9223372036854775807) len fun i hil => by
      obtain ⟨cs', n, y, q1, q2, q3⟩ := hi i hil
      match cs', q1 with
      | [c0, c1, c2, c3, c4], _ =>
        obtain ⟨ys, n', _, _, _, hlen, hg⟩ := DataW.trod_struct he q3
        obtain ⟨o0, j0⟩ := hone_of hone 0 f0 rfl
        obtain ⟨o1, j1⟩ := hone_of hone 1 f1 rfl
        obtain ⟨o2, j2⟩ := hone_of hone 2 f2 rfl
        obtain ⟨o3, j3⟩ := hone_of hone 3 f3 rfl
        obtain ⟨o4, j4⟩ := hone_of hone 4 f4 rfl
        match ys, hlen with
        | [y0, y1, y2, y3, y4], _ =>
          have t0 : DataW.trod enc P w base spare held n' f0.type [c0] = some y0 := by simpa [o0, j0] using hg 0 f0 rfl
          have t1 : DataW.trod enc P w base spare held n' f1.type [c1] = some y1 := by simpa [o1, j1] using hg 1 f1 rfl
          have t2 : DataW.trod enc P w base spare held n' f2.type [c2] = some y2 := by simpa [o2, j2] using hg 2 f2 rfl
          have t3 : DataW.trod enc P w base spare held n' f3.type [c3] = some y3 := by simpa [o3, j3] using hg 3 f3 rfl
          have t4 : DataW.trod enc P w base spare held n' f4.type [c4] = some y4 := by simpa [o4, j4] using hg 4 f4 rfl
          obtain ⟨x0, e0, _, _⟩ := DataW.trod_int k0 t0
          obtain ⟨x1, e1, _, w1⟩ := DataW.trod_int k1 t1
          obtain ⟨x2, e2, _, _⟩ := DataW.trod_int k2 t2
          obtain ⟨x3, e3, _, _⟩ := DataW.trod_int k3 t3
          obtain ⟨rs, hrs⟩ := ints_of c5 k4 k5 t4
          obtain rfl := List.head_eq_of_cons_eq e0
          obtain rfl := List.head_eq_of_cons_eq e1
          obtain rfl := List.head_eq_of_cons_eq e2
          obtain rfl := List.head_eq_of_cons_eq e3
          refine ⟨((x0, x1, x2, x3), rs), ⟨by simpa using q2 0 (by omega), by simpa using q2 1 (by omega), by simpa using q2 2 (by omega), by simpa using q2 3 (by omega), c4, by simpa using q2 4 (by omega), hrs⟩, ?_⟩
          have : -9223372036854775808 ≤ x1 ∧ x1 ≤ 9223372036854775807 := by simpa [Lit.wf, IntKind.min, IntKind.max, IntKind.signed, IntKind.bits] using w1
          exact this.2
    refine ⟨xs, ⟨some ⟨b, o, none⟩, cap, by rw [h1], ?_⟩, by rw [h1]; simp only [maxLen] at hlm; omega, fun x hx => ?_⟩
    · by_cases hn : xs = []
      · exact .inl hn
      · have hpos : 0 < xs.length := by cases xs with | nil => exact absurd rfl hn | cons _ _ => simp
        exact .inr ⟨b, o, rfl, lt_of_cell (h2 0 _ (List.getElem?_eq_getElem hpos)).1.1, fun i x hix => (h2 i x hix).1⟩
    · obtain ⟨i, hi2⟩ := List.mem_iff_getElem?.1 hx
      exact (h2 i x hi2).2
end
end Go.Proofs.Ytnedmmopkhmejaa.openers
