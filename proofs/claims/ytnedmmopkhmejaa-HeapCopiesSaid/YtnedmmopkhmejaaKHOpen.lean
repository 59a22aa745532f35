/- Openers of arguments: slices of slices of bools, of structs of four ints. -/
import Derived.Test.YtnedmmopkhmejaaKHA9
import Derived.WalkKit
import Derived.ProofKit
import Derived.OpenShut
import Derived.Lib.SmallJoins
import Derived.Deep.Slices
import Derived.Deep.Fields
set_option linter.unusedVariables false
set_option linter.unusedSimpArgs false
namespace Go.Proofs.Ytnedmmopkhmejaa.openers
open Go.ChangeShapes Go.WideShapes Go.ChangeAt Go.RowKit Go.Joins Go.Deep Go.Proofs.Hp
theorem list_of {α : Type} {Q : Nat → α → Prop} : ∀ n : Nat, (∀ i, i < n → ∃ x, Q i x) → ∃ xs : List α, xs.length = n ∧ ∀ i x, xs[i]? = some x → Q i x
  | 0, _ => ⟨[], rfl, fun i x h => by simp at h⟩
  | n + 1, h => by
    obtain ⟨xs, h1, h2⟩ := list_of n fun i hi => h i (by omega)
    obtain ⟨y, hy⟩ := h n (by omega)
    refine ⟨xs ++ [y], by simp [h1], fun i x hx => ?_⟩
    by_cases hi : i < xs.length
    · rw [List.getElem?_append_left hi] at hx; exact h2 i x hx
    · rw [List.getElem?_append_right (by omega)] at hx
      have : i - xs.length = 0 := by
        by_cases q : i - xs.length = 0
        · exact q
        · rw [List.getElem?_eq_none (by simp; omega)] at hx; cases hx
      rw [this] at hx
      simp only [List.getElem?_cons_zero, Option.some.injEq] at hx
      subst hx
      have : i = n := by omega
      rw [this]; exact hy

section
variable {H : Type} {enc : TypeId × Value → H} {P : Program} {w : World} {base : Nat} {spare : Nat → Bool} {held : Bool}

/-- A slice whose elements have k cells each, opened to the cells of each element. -/
theorem rows_of {t e : TypeId} {fuel k : Nat} {v : Value} {x : DataW H × List MemPlace} (hk : 0 < k) (hc : P.cellsOf e = k) (ht : P.underlying t = some (.slice e)) (h : DataW.trod enc P w base spare held fuel t [v] = some x) :
    ∃ p len cap, v = .slice p len cap ∧ len ≤ maxLen ∧ (len = 0 ∨ ∃ b o, p = some ⟨b, o, none⟩ ∧ ∀ i, i < len → ∃ cs' n y, cs'.length = k ∧ (∀ j, j < k → w.cell? ⟨b, o + i * k + j, none⟩ = cs'[j]?) ∧ DataW.trod enc P w base spare held n e cs' = some y) := by
  rcases open_slice ht h with ⟨h0, _⟩ | ⟨a, len, cap, m, n, D, Pl, hcs, hb, hl, hm, hmm, hx, hi⟩
  · obtain rfl := List.head_eq_of_cons_eq h0
    exact ⟨none, 0, 0, rfl, Nat.zero_le _, .inl rfl⟩
  · obtain rfl := List.head_eq_of_cons_eq hcs
    refine ⟨some a, len, cap, rfl, by omega, ?_⟩
    by_cases h0 : len = 0
    · exact .inl h0
    · right
      have hmlen : len ≤ m := by rw [hmm]; split <;> omega
      obtain ⟨ab, ao, asp⟩ := a
      have hsp : asp = none := by
        obtain ⟨cs', c1, c2⟩ := hi 0 (by omega)
        rw [hc] at c1
        obtain ⟨_, q1, q2⟩ := World.cells?_some c1
        have q3 := q2 0 hk
        rw [List.getElem?_eq_getElem (by omega)] at q3
        simp only [Nat.zero_mul, Addr.add, if_true] at q3
        unfold World.cell? at q3
        cases asp with
        | none => rfl
        | some z =>
          simp only at q3
          split at q3
          · simp at q3
          · cases q3
      subst hsp
      refine ⟨ab, ao, rfl, fun i hil => ?_⟩
      obtain ⟨cs', c1, c2⟩ := hi i (by omega)
      rw [hc] at c1
      obtain ⟨_, q1, q2⟩ := World.cells?_some c1
      refine ⟨cs', n, _, q1, fun j hj => ?_, c2⟩
      have q3 := q2 j hj
      have e1 : ((⟨ab, ao, none⟩ : Addr).add (i * k)).add j = ⟨ab, ao + i * k + j, none⟩ := by
        unfold Addr.add
        split <;> split <;> simp_all
      rw [e1] at q3
      exact q3

theorem bools_of {t e : TypeId} {fuel : Nat} {v : Value} {x : DataW H × List MemPlace} (hc : P.cellsOf e = 1) (ht : P.underlying t = some (.slice e)) (he : P.underlying e = some .bool) (h : DataW.trod enc P w base spare held fuel t [v] = some x) :
    ∃ xs, BoolsAt w (fun k => k < w.heap.size) v xs := by
  obtain ⟨p, len, cap, rfl, _, h0 | ⟨b, o, rfl, hi⟩⟩ := rows_of (k := 1) (by omega) hc ht h
  · subst h0; exact ⟨[], p, cap, rfl, .inl rfl⟩
  · obtain ⟨xs, h1, h2⟩ := list_of (Q := fun i (x : Bool) => w.cell? ⟨b, o + i, none⟩ = some (.bool x)) len fun i hil => by
      obtain ⟨cs', n, y, q1, q2, q3⟩ := hi i hil
      obtain ⟨bv, q4, _⟩ := DataW.trod_bool he q3
      have q5 := q2 0 (by omega)
      rw [q4] at q5
      exact ⟨bv, by simpa using q5⟩
    refine ⟨xs, some ⟨b, o, none⟩, cap, by rw [h1], ?_⟩
    by_cases hn : xs = []
    · exact .inl hn
    · have hpos : 0 < xs.length := by cases xs with | nil => exact absurd rfl hn | cons _ _ => simp
      exact .inr ⟨b, o, rfl, lt_of_cell (h2 0 _ (List.getElem?_eq_getElem hpos)), fun i hil => h2 i _ (List.getElem?_eq_getElem hil)⟩

theorem shapes_of {t e e2 : TypeId} {fuel : Nat} {v : Value} {x : DataW H × List MemPlace} (hc : P.cellsOf e = 1) (hc2 : P.cellsOf e2 = 1) (ht : P.underlying t = some (.slice e)) (he : P.underlying e = some (.slice e2)) (he2 : P.underlying e2 = some .bool)
    (h : DataW.trod enc P w base spare held fuel t [v] = some x) : ∃ ss, ShRep w (fun k => k < w.heap.size) v ss := by
  obtain ⟨p, len, cap, rfl, _, h0 | ⟨b, o, rfl, hi⟩⟩ := rows_of (k := 1) (by omega) hc ht h
  · subst h0; exact ⟨[], p, cap, rfl, .inl rfl⟩
  · obtain ⟨ss, h1, h2⟩ := list_of (Q := fun i (xs : List Bool) => ∃ u, w.cell? ⟨b, o + i, none⟩ = some u ∧ BoolsAt w (fun k => k < w.heap.size) u xs) len fun i hil => by
      obtain ⟨cs', n, y, q1, q2, q3⟩ := hi i hil
      match cs', q1 with
      | [u], _ =>
        obtain ⟨xs, hx⟩ := bools_of hc2 he he2 q3
        exact ⟨xs, u, by simpa using q2 0 (by omega), hx⟩
    refine ⟨ss, some ⟨b, o, none⟩, cap, by rw [h1], ?_⟩
    by_cases hn : ss = []
    · exact .inl hn
    · have hpos : 0 < ss.length := by cases ss with | nil => exact absurd rfl hn | cons _ _ => simp
      obtain ⟨u, hu, _⟩ := h2 0 _ (List.getElem?_eq_getElem hpos)
      exact .inr ⟨b, o, rfl, lt_of_cell hu, fun i hil => h2 i _ (List.getElem?_eq_getElem hil)⟩

theorem acts_of {t e : TypeId} {f0 f1 f2 f3 : Field} {fuel : Nat} {v : Value} {x : DataW H × List MemPlace} (hc : P.cellsOf e = 4) (ht : P.underlying t = some (.slice e)) (he : P.underlying e = some (.struct #[f0, f1, f2, f3])) (hone : oneCellFields P #[f0, f1, f2, f3] = true)
    (k0 : P.underlying f0.type = some (.int .i64)) (k1 : P.underlying f1.type = some (.int .i64)) (k2 : P.underlying f2.type = some (.int .i64)) (k3 : P.underlying f3.type = some (.int .i64))
    (h : DataW.trod enc P w base spare held fuel t [v] = some x) : ∃ xs, ActsAt w (fun k => k < w.heap.size) v xs ∧ ∀ x ∈ xs, x.2.1 ≤ 9223372036854775807 := by
  obtain ⟨p, len, cap, rfl, _, h0 | ⟨b, o, rfl, hi⟩⟩ := rows_of (k := 4) (by omega) hc ht h
  · subst h0; exact ⟨[], ⟨p, cap, rfl, .inl rfl⟩, fun x hx => by cases hx⟩
  · obtain ⟨xs, h1, h2⟩ := list_of (Q := fun i (x : Int × Int × Int × Int) => (w.cell? ⟨b, o + i * 4, none⟩ = some (.int .i64 x.1) ∧ w.cell? ⟨b, o + i * 4 + 1, none⟩ = some (.int .i64 x.2.1) ∧ w.cell? ⟨b, o + i * 4 + 2, none⟩ = some (.int .i64 x.2.2.1) ∧
        w.cell? ⟨b, o + i * 4 + 3, none⟩ = some (.int .i64 x.2.2.2)) ∧ x.2.1 ≤ 9223372036854775807) len fun i hil => by
      obtain ⟨cs', n, y, q1, q2, q3⟩ := hi i hil
      match cs', q1 with
      | [c0, c1, c2, c3], _ =>
        obtain ⟨ys, n', _, _, _, hlen, hg⟩ := DataW.trod_struct he q3
        obtain ⟨o0, j0⟩ := hone_of hone 0 f0 rfl
        obtain ⟨o1, j1⟩ := hone_of hone 1 f1 rfl
        obtain ⟨o2, j2⟩ := hone_of hone 2 f2 rfl
        obtain ⟨o3, j3⟩ := hone_of hone 3 f3 rfl
        match ys, hlen with
        | [y0, y1, y2, y3], _ =>
          have t0 : DataW.trod enc P w base spare held n' f0.type [c0] = some y0 := by simpa [o0, j0] using hg 0 f0 rfl
          have t1 : DataW.trod enc P w base spare held n' f1.type [c1] = some y1 := by simpa [o1, j1] using hg 1 f1 rfl
          have t2 : DataW.trod enc P w base spare held n' f2.type [c2] = some y2 := by simpa [o2, j2] using hg 2 f2 rfl
          have t3 : DataW.trod enc P w base spare held n' f3.type [c3] = some y3 := by simpa [o3, j3] using hg 3 f3 rfl
          obtain ⟨x0, e0, _, _⟩ := DataW.trod_int k0 t0
          obtain ⟨x1, e1, _, w1⟩ := DataW.trod_int k1 t1
          obtain ⟨x2, e2, _, _⟩ := DataW.trod_int k2 t2
          obtain ⟨x3, e3, _, _⟩ := DataW.trod_int k3 t3
          obtain rfl := List.head_eq_of_cons_eq e0
          obtain rfl := List.head_eq_of_cons_eq e1
          obtain rfl := List.head_eq_of_cons_eq e2
          obtain rfl := List.head_eq_of_cons_eq e3
          refine ⟨(x0, x1, x2, x3), ⟨by simpa using q2 0 (by omega), by simpa using q2 1 (by omega), by simpa using q2 2 (by omega), by simpa using q2 3 (by omega)⟩, ?_⟩
          have : -9223372036854775808 ≤ x1 ∧ x1 ≤ 9223372036854775807 := by simpa [Lit.wf, IntKind.min, IntKind.max, IntKind.signed, IntKind.bits] using w1
          exact this.2
    refine ⟨xs, ⟨some ⟨b, o, none⟩, cap, by rw [h1], ?_⟩, fun x hx => ?_⟩
    · by_cases hn : xs = []
      · exact .inl hn
      · have hpos : 0 < xs.length := by cases xs with | nil => exact absurd rfl hn | cons _ _ => simp
        exact .inr ⟨b, o, rfl, lt_of_cell (h2 0 _ (List.getElem?_eq_getElem hpos)).1.1, fun i x hix => (h2 i x hix).1⟩
    · obtain ⟨i, hi2⟩ := List.mem_iff_getElem?.1 hx
      exact (h2 i x hi2).2
end

end Go.Proofs.Ytnedmmopkhmejaa.openers
