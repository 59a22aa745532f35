/- Plain: what the acts of a player keep. -/
import Derived.Test.YtnedmmopkhmejaaKHA6
set_option linter.unusedVariables false
set_option linter.unusedSimpArgs false
namespace Go.Proofs.Hp
namespace Mem
variable {m m' : Mem} {Y H : Nat}

theorem Inv.fwdIn_cur (h : Inv m Y H) {wh : Wh} (hwh : wh ≠ .o) {a : Int} {i : Nat} (hr : m.rf wh a i) (hf : m.fwdIn false wh (a + 1 + (i : Int)) = some m') {x : Int} (hx : m.isCur x) : m'.isCur x := by
  obtain ⟨m1, t, m2, _, hE, hS, h4, _⟩ := h.fwdIn hwh hr
  rw [hf] at h4; cases h4
  exact (hS.isCur x).2 (hx.ext hE)
theorem Inv.step1_cur (h : Inv m Y H) (hs : Step1 m m') {x : Int} (hx : m.isCur x) : m'.isCur x := by
  cases hs with
  | plain _ => exact hx
  | refers a i m1 hr _ hf => exact h.fwdIn_cur (wh := .n) (by simp) hr hf hx
theorem Inv.steps_cur : ∀ (k : Nat) {m m' : Mem}, Inv m Y H → m.busy = true → stepLoop k m = some m' → ∀ {x : Int}, m.isCur x → m'.isCur x
  | 0, m, m', _, _, e, x, hx => by cases e; exact hx
  | k + 1, m, m', h, hb, e, x, hx => by
    rw [stepLoop_succ] at e
    by_cases q : m.scan = m.now.top
    · rw [if_pos q] at e; cases e; exact hx
    · rw [if_neg q] at e
      have hsc := h.sc hb
      obtain ⟨m1, h1, hs1, h2, h3, _⟩ := h.step1 hb (by omega)
      rw [h1] at e
      exact Inv.steps_cur k h2 h3 e (h.step1_cur hs1 hx)
theorem Inv.stepE_cur (h : Inv m Y H) {n v e : Int} (hs : m.stepE n = some (m', v, e)) {x : Int} (hx : m.isCur x) : m'.isCur x := by
  unfold Mem.stepE at hs
  split at hs
  · cases hs; exact hx
  · split at hs
    · cases hs; exact hx
    · rename_i hb
      split at hs
      · cases hs
      · rename_i m1 h1
        have hc := h.steps_cur n.toNat (by simpa using hb) h1 hx
        split at hs <;> cases hs <;> exact hc
theorem Inv.getE_cur (h : Inv m Y H) {a f v e : Int} (hg : m.getE a f = some (m', v, e)) :
    (∀ x, m.isCur x → m'.isCur x) ∧ (∀ wh, m.fieldE a f = some (.inr (wh, true)) → v = 0 ∨ m'.isCur v) := by
  obtain ⟨r, hr, hR⟩ := fieldE_of h.tl a f
  unfold Mem.getE at hg
  rw [hr] at hg
  cases hR with
  | none => cases hg; exact ⟨fun _ q => q, fun wh q => by rw [hr] at q; cases q⟩
  | arg => cases hg; exact ⟨fun _ q => q, fun wh q => by rw [hr] at q; cases q⟩
  | ok wh l i r hc hw hob hf hl =>
    subst hf
    simp only at hg
    cases hrb : (r && m.busy) with
    | false =>
      rw [hrb] at hg
      simp only [Bool.false_eq_true, if_false, Option.some.injEq, Prod.mk.injEq] at hg
      obtain ⟨rfl, rfl, rfl⟩ := hg
      refine ⟨fun _ q => q, fun wh' q => ?_⟩
      rw [hr] at q
      simp only [Option.some.injEq, Sum.inr.injEq, Prod.mk.injEq] at q
      obtain ⟨rfl, rfl⟩ := q
      simp only [Bool.true_and] at hrb
      cases wh with
      | y => exact h.yr a i ⟨l, hob, hl⟩
      | n =>
        rcases h.nr a i ⟨l, hob, hl⟩ with q | q | ⟨q, _⟩
        · exact .inl q
        · exact .inr q
        · rw [hrb] at q; cases q
      | o => exact absurd rfl hw
    | true =>
      rw [hrb] at hg
      simp only [Bool.and_eq_true] at hrb
      obtain ⟨rfl, _⟩ := hrb
      obtain ⟨m1, t, m2, h1, hE, hS, h4, hI, ht, _⟩ := h.fwdIn hw ⟨l, hob, hl⟩
      simp only [if_true, h4, Option.some.injEq, Prod.mk.injEq] at hg
      obtain ⟨rfl, rfl, rfl⟩ := hg
      refine ⟨fun x q => (hS.isCur x).2 (q.ext hE), fun _ _ => ?_⟩
      have htl : m1.Tiled := by
        obtain ⟨m1'', t', hf', hI', _⟩ := h.fwd (m.fld wh a i)
        rw [h1] at hf'; cases hf'
        exact hI'.tl
      have hob1 : m1.ob wh a l := hE.sp_ob hob
      have hq := hS.fld htl hob1 (getElem_lt hl) wh hob1 (getElem_lt hl)
      rw [if_pos ⟨rfl, rfl, rfl⟩] at hq
      have : (m2.sp wh).get (a + 1 + (i : Int)) = t := hq
      rw [this]; exact ht
theorem MinorR.cur {roots out : List Int} (h : Inv m Y H) (r : MinorR m Y H roots m' out 0) : ∀ t ∈ out, t = 0 ∨ m'.isCur t := by
  generalize he : (0 : Int) = e at r
  cases r with
  | rooted _ _ h0 => exact absurd he.symm h0
  | full => simp at he
  | ok m1 out lk r1 r2 r3 r4 r5 => exact r5.current h r4 (rooted_zero r1).2
theorem MinorR.err {roots out : List Int} {e : Int} (r : MinorR m Y H roots m' out e) (he : e ≠ 0) : m' = m := by
  cases r with
  | rooted => rfl
  | full => rfl
  | ok => exact absurd rfl he
theorem FlipR.err' {roots out : List Int} {e : Int} (r : FlipR m Y H roots m' out e) (he : e ≠ 0) : m' = m := by
  cases r with
  | busy => rfl
  | err _ _ _ _ h2 _ => exact h2.err he
  | ok => exact absurd rfl he
theorem FlipR.cur {roots out : List Int} (h : Inv m Y H) (r : FlipR m Y H roots m' out 0) : ∀ t ∈ out, t = 0 ∨ m'.isCur t := by
  generalize he : (0 : Int) = e at r
  cases r with
  | busy => simp at he
  | err _ _ _ _ _ h0 => exact absurd he.symm h0
  | ok m1 m2 out1 out lk hb r1 r3 r4 r5 r6 r7 r8 r9 r10 r11 =>
    have hc := r5.current h r4 (rooted_zero r1).2
    intro t ht
    obtain ⟨i, hi⟩ := List.mem_iff_getElem?.1 ht
    have hlt := (List.getElem?_eq_some_iff.1 hi).1
    have hlt' : i < out1.length := by rw [← r10]; exact hlt
    have hri : out1[i]? = some out1[i] := List.getElem?_eq_getElem hlt'
    have hrel := r11 i _ _ hri hi
    rcases hc _ (List.getElem_mem hlt') with q | q
    · rcases hrel with ⟨_, g⟩ | ⟨_, _, g⟩
      · exact .inl (g.trans q)
      · exact .inr (.inr g)
    · rcases hrel with ⟨g, _⟩ | ⟨_, _, g⟩
      · exfalso
        rcases q with q | q
        · rw [r4.young, Tl.empty_begins] at q; cases q
        · have : m1.now.begins out1[i] = false := g
          rw [q] at this; cases this
      · exact .inr (.inr g)
theorem FlipR.shapes {roots out : List Int} {e : Int} (r : FlipR m Y H roots m' out e) : m'.shapes = m.shapes := by
  cases r with
  | busy => rfl
  | err _ _ _ _ h2 _ => exact h2.shapes.1
  | ok m1 m2 out1 out lk hb r1 r3 r4 r5 r6 r7 r8 r9 r10 r11 => rw [r9.shapes]; exact r4.shapes
end Mem

/-- A player in order. -/
structure PInv (p : Pl) (Y H : Nat) : Prop where
  inv : p.mem.Inv Y H
  cur : ∀ r ∈ p.roots, r = 0 ∨ p.mem.isCur r

namespace Pl
variable {p p' : Pl} {Y H : Nat}
/-- What an act leaves. -/
structure Ok (p : Pl) (Y H : Nat) (p' : Pl) : Prop where
  inv : PInv p' Y H
  len : p'.roots.length = p.roots.length
  shapes : p'.mem.shapes = p.mem.shapes
theorem Ok.refl (h : PInv p Y H) : Ok p Y H p := ⟨h, rfl, rfl⟩
theorem Ok.trans {p1 p2 : Pl} (h : Ok p Y H p1) (h' : Ok p1 Y H p2) : Ok p Y H p2 := ⟨h'.inv, h'.len.trans h.len, h'.shapes.trans h.shapes⟩
theorem root_cur (h : PInv p Y H) (i : Nat) : p.root i = 0 ∨ p.mem.isCur (p.root i) := by
  unfold root
  rw [List.getD_eq_getElem?_getD]
  cases hq : p.roots[i]? with
  | none => exact .inl rfl
  | some r => exact h.cur r (List.mem_of_getElem? hq)
theorem put_inv (h : PInv p Y H) (i : Nat) {v : Int} (hv : v = 0 ∨ p.mem.isCur v) : PInv (p.put i v) Y H := by
  refine ⟨h.inv, fun r hr => ?_⟩
  rcases List.mem_or_eq_of_mem_set hr with q | q
  · exact h.cur r q
  · rw [q]; exact hv
theorem put_ok (h : PInv p Y H) (i : Nat) {v : Int} (hv : v = 0 ∨ p.mem.isCur v) : Ok p Y H (p.put i v) := ⟨put_inv h i hv, by simp [put], rfl⟩
theorem refers_of (h : PInv p Y H) (i : Nat) (f : Int) (want : Bool) : ∃ e, p.refersE i f want = some e ∧ (e = 0 → ∃ wh, p.mem.fieldE (p.root i) f = some (.inr (wh, want))) := by
  obtain ⟨r, hr, hR⟩ := Mem.fieldE_of h.inv.tl (p.root i) f
  unfold refersE
  rw [hr]
  cases r with
  | inl e => exact ⟨e, rfl, fun q => absurd q (by cases hR <;> omega)⟩
  | inr q =>
    obtain ⟨wh, is⟩ := q
    simp only
    by_cases hq : is = want
    · rw [if_pos hq]; exact ⟨0, rfl, fun _ => ⟨wh, by rw [hq]⟩⟩
    · rw [if_neg hq]; exact ⟨1, rfl, fun q => by omega⟩
theorem clear_of (h : PInv p Y H) : ∃ p' e, p.clearE = some (p', e) ∧ Ok p Y H p' := by
  obtain ⟨m', out, e, h1, h2⟩ := h.inv.minorE p.roots
  refine ⟨⟨m', if e = 0 then out else p.roots⟩, e, by unfold clearE; rw [h1]; rfl, ?_⟩
  by_cases he : e = 0
  · subst he
    rw [if_pos rfl]
    exact ⟨⟨h2.inv h.inv, h2.cur h.inv⟩, Mem.minorE_len h1, h2.shapes.1⟩
  · rw [if_neg he, h2.err he]; exact Ok.refl h
theorem flip_of (h : PInv p Y H) : ∃ p' e, p.flipA = some (p', e) ∧ Ok p Y H p' := by
  obtain ⟨m', out, e, h1, h2⟩ := h.inv.flipE p.roots
  refine ⟨⟨m', if e = 0 then out else p.roots⟩, e, by unfold flipA; rw [h1]; rfl, ?_⟩
  by_cases he : e = 0
  · subst he
    rw [if_pos rfl]
    exact ⟨⟨h2.inv h.inv, h2.cur h.inv⟩, Mem.flipE_len h1, h2.shapes⟩
  · rw [if_neg he, h2.err' he]; exact Ok.refl h
theorem look_of (h : PInv p Y H) (n : Int) : ∃ p' e, p.lookE n = some (p', e) ∧ Ok p Y H p' := by
  obtain ⟨m', v, e, h1, h2, h3⟩ := h.inv.stepE n
  exact ⟨⟨m', p.roots⟩, e, by unfold lookE; rw [h1]; rfl, ⟨h2, fun r hr => (h.cur r hr).imp id fun q => h.inv.stepE_cur h1 q⟩, rfl, h3⟩
theorem get_of (h : PInv p Y H) (i j : Nat) (f : Int) : ∃ p' e, p.getA i j f = some (p', e) ∧ Ok p Y H p' := by
  obtain ⟨e0, h0, h0'⟩ := refers_of h j f true
  unfold getA
  rw [h0]
  simp only
  by_cases he : e0 = 0
  · subst he
    rw [if_neg (by simp)]
    obtain ⟨m', v, e, h1, h2, h3⟩ := h.inv.getE (p.root j) f
    obtain ⟨g1, g2⟩ := h.inv.getE_cur h1
    obtain ⟨wh, hw⟩ := h0' rfl
    rw [h1]
    refine ⟨_, _, rfl, ?_⟩
    have hq : PInv ⟨m', p.roots⟩ Y H := ⟨h2, fun r hr => (h.cur r hr).imp id (g1 r)⟩
    by_cases e0 : e = 0
    · simp only [e0, if_true]
      exact ⟨put_inv hq i (g2 wh hw), by simp [put], h3⟩
    · simp only [if_neg e0]
      exact ⟨hq, rfl, h3⟩
  · rw [if_pos he]; exact ⟨_, _, rfl, Ok.refl h⟩
theorem set_of (h : PInv p Y H) (i : Nat) (want : Bool) (v f : Int) : ∃ p' e, p.setA i want v f = some (p', e) ∧ Ok p Y H p' := by
  obtain ⟨e0, h0, _⟩ := refers_of h i f want
  unfold setA
  rw [h0]
  simp only
  by_cases he : e0 = 0
  · subst he
    rw [if_neg (by simp)]
    obtain ⟨m', e, h1, h2, h3, h4⟩ := h.inv.setE (p.root i) f v
    rw [h1]
    exact ⟨_, _, rfl, ⟨h2, fun r hr => (h.cur r hr).imp id (h4 r)⟩, rfl, h3⟩
  · rw [if_pos he]; exact ⟨_, _, rfl, Ok.refl h⟩
theorem made_ok (h : PInv p Y H) (i : Nat) (s : Int) : Ok p Y H (p.made i s).1 := by
  obtain ⟨h1, h2, h3, h4⟩ := h.inv.allocE s
  have hq : PInv ⟨(p.mem.allocE s).1, p.roots⟩ Y H := ⟨h1, fun r hr => (h.cur r hr).imp id (h4 r)⟩
  unfold made
  by_cases e : (p.mem.allocE s).2.2 = 0
  · simp only [if_pos e]
    exact ⟨put_inv hq i (.inr (.inl (h3 e))), by simp [put], h2⟩
  · simp only [if_neg e]
    exact ⟨hq, rfl, h2⟩
theorem fresh_of (h : PInv p Y H) (i : Nat) (s : Int) : ∃ p' e, p.freshE i s = some (p', e) ∧ Ok p Y H p' := by
  unfold freshE
  cases hs : p.mem.shapeAt s with
  | none => exact ⟨_, _, rfl, Ok.refl h⟩
  | some l =>
    simp only
    by_cases hq : p.mem.young.room < ((l.length + 1 : Nat) : Int) ∧ ((l.length + 1 : Nat) : Int) ≤ (p.mem.young.words.length : Int)
    · rw [if_pos hq]
      obtain ⟨p1, e, h1, h2⟩ := clear_of h
      rw [h1]
      simp only
      by_cases he : e = 0
      · rw [if_neg (by simpa using he)]; exact ⟨_, _, rfl, h2.trans (made_ok h2.inv i s)⟩
      · rw [if_pos he]; exact ⟨_, _, rfl, h2⟩
    · rw [if_neg hq]
      simp only [ne_eq, not_true_eq_false, if_false]
      exact ⟨_, _, rfl, made_ok h i s⟩

def rA (k : Nat) : Bool := decide (k ≤ 6)
def rB (k : Nat) : Bool := k == 2 || k == 3 || k == 6
def inB (p : Pl) (x : Int) : Prop := 0 ≤ x ∧ x < (p.roots.length : Int)
instance (p : Pl) (x : Int) : Decidable (p.inB x) := by unfold inB; infer_instance
/-- What an act in its bounds does. -/
def doE (p : Pl) (k : Nat) (a b c : Int) : Option (Pl × Int) :=
  match k with
  | 1 => p.freshE a.toNat b
  | 2 => p.getA a.toNat b.toNat c
  | 3 => p.setA a.toNat true (p.root b.toNat) c
  | 4 => p.setA a.toNat false b c
  | 5 => some (p.put a.toNat 0, 0)
  | 6 => some (p.put a.toNat (p.root b.toNat), 0)
  | 7 => p.clearE
  | 8 => p.flipA
  | _ => p.lookE a
def actE (p : Pl) (k a b c : Int) : Option (Pl × Int) :=
  if k < 1 ∨ 9 < k then some (p, 1)
  else if (rA k.toNat = true → p.inB a) ∧ (rB k.toNat = true → p.inB b) then p.doE k.toNat a b c
  else some (p, 1)
theorem do_of (h : PInv p Y H) (k : Nat) (a b c : Int) : ∃ p' e, p.doE k a b c = some (p', e) ∧ Ok p Y H p' := by
  unfold doE
  split
  · exact fresh_of h _ _
  · exact get_of h _ _ _
  · exact set_of h _ _ _ _
  · exact set_of h _ _ _ _
  · exact ⟨_, _, rfl, put_ok h _ (.inl rfl)⟩
  · exact ⟨_, _, rfl, put_ok h _ (root_cur h _)⟩
  · exact clear_of h
  · exact flip_of h
  · exact look_of h _
theorem act_of (h : PInv p Y H) (k a b c : Int) : ∃ p' e, p.actE k a b c = some (p', e) ∧ Ok p Y H p' := by
  unfold actE
  split
  · exact ⟨_, _, rfl, Ok.refl h⟩
  · split
    · exact do_of h _ _ _ _
    · exact ⟨_, _, rfl, Ok.refl h⟩

/-- Acts, one behind the other. -/
def runE : Pl → List (Int × Int × Int × Int) → Option (Pl × List Int)
  | p, [] => some (p, [])
  | p, x :: xs =>
    match p.actE x.1 x.2.1 x.2.2.1 x.2.2.2 with
    | none => none
    | some (p1, e) => (runE p1 xs).map fun r => (r.1, e :: r.2)
theorem runE_snoc : ∀ (xs : List (Int × Int × Int × Int)) {p p1 : Pl} {es : List Int} (x : Int × Int × Int × Int) {p2 : Pl} {e : Int}, p.runE xs = some (p1, es) → p1.actE x.1 x.2.1 x.2.2.1 x.2.2.2 = some (p2, e) → p.runE (xs ++ [x]) = some (p2, es ++ [e])
  | [], p, p1, es, x, p2, e, h, h' => by
    simp only [runE, Option.some.injEq, Prod.mk.injEq] at h
    obtain ⟨rfl, rfl⟩ := h
    simp [runE, h']
  | y :: ys, p, p1, es, x, p2, e, h, h' => by
    simp only [runE] at h
    cases ha : p.actE y.1 y.2.1 y.2.2.1 y.2.2.2 with
    | none => rw [ha] at h; cases h
    | some r =>
      obtain ⟨q, e1⟩ := r
      rw [ha] at h
      simp only [Option.map_eq_some_iff, Prod.mk.injEq, Prod.exists] at h
      obtain ⟨q2, es2, h2, rfl, rfl⟩ := h
      simp only [List.cons_append, runE, ha]
      rw [runE_snoc ys x h2 h']
      rfl
theorem run_of : ∀ (xs : List (Int × Int × Int × Int)) {p : Pl}, PInv p Y H → ∃ p' es, p.runE xs = some (p', es) ∧ Ok p Y H p' ∧ es.length = xs.length
  | [], p, h => ⟨p, [], rfl, Ok.refl h, rfl⟩
  | x :: xs, p, h => by
    obtain ⟨p1, e, h1, h2⟩ := act_of h x.1 x.2.1 x.2.2.1 x.2.2.2
    obtain ⟨p2, es, g1, g2, g3⟩ := run_of xs h2.inv
    exact ⟨p2, e :: es, by simp only [runE, h1, g1, Option.map_some], h2.trans g2, by simp [g3]⟩
end Pl
end Go.Proofs.Hp
