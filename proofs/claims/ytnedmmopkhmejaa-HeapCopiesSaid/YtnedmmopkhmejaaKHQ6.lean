/- Plain: players that are alike stay alike, whatever is moved. -/
import Derived.Test.YtnedmmopkhmejaaKHA7
import Derived.Test.YtnedmmopkhmejaaKHPure
set_option linter.unusedVariables false
set_option linter.unusedSimpArgs false
namespace Go.Proofs.Hp
namespace Pl
open Mem
variable {p q p' q' s : Pl} {Y H Y' H' Y1 H1 : Nat}

/-- Two players that are alike. -/
structure Like (p q : Pl) (Y H Y' H' : Nat) : Prop where
  l : PInv p Y H
  r : PInv q Y' H'
  sh : q.mem.shapes = p.mem.shapes
  al : Mem.Alike p.mem p.roots q.mem q.roots
  rl : p.roots.length ≤ 200
theorem Like.len (h : Like p q Y H Y' H') : p.roots.length = q.roots.length := by obtain ⟨R, _, hL⟩ := h.al; exact hL.length
theorem Like.refl (h : PInv p Y H) (hl : p.roots.length ≤ 200) : Like p p Y H Y H := ⟨h, h, rfl, Mem.Alike.refl h.inv h.cur, hl⟩
theorem Like.symm (h : Like p q Y H Y' H') : Like q p Y' H' Y H := ⟨h.r, h.l, h.sh.symm, h.al.symm, by rw [← h.len]; exact h.rl⟩
theorem Like.trans (h : Like p q Y H Y1 H1) (k : Like q s Y1 H1 Y' H') : Like p s Y H Y' H' := ⟨h.l, k.r, k.sh.trans h.sh, h.al.trans h.r.inv k.al, h.rl⟩
theorem Like.rootL (h : Like p q Y H Y' H') : p.mem.rooted p.roots = 0 := rooted_of h.rl h.l.cur
theorem Like.pic (h : Like p q Y H Y' H') : ∃ pc, p.mem.picE p.roots = some (pc, 0) ∧ q.mem.picE q.roots = some (pc, 0) := by
  obtain ⟨R, hB, hL⟩ := h.al
  exact hB.picE h.l.inv h.r.inv hL h.rootL h.symm.rootL

theorem clear_like (h : PInv p Y H) (hl : p.roots.length ≤ 200) {e : Int} (hc : p.clearE = some (p', e)) : Like p p' Y H Y H := by
  obtain ⟨p1, e1, g1, g2⟩ := clear_of h
  rw [hc] at g1; cases g1
  obtain ⟨m', out, e0, h1, h2⟩ := h.inv.minorE p.roots
  unfold clearE at hc
  rw [h1] at hc
  simp only [Option.map_some, kept, Option.some.injEq, Prod.mk.injEq] at hc
  obtain ⟨rfl, rfl⟩ := hc
  refine ⟨h, g2.inv, g2.shapes, ?_, hl⟩
  by_cases he : e0 = 0
  · subst he
    simp only [if_pos]
    exact h2.alike h.inv
  · simp only [if_neg he, h2.err he]
    exact Mem.Alike.refl h.inv h.cur
theorem flip_like (h : PInv p Y H) (hl : p.roots.length ≤ 200) {e : Int} (hc : p.flipA = some (p', e)) : Like p p' Y H Y H := by
  obtain ⟨p1, e1, g1, g2⟩ := flip_of h
  rw [hc] at g1; cases g1
  obtain ⟨m', out, e0, h1, h2⟩ := h.inv.flipE p.roots
  unfold flipA at hc
  rw [h1] at hc
  simp only [Option.map_some, kept, Option.some.injEq, Prod.mk.injEq] at hc
  obtain ⟨rfl, rfl⟩ := hc
  refine ⟨h, g2.inv, g2.shapes, ?_, hl⟩
  by_cases he : e0 = 0
  · subst he
    simp only [if_pos]
    exact h2.alike h.inv
  · simp only [if_neg he, h2.err' he]
    exact Mem.Alike.refl h.inv h.cur
theorem look_like (h : PInv p Y H) (hl : p.roots.length ≤ 200) {n e : Int} (hc : p.lookE n = some (p', e)) : Like p p' Y H Y H := by
  obtain ⟨p1, e1, g1, g2⟩ := look_of h n
  rw [hc] at g1; cases g1
  obtain ⟨m', v, e0, h1, h2, h3⟩ := h.inv.stepE n
  unfold lookE at hc
  rw [h1] at hc
  simp only [Option.map_some, Option.some.injEq, Prod.mk.injEq] at hc
  obtain ⟨rfl, rfl⟩ := hc
  exact ⟨h, g2.inv, g2.shapes, h.inv.step_alike h1 h.cur, hl⟩

theorem Like.put {R : Int → Int → Prop} (hp : PInv p Y H) (hq : PInv q Y' H') (hsh : q.mem.shapes = p.mem.shapes) (hrl : p.roots.length ≤ 200) (hB : Bis p.mem q.mem R) (hL : LR (RRel p.mem q.mem R) p.roots q.roots) (i : Nat) {v v' : Int} (hv : RRel p.mem q.mem R v v') (h1 : v = 0 ∨ p.mem.isCur v) (h2 : v' = 0 ∨ q.mem.isCur v') :
    Like (p.put i v) (q.put i v') Y H Y' H' :=
  ⟨put_inv hp i h1, put_inv hq i h2, hsh, ⟨R, hB, hL.set i hv⟩, by simpa [Pl.put] using hrl⟩

theorem refers_err {i : Nat} {f e : Int} {want : Bool} (hf : p.mem.fieldE (p.root i) f = some (.inl e)) : p.refersE i f want = some e := by
  unfold refersE; rw [hf]
theorem refers_ok {i : Nat} {f : Int} {want r : Bool} {wh : Wh} (hf : p.mem.fieldE (p.root i) f = some (.inr (wh, r))) : p.refersE i f want = some (if r = want then 0 else 1) := by
  unfold refersE; rw [hf]
  simp only
  split <;> rfl

theorem get_like (h : Like p q Y H Y' H') (i j : Nat) (f : Int) {e e' : Int} (h1 : p.getA i j f = some (p', e)) (h2 : q.getA i j f = some (q', e')) : Like p' q' Y H Y' H' ∧ e = e' := by
  obtain ⟨R, hB, hL⟩ := h.al
  have hxy : RRel p.mem q.mem R (p.root j) (q.root j) := hL.getD (.inl ⟨rfl, rfl⟩) j
  obtain ⟨k1, g1, g2⟩ := get_of h.l i j f
  rw [h1] at g2
  obtain ⟨k2, g3, g4⟩ := get_of h.r i j f
  rw [h2] at g4
  have hk1 := g2.1
  have hk2 := g4.1
  cases hk1; cases hk2
  unfold getA at h1 h2
  rcases field_pair h.l.inv h.r.inv hB hxy (root_cur h.l j) (root_cur h.r j) f with ⟨er, he, f1, f2⟩ | ⟨wh, wh', l, n, r, hn, f1, f2, w1, w2, o1, o2, hl, hR⟩
  · rw [refers_err f1] at h1
    rw [refers_err f2] at h2
    have h0 : er ≠ 0 := by omega
    simp only [if_pos h0, Option.some.injEq, Prod.mk.injEq] at h1 h2
    obtain ⟨rfl, rfl⟩ := h1
    obtain ⟨rfl, rfl⟩ := h2
    exact ⟨h, rfl⟩
  · rw [refers_ok f1] at h1
    rw [refers_ok f2] at h2
    cases r with
    | false =>
      simp only [Bool.false_eq_true, if_false, ne_eq, Int.one_ne_zero, not_false_eq_true, if_true, Option.some.injEq, Prod.mk.injEq] at h1 h2
      obtain ⟨rfl, rfl⟩ := h1
      obtain ⟨rfl, rfl⟩ := h2
      exact ⟨h, rfl⟩
    | true =>
      simp only [if_true, ne_eq, not_true_eq_false, if_false, Option.map_eq_some_iff, Prod.mk.injEq, Prod.exists] at h1 h2
      obtain ⟨m1, v, ev, a1, rfl, rfl⟩ := h1
      obtain ⟨m2, v', ev', b1, rfl, rfl⟩ := h2
      obtain ⟨rfl, S, hS, hv⟩ := h.l.inv.getE_ok f1 hn w1 o1 hl a1
      obtain ⟨rfl, S', hS', hv'⟩ := h.r.inv.getE_ok f2 hn w2 o2 hl b1
      obtain ⟨c1, c2⟩ := h.l.inv.getE_cur a1
      obtain ⟨c1', c2'⟩ := h.r.inv.getE_cur b1
      obtain ⟨m1x, vx, ex, a1', hI1, hs1⟩ := h.l.inv.getE (p.root j) f
      rw [a1] at a1'; cases a1'
      obtain ⟨m2x, vx', ex', b1', hI2, hs2⟩ := h.r.inv.getE (q.root j) f
      rw [b1] at b1'; cases b1'
      refine ⟨?_, rfl⟩
      simp only [if_true] at g2 g4 ⊢
      have hq1 : PInv ⟨m1, p.roots⟩ Y H := ⟨hI1, fun r hr => (h.l.cur r hr).imp id (c1 r)⟩
      have hq2 : PInv ⟨m2, q.roots⟩ Y' H' := ⟨hI2, fun r hr => (h.r.cur r hr).imp id (c1' r)⟩
      have hfr : RRel p.mem q.mem R (p.mem.fld wh (p.root j) n) (q.mem.fld wh' (q.root j) n) := by
        obtain ⟨wa, wb, la, n1, n2, ea, ef⟩ := hB.ob _ _ hR
        obtain ⟨rfl, rfl⟩ := ob_fn h.l.inv n1.1 o1
        obtain ⟨rfl, _⟩ := ob_fn h.r.inv n2.1 o2
        exact (ef n true hl).2 rfl
      have hBB : Bis m1 m2 _ := (hS.bis.symm.comp h.l.inv hB).comp h.r.inv hS'.bis
      refine Like.put hq1 hq2 (hs2.trans (h.sh.trans hs1.symm)) h.rl hBB (LR.of_get hL.length fun i a b k1 k2 => ?_) i ?_ (c2 wh f1) (c2' wh' f2)
      · have ha := hS.word a ((h.l.cur a (List.mem_of_getElem? k1)).imp id .inl)
        have hb := hS'.word b ((h.r.cur b (List.mem_of_getElem? k2)).imp id .inl)
        exact (ha.symm.comp (m1 := p.mem) (hL.get' i k1 k2)).comp (m1 := q.mem) hb
      · exact (hv.symm.comp (m1 := p.mem) hfr).comp (m1 := q.mem) hv'

theorem set_like (h : Like p q Y H Y' H') (i : Nat) (want : Bool) {v v' f e e' : Int} (hv : want = true → ∀ R, LR (RRel p.mem q.mem R) p.roots q.roots → RRel p.mem q.mem R v v') (hv0 : want = false → v = v')
    (hc : want = true → (v = 0 ∨ p.mem.isCur v) ∧ (v' = 0 ∨ q.mem.isCur v')) (h1 : p.setA i want v f = some (p', e)) (h2 : q.setA i want v' f = some (q', e')) : Like p' q' Y H Y' H' ∧ e = e' := by
  obtain ⟨R, hB, hL⟩ := h.al
  have hxy : RRel p.mem q.mem R (p.root i) (q.root i) := hL.getD (.inl ⟨rfl, rfl⟩) i
  obtain ⟨k1, g1, g2⟩ := set_of h.l i want v f
  rw [h1] at g2
  obtain ⟨k2, g3, g4⟩ := set_of h.r i want v' f
  rw [h2] at g4
  obtain ⟨hk1, ok1⟩ := g2
  obtain ⟨hk2, ok2⟩ := g4
  cases hk1; cases hk2
  unfold setA at h1 h2
  rcases field_pair h.l.inv h.r.inv hB hxy (root_cur h.l i) (root_cur h.r i) f with ⟨er, he, f1, f2⟩ | ⟨wh, wh', l, n, r, hn, f1, f2, w1, w2, o1, o2, hl, hR⟩
  · rw [refers_err f1] at h1
    rw [refers_err f2] at h2
    have h0 : er ≠ 0 := by omega
    simp only [if_pos h0, Option.some.injEq, Prod.mk.injEq] at h1 h2
    obtain ⟨rfl, rfl⟩ := h1
    obtain ⟨rfl, rfl⟩ := h2
    exact ⟨h, rfl⟩
  · rw [refers_ok f1] at h1
    rw [refers_ok f2] at h2
    by_cases hw : r = want
    · subst hw
      simp only [if_true, ne_eq, not_true_eq_false, if_false, Option.map_eq_some_iff, Prod.mk.injEq, Prod.exists] at h1 h2
      obtain ⟨m1, ev, a1, rfl, rfl⟩ := h1
      obtain ⟨m2, ev', b1, rfl, rfl⟩ := h2
      obtain ⟨rfl, s1, sd1, sm1⟩ := setE_ok f1 hn a1 fun z => (hc z).1
      obtain ⟨rfl, s2, sd2, sm2⟩ := setE_ok f2 hn b1 fun z => (hc z).2
      obtain ⟨hB2, hR2⟩ := hB.set h.l.inv h.r.inv o1 o2 hl hR sd1 sd2 hv0 (fun z => hv z R hL)
      refine ⟨⟨ok1.inv, ok2.inv, ok2.shapes.trans (h.sh.trans ok1.shapes.symm), ⟨R, sm2.right (sm1.left hB2), LR.mono' hL fun a b z => ?_⟩, h.rl⟩, rfl⟩
      exact sm2.rrel' (sm1.rrel (hR2 a b z))
    · simp only [if_neg hw, ne_eq, Int.one_ne_zero, not_false_eq_true, if_true, Option.some.injEq, Prod.mk.injEq] at h1 h2
      obtain ⟨rfl, rfl⟩ := h1
      obtain ⟨rfl, rfl⟩ := h2
      exact ⟨h, rfl⟩

theorem minor_err (h : PInv p Y H) (hl : p.roots.length ≤ 200) {e : Int} (hc : p.clearE = some (p', e)) : e = 0 ∨ e = 14 := by
  obtain ⟨m', out, e0, h1, h2⟩ := h.inv.minorE p.roots
  unfold clearE at hc
  rw [h1] at hc
  simp only [Option.map_some, kept, Option.some.injEq, Prod.mk.injEq] at hc
  obtain ⟨_, rfl⟩ := hc
  cases h2 with
  | rooted _ r1 r2 =>
    rw [rooted_of hl h.cur] at r1
    exact absurd r1.symm r2
  | full => exact .inr rfl
  | ok => exact .inl rfl

/-- An object is made, behind Minor perhaps. -/
theorem fresh_parts (h : PInv p Y H) (hl : p.roots.length ≤ 200) {i : Nat} {s e : Int} {l : List Bool} (hs : p.mem.shapeAt s = some l) (he : e ≠ 14) (h1 : p.freshE i s = some (p', e)) :
    ∃ p1, Like p p1 Y H Y H ∧ (p1.mem.allocE s).2.2 = 0 ∧ e = 0 ∧ p' = (⟨(p1.mem.allocE s).1, p1.roots⟩ : Pl).put i (p1.mem.allocE s).2.1 := by
  have key : ∀ p1, Like p p1 Y H Y H → p1.made i s = (p', e) → ∃ p1, Like p p1 Y H Y H ∧ (p1.mem.allocE s).2.2 = 0 ∧ e = 0 ∧ p' = (⟨(p1.mem.allocE s).1, p1.roots⟩ : Pl).put i (p1.mem.allocE s).2.1 := by
    intro p1 hp1 hm
    unfold made at hm
    simp only [Prod.mk.injEq] at hm
    obtain ⟨m1, m2⟩ := hm
    have h0 : (p1.mem.allocE s).2.2 = 0 ∨ (p1.mem.allocE s).2.2 = 14 := by
      unfold Mem.allocE
      have : p1.mem.shapeAt s = some l := by unfold shapeAt at hs ⊢; rw [hp1.sh]; exact hs
      rw [this]
      simp only
      split
      · exact .inr rfl
      · exact .inl rfl
    rcases h0 with h0 | h0
    · rw [if_pos h0] at m1
      exact ⟨p1, hp1, h0, m2.symm.trans h0, m1.symm⟩
    · exact absurd (m2.symm.trans h0) he
  unfold freshE at h1
  rw [hs] at h1
  simp only at h1
  by_cases hq : p.mem.young.room < ((l.length + 1 : Nat) : Int) ∧ ((l.length + 1 : Nat) : Int) ≤ (p.mem.young.words.length : Int)
  · rw [if_pos hq] at h1
    obtain ⟨p1, e1, k1, k2⟩ := clear_of h
    rw [k1] at h1
    simp only at h1
    have hlk := clear_like h hl k1
    by_cases he1 : e1 = 0
    · rw [if_neg (by simpa using he1)] at h1
      exact key p1 hlk (Option.some.inj h1)
    · rw [if_pos he1] at h1
      cases h1
      rcases minor_err h hl k1 with z | z
      · exact absurd z he1
      · exact absurd z he
  · rw [if_neg hq] at h1
    simp only [ne_eq, not_true_eq_false, if_false, Option.some.injEq] at h1
    exact key p (Like.refl h hl) h1
theorem fresh_like (h : Like p q Y H Y' H') (i : Nat) (s : Int) {e e' : Int} (he : e ≠ 14) (he' : e' ≠ 14) (h1 : p.freshE i s = some (p', e)) (h2 : q.freshE i s = some (q', e')) : Like p' q' Y H Y' H' ∧ e = e' := by
  cases hs : p.mem.shapeAt s with
  | none =>
    have hs' : q.mem.shapeAt s = none := by unfold shapeAt at hs ⊢; rw [h.sh]; exact hs
    unfold freshE at h1 h2
    rw [hs] at h1
    rw [hs'] at h2
    cases h1; cases h2
    exact ⟨h, rfl⟩
  | some l =>
    have hs' : q.mem.shapeAt s = some l := by unfold shapeAt at hs ⊢; rw [h.sh]; exact hs
    obtain ⟨p1, a1, a2, rfl, rfl⟩ := fresh_parts h.l h.rl hs he h1
    obtain ⟨q1, b1, b2, rfl, rfl⟩ := fresh_parts h.r h.symm.rl hs' he' h2
    have hpq : Like p1 q1 Y H Y' H' := a1.symm.trans (h.trans b1)
    refine ⟨?_, rfl⟩
    obtain ⟨i1, i2, i3, i4⟩ := a1.r.inv.allocE s
    obtain ⟨j1, j2, j3, j4⟩ := b1.r.inv.allocE s
    obtain ⟨t1, l1, k1⟩ := a1.r.inv.made (s := s) (n := (p1.mem.allocE s).1) (t := (p1.mem.allocE s).2.1) (e := (p1.mem.allocE s).2.2) rfl a2
    obtain ⟨t2, l2, k2⟩ := b1.r.inv.made (s := s) (n := (q1.mem.allocE s).1) (t := (q1.mem.allocE s).2.1) (e := (q1.mem.allocE s).2.2) rfl b2
    have hp1 : PInv ⟨(p1.mem.allocE s).1, p1.roots⟩ Y H := ⟨i1, fun r hr => (a1.r.cur r hr).imp id (i4 r)⟩
    have hq1 : PInv ⟨(q1.mem.allocE s).1, q1.roots⟩ Y' H' := ⟨j1, fun r hr => (b1.r.cur r hr).imp id (j4 r)⟩
    obtain ⟨R, hB, hL⟩ := hpq.al
    have c1 := i3 a2
    have c2 := j3 b2
    rw [t1] at c1
    rw [t2] at c2
    have z1 := pos_of_begins i1.geo (wh := .y) c1
    have z2 := pos_of_begins j1.geo (wh := .y) c2
    obtain ⟨R', hB', hR', hT⟩ := hB.made hpq.sh k1 k2 (by omega) (by omega) (i1.seen_cur (.inl c1)) (j1.seen_cur (.inl c2))
    rw [t1, t2]
    exact Like.put hp1 hq1 (j2.trans (hpq.sh.trans i2.symm)) hpq.rl hB' (LR.mono' hL fun a b z => hR' a b z) i hT (.inr (.inl c1)) (.inr (.inl c2))

/-- An act that moves nothing. -/
def still (k : Int) : Bool := k != 7 && (k != 8 && k != 9)
theorem act_like (h : Like p q Y H Y' H') {k a b c e e' : Int} (hk : still k = true) (he : e ≠ 14) (he' : e' ≠ 14) (h1 : p.actE k a b c = some (p', e)) (h2 : q.actE k a b c = some (q', e')) : Like p' q' Y H Y' H' ∧ e = e' := by
  unfold actE at h1 h2
  by_cases hb : k < 1 ∨ 9 < k
  · rw [if_pos hb] at h1 h2
    cases h1; cases h2; exact ⟨h, rfl⟩
  · rw [if_neg hb] at h1 h2
    have hin : ∀ x, q.inB x ↔ p.inB x := fun x => by unfold inB; rw [h.len]
    simp only [hin] at h2
    by_cases hc : (rA k.toNat = true → p.inB a) ∧ (rB k.toNat = true → p.inB b)
    · rw [if_pos hc] at h1 h2
      obtain ⟨R, hB, hL⟩ := h.al
      have hk6 : 1 ≤ k.toNat ∧ k.toNat ≤ 6 := by
        simp only [still, Bool.and_eq_true, bne_iff_ne, ne_eq] at hk
        omega
      obtain ⟨j, hj⟩ : ∃ j, j = k.toNat := ⟨_, rfl⟩
      rw [← hj] at h1 h2 hk6
      unfold doE at h1 h2
      have : j = 1 ∨ j = 2 ∨ j = 3 ∨ j = 4 ∨ j = 5 ∨ j = 6 := by omega
      rcases this with rfl | rfl | rfl | rfl | rfl | rfl
      · exact fresh_like h _ _ he he' h1 h2
      · exact get_like h _ _ _ h1 h2
      · exact set_like h _ true (fun _ R hL => hL.getD (.inl ⟨rfl, rfl⟩) _) (fun z => by cases z) (fun _ => ⟨root_cur h.l _, root_cur h.r _⟩) h1 h2
      · exact set_like h _ false (fun z => by cases z) (fun _ => rfl) (fun z => by cases z) h1 h2
      · simp only [Option.some.injEq, Prod.mk.injEq] at h1 h2
        obtain ⟨rfl, rfl⟩ := h1
        obtain ⟨rfl, rfl⟩ := h2
        exact ⟨Like.put h.l h.r h.sh h.rl hB hL _ (.inl ⟨rfl, rfl⟩) (.inl rfl) (.inl rfl), rfl⟩
      · simp only [Option.some.injEq, Prod.mk.injEq] at h1 h2
        obtain ⟨rfl, rfl⟩ := h1
        obtain ⟨rfl, rfl⟩ := h2
        exact ⟨Like.put h.l h.r h.sh h.rl hB hL _ (hL.getD (.inl ⟨rfl, rfl⟩) _) (root_cur h.l _) (root_cur h.r _), rfl⟩
    · rw [if_neg hc] at h1 h2
      cases h1; cases h2; exact ⟨h, rfl⟩
/-- An act that moves. -/
theorem move_like (h : PInv p Y H) (hl : p.roots.length ≤ 200) {k a b c e : Int} (hk : still k = false) (h1 : p.actE k a b c = some (p', e)) : Like p p' Y H Y H := by
  unfold actE at h1
  have hk3 : k = 7 ∨ k = 8 ∨ k = 9 := by
    simp only [still, Bool.and_eq_false_iff, bne_eq_false_iff_eq] at hk
    omega
  rw [if_neg (by omega)] at h1
  by_cases hc : (rA k.toNat = true → p.inB a) ∧ (rB k.toNat = true → p.inB b)
  · rw [if_pos hc] at h1
    rcases hk3 with rfl | rfl | rfl
    · exact clear_like h hl h1
    · exact flip_like h hl h1
    · exact look_like h hl h1
  · rw [if_neg hc] at h1
    cases h1; exact Like.refl h hl

theorem runE_cons {x : Int × Int × Int × Int} {xs : List (Int × Int × Int × Int)} {es : List Int} (h : p.runE (x :: xs) = some (p', es)) : ∃ p1 e es1, p.actE x.1 x.2.1 x.2.2.1 x.2.2.2 = some (p1, e) ∧ p1.runE xs = some (p', es1) ∧ es = e :: es1 := by
  unfold runE at h
  cases hq : p.actE x.1 x.2.1 x.2.2.1 x.2.2.2 with
  | none => rw [hq] at h; cases h
  | some r =>
    obtain ⟨p1, e⟩ := r
    rw [hq] at h
    simp only [Option.map_eq_some_iff, Prod.mk.injEq, Prod.exists] at h
    obtain ⟨p2, es1, h1, rfl, rfl⟩ := h
    exact ⟨p1, e, es1, rfl, h1, rfl⟩

/-- With the acts that move left out. -/
theorem run_plain : ∀ (xs : List (Int × Int × Int × Int)) {p q p' q' : Pl} {es es' : List Int}, Like p q Y H Y' H' → p.runE xs = some (p', es) → q.runE (xs.filter fun x => still x.1) = some (q', es') → (14 : Int) ∉ es → (14 : Int) ∉ es' → Like p' q' Y H Y' H'
  | [], p, q, p', q', es, es', h, h1, h2, _, _ => by
    cases h1; cases h2; exact h
  | x :: xs, p, q, p', q', es, es', h, h1, h2, n1, n2 => by
    obtain ⟨p1, e, es1, a1, a2, rfl⟩ := runE_cons h1
    cases hk : still x.1 with
    | true =>
      rw [List.filter_cons_of_pos (by simpa using hk)] at h2
      obtain ⟨q1, e', es1', b1, b2, rfl⟩ := runE_cons h2
      simp only [List.mem_cons, not_or] at n1 n2
      obtain ⟨g, _⟩ := act_like h hk (fun z => n1.1 z.symm) (fun z => n2.1 z.symm) a1 b1
      exact run_plain xs g a2 b2 n1.2 n2.2
    | false =>
      rw [List.filter_cons_of_neg (by simp [hk])] at h2
      simp only [List.mem_cons, not_or] at n1
      exact run_plain xs ((move_like h.l h.rl hk a1).symm.trans h) a2 h2 n1.2 n2
/-- With a step behind each act. -/
theorem run_slow : ∀ (xs : List (Int × Int × Int × Int)) {p q p' q' : Pl} {es es' : List Int}, Like p q Y H Y' H' → p.runE xs = some (p', es) → q.runE (xs.flatMap fun x => [x, (9, 1, 0, 0)]) = some (q', es') → (14 : Int) ∉ es → (14 : Int) ∉ es' → Like p' q' Y H Y' H'
  | [], p, q, p', q', es, es', h, h1, h2, _, _ => by
    cases h1; cases h2; exact h
  | x :: xs, p, q, p', q', es, es', h, h1, h2, n1, n2 => by
    obtain ⟨p1, e, es1, a1, a2, rfl⟩ := runE_cons h1
    rw [List.flatMap_cons] at h2
    obtain ⟨q1, e', es1', b1, b2, rfl⟩ := runE_cons h2
    obtain ⟨q2, e2, es2, c1, c2, rfl⟩ := runE_cons b2
    simp only [List.mem_cons, not_or] at n1 n2
    have g : Like p1 q1 Y H Y' H' := by
      cases hk : still x.1 with
      | true => exact (act_like h hk (fun z => n1.1 z.symm) (fun z => n2.1 z.symm) a1 b1).1
      | false => exact (move_like h.l h.rl hk a1).symm.trans (h.trans (move_like h.r h.symm.rl hk b1))
    exact run_slow xs (g.trans (move_like g.r g.symm.rl rfl c1)) a2 c2 n1.2 n2.2.2
end Pl
end Go.Proofs.Hp
