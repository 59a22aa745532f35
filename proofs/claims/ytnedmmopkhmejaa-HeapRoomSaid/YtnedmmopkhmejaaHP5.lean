/- Plain: Step, Get, Set, Alloc keep the invariant. -/
import Derived.Test.YtnedmmopkhmejaaHP4
namespace Go.Proofs.Hp
namespace Mem
variable {m m' : Mem} {Y H : Nat} {y : Bool}

/-- One word is looked through. -/
def stepOne (m : Mem) : Option Mem :=
  if m.now.ok m.scan then
    match objAt m.now.starts (m.now.idx m.scan) with
    | none => none
    | some o =>
      match (if m.now.idx m.scan = o then some m else
        match m.shapeAt (m.now.words.getD o 0) with
        | none => none
        | some l => match l[m.now.idx m.scan - o - 1]? with
          | none => none
          | some true => m.fwdIn false .n m.scan
          | some false => some m) with
      | none => none
      | some m1 => some { m1 with scan := m1.scan + 1 }
  else none
theorem stepLoop_succ (k : Nat) (m : Mem) : stepLoop (k + 1) m = if m.scan = m.now.top then some m else (stepOne m).bind (stepLoop k) := by
  show (if m.scan = m.now.top then some m else _) = _
  by_cases e : m.scan = m.now.top
  · rw [if_pos e, if_pos e]
  · rw [if_neg e, if_neg e]
    unfold stepOne
    by_cases h1 : m.now.ok m.scan = true
    · rw [if_pos h1, if_pos h1]
      cases objAt m.now.starts (m.now.idx m.scan) with
      | none => rfl
      | some o =>
        simp only
        by_cases h2 : m.now.idx m.scan = o
        · rw [if_pos h2, if_pos h2]; rfl
        · rw [if_neg h2, if_neg h2]
          cases m.shapeAt (m.now.words.getD o 0) with
          | none => rfl
          | some l =>
            simp only
            cases hl : l[m.now.idx m.scan - o - 1]? with
            | none => rfl
            | some b =>
              cases b with
              | false => rfl
              | true => simp only; cases m.fwdIn false .n m.scan <;> rfl
    · rw [if_neg h1, if_neg h1]; rfl

/-- What one step does. -/
inductive Step1 (m : Mem) : Mem → Prop
  | plain : (∀ a i, m.rf .n a i → a + 1 + (i : Int) ≠ m.scan) → Step1 m { m with scan := m.scan + 1 }
  | refers (a : Int) (i : Nat) (m1 : Mem) : m.rf .n a i → a + 1 + (i : Int) = m.scan → m.fwdIn false .n (a + 1 + (i : Int)) = some m1 → Step1 m { m1 with scan := m1.scan + 1 }

theorem stepOne_of (t : Tl m.shapes m.now) (h1 : (m.now.frm : Int) ≤ m.scan) (h2 : m.scan < m.now.top) (hf : ∀ a i, m.rf .n a i → a + 1 + (i : Int) = m.scan → ∃ m1, m.fwdIn false .n (a + 1 + (i : Int)) = some m1) : ∃ m', stepOne m = some m' ∧ Step1 m m' := by
  obtain ⟨i, hi⟩ : ∃ i : Nat, m.scan = (m.now.frm : Int) + (i : Int) := ⟨(m.scan - m.now.frm).toNat, by omega⟩
  have hiu : i < m.now.used := by unfold Sp.top at h2; omega
  obtain ⟨o, l, g1, g2, g3, g4, g5, g6⟩ := Sp.owner t i hiu
  have hobj := objAt_of (shapes := m.shapes) g2 i g1 fun j q1 q2 => g6 j q1 (by omega)
  have hidx : m.now.idx m.scan = i := by rw [hi, Sp.idx_add]
  have hob : m.ob .n ((m.now.frm : Int) + (o : Int)) l := ⟨Sp.begins_iff.2 ⟨o, rfl, (by show o < m.now.used; omega), g2⟩, (by show shapeOf m.shapes (m.now.get _) = _; rw [Sp.get_add]; exact g3)⟩
  unfold stepOne
  rw [if_pos (t.okAt h1 h2), hidx, hobj]
  try dsimp only
  by_cases e : i = o
  · subst e
    rw [if_pos rfl]
    refine ⟨_, rfl, .plain fun a j hr he => ?_⟩
    obtain ⟨l', hr1, hr2⟩ := hr
    have := getElem_lt hr2
    have := t.apart hr1 hob.1 (by omega)
    omega
  · rw [if_neg e]
    have hsh : m.shapeAt (m.now.words.getD o 0) = some l := g3
    rw [hsh]
    simp only
    have hlt : i - o - 1 < l.length := by omega
    rw [List.getElem?_eq_getElem hlt]
    have hplace : (m.now.frm : Int) + (o : Int) + 1 + ((i - o - 1 : Nat) : Int) = m.scan := by omega
    cases hb : l[i - o - 1] with
    | false =>
      refine ⟨_, rfl, .plain fun a j hr he => ?_⟩
      obtain ⟨l', hr1, hr2⟩ := hr
      obtain ⟨rfl, rfl⟩ := field_at t hr1 hob (getElem_lt hr2) hlt (by rw [hplace]; exact he)
      rw [ob_len hr1 hob, List.getElem?_eq_getElem hlt, hb] at hr2
      cases hr2
    | true =>
      have hrf : m.rf .n ((m.now.frm : Int) + (o : Int)) (i - o - 1) := ⟨l, hob, by rw [List.getElem?_eq_getElem hlt, hb]⟩
      obtain ⟨m1, hm1⟩ := hf _ _ hrf hplace
      have hm1' := hm1
      rw [hplace] at hm1
      simp only [hm1]
      exact ⟨_, rfl, .refers _ _ m1 hrf hplace hm1'⟩

/-- The scan goes on. -/
theorem Inv.scan1 (h : Inv m Y H) (hb : m.busy = true) (hlt : m.scan < m.now.top) (hok : ∀ a i, m.rf .n a i → a + 1 + (i : Int) = m.scan → m.fld .n a i = 0 ∨ m.isCur (m.fld .n a i)) : Inv { m with scan := m.scan + 1 } Y H := by
  have hsc := h.sc hb
  have hgb := h.geo
  have hul : m.unmovedTo m.other.used = ({ m with scan := m.scan + 1 } : Mem).unmovedTo m.other.used := (unmovedTo_congr (m := m) (m' := { m with scan := m.scan + 1 }) rfl rfl _ fun _ _ _ => Iff.rfl).symm
  refine ⟨⟨hgb.yf, hgb.yl, hgb.nl, hgb.ol, hgb.nf, hgb.Y0, hgb.H0, hgb.Yb, hgb.Hb⟩, h.ty, h.tn, h.to, h.sl, h.sll, h.idle, h.yr, fun a i hr => ?_, h.or, h.kn, h.kv, h.kd, fun _ => ?_, ?_, h.mv, ?_, h.rm⟩
  · by_cases e : a + 1 + (i : Int) = m.scan
    · rcases hok a i hr e with q | q
      · exact .inl q
      · exact .inr (.inl q)
    · rcases h.nr a i hr with q | q | ⟨q1, q2, q3⟩
      · exact .inl q
      · exact .inr (.inl q)
      · exact .inr (.inr ⟨q1, q2, by show m.scan + 1 ≤ _; omega⟩)
  · exact ⟨by show (m.now.frm : Int) ≤ m.scan + 1; omega, by show m.scan + 1 ≤ m.now.top; omega⟩
  · have := h.tn.topLe
    have h1 := h.geo.nl
    have h2 := h.geo.nf
    have h3 := h.geo.Yb
    have h4 := h.geo.Hb
    have := h.sc0
    show 0 ≤ m.scan + 1 ∧ m.scan + 1 ≤ 4194304
    omega
  · rw [← hul]; exact h.lf

theorem Inv.step1 (h : Inv m Y H) (hb : m.busy = true) (hlt : m.scan < m.now.top) : ∃ m', stepOne m = some m' ∧ Step1 m m' ∧ Inv m' Y H ∧ m'.busy = true ∧ m'.scan = m.scan + 1 ∧ m'.shapes = m.shapes := by
  have hsc := h.sc hb
  obtain ⟨m', hs, hs1⟩ := stepOne_of h.tn hsc.1 hlt fun a i hr _ => by
    obtain ⟨_, _, m1, _, _, _, h4, _⟩ := h.fwdIn (wh := .n) (by simp) hr
    exact ⟨m1, h4⟩
  refine ⟨m', hs, hs1, ?_⟩
  cases hs1 with
  | plain hp => exact ⟨h.scan1 hb hlt fun a i hr e => absurd e (hp a i hr), hb, rfl, rfl⟩
  | refers a i m1 hr he hf =>
    obtain ⟨mm, t, m1', h1, hE, hS, h4, hI, ht, _⟩ := h.fwdIn (wh := .n) (by simp) hr
    rw [hf] at h4; cases h4
    have e3 : m1.scan = m.scan := hS.rest.2.2.2.1.trans hE.scan
    have e4 : m1.busy = true := (hS.rest.2.2.1.trans hE.busy).trans hb
    have e5 : m1.shapes = m.shapes := hS.rest.1.trans hE.shapes
    have gn := hS.geoms .n
    simp only [sp] at gn
    have hlt1 : m1.scan < m1.now.top := by
      rw [e3]; unfold Sp.top at hlt ⊢; rw [gn.1, gn.2.1, hE.frm]; have := hE.used; omega
    obtain ⟨l, hob, hl⟩ := hr
    have hob1 := hE.sp_ob hob
    have htl : mm.Tiled := by
      intro x
      have := hI.tl x
      cases x with
      | y => have e := hS.sp .y; simp only [sp] at e ⊢; rw [if_neg (by simp)] at e; rw [← e, ← hS.rest.1]; exact hI.ty
      | o => have e := hS.sp .o; simp only [sp] at e ⊢; rw [if_neg (by simp)] at e; rw [← e, ← hS.rest.1]; exact hI.to
      | n =>
        obtain ⟨m1'', t', hf', hI', _⟩ := h.fwd (m.fld .n a i)
        rw [h1] at hf'; cases hf'
        exact hI'.tn
    refine ⟨hI.scan1 e4 hlt1 fun b j hr' e => ?_, e4, by show m1.scan + 1 = _; rw [e3], e5⟩
    obtain ⟨l', hb1, hb2⟩ := hr'
    have hb1' := (hS.ob htl hob1 (getElem_lt hl) .n b l').1 hb1
    obtain ⟨rfl, rfl⟩ := field_at (htl .n) hb1' hob1 (getElem_lt hb2) (getElem_lt hl) (by rw [e, e3, ← he])
    have := hS.fld htl hob1 (getElem_lt hl) .n hb1' (getElem_lt hb2)
    rw [if_pos ⟨rfl, rfl, rfl⟩] at this
    rw [this]; exact ht

theorem Inv.steps : ∀ (k : Nat) {m : Mem}, Inv m Y H → m.busy = true → ∃ m', stepLoop k m = some m' ∧ Inv m' Y H ∧ m'.busy = true ∧ m.scan ≤ m'.scan ∧ m'.shapes = m.shapes
  | 0, m, h, hb => ⟨m, rfl, h, hb, Int.le_refl _, rfl⟩
  | k + 1, m, h, hb => by
    rw [stepLoop_succ]
    by_cases e : m.scan = m.now.top
    · rw [if_pos e]; exact ⟨m, rfl, h, hb, Int.le_refl _, rfl⟩
    · rw [if_neg e]
      have hsc := h.sc hb
      obtain ⟨m1, h1, _, h2, h3, h4, h5⟩ := h.step1 hb (by omega)
      obtain ⟨m2, g1, g2, g3, g4, g5⟩ := Inv.steps k h2 h3
      exact ⟨m2, by rw [h1]; exact g1, g2, g3, by omega, g5.trans h5⟩

theorem Tl.empty_begins (s : Sp) (a : Int) : s.empty.begins a = false := by
  cases h : s.empty.begins a with
  | false => rfl
  | true => obtain ⟨i, _, hi, _⟩ := Sp.begins_iff.1 h; simp [Sp.empty] at hi

/-- The moving has come to its end. -/
def done (m : Mem) : Mem := { m with busy := false, left := 0, moved := [], other := m.other.empty }
theorem Inv.done (h : Inv m Y H) (hb : m.busy = true) (he : m.scan = m.now.top) : Inv m.done Y H := by
  have hg := h.geo
  have hrm := h.rm
  have hleft : 0 ≤ m.left := by rw [h.lf]; omega
  refine ⟨⟨hg.yf, hg.yl, hg.nl, by simpa [Mem.done, Sp.empty] using hg.ol, hg.nf, hg.Y0, hg.H0, hg.Yb, hg.Hb⟩, h.ty, h.tn, h.to.empty, h.sl, h.sll, fun _ => ⟨rfl, rfl, rfl⟩, h.yr, fun a i hr => ?_, fun a i hr => ?_, h.kn, h.kv, h.kd, (fun q => by cases q), h.sc0, (fun a t q => by cases q), rfl, ?_⟩
  · rcases h.nr a i hr with q | q | ⟨_, _, q3⟩
    · exact .inl q
    · exact .inr (.inl q)
    · exfalso
      obtain ⟨l, h1, h2⟩ := hr
      have := h.tn.bound h1
      have := getElem_lt h2
      omega
  · obtain ⟨l, h1, _⟩ := hr
    have := h1.1
    simp only [sp, Mem.done] at this
    rw [Tl.empty_begins] at this; cases this
  · show (m.now.used : Int) + 0 ≤ _; omega

theorem Inv.stepE (h : Inv m Y H) (n : Int) : ∃ m' v e, m.stepE n = some (m', v, e) ∧ Inv m' Y H ∧ m'.shapes = m.shapes := by
  unfold Mem.stepE
  by_cases h0 : n < 0
  · rw [if_pos h0]; exact ⟨_, _, _, rfl, h, rfl⟩
  · rw [if_neg h0]
    cases hb : m.busy with
    | false => exact ⟨_, _, _, rfl, h, rfl⟩
    | true =>
      simp only [Bool.not_true, Bool.false_eq_true, if_false]
      obtain ⟨m1, h1, h2, h3, _, h5⟩ := h.steps n.toNat hb
      rw [h1]
      simp only
      by_cases e : m1.now.top - m1.scan = 0
      · rw [if_pos e]; exact ⟨_, _, _, rfl, h2.done h3 (by omega), h5⟩
      · rw [if_neg e]; exact ⟨_, _, _, rfl, h2, h5⟩

theorem cur_some (tl : m.Tiled) {a : Int} {wh : Wh} (hc : m.cur a = some wh) : wh ≠ .o ∧ ∃ l, m.ob wh a l := by
  unfold Mem.cur at hc
  split at hc
  · rename_i hy; cases hc; exact ⟨by simp, (tl .y).shape hy⟩
  · split at hc
    · rename_i hy; cases hc; exact ⟨by simp, (tl .n).shape hy⟩
    · cases hc
theorem cur_isSome {v : Int} : (m.cur v).isSome = true ↔ m.isCur v := by
  unfold Mem.cur Mem.isCur
  by_cases h1 : m.young.begins v = true
  · simp [h1]
  · by_cases h2 : m.now.begins v = true
    · simp [h1, h2]
    · simp [h1, h2]
theorem cur_isNone {v : Int} : (m.cur v).isNone = true ↔ ¬ m.isCur v := by
  rw [← cur_isSome]; cases m.cur v <;> simp

theorem shapeAt_eq (m : Mem) (v : Int) : m.shapeAt v = shapeOf m.shapes v := rfl

/-- The place of a field. -/
inductive FieldR (m : Mem) (a f : Int) : (Int ⊕ (Wh × Bool)) → Prop
  | none : m.cur a = none → FieldR m a f (.inl 5)
  | arg (wh : Wh) (l : List Bool) : m.cur a = some wh → m.ob wh a l → (f < 0 ∨ (l.length : Int) ≤ f) → FieldR m a f (.inl 1)
  | ok (wh : Wh) (l : List Bool) (i : Nat) (r : Bool) : m.cur a = some wh → wh ≠ .o → m.ob wh a l → f = (i : Int) → l[i]? = some r → FieldR m a f (.inr (wh, r))
theorem fieldE_of (tl : m.Tiled) (a f : Int) : ∃ r, m.fieldE a f = some r ∧ FieldR m a f r := by
  unfold fieldE
  cases hc : m.cur a with
  | none => exact ⟨_, rfl, .none hc⟩
  | some wh =>
    obtain ⟨hw, l, hob⟩ := cur_some tl hc
    simp only [shapeAt_eq, hob.2]
    by_cases h0 : 0 ≤ f
    · rw [if_pos h0]
      obtain ⟨i, rfl⟩ : ∃ i : Nat, f = (i : Int) := ⟨f.toNat, by omega⟩
      rw [Int.toNat_natCast]
      cases hl : l[i]? with
      | none =>
        refine ⟨_, rfl, .arg wh l hc hob (.inr ?_)⟩
        have := List.getElem?_eq_none_iff.1 hl
        omega
      | some r =>
        simp only
        rw [if_pos (has_field tl hob (getElem_lt hl)).2]
        exact ⟨_, rfl, .ok wh l i r hc hw hob rfl hl⟩
    · rw [if_neg h0]; exact ⟨_, rfl, .arg wh l hc hob (.inl (by omega))⟩

theorem Inv.getE (h : Inv m Y H) (a f : Int) : ∃ m' v e, m.getE a f = some (m', v, e) ∧ Inv m' Y H ∧ m'.shapes = m.shapes := by
  obtain ⟨r, hr, hR⟩ := fieldE_of h.tl a f
  unfold Mem.getE
  rw [hr]
  cases hR with
  | none => exact ⟨_, _, _, rfl, h, rfl⟩
  | arg => exact ⟨_, _, _, rfl, h, rfl⟩
  | ok wh l i r hc hw hob hf hl =>
    subst hf
    simp only
    cases hrb : (r && m.busy) with
    | false => exact ⟨_, _, _, rfl, h, rfl⟩
    | true =>
      simp only [Bool.and_eq_true] at hrb
      obtain ⟨rfl, _⟩ := hrb
      obtain ⟨m1, t, m', _, hE, hS, h4, hI, _⟩ := h.fwdIn hw ⟨l, hob, hl⟩
      simp only [if_true, h4]
      exact ⟨_, _, _, rfl, hI, hS.rest.1.trans hE.shapes⟩
end Mem
end Go.Proofs.Hp
