/- Plain: the former half is emptied: 'forward' keeps the invariant. -/
import Derived.Test.YtnedmmopkhmejaaHP2
namespace Go.Proofs.Hp
namespace Mem
variable {m m' : Mem} {Y H : Nat} {y : Bool}

/-- The memory has grown: what was there is there. -/
structure Ext (m m' : Mem) : Prop where
  young : m'.young = m.young
  other : m'.other = m.other
  shapes : m'.shapes = m.shapes
  known : m'.known = m.known
  busy : m'.busy = m.busy
  scan : m'.scan = m.scan
  frm : m'.now.frm = m.now.frm
  len : m'.now.words.length = m.now.words.length
  used : m.now.used ≤ m'.now.used
  begins : ∀ b, m.now.begins b = true → m'.now.begins b = true
  ob : ∀ b l, m.ob .n b l → m'.ob .n b l
  get : ∀ b, (m.now.frm : Int) ≤ b → b < m.now.top → m'.now.get b = m.now.get b
  moved : ∀ a t, m.look a = some t → m'.look a = some t

theorem Ext.refl (m : Mem) : Ext m m := ⟨rfl, rfl, rfl, rfl, rfl, rfl, rfl, rfl, Nat.le_refl _, fun _ h => h, fun _ _ h => h, fun _ _ _ => rfl, fun _ _ h => h⟩
theorem Ext.trans {m1 m2 m3 : Mem} (h : Ext m1 m2) (h' : Ext m2 m3) : Ext m1 m3 :=
  ⟨h'.young.trans h.young, h'.other.trans h.other, h'.shapes.trans h.shapes, h'.known.trans h.known, h'.busy.trans h.busy, h'.scan.trans h.scan, h'.frm.trans h.frm, h'.len.trans h.len, Nat.le_trans h.used h'.used, fun b q => h'.begins b (h.begins b q), fun b l q => h'.ob b l (h.ob b l q),
    fun b h1 h2 => (h'.get b (by rw [h.frm]; exact h1) (by have := h.used; have := h.frm; unfold Sp.top at *; omega)).trans (h.get b h1 h2), fun a t q => h'.moved a t (h.moved a t q)⟩

theorem Moved.ext {a : Int} {l : List Bool} (h : Moved m m' y a l) (hn : m.look a = none) : Ext m m' :=
  ⟨h.young, h.other, h.shapes, h.known, h.busy, h.scan, h.frm, h.len, by rw [h.used]; omega, fun b q => (h.begins b).2 (.inl q), fun b l' q => by have := h.obOld b l' q; unfold Mem.ob; rw [h.shapes]; exact this, h.old, fun c t q => by
    rw [h.look]; split
    · rename_i e; subst e; rw [hn] at q; cases q
    · exact q⟩

theorem isCur.ext {v : Int} (h : m.isCur v) (e : Ext m m') : m'.isCur v := by
  rcases h with h | h
  · exact .inl (by rw [e.young]; exact h)
  · exact .inr (e.begins v h)

theorem unmovedTo_congr (ho : m'.other = m.other) (hs : m'.shapes = m.shapes) : ∀ k : Nat, (∀ i, i < k → m.other.st i = true → (m'.look ((m.other.frm : Int) + (i : Int)) = none ↔ m.look ((m.other.frm : Int) + (i : Int)) = none)) → m'.unmovedTo k = m.unmovedTo k
  | 0, _ => rfl
  | k + 1, h => by
    unfold unmovedTo
    rw [unmovedTo_congr ho hs k fun i hi => h i (by omega), ho, hs]
    congr 1
    by_cases hst : m.other.st k = true
    · simp only [hst, true_and, h k (by omega) hst]
    · rw [if_neg (fun q => hst q.1), if_neg (fun q => hst q.1)]

/-- One more object is moved. -/
theorem unmovedTo_move {a : Int} {l : List Bool} (ho : m'.other = m.other) (hs : m'.shapes = m.shapes) (hob : m.ob .o a l) (hn : m.look a = none) (hl : ∀ b, m'.look b = none ↔ (b ≠ a ∧ m.look b = none)) :
    ∀ k : Nat, m.other.idx a < k → m.unmovedTo k = m'.unmovedTo k + (l.length + 1)
  | 0, h => by omega
  | k + 1, h => by
    obtain ⟨i, e, hi, hst⟩ := Sp.begins_iff.1 hob.1
    have hw := hob.2
    simp only [sp] at e hi hst hw
    subst e
    rw [Sp.idx_add] at h
    rw [Sp.get_add] at hw
    unfold unmovedTo
    by_cases hk : i = k
    · subst hk
      have e1 : m'.unmovedTo i = m.unmovedTo i := unmovedTo_congr ho hs i fun j hj hs => by
        rw [hl]; constructor
        · exact fun q => q.2
        · exact fun q => ⟨by omega, q⟩
      rw [e1, if_pos ⟨hst, hn⟩, hw, if_neg]
      · simp only [Nat.add_zero]
      · rintro ⟨_, q⟩; rw [ho] at q; exact ((hl _).1 q).1 rfl
    · have ih := unmovedTo_move (a := (m.other.frm : Int) + (i : Int)) ho hs hob hn hl k (by rw [Sp.idx_add]; omega)
      rw [ih, ho, hs]
      have e2 : (m'.look ((m.other.frm : Int) + (k : Int)) = none) ↔ (m.look ((m.other.frm : Int) + (k : Int)) = none) := by
        rw [hl]; constructor
        · exact fun q => q.2
        · exact fun q => ⟨by omega, q⟩
      simp only [e2]
      omega

theorem unmovedTo_ge {a : Int} {l : List Bool} (hob : m.ob .o a l) (hn : m.look a = none) : ∀ k : Nat, m.other.idx a < k → l.length + 1 ≤ m.unmovedTo k
  | 0, h => by omega
  | k + 1, h => by
    obtain ⟨i, e, hi, hst⟩ := Sp.begins_iff.1 hob.1
    have hw := hob.2
    simp only [sp] at e hi hst hw
    subst e
    rw [Sp.idx_add] at h
    rw [Sp.get_add] at hw
    unfold unmovedTo
    by_cases hk : i = k
    · subst hk
      rw [if_pos ⟨hst, hn⟩, hw]; simp
    · have ih := unmovedTo_ge (a := (m.other.frm : Int) + (i : Int)) hob hn k (by rw [Sp.idx_add]; omega)
      omega

/-- A field's place tells its object. -/
theorem field_at {shapes : List (List Bool)} {s : Sp} (t : Tl shapes s) {a b : Int} {l l' : List Bool} {i j : Nat} (ha : s.ob shapes a l) (hb : s.ob shapes b l') (hi : i < l.length) (hj : j < l'.length) (e : a + 1 + (i : Int) = b + 1 + (j : Int)) : a = b ∧ i = j := by
  have e1 : a = b := by
    rcases Int.lt_trichotomy a b with q | q | q
    · have := t.apart ha hb.1 q; omega
    · exact q
    · have := t.apart hb ha.1 q; omega
  exact ⟨e1, by omega⟩
theorem ob_len {shapes : List (List Bool)} {s : Sp} {a : Int} {l l' : List Bool} (h : s.ob shapes a l) (h' : s.ob shapes a l') : l = l' := by
  have := h.2.symm.trans h'.2; simpa using this

theorem getElem_lt {l : List Bool} {i : Nat} {b : Bool} (h : l[i]? = some b) : i < l.length := by
  rcases Nat.lt_or_ge i l.length with q | q
  · exact q
  · rw [List.getElem?_eq_none q] at h; cases h

theorem other_used (h : Inv m Y H) {a : Int} (ha : m.other.begins a = true) : m.busy = true := by
  cases hb : m.busy with
  | true => rfl
  | false =>
    obtain ⟨i, _, hi, _⟩ := Sp.begins_iff.1 ha
    have := (h.idle hb).1
    omega

/-- 'forward' out of the former half. -/
theorem Inv.fwd (h : Inv m Y H) (v : Int) : ∃ m' t, m.forward false v = some (m', t) ∧ Inv m' Y H ∧ Ext m m' ∧ ((m.other.begins v = false ∧ t = v ∧ m' = m) ∨ (m.other.begins v = true ∧ m'.look v = some t ∧ m'.now.begins t = true)) := by
  have hroom : ∀ l, m.ob .o v l → m.look v = none → m.now.used + (l.length + 1) ≤ m.now.words.length ∧ ((l.length + 1 : Nat) : Int) ≤ m.left := by
    intro l hob hn
    have hlt : m.other.idx v < m.other.used := by
      obtain ⟨i, e, hi, _⟩ := Sp.begins_iff.1 hob.1
      simp only [sp] at e hi
      rw [e, Sp.idx_add]; exact hi
    have h1 := unmovedTo_ge hob hn _ hlt
    have h2 := h.lf
    have h3 := h.rm
    have h4 := h.geo.nl
    omega
  obtain ⟨m', t, hf, hr⟩ := forward_of (m := m) (y := false) (a := v) h.to fun l hob hn => ⟨(hroom l hob hn).1, .inr (hroom l hob hn).2⟩
  refine ⟨m', t, hf, ?_⟩
  cases hr with
  | no hb => exact ⟨h, Ext.refl _, .inl ⟨hb, rfl, rfl⟩⟩
  | had t hb hl =>
    obtain ⟨_, l, _, h2⟩ := h.mv _ _ hl
    exact ⟨h, Ext.refl _, .inr ⟨hb, hl, h2.1⟩⟩
  | new l hob hn hr hl =>
    have hM := moved_of (y := false) h.to h.tn hob hn hr
    have hE := hM.ext hn
    generalize m.move false v (l.length + 1) = m' at *
    have hbusy := other_used h hob.1
    replace hob : m.ob .o v l := hob
    have hlt : m.other.idx v < m.other.used := by
      obtain ⟨i, e, hi, _⟩ := Sp.begins_iff.1 hob.1
      simp only [sp] at e hi
      rw [e, Sp.idx_add]; exact hi
    have hleft : m'.left = m.left - ((l.length + 1 : Nat) : Int) := by simpa using hM.left
    have hrm := (hroom l hob hn).2
    have hlook : ∀ b, m'.look b = none ↔ (b ≠ v ∧ m.look b = none) := fun b => by
      rw [hM.look]; by_cases e : b = v <;> simp [e]
    have hsc := h.sc hbusy
    have htop : m'.now.top = m.now.top + ((l.length + 1 : Nat) : Int) := by unfold Sp.top; rw [hM.used, hM.frm]; push_cast; omega
    -- a field of the new half: an elder one, or one of the new object
    have hfld : ∀ a i, m'.rf .n a i → (m.rf .n a i ∧ m'.fld .n a i = m.fld .n a i) ∨ (a = m.now.top ∧ m.rf .o v i ∧ m'.fld .n a i = m.fld .o v i) := by
      rintro a i ⟨l', h1, h2⟩
      have hi := getElem_lt h2
      have h1' : m'.now.ob m.shapes a l' := by have := h1; unfold Mem.ob at this; rw [hM.shapes] at this; exact this
      rcases hM.obInv a l' h1' with q | ⟨rfl, rfl⟩
      · have hb := h.tn.bound q
        exact .inl ⟨⟨l', q, h2⟩, hM.old _ (by omega) (by omega)⟩
      · refine .inr ⟨rfl, ⟨l', hob, h2⟩, ?_⟩
        have := hM.new (i + 1) (by omega)
        push_cast at this
        rw [← Int.add_assoc, ← Int.add_assoc] at this
        show m'.now.get (m.now.top + 1 + (i : Int)) = m.other.get (v + 1 + (i : Int))
        rw [show m.now.top + 1 + (i : Int) = m.now.top + (i : Int) + 1 by omega, this]
        show m.other.get _ = _
        congr 1; omega
    refine ⟨⟨⟨by rw [hM.young]; exact h.geo.yf, by rw [hM.young]; exact h.geo.yl, by rw [hM.len]; exact h.geo.nl, by rw [hM.other]; exact h.geo.ol, by rw [hM.frm, hM.other]; exact h.geo.nf, h.geo.Y0, h.geo.H0, h.geo.Yb, h.geo.Hb⟩,
      by rw [hM.young, hM.shapes]; exact h.ty, by rw [hM.shapes]; exact hM.tl, by rw [hM.other, hM.shapes]; exact h.to, by rw [hM.shapes]; exact h.sl, by rw [hM.shapes]; exact h.sll, ?_, ?_, ?_, ?_, ?_, ?_, by rw [hM.known]; exact h.kd, ?_, by rw [hM.scan]; exact h.sc0, ?_, ?_, ?_⟩, hE, .inr ⟨hob.1, by rw [hM.look, if_pos rfl], hM.obNew.1⟩⟩
    · rw [hM.busy, hbusy]; intro q; cases q
    · intro a i ⟨l', h1, h2⟩
      have h1' : m.ob .y a l' := by simp only [Mem.ob, sp, hM.young, hM.shapes] at h1 ⊢; exact h1
      have e : m'.fld .y a i = m.fld .y a i := by simp only [fld, sp, hM.young]
      rw [e]
      rcases h.yr a i ⟨l', h1', h2⟩ with q | q
      · exact .inl q
      · exact .inr (q.ext hE)
    · intro a i hrf
      rcases hfld a i hrf with ⟨q1, q2⟩ | ⟨rfl, q1, q2⟩
      · rw [q2]
        rcases h.nr a i q1 with q | q | q
        · exact .inl q
        · exact .inr (.inl (q.ext hE))
        · exact .inr (.inr (by rw [hM.busy, hM.other, hM.scan]; exact q))
      · rw [q2]
        rcases h.or v i q1 with q | q
        · exact .inl q
        · refine .inr (.inr ⟨by rw [hM.busy]; exact hbusy, by rw [hM.other]; exact q, ?_⟩)
          rw [hM.scan]; omega
    · intro a i ⟨l', h1, h2⟩
      have h1' : m.ob .o a l' := by simp only [Mem.ob, sp, hM.other, hM.shapes] at h1 ⊢; exact h1
      have e : m'.fld .o a i = m.fld .o a i := by simp only [fld, sp, hM.other]
      rw [e, hM.other]; exact h.or a i ⟨l', h1', h2⟩
    · intro a i hrf hy
      rw [hM.known]
      rw [hM.young] at hy
      rcases hfld a i hrf with ⟨q1, q2⟩ | ⟨rfl, q1, q2⟩
      · rw [q2] at hy; exact h.kn a i q1 hy
      · rw [q2] at hy
        exfalso
        rcases h.or v i q1 with q | q
        · rw [q] at hy; have := pos_of_begins h.geo (wh := .y) hy; omega
        · have := h.geo.apart (v := m.fld .o v i) h.tl (a := .y) (b := .o) hy q; cases this
    · intro k hk
      rw [hM.known] at hk
      obtain ⟨i, e, l', h1, h2⟩ := h.kv k hk
      exact ⟨i, e, l', hE.ob _ _ h1, h2⟩
    · intro _
      rw [hM.scan, hM.frm, htop]; omega
    · intro a t hl
      rw [hM.look] at hl
      have hshape : ∀ c l', m.ob .o c l' → m'.ob .o c l' := fun c l' q => by simp only [Mem.ob, sp, hM.other, hM.shapes] at q ⊢; exact q
      split at hl
      · rename_i e; subst e; cases hl
        exact ⟨by rw [hM.other]; exact hob.1, l, hshape _ _ hob, by unfold Mem.ob; rw [hM.shapes]; exact hM.obNew⟩
      · obtain ⟨g1, l', g2, g3⟩ := h.mv a t hl
        exact ⟨by rw [hM.other]; exact g1, l', hshape _ _ g2, hE.ob _ _ g3⟩
    · have := unmovedTo_move (a := v) (l := l) hM.other hM.shapes hob hn hlook _ hlt
      have h2 := h.lf
      rw [hleft, hM.other, h2]; omega
    · have := h.rm
      rw [hM.used, hleft]; push_cast at *; omega
end Mem
end Go.Proofs.Hp
