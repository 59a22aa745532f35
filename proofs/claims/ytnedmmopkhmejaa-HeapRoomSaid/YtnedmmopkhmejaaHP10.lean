/- Plain: Minor, Flip, Check of a memory that is in order. -/
import Derived.Test.YtnedmmopkhmejaaHP9
namespace Go.Proofs.Hp
namespace Mem
variable {m0 m m' : Mem} {Y H : Nat} {y : Bool}

theorem rooted_zero {roots : List Int} (h : m.rooted roots = 0) : roots.length ≤ 200 ∧ ∀ r ∈ roots, r = 0 ∨ m.isCur r := by
  unfold rooted at h
  split at h
  · cases h
  · split at h
    · cases h
    · rename_i h1 h2
      refine ⟨by omega, fun r hr => ?_⟩
      simp only [List.any_eq_true, Bool.and_eq_true, bne_iff_ne, ne_eq, not_exists, not_and, cur_isNone, Classical.not_not] at h2
      by_cases e : r = 0
      · exact .inl e
      · exact .inr (h2 r hr e)
theorem rooted_of {roots : List Int} (h1 : roots.length ≤ 200) (h2 : ∀ r ∈ roots, r = 0 ∨ m.isCur r) : m.rooted roots = 0 := by
  unfold rooted
  rw [if_neg (by omega), if_neg]
  simp only [List.any_eq_true, Bool.and_eq_true, bne_iff_ne, ne_eq, not_exists, not_and, cur_isNone, Classical.not_not]
  intro r hr e
  exact (h2 r hr).resolve_left e

/-- Minor: three ways. -/
inductive MinorR (m : Mem) (Y H : Nat) (roots : List Int) : Mem → List Int → Int → Prop
  | rooted (e : Int) : m.rooted roots = e → e ≠ 0 → MinorR m Y H roots m [] e
  | full (n : Int) : m.rooted roots = 0 → m.needed roots = some n → n > m.now.room - m.left → MinorR m Y H roots m [] 14
  | ok (m' : Mem) (out : List Int) (lk : Int → Option Int) : m.rooted roots = 0 → m.minor roots = some (out, m') → Inv m' Y H → Post m m' lk → Outs m lk roots out → MinorR m Y H roots m' out 0
theorem Inv.minorE (h : Inv m Y H) (roots : List Int) : ∃ m' out e, m.minorE roots = some (m', out, e) ∧ MinorR m Y H roots m' out e := by
  unfold Mem.minorE
  by_cases h0 : m.rooted roots = 0
  · rw [if_neg (by simpa using h0)]
    obtain ⟨C, g1, g2, g3, g4⟩ := h.needed roots
    rw [g1]
    simp only
    by_cases hf : (sumOf m.szY C : Int) > m.now.room - m.left
    · rw [if_pos hf]; exact ⟨_, _, _, rfl, .full _ h0 g1 hf⟩
    · rw [if_neg hf]
      obtain ⟨out, m', lk, k1, k2, k3, k4⟩ := h.minor roots g2 (by omega) g3 g4
      rw [k1]
      exact ⟨_, _, _, rfl, .ok m' out lk h0 k1 k2 k3 k4⟩
  · rw [if_pos (by simpa using h0)]; exact ⟨_, _, _, rfl, .rooted _ rfl h0⟩
theorem MinorR.inv {roots out : List Int} {e : Int} (h : Inv m Y H) (r : MinorR m Y H roots m' out e) : Inv m' Y H := by
  cases r with
  | rooted => exact h
  | full => exact h
  | ok => assumption
theorem MinorR.shapes {roots out : List Int} {e : Int} (r : MinorR m Y H roots m' out e) : m'.shapes = m.shapes ∧ m'.busy = m.busy := by
  cases r with
  | rooted => exact ⟨rfl, rfl⟩
  | full => exact ⟨rfl, rfl⟩
  | ok _ _ _ _ _ _ hp _ => exact ⟨hp.shapes, hp.busy⟩

/-- No object is moved, and all words are those of objects. -/
theorem unmoved_all (t : Tl m.shapes m.other) (hm : m.moved = []) : ∀ n i : Nat, i ≤ n → i ≤ m.other.used → (i = m.other.used ∨ m.other.st i = true) → m.unmovedTo i = i
  | n, 0, _, _, _ => rfl
  | 0, i + 1, hn, _, _ => by omega
  | n + 1, i + 1, hn, hi, hb => by
    obtain ⟨o, l, h1, h2, h3, h4, h5, h6⟩ := Sp.owner t i (by omega)
    have e : i + 1 = o + 1 + l.length := by
      rcases hb with q | q
      · omega
      · rcases Nat.lt_or_ge (i + 1) (o + 1 + l.length) with g | g
        · rw [h6 (i + 1) (by omega) g] at q; cases q
        · omega
    have ih := unmoved_all t hm n o (by omega) (by omega) (.inr h2)
    have hlook : ∀ a, m.look a = none := fun a => by unfold look; rw [hm]; rfl
    have hstep : ∀ j : Nat, j ≤ l.length → m.unmovedTo (o + 1 + j) = o + (l.length + 1) := by
      intro j
      induction j with
      | zero =>
        intro _
        show m.unmovedTo (o + 1) = _
        unfold unmovedTo
        rw [ih, if_pos ⟨h2, hlook _⟩, h3]
      | succ j ihj =>
        intro hj
        show m.unmovedTo (o + 1 + j + 1) = _
        unfold unmovedTo
        rw [ihj (by omega), if_neg, Nat.add_zero]
        rintro ⟨q, _⟩
        rw [h6 (o + 1 + j) (by omega) (by omega)] at q; cases q
    rw [e, hstep l.length (Nat.le_refl _)]
    omega

/-- The halves change places. -/
def flipped (m : Mem) : Mem := { m with now := m.other, other := m.now, busy := true, scan := (m.other.frm : Int), left := (m.now.used : Int), moved := [] }
theorem Inv.flipped (h : Inv m Y H) (hb : m.busy = false) (hy : m.young.used = 0) (hk : m.known = []) : Inv m.flipped Y H := by
  have hg := h.geo
  obtain ⟨i1, i2, i3⟩ := h.idle hb
  have hnoy : ∀ w, m.young.begins w = false := fun w => by
    cases hq : m.young.begins w with
    | false => rfl
    | true => obtain ⟨i, _, hi, _⟩ := Sp.begins_iff.1 hq; omega
  have hnoo : ∀ w, m.other.begins w = false := fun w => by
    cases hq : m.other.begins w with
    | false => rfl
    | true => obtain ⟨i, _, hi, _⟩ := Sp.begins_iff.1 hq; omega
  have hle := h.tn.le
  have hnl := hg.nl
  refine ⟨⟨hg.yf, hg.yl, hg.ol, hg.nl, hg.nf.symm, hg.Y0, hg.H0, hg.Yb, hg.Hb⟩, h.ty, h.to, h.tn, h.sl, h.sll, (fun q => by cases q), ?_, ?_, ?_, ?_, ?_, h.kd, ?_, ?_, (fun a t q => by cases q), ?_, ?_⟩
  · rintro a i ⟨l, hl, _⟩
    have := hnoy a
    rw [show m.young.begins a = true from hl.1] at this; cases this
  · rintro a i ⟨l, hl, _⟩
    have := hnoo a
    rw [show m.other.begins a = true from hl.1] at this; cases this
  · intro a i hr
    show m.fld .n a i = 0 ∨ m.now.begins (m.fld .n a i) = true
    rcases h.nr a i hr with q | q | ⟨q, _⟩
    · exact .inl q
    · rcases q with q | q
      · rw [hnoy] at q; cases q
      · exact .inr q
    · rw [hb] at q; cases q
  · intro a i _ q
    have := hnoy (m.fld .o a i)
    exfalso
    have h2 : m.young.begins (m.flipped.fld .n a i) = true := q
    rw [hnoy] at h2; cases h2
  · intro k q
    have : k ∈ m.known := q
    rw [hk] at this; cases this
  · intro _
    exact ⟨Int.le_refl _, by show (m.other.frm : Int) ≤ m.other.top; unfold Sp.top; omega⟩
  · show 0 ≤ (m.other.frm : Int) ∧ (m.other.frm : Int) ≤ 4194304
    have h1 := hg.nf; have h2 := hg.Yb; have h3 := hg.Hb
    omega
  · have := unmoved_all (m := m.flipped) h.tn rfl m.now.used m.now.used (Nat.le_refl _) (Nat.le_refl _) (.inl rfl)
    show (m.now.used : Int) = ((m.flipped.unmovedTo m.now.used : Nat) : Int)
    rw [this]
  · show (m.other.used : Int) + (m.now.used : Int) ≤ _
    omega

/-- What forwarding all of a list out of the former half leaves. -/
def FRel (m m' : Mem) (v w : Int) : Prop := (m.other.begins v = false ∧ w = v) ∨ (m.other.begins v = true ∧ m'.look v = some w ∧ m'.now.begins w = true)
theorem Inv.fwdAll : ∀ (rs : List Int) {m : Mem}, Inv m Y H → ∃ out m', Mem.fwdAll false m rs = some (out, m') ∧ Inv m' Y H ∧ Ext m m' ∧ out.length = rs.length ∧ ∀ (i : Nat) (r t : Int), rs[i]? = some r → out[i]? = some t → FRel m m' r t
  | [], m, h => ⟨[], m, rfl, h, Ext.refl _, rfl, fun i r t q => by simp at q⟩
  | r :: rs, m, h => by
    obtain ⟨m1, t, h1, h2, h3, h4⟩ := h.fwd r
    obtain ⟨out, m2, g1, g2, g3, g4, g5⟩ := Inv.fwdAll rs h2
    refine ⟨t :: out, m2, by unfold Mem.fwdAll; rw [h1]; simp only [g1], g2, h3.trans g3, by simp [g4], fun i r' t' q1 q2 => ?_⟩
    cases i with
    | zero =>
      simp only [List.getElem?_cons_zero, Option.some.injEq] at q1 q2
      subst q1 q2
      rcases h4 with ⟨k1, k2, _⟩ | ⟨k1, k2, k3⟩
      · exact .inl ⟨k1, k2⟩
      · exact .inr ⟨k1, g3.moved _ _ k2, g3.begins _ k3⟩
    | succ i =>
      have := g5 i r' t' (by simpa using q1) (by simpa using q2)
      unfold FRel at this ⊢
      rw [h3.other] at this; exact this

inductive FlipR (m : Mem) (Y H : Nat) (roots : List Int) : Mem → List Int → Int → Prop
  | busy : m.busy = true → FlipR m Y H roots m [] 12
  | err (m1 : Mem) (out : List Int) (e : Int) : m.busy = false → MinorR m Y H roots m1 out e → e ≠ 0 → FlipR m Y H roots m1 [] e
  | ok (m1 m2 : Mem) (out1 out : List Int) (lk : Int → Option Int) : m.busy = false → m.rooted roots = 0 → Inv m1 Y H → Post m m1 lk → Outs m lk roots out1 → Inv m1.flipped Y H → Mem.fwdAll false m1.flipped out1 = some (out, m2) → Inv m2 Y H → Ext m1.flipped m2 →
      out.length = out1.length → (∀ (i : Nat) (r t : Int), out1[i]? = some r → out[i]? = some t → FRel m1.flipped m2 r t) → FlipR m Y H roots m2 out 0
theorem Inv.flipE (h : Inv m Y H) (roots : List Int) : ∃ m' out e, m.flipE roots = some (m', out, e) ∧ FlipR m Y H roots m' out e := by
  unfold Mem.flipE
  cases hb : m.busy with
  | true => exact ⟨_, _, _, rfl, .busy hb⟩
  | false =>
    rw [if_neg (by simp)]
    obtain ⟨m1, out1, e, h1, h2⟩ := h.minorE roots
    rw [h1]
    simp only
    by_cases he : e = 0
    · subst he
      rw [if_neg (by simp)]
      cases h2 with
      | rooted _ _ h0 => exact absurd rfl h0
      | ok m1 out1 lk r1 r2 r3 r4 r5 =>
        have hfl := r3.flipped (by rw [r4.busy]; exact hb) (by rw [r4.young]; rfl) r4.known
        obtain ⟨out, m2, g1, g2, g3, g4, g5⟩ := Inv.fwdAll out1 hfl
        have g1' := g1
        unfold Mem.flipped at g1
        rw [g1]
        exact ⟨_, _, _, rfl, .ok m1 m2 out1 out lk hb r1 r3 r4 r5 hfl g1' g2 g3 g4 g5⟩
    · rw [if_pos he]; exact ⟨_, _, _, rfl, .err m1 out1 e hb h2 he⟩
theorem FlipR.inv {roots out : List Int} {e : Int} (h : Inv m Y H) (r : FlipR m Y H roots m' out e) : Inv m' Y H := by
  cases r with
  | busy => exact h
  | err _ _ _ _ h2 _ => exact h2.inv h
  | ok => assumption

/-- Roots behind Minor are current. -/
theorem Outs.current {lk : Int → Option Int} (h : Inv m Y H) (hp : Post m m' lk) {rs out : List Int} (ho : Outs m lk rs out) (hr : ∀ r ∈ rs, r = 0 ∨ m.isCur r) : ∀ t ∈ out, t = 0 ∨ m'.isCur t := by
  intro t ht
  obtain ⟨i, hi⟩ := List.mem_iff_getElem?.1 ht
  have hlt := (List.getElem?_eq_some_iff.1 hi).1
  have hlt' : i < rs.length := by rw [← ho.1]; exact hlt
  have hri : rs[i]? = some rs[i] := List.getElem?_eq_getElem hlt'
  have hrel := ho.2 i _ _ hri hi
  rcases hr _ (List.getElem_mem hlt') with q | q
  · rcases hrel with ⟨_, g⟩ | ⟨g, _⟩
    · exact .inl (g.trans q)
    · rw [q] at g; have := pos_of_begins h.geo (wh := .y) g; omega
  · right
    rcases hrel with ⟨g1, g2⟩ | ⟨g1, g2⟩
    · rw [g2]
      rcases q with q | q
      · rw [g1] at q; cases q
      · obtain ⟨l, hl⟩ := h.tn.shape q
        exact .inr (hp.old _ _ hl).1.1
    · obtain ⟨l, hl⟩ := h.ty.shape g1
      exact .inr ((hp.mv _ _ g2).2.2.2 l hl).1.1

/-! Check. -/
theorem fineFrom_of (h : Inv m Y H) {isNow : Bool} {wh : Wh} (hw : (isNow = true ∧ wh = .n) ∨ (isNow = false ∧ wh = .y)) {a : Int} {l : List Bool} (ha : m.ob wh a l) : ∀ (bs : List Bool) (i : Nat), l.drop i = bs → fineFrom m isNow (m.sp wh) a bs (i : Int) = some true
  | [], i, _ => rfl
  | b :: bs, i, hd => by
    have hi : i < l.length := by
      rcases Nat.lt_or_ge i l.length with q | q
      · exact q
      · rw [List.drop_of_length_le q] at hd; cases hd
    rw [List.drop_eq_getElem_cons hi] at hd
    simp only [List.cons.injEq] at hd
    obtain ⟨hb, hd⟩ := hd
    have ih := fineFrom_of h hw ha bs (i + 1) hd
    unfold fineFrom
    cases b with
    | false => exact ih
    | true =>
      have hlb : l[i]? = some true := by rw [List.getElem?_eq_getElem hi, hb]
      have hrf : m.rf wh a i := ⟨l, ha, hlb⟩
      rw [if_pos rfl, if_pos (has_field h.tl ha hi).2, if_pos]
      · exact ih
      · have hv : (m.sp wh).get (a + 1 + (i : Int)) = m.fld wh a i := rfl
        unfold fineField
        simp only [hv]
        rcases hw with ⟨rfl, rfl⟩ | ⟨rfl, rfl⟩
        · simp only [Bool.true_and, Bool.and_true, Bool.and_eq_true, Bool.not_eq_true', Bool.and_eq_false_imp, bne_iff_ne, ne_eq, Bool.not_eq_false', cur_isNone, List.contains_eq_mem, decide_eq_true_eq, ge_iff_le, and_imp]
          refine ⟨fun h0 hn => ?_, fun hy => h.kn a i hrf hy⟩
          rcases h.nr a i hrf with q | q | ⟨q1, q2, q3⟩
          · exact absurd q h0
          · exact absurd q hn
          · exact ⟨⟨q1, q2⟩, q3⟩
        · simp only [Bool.false_and, Bool.and_false, Bool.not_false, Bool.and_true, Bool.not_eq_true', Bool.and_eq_false_imp, bne_iff_ne, ne_eq]
          intro h0
          rcases h.yr a i hrf with q | q
          · exact absurd q h0
          · cases hq : (m.cur (m.fld .y a i)).isNone with
            | false => rfl
            | true => exact absurd q (cur_isNone.1 hq)

theorem orderedFrom_of (h : Inv m Y H) {isNow : Bool} {wh : Wh} (hw : (isNow = true ∧ wh = .n) ∨ (isNow = false ∧ wh = .y)) : ∀ (k : Nat) (a : Int), (a = (m.sp wh).top ∨ (m.sp wh).begins a = true) → ((m.sp wh).top + 1 ≤ (k : Int) + a) → orderedFrom m isNow (m.sp wh) k a = some true
  | 0, a, ha, hk => by
    rcases ha with q | q
    · omega
    · obtain ⟨l, hl⟩ := (h.tl wh).shape q
      have := (h.tl wh).bound hl
      omega
  | k + 1, a, ha, hk => by
    unfold orderedFrom
    by_cases hlt : a < (m.sp wh).top
    · have hb : (m.sp wh).begins a = true := by rcases ha with q | q; omega; exact q
      obtain ⟨l, hob⟩ := (h.tl wh).shape hb
      have hbd := (h.tl wh).bound hob
      rw [if_pos hlt, if_pos hb]
      simp only [(h.tl wh).fields hob (m := m) rfl]
      have hfine := fineFrom_of h hw (l := l) hob l 0 (by simp)
      simp only [Int.natCast_zero] at hfine
      simp only [hfine]
      obtain ⟨i, e, hi, hst⟩ := Sp.begins_iff.1 hb
      have hidx : (m.sp wh).idx a = i := by rw [e, Sp.idx_add]
      have hlen := (h.tl wh).len
      have hle := (h.tl wh).le
      rw [hidx, if_pos (by unfold Sp.top at hbd; omega)]
      obtain ⟨l', g1, g2, g3, g4⟩ := (h.tl wh).obj i hi hst
      have hll : l' = l := by
        have := hob.2
        rw [e, Sp.get_add, g1] at this
        exact Option.some.inj this
      subst hll
      rw [if_neg]
      · refine orderedFrom_of h hw k _ ?_ (by push_cast; omega)
        by_cases e2 : a + 1 + (l'.length : Int) < (m.sp wh).top
        · right
          have := (h.tl wh).next hob e2
          rw [show a + ((l'.length + 1 : Nat) : Int) = a + 1 + (l'.length : Int) by push_cast; omega]; exact this
        · left; push_cast; omega
      · simp only [List.contains_eq_mem, decide_eq_true_eq]
        intro hm
        obtain ⟨j, hj⟩ := List.mem_iff_getElem?.1 hm
        have hjl : j < l'.length := by
          have := (List.getElem?_eq_some_iff.1 hj).1
          rw [List.length_take] at this; omega
        rw [List.getElem?_take_of_lt hjl, List.getElem?_drop] at hj
        have := g3 (i + 1 + j) (by omega) (by omega)
        simp only [Sp.st, List.getD_eq_getElem?_getD, hj, Option.getD_some] at this
        cases this
    · rw [if_neg hlt]
      have hb : a = (m.sp wh).top := by
        rcases ha with q | q
        · exact q
        · obtain ⟨l, hl⟩ := (h.tl wh).shape q
          have := (h.tl wh).bound hl
          omega
      rw [decide_eq_true hb]

theorem Inv.check (h : Inv m Y H) : m.checkE = some 0 := by
  have hst : ∀ wh, ((m.sp wh).frm : Int) = (m.sp wh).top ∨ (m.sp wh).begins ((m.sp wh).frm : Int) = true := fun wh => by
    by_cases e : (m.sp wh).used = 0
    · left; unfold Sp.top; omega
    · exact .inr ((h.tl wh).first (by omega))
  have hk : ∀ wh, (m.sp wh).top + 1 ≤ (((m.sp wh).words.length + 1 : Nat) : Int) + ((m.sp wh).frm : Int) := fun wh => by
    have := (h.tl wh).topLe; push_cast; omega
  have h1 := orderedFrom_of h (isNow := false) (wh := .y) (.inr ⟨rfl, rfl⟩) _ _ (hst .y) (hk .y)
  have h2 := orderedFrom_of h (isNow := true) (wh := .n) (.inl ⟨rfl, rfl⟩) _ _ (hst .n) (hk .n)
  simp only [sp] at h1 h2
  unfold checkE
  rw [h1]
  simp only [h2]

/-- A new memory is in order. -/
theorem Inv.new {shapes : List (List Bool)} (h1 : shapes.length ≤ 60) (h2 : ∀ l ∈ shapes, l.length ≤ 60) (hy : 0 < Y) (hh : 0 < H) (hy2 : Y ≤ 1024) (hh2 : H ≤ 4096) : Inv (newM shapes H Y) Y H := by
  have hno : ∀ f n a, (Sp.fresh f n).begins a = false := fun f n a => by
    cases hq : (Sp.fresh f n).begins a with
    | false => rfl
    | true => obtain ⟨i, _, hi, _⟩ := Sp.begins_iff.1 hq; simp [Sp.fresh] at hi
  have hob : ∀ wh a l, ¬ (newM shapes H Y).ob wh a l := fun wh a l q => by
    have := q.1
    cases wh
    · have e := hno 1 Y a; rw [show (Sp.fresh 1 Y).begins a = true from this] at e; cases e
    · have e := hno (1 + Y) H a; rw [show (Sp.fresh (1 + Y) H).begins a = true from this] at e; cases e
    · have e := hno (1 + Y + H) H a; rw [show (Sp.fresh (1 + Y + H) H).begins a = true from this] at e; cases e
  refine ⟨⟨rfl, by simp [newM, Sp.fresh], by simp [newM, Sp.fresh], by simp [newM, Sp.fresh], .inl ⟨rfl, rfl⟩, hy, hh, hy2, hh2⟩, Tl.fresh _ _ _, Tl.fresh _ _ _, Tl.fresh _ _ _, h1, h2, fun _ => ⟨rfl, rfl, rfl⟩, ?_, ?_, ?_, ?_, (fun k q => by cases q), List.nodup_nil, (fun q => by cases q), by simp [newM], (fun a t q => by cases q), rfl, by simp [newM, Sp.fresh]⟩
  · rintro a i ⟨l, q, _⟩; exact absurd q (hob _ _ _)
  · rintro a i ⟨l, q, _⟩; exact absurd q (hob _ _ _)
  · rintro a i ⟨l, q, _⟩; exact absurd q (hob _ _ _)
  · rintro a i ⟨l, q, _⟩; exact absurd q (hob _ _ _)
end Mem
end Go.Proofs.Hp
