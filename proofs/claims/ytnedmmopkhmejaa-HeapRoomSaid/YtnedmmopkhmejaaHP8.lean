/- Plain: 'minor': what it leaves. -/
import Derived.Test.YtnedmmopkhmejaaHP7
namespace Go.Proofs.Hp
namespace Mem
variable {m0 m m' : Mem} {Y H : Nat} {y : Bool}

/-- What a word that refers is: as it was, or forwarded out of the young space. -/
def Fw (m0 m : Mem) (C : List Int) (P : Int → Prop) (p v w : Int) : Prop :=
  (w = v ∧ (m0.young.begins v = true → P p ∧ v ∈ C)) ∨ (m0.young.begins v = true ∧ m.look v = some w)

/-- A state on the way of 'minor', that began at m0 with no new addresses; P: the places that may still hold a young address. -/
structure Mi (m0 m : Mem) (C : List Int) (P : Int → Prop) : Prop where
  young : m.young = m0.young
  other : m.other = m0.other
  shapes : m.shapes = m0.shapes
  known : m.known = m0.known
  busy : m.busy = m0.busy
  scan : m.scan = m0.scan
  left : m.left = m0.left
  frm : m.now.frm = m0.now.frm
  len : m.now.words.length = m0.now.words.length
  tn : Tl m0.shapes m.now
  used : m.now.used = m0.now.used + sumOf m0.szY (m.moved.map Prod.fst)
  md : (m.moved.map Prod.fst).Nodup
  key : ∀ a, m.look a = none ↔ a ∉ m.moved.map Prod.fst
  mv : ∀ c t, m.look c = some t → m0.young.begins c = true ∧ c ∈ C ∧ m0.now.top ≤ t ∧ m.now.get t = m0.young.get c ∧ ∀ l, m0.ob .y c l → m.ob .n t l ∧
    ∀ (i : Nat) (r : Bool), l[i]? = some r → (r = false → m.fld .n t i = m0.fld .y c i) ∧ (r = true → Fw m0 m C P (t + 1 + (i : Int)) (m0.fld .y c i) (m.fld .n t i))
  old : ∀ b l, m0.ob .n b l → m.ob .n b l ∧ m.now.get b = m0.now.get b ∧
    ∀ (i : Nat) (r : Bool), l[i]? = some r → (r = false → m.fld .n b i = m0.fld .n b i) ∧ (r = true → Fw m0 m C P (b + 1 + (i : Int)) (m0.fld .n b i) (m.fld .n b i))
  inv : ∀ b l, m.ob .n b l → m0.ob .n b l ∨ ∃ c, m.look c = some b ∧ m0.ob .y c l
  inj : ∀ c c' t, m.look c = some t → m.look c' = some t → c = c'

theorem keys_look : ∀ (mv : List (Int × Int)) (a : Int), mv.lookup a = none ↔ a ∉ mv.map Prod.fst
  | [], a => by simp
  | (x, t) :: mv, a => by
    have ih := keys_look mv a
    rw [List.lookup_cons]
    by_cases e : a = x
    · subst e; simp
    · have : (a == x) = false := by simpa using e
      simp only [this]
      rw [ih]; simp [e]

theorem Mi.start (h : Inv m0 Y H) (C : List Int) (P : Int → Prop) (hk : ∀ k ∈ m0.known, m0.young.begins (m0.now.get (k.1 + 1 + k.2)) = true → P (k.1 + 1 + k.2) ∧ m0.now.get (k.1 + 1 + k.2) ∈ C) :
    Mi m0 { m0 with moved := [] } C P := by
  refine ⟨rfl, rfl, rfl, rfl, rfl, rfl, rfl, rfl, rfl, h.tn, by simp [sumOf], by simp, fun a => by simp [look], fun c t q => by simp [look] at q, fun b l hb => ⟨hb, rfl, fun i r hr => ⟨fun _ => rfl, fun e => .inl ⟨rfl, fun hy => ?_⟩⟩⟩, fun b l hb => .inl hb, fun c c' t q => by simp [look] at q⟩
  subst e
  exact hk _ (h.kn b i ⟨l, hb, hr⟩ hy) hy

theorem Mi.toFw {C : List Int} {P P' : Int → Prop} {p v w : Int} (h : Fw m0 m C P p v w) (hm : ∀ c t, m.look c = some t → m'.look c = some t) (hP : P p → P' p) : Fw m0 m' C P' p v w := by
  rcases h with ⟨h1, h2⟩ | ⟨h1, h2⟩
  · exact .inl ⟨h1, fun q => ⟨hP (h2 q).1, (h2 q).2⟩⟩
  · exact .inr ⟨h1, hm _ _ h2⟩

theorem Mi.mono {C : List Int} {P P' : Int → Prop} (h : Mi m0 m C P) (hP : ∀ b i, m.rf .n b i → P (b + 1 + (i : Int)) → P' (b + 1 + (i : Int))) : Mi m0 m C P' := by
  refine ⟨h.young, h.other, h.shapes, h.known, h.busy, h.scan, h.left, h.frm, h.len, h.tn, h.used, h.md, h.key, fun c t q => ?_, fun b l hb => ?_, h.inv, h.inj⟩
  · obtain ⟨h1, h2, h3, h4, h5⟩ := h.mv c t q
    refine ⟨h1, h2, h3, h4, fun l hl => ?_⟩
    obtain ⟨g1, g2⟩ := h5 l hl
    exact ⟨g1, fun i r hr => ⟨(g2 i r hr).1, fun e => Mi.toFw ((g2 i r hr).2 e) (fun _ _ q => q) (hP _ _ ⟨l, g1, by rw [← e]; exact hr⟩)⟩⟩
  · obtain ⟨g0, g1, g2⟩ := h.old b l hb
    exact ⟨g0, g1, fun i r hr => ⟨(g2 i r hr).1, fun e => Mi.toFw ((g2 i r hr).2 e) (fun _ _ q => q) (hP _ _ ⟨l, g0, by rw [← e]; exact hr⟩)⟩⟩

theorem Mi.tl {C : List Int} {P : Int → Prop} (h : Mi m0 m C P) (hI : Inv m0 Y H) : m.Tiled := fun wh => by
  rw [h.shapes]
  cases wh with
  | y => show Tl _ m.young; rw [h.young]; exact hI.ty
  | n => exact h.tn
  | o => show Tl _ m.other; rw [h.other]; exact hI.to

theorem Mi.oby {C : List Int} {P : Int → Prop} (h : Mi m0 m C P) {a : Int} {l : List Bool} : m.ob .y a l ↔ m0.ob .y a l := by simp only [Mem.ob, sp, h.young, h.shapes]

/-- There is room for a young object that is not moved. -/
theorem Mi.room {C : List Int} {P : Int → Prop} (h : Mi m0 m C P) (hC : Closed m0 C) (hr : (m0.now.used : Int) + (sumOf m0.szY C : Int) ≤ (m0.now.words.length : Int)) {c : Int} (hc : c ∈ C) (hn : m.look c = none) :
    m.now.used + m0.szY c ≤ m.now.words.length := by
  have h1 : (m.moved.map Prod.fst ++ [c]).Nodup := nodup_snoc h.md ((h.key c).1 hn)
  have h2 := sumOf_le m0.szY _ C h1 fun x hx => by
    rcases List.mem_append.1 hx with q | q
    · have : m.look x ≠ none := fun e => (h.key x).1 e q
      obtain ⟨t, ht⟩ := Option.ne_none_iff_exists'.1 this
      exact (h.mv x t ht).2.1
    · simp only [List.mem_singleton] at q; subst q; exact hc
  rw [sumOf_snoc] at h2
  rw [h.used, h.len]
  omega

/-- An address of 'young' is forwarded. -/
theorem Mi.fwd {C : List Int} {P : Int → Prop} (h : Mi m0 m C P) (hI : Inv m0 Y H) (hC : Closed m0 C) (hr : (m0.now.used : Int) + (sumOf m0.szY C : Int) ≤ (m0.now.words.length : Int))
    (hP : ∀ p, m.now.top ≤ p → P p) {v : Int} (hv : m0.young.begins v = true → v ∈ C) :
    ∃ m' t, m.forward true v = some (m', t) ∧ Mi m0 m' C P ∧ Ext m m' ∧ ((m0.young.begins v = false ∧ t = v) ∨ (m0.young.begins v = true ∧ m'.look v = some t)) := by
  have hty : Tl m.shapes (m.sp (src true)) := h.tl hI .y
  obtain ⟨m', t, hf, hR⟩ := forward_of (m := m) (y := true) (a := v) hty fun l hob hn => by
    have hob' := h.oby.1 hob
    have := h.room hC hr (hv hob'.1) hn
    rw [szY_of hob'] at this
    exact ⟨this, .inl rfl⟩
  refine ⟨m', t, hf, ?_⟩
  cases hR with
  | no hb => exact ⟨h, Ext.refl _, .inl ⟨by rw [← h.young]; exact hb, rfl⟩⟩
  | had t hb hl => exact ⟨h, Ext.refl _, .inr ⟨by rw [← h.young]; exact hb, hl⟩⟩
  | new l hob hn hrm _ =>
    have hM := moved_of (y := true) hty (h.tl hI .n) hob hn hrm
    have hE := hM.ext hn
    have hmoved : (m.move true v (l.length + 1)).moved = m.moved ++ [(v, m.now.top)] := rfl
    replace hob : m.ob .y v l := hob
    generalize m.move true v (l.length + 1) = m' at *
    have hob0 := h.oby.1 hob
    have hvy := hob0.1
    simp only [sp] at hvy
    have htop : m'.now.top = m.now.top + ((l.length + 1 : Nat) : Int) := by unfold Sp.top; rw [hM.used, hM.frm]; push_cast; omega
    have hsrc : m.sp (src true) = m0.young := h.young
    have hnew := hM.new
    rw [hsrc] at hnew
    have htl := h.tl hI .n
    have hlk : ∀ c t, m.look c = some t → m'.look c = some t := hE.moved
    have hltop : ∀ b l', m.ob .n b l' → b + 1 + (l'.length : Int) ≤ m.now.top ∧ (m.now.frm : Int) ≤ b := fun b l' q => ⟨(htl.bound q).2, (htl.bound q).1⟩
    have hfo : ∀ b l' i, m.ob .n b l' → i < l'.length → m'.fld .n b i = m.fld .n b i := fun b l' i q hi => by
      have := hltop b l' q
      exact hM.old _ (by omega) (by omega)
    have hho : ∀ b l', m.ob .n b l' → m'.now.get b = m.now.get b := fun b l' q => by
      have := hltop b l' q
      exact hM.old _ (by omega) (by omega)
    refine ⟨⟨hM.young.trans h.young, hM.other.trans h.other, hM.shapes.trans h.shapes, hM.known.trans h.known, hM.busy.trans h.busy, hM.scan.trans h.scan, ?_, hM.frm.trans h.frm, hM.len.trans h.len, by rw [← h.shapes]; exact hM.tl, ?_, ?_, fun a => keys_look _ a, ?_, ?_, ?_, ?_⟩, hE, .inr ⟨hvy, by rw [hM.look, if_pos rfl]⟩⟩
    · have := hM.left; simp only [if_true] at this; rw [this]; exact h.left
    · rw [hM.used, hmoved, List.map_append, List.map_cons, List.map_nil, sumOf_snoc, szY_of hob0, h.used]; omega
    · rw [hmoved, List.map_append]; exact nodup_snoc h.md ((h.key v).1 hn)
    · intro c t hct
      rw [hM.look] at hct
      by_cases e : c = v
      · subst e
        rw [if_pos rfl] at hct
        cases hct
        refine ⟨hvy, hv hvy, ?_, ?_, fun l' hl' => ?_⟩
        · unfold Sp.top; rw [h.frm, h.used]; omega
        · have := hnew 0 (by omega); simpa using this
        · have e := ob_len hob0 hl'; subst e
          have hf : ∀ i : Nat, i < l.length → m'.fld .n m.now.top i = m0.fld .y c i := fun i hi => by
            have := hnew (i + 1) (by omega)
            show m'.now.get (m.now.top + 1 + (i : Int)) = m0.young.get (c + 1 + (i : Int))
            rw [show m.now.top + 1 + (i : Int) = m.now.top + ((i + 1 : Nat) : Int) by push_cast; omega, this]
            congr 1; push_cast; omega
          refine ⟨by unfold Mem.ob; rw [hM.shapes]; exact hM.obNew, fun i r hr => ⟨fun _ => hf i (getElem_lt hr), fun e => .inl ⟨hf i (getElem_lt hr), fun hyb => ⟨hP _ (by omega), ?_⟩⟩⟩⟩
          subst e
          exact hC.cl c (hv hvy) i ⟨l, hob0, hr⟩ hyb
      · rw [if_neg e] at hct
        obtain ⟨h1, h2, h3, h4, h5⟩ := h.mv c t hct
        obtain ⟨lc, hlc⟩ := hI.ty.shape h1
        have g0 := (h5 lc hlc).1
        refine ⟨h1, h2, h3, by rw [hho t lc g0]; exact h4, fun l' hl' => ?_⟩
        obtain ⟨g1, g2⟩ := h5 l' hl'
        refine ⟨hE.sp_ob g1, fun i r hr => ?_⟩
        rw [hfo _ _ _ g1 (getElem_lt hr)]
        exact ⟨(g2 i r hr).1, fun e => Mi.toFw ((g2 i r hr).2 e) hlk id⟩
    · intro b l' hb
      obtain ⟨g0, g1, g2⟩ := h.old b l' hb
      refine ⟨hE.sp_ob g0, by rw [hho _ _ g0]; exact g1, fun i r hr => ?_⟩
      rw [hfo _ _ _ g0 (getElem_lt hr)]
      exact ⟨(g2 i r hr).1, fun e => Mi.toFw ((g2 i r hr).2 e) hlk id⟩
    · intro b l' hb
      have hb' : m'.now.ob m.shapes b l' := by have := hb; unfold Mem.ob at this; rw [hM.shapes] at this; exact this
      rcases hM.obInv b l' hb' with q | ⟨rfl, rfl⟩
      · rcases h.inv b l' q with g | ⟨c, g1, g2⟩
        · exact .inl g
        · exact .inr ⟨c, hlk _ _ g1, g2⟩
      · exact .inr ⟨v, by rw [hM.look, if_pos rfl], hob0⟩
    · have hlt : ∀ c t, m.look c = some t → t < m.now.top := fun c t q => by
        obtain ⟨h1, _, _, _, h5⟩ := h.mv c t q
        obtain ⟨lc, hlc⟩ := hI.ty.shape h1
        have := hltop _ _ (h5 lc hlc).1
        omega
      intro c c' t h1 h2
      rw [hM.look] at h1 h2
      by_cases e1 : c = v <;> by_cases e2 : c' = v
      · rw [e1, e2]
      · rw [if_pos e1] at h1; rw [if_neg e2] at h2; cases h1; have := hlt _ _ h2; omega
      · rw [if_neg e1] at h1; rw [if_pos e2] at h2; cases h2; have := hlt _ _ h1; omega
      · rw [if_neg e1] at h1; rw [if_neg e2] at h2; exact h.inj _ _ _ h1 h2

/-- 'forward' at a field of the present half: the place may no longer hold a young address. -/
theorem Mi.fwdIn {C : List Int} {P P' : Int → Prop} (h : Mi m0 m C P) (hI : Inv m0 Y H) (hC : Closed m0 C) (hr : (m0.now.used : Int) + (sumOf m0.szY C : Int) ≤ (m0.now.words.length : Int))
    (hP : ∀ p, m.now.top ≤ p → P p) {b : Int} {j : Nat} (hrf : m.rf .n b j) (hP' : ∀ p, P p → p ≠ b + 1 + (j : Int) → P' p) :
    ∃ m', m.fwdIn true .n (b + 1 + (j : Int)) = some m' ∧ Mi m0 m' C P' ∧ m.now.top ≤ m'.now.top ∧ (∀ a l, m.ob .n a l → m'.ob .n a l) ∧ (∀ c t, m.look c = some t → m'.look c = some t) := by
  obtain ⟨lb, hob, hlb⟩ := hrf
  have hj := getElem_lt hlb
  -- what the word holds
  have hw : m0.young.begins (m.fld .n b j) = true → m.fld .n b j ∈ C := by
    have hFw : ∀ v, Fw m0 m C P (b + 1 + (j : Int)) v (m.fld .n b j) → m0.young.begins (m.fld .n b j) = true → m.fld .n b j ∈ C := by
      intro v hf hy
      rcases hf with ⟨g1, g2⟩ | ⟨_, g2⟩
      · rw [g1]; rw [g1] at hy; exact (g2 hy).2
      · exfalso
        obtain ⟨h1, _, h3, _, h5⟩ := h.mv _ _ g2
        obtain ⟨lc, hlc⟩ := hI.ty.shape h1
        have hb := (h.tl hI .n).bound (h5 lc hlc).1
        obtain ⟨i, e, hi, _⟩ := Sp.begins_iff.1 hy
        have q1 := hI.geo.yf
        have q2 := hI.geo.yl
        have q3 := hI.geo.nf
        have q4 := hI.ty.le
        have q5 := h.frm
        simp only [sp] at hb
        omega
    rcases h.inv b lb hob with q | ⟨c, q1, q2⟩
    · exact hFw _ (((h.old b lb q).2.2 j true hlb).2 rfl)
    · exact hFw _ ((((h.mv c b q1).2.2.2.2 lb q2).2 j true hlb).2 rfl)
  obtain ⟨m1, t, hf, hMi, hE, hcase⟩ := h.fwd hI hC hr hP hw
  have hob1 := hE.sp_ob hob
  have htl1 := hMi.tl hI
  have hs := Mem.setd m1 .n b j t
  have hfi : m.fwdIn true .n (b + 1 + (j : Int)) = some (m1.setSp ((m1.sp .n).put (b + 1 + (j : Int)) t) .n) := by
    unfold Mem.fwdIn
    rw [if_pos (has_field (h.tl hI) hob hj).1]
    have : m.forward true ((m.sp .n).get (b + 1 + (j : Int))) = some (m1, t) := hf
    rw [this]
  generalize m1.setSp ((m1.sp .n).put (b + 1 + (j : Int)) t) .n = m' at *
  obtain ⟨e1, e2, e3, e4, e5, e6⟩ := hs.rest
  have gn := hs.geoms .n
  have gy := hs.sp .y
  have go := hs.sp .o
  rw [if_neg (by simp)] at gy go
  simp only [sp] at gn gy go
  have hlook : ∀ c, m'.look c = m1.look c := fun c => by unfold look; rw [e5]
  have hob' : ∀ a l, m'.ob .n a l ↔ m1.ob .n a l := fun a l => hs.ob htl1 hob1 hj .n a l
  have hhead : ∀ a l, m1.ob .n a l → m'.now.get a = m1.now.get a := fun a l ha => by
    have hb := (htl1 .n).bound ha
    have := hs.get htl1 hob1 hj .n (p := a) hb.1
    rw [if_neg] at this
    · exact this
    · rintro ⟨_, e⟩
      have hb1 := (htl1 .n).bound hob1
      have := (htl1 .n).apart hob1 ha.1 (by omega)
      omega
  -- a field's word behind the store
  have hfld : ∀ a l i r (v : Int), m1.ob .n a l → l[i]? = some r → ((r = false → m1.fld .n a i = v) ∧ (r = true → Fw m0 m1 C P (a + 1 + (i : Int)) v (m1.fld .n a i))) →
      (r = false → m'.fld .n a i = v) ∧ (r = true → Fw m0 m' C P' (a + 1 + (i : Int)) v (m'.fld .n a i)) := by
    intro a l i r v ha hr ⟨k1, k2⟩
    have hf := hs.fld htl1 hob1 hj .n ha (getElem_lt hr)
    by_cases e : a = b ∧ i = j
    · obtain ⟨rfl, rfl⟩ := e
      rw [if_pos ⟨rfl, rfl, rfl⟩] at hf
      have e := ob_len ha hob1; subst e
      rw [hlb] at hr; cases hr
      refine ⟨(fun q => by cases q), fun _ => ?_⟩
      rw [hf]
      -- the word that was forwarded is that of m: the same as in m1
      have hsame : m1.fld .n a i = m.fld .n a i := hE.sp_get (h.tl hI) hob hj
      have k2' := k2 rfl
      rw [hsame] at k2'
      rcases hcase with ⟨c1, c2⟩ | ⟨c1, c2⟩
      · rw [c2]
        rcases k2' with ⟨g1, g2⟩ | ⟨g1, g2⟩
        · exact .inl ⟨g1, fun q => by rw [← g1, c1] at q; cases q⟩
        · exact .inr ⟨g1, by rw [hlook]; exact g2⟩
      · rcases k2' with ⟨g1, g2⟩ | ⟨g1, g2⟩
        · rw [g1] at c1 c2; exact .inr ⟨c1, by rw [hlook]; exact c2⟩
        · exfalso
          obtain ⟨h1, _, h3, _, h5⟩ := hMi.mv _ _ g2
          obtain ⟨lc, hlc⟩ := hI.ty.shape h1
          have hb := (htl1 .n).bound (h5 lc hlc).1
          obtain ⟨i', e, hi, _⟩ := Sp.begins_iff.1 c1
          have q1 := hI.geo.yf
          have q2 := hI.geo.yl
          have q3 := hI.geo.nf
          have q4 := hI.ty.le
          have q5 := hMi.frm
          simp only [sp] at hb
          omega
    · rw [if_neg (fun q => e q.2)] at hf
      rw [hf]
      refine ⟨k1, fun q => Mi.toFw (k2 q) (fun c t g => by rw [hlook]; exact g) fun g => hP' _ g fun e3 => ?_⟩
      exact e (field_at (htl1 .n) ha hob1 (getElem_lt hr) hj e3)
  refine ⟨m', hfi, ⟨gy.trans hMi.young, go.trans hMi.other, e1.trans hMi.shapes, e2.trans hMi.known, e3.trans hMi.busy, e4.trans hMi.scan, e6.trans hMi.left, gn.1.trans hMi.frm, gn.2.2.1.trans hMi.len, ?_, ?_, ?_, ?_, ?_, ?_, ?_, ?_⟩, ?_, fun a l q => (hob' a l).2 (hE.ob a l q), fun c t q => by rw [hlook]; exact hE.moved c t q⟩
  · have := hs.tiled htl1 hob1 hj .n; rw [e1, hMi.shapes] at this; exact this
  · rw [gn.2.1, e5]; exact hMi.used
  · rw [e5]; exact hMi.md
  · intro a; rw [hlook, e5]; exact hMi.key a
  · intro c t' hct
    rw [hlook] at hct
    obtain ⟨h1, h2, h3, h4, h5⟩ := hMi.mv c t' hct
    obtain ⟨lc, hlc⟩ := hI.ty.shape h1
    refine ⟨h1, h2, h3, by rw [hhead _ _ (h5 lc hlc).1]; exact h4, fun l hl => ?_⟩
    obtain ⟨g1, g2⟩ := h5 l hl
    exact ⟨(hob' _ _).2 g1, fun i r hr => hfld _ _ _ _ _ g1 hr (g2 i r hr)⟩
  · intro a l ha
    obtain ⟨g0, g1, g2⟩ := hMi.old a l ha
    exact ⟨(hob' _ _).2 g0, by rw [hhead _ _ g0]; exact g1, fun i r hr => hfld _ _ _ _ _ g0 hr (g2 i r hr)⟩
  · intro a l ha
    rcases hMi.inv a l ((hob' _ _).1 ha) with q | ⟨c, q1, q2⟩
    · exact .inl q
    · exact .inr ⟨c, by rw [hlook]; exact q1, q2⟩
  · intro c c' t' q1 q2
    rw [hlook] at q1 q2
    exact hMi.inj _ _ _ q1 q2
  · unfold Sp.top; rw [gn.1, gn.2.1]; have := hE.used; have := hE.frm; omega
end Mem
end Go.Proofs.Hp
