/- Plain: 'minor' answers, and what it leaves. -/
import Derived.Test.YtnedmmopkhmejaaHP8
namespace Go.Proofs.Hp
namespace Mem
variable {m0 m m' : Mem} {Y H : Nat} {y : Bool}

/-- What a reference becomes. -/
def Rel (m0 : Mem) (lk : Int → Option Int) (v w : Int) : Prop := (m0.young.begins v = false ∧ w = v) ∨ (m0.young.begins v = true ∧ lk v = some w)

def Outs (m0 : Mem) (lk : Int → Option Int) (rs out : List Int) : Prop := out.length = rs.length ∧ ∀ (i : Nat) (r t : Int), rs[i]? = some r → out[i]? = some t → Rel m0 lk r t
theorem Outs.mono {lk lk' : Int → Option Int} {rs out : List Int} (h : Outs m0 lk rs out) (hl : ∀ c t, lk c = some t → lk' c = some t) : Outs m0 lk' rs out :=
  ⟨h.1, fun i r t q1 q2 => (h.2 i r t q1 q2).imp id fun q => ⟨q.1, hl _ _ q.2⟩⟩

theorem Mi.top_le {C : List Int} {P : Int → Prop} (h : Mi m0 m C P) : m0.now.top ≤ m.now.top := by unfold Sp.top; rw [h.frm, h.used]; push_cast; omega

theorem Mi.fwdAll {C : List Int} {P : Int → Prop} (hI : Inv m0 Y H) (hC : Closed m0 C) (hr : (m0.now.used : Int) + (sumOf m0.szY C : Int) ≤ (m0.now.words.length : Int)) (hP : ∀ p, m0.now.top ≤ p → P p) :
    ∀ (rs : List Int) {m : Mem}, Mi m0 m C P → (∀ r ∈ rs, m0.young.begins r = true → r ∈ C) →
    ∃ out m', Mem.fwdAll true m rs = some (out, m') ∧ Mi m0 m' C P ∧ Outs m0 m'.look rs out ∧ (∀ c t, m.look c = some t → m'.look c = some t)
  | [], m, h, _ => ⟨[], m, rfl, h, ⟨rfl, fun i r t q => by simp at q⟩, fun _ _ q => q⟩
  | r :: rs, m, h, hv => by
    obtain ⟨m1, t, h1, h2, h3, h4⟩ := h.fwd hI hC hr (fun p hp => hP p (by have := h.top_le; omega)) (hv r (by simp))
    obtain ⟨out, m2, g1, g2, g3, g4⟩ := Mi.fwdAll hI hC hr hP rs h2 fun x hx => hv x (by simp [hx])
    refine ⟨t :: out, m2, ?_, g2, ⟨by simp [g3.1], fun i r' t' q1 q2 => ?_⟩, fun c t q => g4 _ _ (h3.moved _ _ q)⟩
    · unfold Mem.fwdAll; rw [h1]; simp only [g1]
    · cases i with
      | zero =>
        simp only [List.getElem?_cons_zero, Option.some.injEq] at q1 q2
        subst q1 q2
        exact h4.imp id fun q => ⟨q.1, g4 _ _ q.2⟩
      | succ i => exact g3.2 i r' t' (by simpa using q1) (by simpa using q2)

/-- The places of remembered fields, and those of new objects. -/
def PK (m0 : Mem) (ks : List (Int × Int)) (p : Int) : Prop := m0.now.top ≤ p ∨ ∃ k ∈ ks, p = k.1 + 1 + k.2

theorem Mi.fwdKnown {C : List Int} (hI : Inv m0 Y H) (hC : Closed m0 C) (hr : (m0.now.used : Int) + (sumOf m0.szY C : Int) ≤ (m0.now.words.length : Int)) :
    ∀ (ks : List (Int × Int)) {m : Mem}, Mi m0 m C (PK m0 ks) → (∀ k ∈ ks, k ∈ m0.known) →
    ∃ m', Mem.fwdKnown m ks = some m' ∧ Mi m0 m' C (fun p => m0.now.top ≤ p) ∧ (∀ c t, m.look c = some t → m'.look c = some t)
  | [], m, h, _ => ⟨m, rfl, h.mono fun b i _ q => by rcases q with q | ⟨k, hk, _⟩; exact q; simp at hk, fun _ _ q => q⟩
  | k :: ks, m, h, hk => by
    obtain ⟨i, e, l, o1, o2⟩ := hI.kv k (hk k (by simp))
    have hrf : m.rf .n k.1 i := ⟨l, (h.old _ _ o1).1, o2⟩
    obtain ⟨m1, h1, h2, h3, h4, h5⟩ := h.fwdIn hI hC hr (fun p hp => .inl (by have := h.top_le; omega)) hrf (P' := PK m0 ks) fun p hp hne => by
      rcases hp with q | ⟨k', hk', q⟩
      · exact .inl q
      · rcases List.mem_cons.1 hk' with rfl | g
        · rw [e] at q; exact absurd q hne
        · exact .inr ⟨k', g, q⟩
    obtain ⟨m2, g1, g2, g3⟩ := Mi.fwdKnown hI hC hr ks h2 fun x hx => hk x (by simp [hx])
    refine ⟨m2, ?_, g2, fun c t q => g3 _ _ (h5 _ _ q)⟩
    unfold Mem.fwdKnown; rw [e, h1]; exact g1

theorem Mi.scanFields {C : List Int} (hI : Inv m0 Y H) (hC : Closed m0 C) (hr : (m0.now.used : Int) + (sumOf m0.szY C : Int) ≤ (m0.now.words.length : Int)) {a : Int} {l : List Bool} :
    ∀ (bs : List Bool) (i : Nat) {m : Mem}, l.drop i = bs → Mi m0 m C (fun p => a + 1 + (i : Int) ≤ p) → m.ob .n a l →
    ∃ m', Mem.scanFields m a bs (i : Int) = some m' ∧ Mi m0 m' C (fun p => a + 1 + (l.length : Int) ≤ p) ∧ m'.ob .n a l ∧ m.now.top ≤ m'.now.top ∧ (∀ c t, m.look c = some t → m'.look c = some t)
  | [], i, m, hd, h, ho => by
    have hi : l.length ≤ i := by rcases Nat.lt_or_ge i l.length with q | q; rw [List.drop_eq_getElem_cons q] at hd; cases hd; exact q
    exact ⟨m, rfl, h.mono fun b j _ q => by omega, ho, Int.le_refl _, fun _ _ q => q⟩
  | b :: bs, i, m, hd, h, ho => by
    have hi : i < l.length := by
      rcases Nat.lt_or_ge i l.length with q | q
      · exact q
      · rw [List.drop_of_length_le q] at hd; cases hd
    rw [List.drop_eq_getElem_cons hi] at hd
    simp only [List.cons.injEq] at hd
    obtain ⟨hb, hd⟩ := hd
    have htl := h.tl hI
    have hbd := (htl .n).bound ho
    have hlb : l[i]? = some b := by rw [List.getElem?_eq_getElem hi, hb]
    unfold Mem.scanFields
    cases b with
    | false =>
      have h' : Mi m0 m C (fun p => a + 1 + ((i + 1 : Nat) : Int) ≤ p) := h.mono fun c j hrf q => by
        obtain ⟨lc, k1, k2⟩ := hrf
        by_cases e : c + 1 + (j : Int) = a + 1 + (i : Int)
        · obtain ⟨rfl, rfl⟩ := field_at (htl .n) k1 ho (getElem_lt k2) hi e
          rw [ob_len k1 ho, hlb] at k2; cases k2
        · push_cast; omega
      exact Mi.scanFields hI hC hr bs (i + 1) hd h' ho
    | true =>
      obtain ⟨m1, h1, h2, h3, h4, h5⟩ := h.fwdIn hI hC hr (fun p hp => by simp only [sp] at hbd; omega) ⟨l, ho, hlb⟩ (P' := fun p => a + 1 + ((i + 1 : Nat) : Int) ≤ p) fun p hp hne => by push_cast; omega
      obtain ⟨m2, g1, g2, g3, g4, g5⟩ := Mi.scanFields hI hC hr bs (i + 1) hd h2 (h4 _ _ ho)
      refine ⟨m2, ?_, g2, g3, by omega, fun c t q => g5 _ _ (h5 _ _ q)⟩
      rw [if_pos rfl, h1]; exact g1

theorem Mi.scanAll {C : List Int} (hI : Inv m0 Y H) (hC : Closed m0 C) (hr : (m0.now.used : Int) + (sumOf m0.szY C : Int) ≤ (m0.now.words.length : Int)) :
    ∀ (k : Nat) (a : Int) {m : Mem}, Mi m0 m C (fun p => a ≤ p) → (a = m.now.top ∨ m.now.begins a = true) → ((m0.now.frm : Int) + (m0.now.words.length : Int) + 1 ≤ (k : Int) + a) → 0 < k →
    ∃ m', Mem.scanAll k m a = some m' ∧ Mi m0 m' C (fun _ => False) ∧ (∀ c t, m.look c = some t → m'.look c = some t)
  | 0, a, m, _, _, _, h0 => by omega
  | k + 1, a, m, h, ha, hk, _ => by
    unfold Mem.scanAll
    have htl := h.tl hI
    have htop := (htl .n).topLe
    have hfr := h.frm
    have hln := h.len
    simp only [sp] at htop
    by_cases hlt : a < m.now.top
    · rw [if_pos hlt]
      have hbg : m.now.begins a = true := by rcases ha with q | q; omega; exact q
      obtain ⟨l, hob⟩ := (htl .n).shape hbg
      replace hob : m.ob .n a l := hob
      have hfl := (htl .n).fields hob (m := m) rfl
      simp only [sp] at hfl
      simp only [hfl]
      have h' : Mi m0 m C (fun p => a + 1 + ((0 : Nat) : Int) ≤ p) := h.mono fun c j hrf q => by
        obtain ⟨lc, k1, k2⟩ := hrf
        have hj := getElem_lt k2
        by_cases e : c + 1 + (j : Int) = a
        · have := (htl .n).apart k1 hob.1 (by omega); omega
        · simp only [Int.natCast_zero]; omega
      obtain ⟨m1, g1, g2, g3, g4, g5⟩ := Mi.scanFields hI hC hr l 0 (by simp) h' hob
      simp only [Int.natCast_zero] at g1
      simp only [g1]
      have htl1 := g2.tl hI
      have hsz := (htl1 .n).size g3 (m := m1) rfl
      simp only [sp] at hsz
      simp only [hsz]
      have hbd1 := (htl1 .n).bound g3
      simp only [sp] at hbd1
      have hnext : a + ((l.length + 1 : Nat) : Int) = m1.now.top ∨ m1.now.begins (a + ((l.length + 1 : Nat) : Int)) = true := by
        by_cases e : a + 1 + (l.length : Int) < m1.now.top
        · right
          have := (htl1 .n).next g3 e
          rw [show a + ((l.length + 1 : Nat) : Int) = a + 1 + (l.length : Int) by push_cast; omega]; exact this
        · left; push_cast; omega
      obtain ⟨m2, q1, q2, q3⟩ := Mi.scanAll hI hC hr k (a + ((l.length + 1 : Nat) : Int)) (g2.mono fun c j _ q => by push_cast; omega) hnext (by push_cast; omega) (by
        have h1 := (htl .n).bound hob
        simp only [sp] at h1
        omega)
      exact ⟨m2, q1, q2, fun c t q => q3 _ _ (g5 _ _ q)⟩
    · rw [if_neg hlt]
      have hge : m.now.top ≤ a := by omega
      refine ⟨m, rfl, h.mono fun c j hrf q => ?_, fun _ _ q => q⟩
      obtain ⟨lc, k1, k2⟩ := hrf
      have hj := getElem_lt k2
      have := (htl .n).bound k1
      simp only [sp] at this
      omega

/-- What 'minor' leaves. -/
structure Post (m0 m' : Mem) (lk : Int → Option Int) : Prop where
  young : m'.young = m0.young.empty
  other : m'.other = m0.other
  shapes : m'.shapes = m0.shapes
  known : m'.known = []
  busy : m'.busy = m0.busy
  scan : m'.scan = m0.scan
  left : m'.left = m0.left
  moved : m'.moved = m0.moved
  frm : m'.now.frm = m0.now.frm
  used : m0.now.used ≤ m'.now.used
  mv : ∀ c t, lk c = some t → m0.young.begins c = true ∧ m0.now.top ≤ t ∧ m'.now.get t = m0.young.get c ∧ ∀ l, m0.ob .y c l → m'.ob .n t l ∧
    ∀ (i : Nat) (r : Bool), l[i]? = some r → (r = false → m'.fld .n t i = m0.fld .y c i) ∧ (r = true → Rel m0 lk (m0.fld .y c i) (m'.fld .n t i))
  old : ∀ b l, m0.ob .n b l → m'.ob .n b l ∧ m'.now.get b = m0.now.get b ∧
    ∀ (i : Nat) (r : Bool), l[i]? = some r → (r = false → m'.fld .n b i = m0.fld .n b i) ∧ (r = true → Rel m0 lk (m0.fld .n b i) (m'.fld .n b i))
  inv : ∀ b l, m'.ob .n b l → m0.ob .n b l ∨ ∃ c, lk c = some b ∧ m0.ob .y c l
  inj : ∀ c c' t, lk c = some t → lk c' = some t → c = c'

theorem Inv.minor (h : Inv m0 Y H) (roots : List Int) {C : List Int} (hC : Closed m0 C) (hr : (sumOf m0.szY C : Int) ≤ m0.now.room - m0.left) (h1 : ∀ r ∈ roots, m0.young.begins r = true → r ∈ C)
    (h2 : ∀ k ∈ m0.known, m0.young.begins (m0.now.get (k.1 + 1 + k.2)) = true → m0.now.get (k.1 + 1 + k.2) ∈ C) :
    ∃ out m' lk, m0.minor roots = some (out, m') ∧ Inv m' Y H ∧ Post m0 m' lk ∧ Outs m0 lk roots out := by
  have hl0 : 0 ≤ m0.left := by rw [h.lf]; omega
  have hr' : (m0.now.used : Int) + (sumOf m0.szY C : Int) ≤ (m0.now.words.length : Int) := by unfold Sp.room at hr; omega
  have hst := Mi.start h C (PK m0 m0.known) fun k hk hy => ⟨.inr ⟨k, hk, rfl⟩, h2 k hk hy⟩
  obtain ⟨out, m1, a1, a2, a3, _⟩ := Mi.fwdAll h hC hr' (fun p hp => .inl hp) roots hst h1
  obtain ⟨m2, b1, b2, b3⟩ := Mi.fwdKnown h hC hr' m1.known (by rw [a2.known]; exact a2) (fun k hk => by rw [a2.known] at hk; exact hk)
  have hbeg : m0.now.top = m2.now.top ∨ m2.now.begins m0.now.top = true := by
    have htl := b2.tl h
    have hle := b2.top_le
    by_cases e : m0.now.top = m2.now.top
    · exact .inl e
    · right
      -- a taken word behind the elder ones is that of an object, the first of which begins there
      have hfr := b2.frm
      obtain ⟨a, l, q1, q2, q3⟩ := (htl .n).owner (p := m0.now.top) (by simp only [sp]; rw [hfr]; unfold Sp.top; omega) (by simp only [sp]; omega)
      rcases b2.inv a l q1 with g | ⟨c, g1, _⟩
      · have := h.tn.bound g; omega
      · have := (b2.mv c a g1).2.2.1
        have e2 : a = m0.now.top := by omega
        rw [← e2]; exact q1.1
  obtain ⟨m3, c1, c2, c3⟩ := Mi.scanAll h hC hr' (m0.now.words.length + 1) m0.now.top b2 hbeg (by unfold Sp.top; push_cast; omega) (by omega)
  have hmin : m0.minor roots = some (out, { m3 with moved := m0.moved, young := m3.young.empty, known := [] }) := by
    unfold Mem.minor
    rw [a1]; simp only [b1, c1]
  have hFw : ∀ p v w, Fw m0 m3 C (fun _ => False) p v w → Rel m0 m3.look v w := fun p v w q => by
    rcases q with ⟨q1, q2⟩ | q
    · refine .inl ⟨?_, q1⟩
      cases hb : m0.young.begins v with
      | false => rfl
      | true => exact (q2 hb).1.elim
    · exact .inr q
  have hpost : Post m0 { m3 with moved := m0.moved, young := m3.young.empty, known := [] } m3.look := by
    refine ⟨by show m3.young.empty = _; rw [c2.young], c2.other, c2.shapes, rfl, c2.busy, c2.scan, c2.left, rfl, c2.frm, by show m0.now.used ≤ m3.now.used; rw [c2.used]; omega, fun c t q => ?_, fun b l q => ?_, c2.inv, c2.inj⟩
    · obtain ⟨k1, k2, k3, k4, k5⟩ := c2.mv c t q
      refine ⟨k1, k3, k4, fun l hl => ?_⟩
      obtain ⟨g1, g2⟩ := k5 l hl
      exact ⟨g1, fun i r hr => ⟨(g2 i r hr).1, fun e => hFw _ _ _ ((g2 i r hr).2 e)⟩⟩
    · obtain ⟨g0, g1, g2⟩ := c2.old b l q
      exact ⟨g0, g1, fun i r hr => ⟨(g2 i r hr).1, fun e => hFw _ _ _ ((g2 i r hr).2 e)⟩⟩
  refine ⟨out, _, m3.look, hmin, ?_, hpost, a3.mono fun c t q => c3 _ _ (b3 _ _ q)⟩
  have hsum : sumOf m0.szY (m3.moved.map Prod.fst) ≤ sumOf m0.szY C := sumOf_le _ _ _ c2.md fun x hx => by
    have : m3.look x ≠ none := fun e => (c2.key x).1 e hx
    obtain ⟨t, ht⟩ := Option.ne_none_iff_exists'.1 this
    exact (c2.mv x t ht).2.1
  obtain ⟨m', hm'⟩ : ∃ m', m' = ({ m3 with moved := m0.moved, young := m3.young.empty, known := [] } : Mem) := ⟨_, rfl⟩
  rw [← hm'] at hpost ⊢
  have hnow : m'.now = m3.now := by rw [hm']
  have hg := h.geo
  have htn : Tl m'.shapes m'.now := by rw [hpost.shapes, hnow]; exact c2.tn
  -- what a field of the new half is
  have hrel : ∀ v w, Rel m0 m3.look v w → m0.isCur v → m'.isCur w := fun v w hv hc => by
    rcases hv with ⟨q1, rfl⟩ | ⟨q1, q2⟩
    · rcases hc with q | q
      · rw [q1] at q; cases q
      · obtain ⟨l, hl⟩ := h.tn.shape q
        exact .inr (hpost.old _ _ hl).1.1
    · obtain ⟨l, hl⟩ := h.ty.shape q1
      exact .inr ((hpost.mv _ _ q2).2.2.2 l hl).1.1
  have hrel0 : ∀ w, Rel m0 m3.look 0 w → w = 0 := fun w hv => by
    rcases hv with ⟨_, q⟩ | ⟨q1, _⟩
    · exact q
    · have := pos_of_begins h.geo (wh := .y) q1; omega
  have hnoy : ∀ w, m'.young.begins w = false := fun w => by rw [hpost.young]; exact Tl.empty_begins _ _
  refine ⟨⟨by rw [hpost.young]; exact hg.yf, by rw [hpost.young]; exact hg.yl, by rw [hnow, c2.len]; exact hg.nl, by rw [hpost.other]; exact hg.ol, by rw [hpost.frm, hpost.other]; exact hg.nf, hg.Y0, hg.H0, hg.Yb, hg.Hb⟩, by rw [hpost.young, hpost.shapes]; exact h.ty.empty, htn,
    by rw [hpost.other, hpost.shapes]; exact h.to, by rw [hpost.shapes]; exact h.sl, by rw [hpost.shapes]; exact h.sll, by rw [hpost.busy, hpost.other, hpost.left, hpost.moved]; exact h.idle, ?_, ?_, ?_, ?_, by rw [hpost.known]; simp, by rw [hpost.known]; simp, ?_, by rw [hpost.scan]; exact h.sc0, ?_, ?_, ?_⟩
  · rintro a i ⟨l, hl, _⟩
    have := hnoy a
    rw [show m'.young.begins a = true from hl.1] at this; cases this
  · rintro b i ⟨l, hl, hi⟩
    rcases hpost.inv b l hl with q | ⟨c, q1, q2⟩
    · have g := ((hpost.old b l q).2.2 i true hi).2 rfl
      rcases h.nr b i ⟨l, q, hi⟩ with k | k | ⟨k1, k2, k3⟩
      · rw [k] at g; exact .inl (hrel0 _ g)
      · exact .inr (.inl (hrel _ _ g k))
      · refine .inr (.inr ⟨by rw [hpost.busy]; exact k1, ?_, by rw [hpost.scan]; exact k3⟩)
        rcases g with ⟨_, g⟩ | ⟨g, _⟩
        · rw [g, hpost.other]; exact k2
        · have := h.geo.apart h.tl (a := .y) (b := .o) g k2; cases this
    · have g := (((hpost.mv c b q1).2.2.2 l q2).2 i true hi).2 rfl
      rcases h.yr c i ⟨l, q2, hi⟩ with k | k
      · rw [k] at g; exact .inl (hrel0 _ g)
      · exact .inr (.inl (hrel _ _ g k))
  · rintro a i ⟨l, hl, hi⟩
    have e : m'.fld .o a i = m0.fld .o a i := by simp only [fld, sp, hpost.other]
    rw [e, hpost.other]
    refine h.or a i ⟨l, ?_, hi⟩
    simp only [Mem.ob, sp, hpost.other, hpost.shapes] at hl ⊢; exact hl
  · intro a i _ hb
    rw [hnoy] at hb; cases hb
  · intro hb
    rw [hpost.busy] at hb
    have := h.sc hb
    have h3 := hpost.used
    rw [hpost.scan, hpost.frm]
    unfold Sp.top at this ⊢
    rw [hpost.frm]; omega
  · intro a t ha
    have : m'.look a = m0.look a := by unfold look; rw [hpost.moved]
    rw [this] at ha
    obtain ⟨k1, l, k2, k3⟩ := h.mv a t ha
    exact ⟨by rw [hpost.other]; exact k1, l, by simp only [Mem.ob, sp, hpost.other, hpost.shapes] at k2 ⊢; exact k2, (hpost.old _ _ k3).1⟩
  · rw [hpost.left, hpost.other, unmovedTo_congr (m := m0) hpost.other hpost.shapes _ fun i _ _ => by unfold look; rw [hpost.moved]]
    exact h.lf
  · rw [hnow, hpost.left, c2.used]
    have := hg.nl
    unfold Sp.room at hr
    push_cast; omega
end Mem
end Go.Proofs.Hp
