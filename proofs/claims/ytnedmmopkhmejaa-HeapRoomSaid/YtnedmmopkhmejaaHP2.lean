/- Plain: the invariant of a memory, and 'forward'. -/
import Derived.Test.YtnedmmopkhmejaaHP1
namespace Go.Proofs.Hp
namespace Mem

/-- The object at an address of a space. -/
def ob (m : Mem) (wh : Wh) (a : Int) (l : List Bool) : Prop := (m.sp wh).ob m.shapes a l
/-- The i-th field of an object, which refers. -/
def rf (m : Mem) (wh : Wh) (a : Int) (i : Nat) : Prop := ∃ l, m.ob wh a l ∧ l[i]? = some true
def fld (m : Mem) (wh : Wh) (a : Int) (i : Nat) : Int := (m.sp wh).get (a + 1 + (i : Int))
def isCur (m : Mem) (v : Int) : Prop := m.young.begins v = true ∨ m.now.begins v = true

/-- Where the spaces lie. -/
structure Geo (m : Mem) (Y H : Nat) : Prop where
  yf : m.young.frm = 1
  yl : m.young.words.length = Y
  nl : m.now.words.length = H
  ol : m.other.words.length = H
  nf : (m.now.frm = 1 + Y ∧ m.other.frm = 1 + Y + H) ∨ (m.other.frm = 1 + Y ∧ m.now.frm = 1 + Y + H)
  Y0 : 0 < Y
  H0 : 0 < H
  Yb : Y ≤ 1024
  Hb : H ≤ 4096

/-- How many words the objects of the other half have that are not moved: those whose first word is ahead of i. -/
def unmovedTo (m : Mem) : Nat → Nat
  | 0 => 0
  | i + 1 => m.unmovedTo i + if m.other.st i = true ∧ m.look ((m.other.frm : Int) + (i : Int)) = none then (match shapeOf m.shapes (m.other.wd i) with | some l => l.length + 1 | none => 0) else 0

/-- A memory is in order. -/
structure Inv (m : Mem) (Y H : Nat) : Prop where
  geo : Geo m Y H
  ty : Tl m.shapes m.young
  tn : Tl m.shapes m.now
  to : Tl m.shapes m.other
  sl : m.shapes.length ≤ 60
  sll : ∀ l ∈ m.shapes, l.length ≤ 60
  idle : m.busy = false → m.other.used = 0 ∧ m.left = 0 ∧ m.moved = []
  yr : ∀ a i, m.rf .y a i → m.fld .y a i = 0 ∨ m.isCur (m.fld .y a i)
  nr : ∀ a i, m.rf .n a i → m.fld .n a i = 0 ∨ m.isCur (m.fld .n a i) ∨ (m.busy = true ∧ m.other.begins (m.fld .n a i) = true ∧ m.scan ≤ a + 1 + (i : Int))
  or : ∀ a i, m.rf .o a i → m.fld .o a i = 0 ∨ m.other.begins (m.fld .o a i) = true
  kn : ∀ a i, m.rf .n a i → m.young.begins (m.fld .n a i) = true → (a, (i : Int)) ∈ m.known
  kv : ∀ k ∈ m.known, ∃ i : Nat, k.2 = (i : Int) ∧ m.rf .n k.1 i
  kd : m.known.Nodup
  sc : m.busy = true → (m.now.frm : Int) ≤ m.scan ∧ m.scan ≤ m.now.top
  sc0 : 0 ≤ m.scan ∧ m.scan ≤ 4194304
  mv : ∀ a t, m.look a = some t → m.other.begins a = true ∧ ∃ l, m.ob .o a l ∧ m.ob .n t l
  lf : m.left = (m.unmovedTo m.other.used : Int)
  rm : (m.now.used : Int) + m.left ≤ (H : Int)

variable {m : Mem} {Y H : Nat} {y : Bool}

theorem Geo.apart (g : Geo m Y H) (tb : ∀ wh, Tl m.shapes (m.sp wh)) {v : Int} {a b : Wh} (ha : (m.sp a).begins v = true) (hb : (m.sp b).begins v = true) : a = b := by
  obtain ⟨i, e1, h1, _⟩ := Sp.begins_iff.1 ha
  obtain ⟨j, e2, h2, _⟩ := Sp.begins_iff.1 hb
  have la := (tb a).le
  have lb := (tb b).le
  obtain ⟨g1, g2, g3, g4, g5, _⟩ := g
  cases a <;> cases b <;> first | rfl | (exfalso; simp only [sp] at *; omega)

/-- The spaces of a memory are tiled. -/
def Tiled (m : Mem) : Prop := ∀ wh, Tl m.shapes (m.sp wh)
theorem Inv.tl (h : Inv m Y H) : m.Tiled := fun wh => by cases wh; exact h.ty; exact h.tn; exact h.to

theorem pos_of_begins (g : Geo m Y H) {wh : Wh} {v : Int} (h : (m.sp wh).begins v = true) : 0 < v := by
  obtain ⟨i, e1, h1, _⟩ := Sp.begins_iff.1 h
  obtain ⟨g1, g2, g3, g4, g5, _⟩ := g
  cases wh <;> simp only [sp] at * <;> omega

/-- What 'forward' does, where there is room. -/
inductive FwdR (m : Mem) (y : Bool) (a : Int) : Mem → Int → Prop
  | no : (m.sp (src y)).begins a = false → FwdR m y a m a
  | had (t : Int) : (m.sp (src y)).begins a = true → m.look a = some t → FwdR m y a m t
  | new (l : List Bool) : m.ob (src y) a l → m.look a = none → m.now.used + (l.length + 1) ≤ m.now.words.length → (y = true ∨ ((l.length + 1 : Nat) : Int) ≤ m.left) → FwdR m y a (m.move y a (l.length + 1)) m.now.top

theorem forward_of (ts : Tl m.shapes (m.sp (src y))) {a : Int} (hr : ∀ l, m.ob (src y) a l → m.look a = none → m.now.used + (l.length + 1) ≤ m.now.words.length ∧ (y = true ∨ ((l.length + 1 : Nat) : Int) ≤ m.left)) :
    ∃ m' t, m.forward y a = some (m', t) ∧ FwdR m y a m' t := by
  unfold forward
  cases hb : (m.sp (src y)).begins a with
  | false => exact ⟨m, a, rfl, .no hb⟩
  | true =>
    rw [if_pos rfl]
    cases hl : m.look a with
    | some t => exact ⟨m, t, rfl, .had t hb hl⟩
    | none =>
      obtain ⟨l, hob⟩ := ts.shape hb
      obtain ⟨h1, h2⟩ := hr l hob hl
      simp only [ts.size hob (m := m) rfl]
      have hbd := ts.bound hob
      have hle := ts.topLe
      have hidx : (m.sp (src y)).idx a + (l.length + 1) ≤ (m.sp (src y)).words.length := by unfold Sp.idx; omega
      rw [if_pos ⟨h1, h2, hidx⟩]
      exact ⟨_, _, rfl, .new l hob hl h1 h2⟩

/-- The words that are moved. -/
theorem move_now (ts : Tl m.shapes (m.sp (src y))) {a : Int} {l : List Bool} (hob : m.ob (src y) a l) (hr : m.now.used + (l.length + 1) ≤ m.now.words.length) :
    (m.move y a (l.length + 1)).now = m.now.app ((m.sp (src y)).obw a (l.length + 1)) := by
  show (m.now.lay (l.length + 1) _).paste m.now.used ((m.sp (src y)).obw a (l.length + 1)) = _
  exact Sp.lay_paste _ _ _ _ (ts.obw_len hob) (by omega) hr

theorem look_append (mv : List (Int × Int)) (a t b : Int) : (mv ++ [(a, t)]).lookup b = (match mv.lookup b with | some x => some x | none => if b = a then some t else none) := by
  induction mv with
  | nil => by_cases e : b = a <;> simp [List.lookup, e]
  | cons p q ih =>
    obtain ⟨p1, p2⟩ := p
    simp only [List.cons_append, List.lookup_cons]
    by_cases e : b = p1
    · subst e; simp
    · have : (b == p1) = false := by simpa using e
      simp only [this, ih]
theorem move_look {a : Int} {n : Nat} (b : Int) (hn : m.look a = none) : (m.move y a n).look b = if b = a then some m.now.top else m.look b := by
  show (m.moved ++ [(a, m.now.top)]).lookup b = _
  rw [look_append]
  unfold look at hn ⊢
  by_cases e : b = a
  · subst e; simp [hn]
  · simp only [if_neg e]; cases m.moved.lookup b <;> rfl

/-- A moved object, and what else there is. -/
structure Moved (m m' : Mem) (y : Bool) (a : Int) (l : List Bool) : Prop where
  young : m'.young = m.young
  other : m'.other = m.other
  shapes : m'.shapes = m.shapes
  known : m'.known = m.known
  busy : m'.busy = m.busy
  scan : m'.scan = m.scan
  left : m'.left = if y then m.left else m.left - ((l.length + 1 : Nat) : Int)
  look : ∀ b, m'.look b = if b = a then some m.now.top else m.look b
  frm : m'.now.frm = m.now.frm
  used : m'.now.used = m.now.used + (l.length + 1)
  len : m'.now.words.length = m.now.words.length
  tl : Tl m.shapes m'.now
  begins : ∀ b, m'.now.begins b = true ↔ m.now.begins b = true ∨ b = m.now.top
  old : ∀ b, (m.now.frm : Int) ≤ b → b < m.now.top → m'.now.get b = m.now.get b
  new : ∀ j : Nat, j < l.length + 1 → m'.now.get (m.now.top + (j : Int)) = (m.sp (src y)).get (a + (j : Int))
  obOld : ∀ b l', m.now.ob m.shapes b l' → m'.now.ob m.shapes b l'
  obNew : m'.now.ob m.shapes m.now.top l
  obInv : ∀ b l', m'.now.ob m.shapes b l' → m.now.ob m.shapes b l' ∨ (b = m.now.top ∧ l' = l)

theorem moved_of (ts : Tl m.shapes (m.sp (src y))) (tn : Tl m.shapes m.now) {a : Int} {l : List Bool} (hob : m.ob (src y) a l) (hn : m.look a = none) (hr : m.now.used + (l.length + 1) ≤ m.now.words.length) :
    Moved m (m.move y a (l.length + 1)) y a l := by
  have hlen := ts.obw_len hob
  have hnow := move_now ts hob hr
  have hr' : m.now.used + ((m.sp (src y)).obw a (l.length + 1)).length ≤ m.now.words.length := by rw [hlen]; exact hr
  have hx : 0 < ((m.sp (src y)).obw a (l.length + 1)).length := by omega
  have h0 : ((m.sp (src y)).obw a (l.length + 1)).getD 0 0 = (m.sp (src y)).get a := by
    have := ts.obw_get hob (j := 0) (by omega)
    simpa using this
  have htop : m.now.top = m.now.top + ((0 : Nat) : Int) := by simp
  obtain ⟨x, xs, hxs⟩ : ∃ x xs, (m.sp (src y)).obw a (l.length + 1) = x :: xs := by
    cases hc : (m.sp (src y)).obw a (l.length + 1) with
    | nil => rw [hc] at hx; simp at hx
    | cons x xs => exact ⟨x, xs, rfl⟩
  refine ⟨rfl, rfl, rfl, rfl, rfl, rfl, rfl, fun b => move_look b hn, by rw [hnow]; rfl, by rw [hnow, Sp.app_used, hlen], (by rw [hnow]; exact Sp.app_len _ _ hr'), ?_, fun b => by rw [hnow]; exact Sp.app_begins tn hx hr' b, fun b h1 h2 => by rw [hnow]; exact Sp.app_get_old hr' h1 h2, fun j hj => ?_, fun b l' hb => by rw [hnow]; exact Sp.app_ob_old tn hx hr' hb, ?_, fun b l' hb => ?_⟩
  · rw [hnow, hxs]
    refine tn.app (l := l) ?_ ?_ hr
    · rw [hxs] at h0; simp at h0; rw [h0]; exact hob.2
    · rw [hxs] at hlen; simpa using hlen
  · rw [hnow, Sp.app_get_new hr' (by omega), ts.obw_get hob hj]
  · refine ⟨by rw [hnow]; exact (Sp.app_begins tn hx hr' _).2 (.inr rfl), ?_⟩
    rw [hnow, htop, Sp.app_get_new hr' (by omega), h0]; exact hob.2
  · rw [hnow] at hb
    rcases Sp.app_ob tn hx hr' hb with q | ⟨q1, q2⟩
    · exact .inl q
    · rw [h0, hob.2] at q2; cases q2; exact .inr ⟨q1, rfl⟩
end Mem
end Go.Proofs.Hp
