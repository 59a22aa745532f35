/- Plain: a field is set; Get, Set, Step, Alloc keep the invariant. -/
import Derived.Test.YtnedmmopkhmejaaHP3
namespace Go.Proofs.Hp
instance : DecidableEq Wh
  | .y, .y => isTrue rfl
  | .n, .n => isTrue rfl
  | .o, .o => isTrue rfl
  | .y, .n => isFalse (by intro h; cases h)
  | .y, .o => isFalse (by intro h; cases h)
  | .n, .y => isFalse (by intro h; cases h)
  | .n, .o => isFalse (by intro h; cases h)
  | .o, .y => isFalse (by intro h; cases h)
  | .o, .n => isFalse (by intro h; cases h)
namespace Mem
variable {m m' : Mem} {Y H : Nat} {y : Bool}

theorem put_self (s : Sp) (a : Int) : s.put a (s.get a) = s := by
  have : s.words.set (s.idx a) (s.get a) = s.words := by
    apply List.ext_getElem?
    intro i
    rw [List.getElem?_set]
    by_cases e : s.idx a = i
    · subst e
      by_cases hl : s.idx a < s.words.length
      · simp [hl, Sp.get]
      · simp only [if_true, if_neg hl, List.getElem?_eq_none (Nat.le_of_not_lt hl)]
    · rw [if_neg e]
  unfold Sp.put; rw [this]
theorem setSp_self (m : Mem) (wh : Wh) : m.setSp (m.sp wh) wh = m := by cases wh <;> rfl

/-- What a set field leaves. -/
structure Setd (m m' : Mem) (wh : Wh) (a : Int) (i : Nat) (t : Int) : Prop where
  sp : ∀ x, m'.sp x = if x = wh then (m.sp wh).put (a + 1 + (i : Int)) t else m.sp x
  rest : m'.shapes = m.shapes ∧ m'.known = m.known ∧ m'.busy = m.busy ∧ m'.scan = m.scan ∧ m'.moved = m.moved ∧ m'.left = m.left
theorem setd (m : Mem) (wh : Wh) (a : Int) (i : Nat) (t : Int) : Setd m (m.setSp ((m.sp wh).put (a + 1 + (i : Int)) t) wh) wh a i t := by
  refine ⟨fun x => ?_, ?_⟩
  · cases x <;> cases wh <;> rfl
  · cases wh <;> exact ⟨rfl, rfl, rfl, rfl, rfl, rfl⟩
namespace Setd
variable {wh : Wh} {a t : Int} {i : Nat}
theorem begins (s : Setd m m' wh a i t) (x : Wh) (b : Int) : (m'.sp x).begins b = (m.sp x).begins b := by
  rw [s.sp]; split
  · rename_i e; subst e; rfl
  · rfl
theorem isCur (s : Setd m m' wh a i t) (v : Int) : m'.isCur v ↔ m.isCur v := by
  have h1 := s.begins .y v
  have h2 := s.begins .n v
  simp only [Mem.sp] at h1 h2
  unfold Mem.isCur; rw [h1, h2]
theorem geoms (s : Setd m m' wh a i t) (x : Wh) : (m'.sp x).frm = (m.sp x).frm ∧ (m'.sp x).used = (m.sp x).used ∧ (m'.sp x).words.length = (m.sp x).words.length ∧ (m'.sp x).starts = (m.sp x).starts := by
  rw [s.sp]; split
  · rename_i e; subst e; exact ⟨rfl, rfl, by simp [Sp.put], rfl⟩
  · exact ⟨rfl, rfl, rfl, rfl⟩
theorem ob (s : Setd m m' wh a i t) (tl : m.Tiled) {l : List Bool} (ha : m.ob wh a l) (hi : i < l.length) (x : Wh) (b : Int) (l' : List Bool) : m'.ob x b l' ↔ m.ob x b l' := by
  unfold Mem.ob
  rw [s.sp, s.rest.1]; split
  · rename_i e; subst e; exact Sp.put_ob (tl x) ha hi
  · exact Iff.rfl
theorem tiled (s : Setd m m' wh a i t) (tl : m.Tiled) {l : List Bool} (ha : m.ob wh a l) (hi : i < l.length) : m'.Tiled := by
  intro x
  rw [s.sp, s.rest.1]; split
  · rename_i e; subst e; exact Sp.put_tl (tl x) ha hi
  · exact tl x
theorem rf (s : Setd m m' wh a i t) (tl : m.Tiled) {l : List Bool} (ha : m.ob wh a l) (hi : i < l.length) (x : Wh) (b : Int) (j : Nat) : m'.rf x b j ↔ m.rf x b j := by
  unfold Mem.rf
  simp only [s.ob tl ha hi]
theorem get (s : Setd m m' wh a i t) (tl : m.Tiled) {l : List Bool} (ha : m.ob wh a l) (hi : i < l.length) (x : Wh) {p : Int} (hp : ((m.sp x).frm : Int) ≤ p) : (m'.sp x).get p = if x = wh ∧ p = a + 1 + (i : Int) then t else (m.sp x).get p := by
  rw [s.sp]
  by_cases e : x = wh
  · subst e
    have hb := (tl x).bound ha
    rw [if_pos rfl, Sp.put_get (tl x) (by omega) (by omega) hp]
    by_cases e2 : a + 1 + (i : Int) = p
    · rw [if_pos e2, if_pos ⟨rfl, e2.symm⟩]
    · rw [if_neg e2, if_neg (fun q => e2 q.2.symm)]
  · rw [if_neg e, if_neg (fun q => e q.1)]
theorem fld (s : Setd m m' wh a i t) (tl : m.Tiled) {l : List Bool} (ha : m.ob wh a l) (hi : i < l.length) (x : Wh) {b : Int} {l' : List Bool} {j : Nat} (hb : m.ob x b l') (hj : j < l'.length) :
    m'.fld x b j = if x = wh ∧ b = a ∧ j = i then t else m.fld x b j := by
  have hbd := (tl x).bound hb
  unfold Mem.fld
  rw [s.get tl ha hi x (by omega)]
  by_cases e : x = wh ∧ b = a ∧ j = i
  · obtain ⟨rfl, rfl, rfl⟩ := e; rw [if_pos ⟨rfl, rfl⟩, if_pos ⟨rfl, rfl, rfl⟩]
  · rw [if_neg e, if_neg]
    rintro ⟨rfl, e2⟩
    obtain ⟨rfl, rfl⟩ := field_at (tl x) hb ha hj hi e2
    exact e ⟨rfl, rfl, rfl⟩
theorem unm (s : Setd m m' wh a i t) (hwh : wh ≠ .o) (k : Nat) : m'.unmovedTo k = m.unmovedTo k := by
  have ho : m'.other = m.other := by have := s.sp .o; rw [if_neg (Ne.symm hwh)] at this; exact this
  exact unmovedTo_congr ho s.rest.1 k fun j _ _ => by unfold Mem.look; rw [s.rest.2.2.2.2.1]
end Setd

/-- A field of a current object is set. -/
theorem Inv.setd (h : Inv m Y H) {wh : Wh} {a t : Int} {i : Nat} {l : List Bool} (hwh : wh ≠ .o) (ha : m.ob wh a l) (hi : i < l.length) (s : Setd m m' wh a i t)
    (ht : l[i]? = some true → t = 0 ∨ m.isCur t) (hk : l[i]? = some true → wh = .n → m.young.begins t = true → (a, (i : Int)) ∈ m.known) : Inv m' Y H := by
  obtain ⟨e1, e2, e3, e4, e5, e6⟩ := s.rest
  have gy := s.geoms .y
  have gn := s.geoms .n
  have go := s.geoms .o
  simp only [sp] at gy gn go
  have hlook : ∀ b, m'.look b = m.look b := fun b => by unfold Mem.look; rw [e5]
  have tl := h.tl
  have tl' := s.tiled tl ha hi
  have hby := s.begins .y
  have hbn := s.begins .n
  have hbo := s.begins .o
  simp only [sp] at hby hbn hbo
  have htop : m'.now.top = m.now.top := by unfold Sp.top; rw [gn.1, gn.2.1]
  have hrf : ∀ x b j, m'.rf x b j → m.rf x b j ∧ (m'.fld x b j = m.fld x b j ∨ (x = wh ∧ b = a ∧ j = i ∧ l[i]? = some true ∧ m'.fld x b j = t)) := by
    rintro x b j ⟨l', h1, h2⟩
    have h1' := (s.ob tl ha hi x b l').1 h1
    refine ⟨⟨l', h1', h2⟩, ?_⟩
    have hf := s.fld tl ha hi x h1' (getElem_lt h2)
    by_cases e : x = wh ∧ b = a ∧ j = i
    · rw [if_pos e] at hf
      obtain ⟨rfl, rfl, rfl⟩ := e
      refine .inr ⟨rfl, rfl, rfl, ?_, hf⟩
      rw [ob_len ha h1']; exact h2
    · rw [if_neg e] at hf; exact .inl hf
  refine ⟨⟨by rw [gy.1]; exact h.geo.yf, by rw [gy.2.2.1]; exact h.geo.yl, by rw [gn.2.2.1]; exact h.geo.nl, by rw [go.2.2.1]; exact h.geo.ol, by rw [gn.1, go.1]; exact h.geo.nf, h.geo.Y0, h.geo.H0, h.geo.Yb, h.geo.Hb⟩,
    tl' .y, tl' .n, tl' .o, by rw [e1]; exact h.sl, by rw [e1]; exact h.sll, ?_, ?_, ?_, ?_, ?_, ?_, by rw [e2]; exact h.kd, by rw [e3, e4, gn.1, htop]; exact h.sc, by rw [e4]; exact h.sc0, ?_, ?_, by rw [gn.2.1, e6]; exact h.rm⟩
  · rw [e3, e5, e6, go.2.1]; exact h.idle
  · intro b j hr
    obtain ⟨q1, q2 | ⟨rfl, rfl, rfl, q2, q3⟩⟩ := hrf _ _ _ hr
    · rw [q2, s.isCur]; exact h.yr _ _ q1
    · rw [q3, s.isCur]; exact ht q2
  · intro b j hr
    obtain ⟨q1, q2 | ⟨rfl, rfl, rfl, q2, q3⟩⟩ := hrf _ _ _ hr
    · rw [q2, s.isCur, e3, e4, hbo]; exact h.nr _ _ q1
    · rw [q3, s.isCur]
      rcases ht q2 with q | q
      · exact .inl q
      · exact .inr (.inl q)
  · intro b j hr
    obtain ⟨q1, q2 | ⟨e, _⟩⟩ := hrf _ _ _ hr
    · rw [q2, hbo]; exact h.or _ _ q1
    · exact absurd e.symm hwh
  · intro b j hr hy
    rw [hby] at hy
    rw [e2]
    obtain ⟨q1, q2 | ⟨q0, rfl, rfl, q2, q3⟩⟩ := hrf _ _ _ hr
    · rw [q2] at hy; exact h.kn _ _ q1 hy
    · rw [q3] at hy; exact hk q2 q0.symm hy
  · intro k hk'
    rw [e2] at hk'
    obtain ⟨j, q1, q2⟩ := h.kv k hk'
    exact ⟨j, q1, (s.rf tl ha hi .n _ _).2 q2⟩
  · intro b t' hb
    rw [hlook] at hb
    obtain ⟨q1, l', q2, q3⟩ := h.mv b t' hb
    exact ⟨by rw [hbo]; exact q1, l', (s.ob tl ha hi _ _ _).2 q2, (s.ob tl ha hi _ _ _).2 q3⟩
  · rw [e6, go.2.1, s.unm hwh]; exact h.lf

theorem has_field (tl : m.Tiled) {wh : Wh} {a : Int} {l : List Bool} (ha : m.ob wh a l) {i : Nat} (hi : i < l.length) : (m.sp wh).has (a + 1 + (i : Int)) = true ∧ (m.sp wh).ok (a + 1 + (i : Int)) = true := by
  have hb := (tl wh).bound ha
  refine ⟨?_, (tl wh).okAt (by omega) (by omega)⟩
  unfold Sp.top at hb
  simp only [Sp.has, Bool.and_eq_true, decide_eq_true_eq]; omega

theorem Ext.sp_get (e : Ext m m') {wh : Wh} (tl : m.Tiled) {a : Int} {l : List Bool} (ha : m.ob wh a l) {i : Nat} (hi : i < l.length) : m'.fld wh a i = m.fld wh a i := by
  have hb := (tl wh).bound ha
  cases wh with
  | y => simp only [fld, sp, e.young]
  | o => simp only [fld, sp, e.other]
  | n => exact e.get _ (by simp only [sp] at hb; omega) (by simp only [sp] at hb; omega)
theorem Ext.sp_ob (e : Ext m m') {wh : Wh} {a : Int} {l : List Bool} (ha : m.ob wh a l) : m'.ob wh a l := by
  cases wh with
  | y => simp only [Mem.ob, sp, e.young, e.shapes] at ha ⊢; exact ha
  | o => simp only [Mem.ob, sp, e.other, e.shapes] at ha ⊢; exact ha
  | n => exact e.ob _ _ ha

/-- 'forward' at a field that refers, out of the former half. -/
theorem Inv.fwdIn (h : Inv m Y H) {wh : Wh} (hwh : wh ≠ .o) {a : Int} {i : Nat} (hr : m.rf wh a i) :
    ∃ m1 t m', m.forward false (m.fld wh a i) = some (m1, t) ∧ Ext m m1 ∧ Setd m1 m' wh a i t ∧ m.fwdIn false wh (a + 1 + (i : Int)) = some m' ∧ Inv m' Y H ∧ (t = 0 ∨ m'.isCur t) ∧
      ((m.other.begins (m.fld wh a i) = false ∧ t = m.fld wh a i ∧ m1 = m ∧ m' = m) ∨ (m.other.begins (m.fld wh a i) = true ∧ m1.look (m.fld wh a i) = some t ∧ m1.now.begins t = true)) := by
  obtain ⟨m1, t, hf, hI, hE, hcase⟩ := h.fwd (m.fld wh a i)
  obtain ⟨l, ha, hl⟩ := hr
  have hi := getElem_lt hl
  have ha1 := hE.sp_ob ha
  have hs := Mem.setd m1 wh a i t
  have hfi : m.fwdIn false wh (a + 1 + (i : Int)) = some (m1.setSp ((m1.sp wh).put (a + 1 + (i : Int)) t) wh) := by
    unfold Mem.fwdIn
    rw [if_pos (has_field h.tl ha hi).1]
    have : m.forward false ((m.sp wh).get (a + 1 + (i : Int))) = some (m1, t) := hf
    rw [this]
  have hcur : t = 0 ∨ m1.isCur t ∨ (m1 = m ∧ t = m.fld wh a i) := by
    rcases hcase with ⟨_, q2, q3⟩ | ⟨_, _, q⟩
    · exact .inr (.inr ⟨q3, q2⟩)
    · exact .inr (.inl (.inr q))
  have hcur2 : t = 0 ∨ m1.isCur t := by
    rcases hcur with q | q | ⟨rfl, q⟩
    · exact .inl q
    · exact .inr q
    · rcases hcase with ⟨q1, _, _⟩ | ⟨_, _, q⟩
      · cases wh with
        | o => exact absurd rfl hwh
        | y => rw [q]; exact h.yr a i ⟨l, ha, hl⟩
        | n =>
          rcases h.nr a i ⟨l, ha, hl⟩ with g | g | ⟨_, g, _⟩
          · exact .inl (q.trans g)
          · exact .inr (by rw [q]; exact g)
          · rw [q1] at g; cases g
      · exact .inr (.inr q)
  have hI' : Inv (m1.setSp ((m1.sp wh).put (a + 1 + (i : Int)) t) wh) Y H := by
    refine hI.setd hwh ha1 hi hs (fun _ => hcur2) fun _ hn hy => ?_
    subst hn
    rcases hcase with ⟨_, q2, rfl⟩ | ⟨_, _, q⟩
    · rw [q2] at hy; exact h.kn a i ⟨l, ha, hl⟩ hy
    · have := hI.geo.apart hI.tl (a := .y) (b := .n) hy q; cases this
  refine ⟨m1, t, _, hf, hE, hs, hfi, hI', hcur2.imp id (hs.isCur t).2, ?_⟩
  rcases hcase with ⟨q1, q2, rfl⟩ | q
  · refine .inl ⟨q1, q2, rfl, ?_⟩
    rw [q2]
    have : (m1.sp wh).put (a + 1 + (i : Int)) (m1.fld wh a i) = m1.sp wh := put_self _ _
    rw [this, setSp_self]
  · exact .inr q
end Mem
end Go.Proofs.Hp
