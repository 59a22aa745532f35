/- Plain: Set and Alloc keep the invariant; lists. -/
import Derived.Test.YtnedmmopkhmejaaHP5
namespace Go.Proofs.Hp

theorem nodup_le {α : Type} [DecidableEq α] : ∀ (l r : List α), l.Nodup → (∀ x ∈ l, x ∈ r) → l.length ≤ r.length
  | [], _, _, _ => Nat.zero_le _
  | a :: l, r, hn, hs => by
    have ha := hs a (by simp)
    rw [List.nodup_cons] at hn
    have := nodup_le l (r.erase a) hn.2 fun x hx => by
      refine (List.mem_erase_of_ne (fun e => ?_)).2 (hs x (by simp [hx]))
      subst e; exact hn.1 hx
    rw [List.length_erase_of_mem ha] at this
    have : 0 < r.length := List.length_pos_of_mem ha
    simp only [List.length_cons]; omega
def sumOf (f : Int → Nat) (l : List Int) : Nat := (l.map f).sum
theorem sumOf_erase (f : Int → Nat) {a : Int} : ∀ (l : List Int), a ∈ l → sumOf f l = f a + sumOf f (l.erase a)
  | b :: l, h => by
    by_cases e : b = a
    · subst e; simp [sumOf]
    · have h' : a ∈ l := by simpa [Ne.symm e] using h
      have := sumOf_erase f l h'
      rw [List.erase_cons_tail (by simpa using e)]
      simp only [sumOf, List.map_cons, List.sum_cons] at this ⊢
      omega
theorem sumOf_le (f : Int → Nat) : ∀ (l r : List Int), l.Nodup → (∀ x ∈ l, x ∈ r) → sumOf f l ≤ sumOf f r
  | [], _, _, _ => by simp [sumOf]
  | a :: l, r, hn, hs => by
    rw [List.nodup_cons] at hn
    have := sumOf_le f l (r.erase a) hn.2 fun x hx => by
      refine (List.mem_erase_of_ne (fun e => ?_)).2 (hs x (by simp [hx]))
      subst e; exact hn.1 hx
    have h2 := sumOf_erase f r (hs a (by simp))
    have h3 : sumOf f (a :: l) = f a + sumOf f l := by simp [sumOf]
    omega
theorem sumOf_snoc (f : Int → Nat) (l : List Int) (a : Int) : sumOf f (l ++ [a]) = sumOf f l + f a := by simp [sumOf]
theorem nodup_snoc {α : Type} {l : List α} {a : α} (h : l.Nodup) (ha : a ∉ l) : (l ++ [a]).Nodup := by
  rw [List.nodup_append]
  exact ⟨h, by simp, fun x hx y hy => by simp at hy; subst hy; exact fun e => ha (by subst e; exact hx)⟩

/-- Distinct numbers of a range are at most as many as it has. -/
theorem range_le {l : List Int} (hn : l.Nodup) (lo : Int) (n : Nat) (h : ∀ x ∈ l, lo ≤ x ∧ x < lo + (n : Int)) : l.length ≤ n := by
  have := nodup_le l ((List.range n).map fun i : Nat => lo + (i : Int)) hn fun x hx => by
    have := h x hx
    exact List.mem_map.2 ⟨(x - lo).toNat, List.mem_range.2 (by omega), by omega⟩
  simpa using this
namespace Mem
variable {m m' : Mem} {Y H : Nat} {y : Bool}

theorem Inv.known_len (h : Inv m Y H) : m.known.length ≤ H := by
  have hn : (m.known.map fun k => k.1 + 1 + k.2).Nodup := by
    have hinj : ∀ (l : List (Int × Int)), (∀ k ∈ l, k ∈ m.known) → l.Nodup → (l.map fun k => k.1 + 1 + k.2).Nodup := by
      intro l
      induction l with
      | nil => intro _ _; simp
      | cons k l ih =>
        intro hk hd
        rw [List.nodup_cons] at hd
        rw [List.map_cons, List.nodup_cons]
        refine ⟨fun q => ?_, ih (fun x hx => hk x (by simp [hx])) hd.2⟩
        obtain ⟨k2, q1, q2⟩ := List.mem_map.1 q
        obtain ⟨i, e1, l1, o1, p1⟩ := h.kv k (hk k (by simp))
        obtain ⟨j, e2, l2, o2, p2⟩ := h.kv k2 (hk k2 (by simp [q1]))
        rw [e1, e2] at q2
        obtain ⟨r1, r2⟩ := field_at h.tn o2 o1 (getElem_lt p2) (getElem_lt p1) q2
        have : k2 = k := by
          obtain ⟨a1, a2⟩ := k
          obtain ⟨b1, b2⟩ := k2
          simp only at r1 e1 e2
          rw [r1, e1, e2, r2]
        subst this
        exact hd.1 q1
    exact hinj m.known (fun _ hk => hk) h.kd
  have := range_le hn (m.now.frm : Int) H fun x hx => by
    obtain ⟨k, hk, rfl⟩ := List.mem_map.1 hx
    obtain ⟨i, e1, l1, o1, p1⟩ := h.kv k hk
    have hb := h.tn.bound o1
    have hi := getElem_lt p1
    have ht := h.tn.topLe
    have := h.geo.nl
    rw [e1]; omega
  simpa using this

theorem Inv.addKnown (h : Inv m Y H) {a : Int} {i : Nat} (hr : m.rf .n a i) (hn : (a, (i : Int)) ∉ m.known) : Inv { m with known := m.known ++ [(a, (i : Int))] } Y H := by
  have hg := h.geo
  refine ⟨⟨hg.yf, hg.yl, hg.nl, hg.ol, hg.nf, hg.Y0, hg.H0, hg.Yb, hg.Hb⟩, h.ty, h.tn, h.to, h.sl, h.sll, h.idle, h.yr, h.nr, h.or, fun b j q1 q2 => ?_, fun k hk => ?_, nodup_snoc h.kd hn, h.sc, h.sc0, h.mv, ?_, h.rm⟩
  · exact List.mem_append.2 (.inl (h.kn b j q1 q2))
  · rcases List.mem_append.1 hk with q | q
    · exact h.kv k q
    · simp only [List.mem_singleton] at q; subst q; exact ⟨i, rfl, hr⟩
  · have := unmovedTo_congr (m := m) (m' := { m with known := m.known ++ [(a, (i : Int))] }) rfl rfl m.other.used fun _ _ _ => Iff.rfl
    show m.left = ((_ : Nat) : Int)
    rw [this]; exact h.lf

theorem Inv.setE (h : Inv m Y H) (a f v : Int) : ∃ m' e, m.setE a f v = some (m', e) ∧ Inv m' Y H ∧ m'.shapes = m.shapes ∧ (∀ x, m.isCur x → m'.isCur x) := by
  obtain ⟨r, hr, hR⟩ := fieldE_of h.tl a f
  unfold Mem.setE
  rw [hr]
  cases hR with
  | none => exact ⟨_, _, rfl, h, rfl, fun _ q => q⟩
  | arg => exact ⟨_, _, rfl, h, rfl, fun _ q => q⟩
  | ok wh l i r hc hw hob hf hl =>
    subst hf
    simp only
    by_cases hbad : (r && (v != 0 && (m.cur v).isNone)) = true
    · rw [if_pos hbad]; exact ⟨_, _, rfl, h, rfl, fun _ q => q⟩
    · rw [if_neg hbad]
      have hcur : r = true → v = 0 ∨ m.isCur v := by
        intro e
        subst e
        simp only [Bool.true_and, Bool.and_eq_true, bne_iff_ne, ne_eq, not_and, cur_isNone, Classical.not_not] at hbad
        by_cases e : v = 0
        · exact .inl e
        · exact .inr (hbad e)
      have hs := Mem.setd m wh a i v
      have hi := getElem_lt hl
      have hby : ∀ b, (m.setSp ((m.sp wh).put (a + 1 + (i : Int)) v) wh).young.begins b = m.young.begins b := fun b => hs.begins .y b
      have hbn : ∀ b, (m.setSp ((m.sp wh).put (a + 1 + (i : Int)) v) wh).now.begins b = m.now.begins b := fun b => hs.begins .n b
      by_cases hk : (r && ((m.setSp ((m.sp wh).put (a + 1 + (i : Int)) v) wh).now.begins a && ((m.setSp ((m.sp wh).put (a + 1 + (i : Int)) v) wh).young.begins v && !(m.setSp ((m.sp wh).put (a + 1 + (i : Int)) v) wh).known.contains (a, (i : Int))))) = true
      · rw [if_pos hk]
        rw [hbn, hby, hs.rest.2.1] at hk
        simp only [Bool.and_eq_true, Bool.not_eq_true', List.contains_eq_mem, decide_eq_false_iff_not] at hk
        obtain ⟨rfl, k2, k3, k4⟩ := hk
        have hwn : wh = .n := h.geo.apart h.tl hob.1 k2
        subst hwn
        have hkl := h.known_len
        have hHb := h.geo.Hb
        rw [hs.rest.2.1, if_pos (by omega)]
        have hadd := h.addKnown ⟨l, hob, hl⟩ k4
        have hs' := Mem.setd { m with known := m.known ++ [(a, (i : Int))] } .n a i v
        refine ⟨_, _, rfl, ?_, rfl, fun x q => (hs.isCur x).2 q⟩
        exact hadd.setd (l := l) hw hob hi hs' (fun _ => hcur rfl) fun _ _ _ => List.mem_append.2 (.inr (by simp))
      · rw [if_neg hk]
        rw [hbn, hby, hs.rest.2.1] at hk
        refine ⟨_, _, rfl, ?_, hs.rest.1, fun x q => (hs.isCur x).2 q⟩
        refine h.setd hw hob hi hs (fun e => hcur (by rw [hl] at e; exact Option.some.inj e)) fun e hwn hyv => ?_
        subst hwn
        have hrt : r = true := by rw [hl] at e; exact Option.some.inj e
        subst hrt
        have hba : m.now.begins a = true := hob.1
        simp only [Bool.true_and, hba, hyv, Bool.not_eq_true', List.contains_eq_mem, decide_eq_false_iff_not, Classical.not_not] at hk
        exact hk

theorem Inv.allocE (h : Inv m Y H) (v : Int) : Inv (m.allocE v).1 Y H ∧ (m.allocE v).1.shapes = m.shapes ∧ ((m.allocE v).2.2 = 0 → (m.allocE v).1.young.begins (m.allocE v).2.1 = true) ∧ (∀ x, m.isCur x → (m.allocE v).1.isCur x) := by
  unfold Mem.allocE
  cases hsh : m.shapeAt v with
  | none => exact ⟨h, rfl, fun q => by simp at q, fun _ q => q⟩
  | some l =>
    simp only
    by_cases hroom : m.young.room < ((l.length + 1 : Nat) : Int)
    · rw [if_pos hroom]; exact ⟨h, rfl, fun q => by simp at q, fun _ q => q⟩
    · rw [if_neg hroom]
      simp only
      have hr : m.young.used + (l.length + 1) ≤ m.young.words.length := by
        unfold Sp.room at hroom; push_cast at hroom; omega
      have hlay := Sp.lay_eq m.young l.length v hr
      rw [hlay]
      have hxl : (v :: List.replicate l.length (0 : Int)).length = l.length + 1 := by simp
      have hr' : m.young.used + (v :: List.replicate l.length (0 : Int)).length ≤ m.young.words.length := by rw [hxl]; exact hr
      have hty := h.ty.app (v := v) (l := l) (xs := List.replicate l.length 0) hsh (by simp) hr
      have hbg := Sp.app_begins h.ty (xs := v :: List.replicate l.length (0 : Int)) (by simp) hr'
      have hcur : ∀ x, m.isCur x → ({ m with young := m.young.app (v :: List.replicate l.length 0) } : Mem).isCur x := fun x q => by
        rcases q with q | q
        · exact .inl ((hbg x).2 (.inl q))
        · exact .inr q
      have hg := h.geo
      refine ⟨⟨⟨hg.yf, by show (m.young.app _).words.length = _; rw [Sp.app_len _ _ hr']; exact hg.yl, hg.nl, hg.ol, hg.nf, hg.Y0, hg.H0, hg.Yb, hg.Hb⟩, hty, h.tn, h.to, h.sl, h.sll, h.idle, fun a i hrf => ?_, fun a i hrf => ?_, h.or, fun a i hrf hb => ?_, h.kv, h.kd, h.sc, h.sc0, h.mv, ?_, h.rm⟩, by simp, fun _ => (hbg _).2 (.inr rfl), hcur⟩
      · obtain ⟨l', o1, o2⟩ := hrf
        have hi := getElem_lt o2
        rcases Sp.app_ob h.ty (by simp) hr' o1 with q | ⟨rfl, q⟩
        · have hb := h.ty.bound q
          have : ({ m with young := m.young.app (v :: List.replicate l.length 0) } : Mem).fld .y a i = m.fld .y a i := Sp.app_get_old hr' (by omega) (by omega)
          rw [this]
          rcases h.yr a i ⟨l', q, o2⟩ with g | g
          · exact .inl g
          · exact .inr (hcur _ g)
        · left
          have hll : l' = l := by
            have e : shapeOf m.shapes v = some l := hsh
            simp only [List.getD_cons_zero] at q
            rw [e] at q; exact (Option.some.inj q).symm
          subst hll
          show (m.young.app _).get (m.young.top + 1 + (i : Int)) = 0
          rw [show m.young.top + 1 + (i : Int) = m.young.top + ((i + 1 : Nat) : Int) by push_cast; omega, Sp.app_get_new hr' (by rw [hxl]; omega)]
          rw [List.getD_cons_succ, List.getD_eq_getElem?_getD, List.getElem?_replicate]
          split <;> rfl
      · rcases h.nr a i hrf with g | g | g
        · exact .inl g
        · exact .inr (.inl (hcur _ g))
        · exact .inr (.inr g)
      · rcases (hbg _).1 hb with q | q
        · exact h.kn a i hrf q
        · exfalso
          -- the new object's address is in no field
          rcases h.nr a i hrf with g | g | ⟨_, g, _⟩
          · have e : m.young.top = 0 := by rw [← q]; exact g
            have := hg.yf
            unfold Sp.top at e; omega
          · rcases g with g | g
            · obtain ⟨j, e, hj, _⟩ := Sp.begins_iff.1 g
              have e2 : m.fld .n a i = m.young.top := q
              unfold Sp.top at e2; omega
            · obtain ⟨j, e, hj, _⟩ := Sp.begins_iff.1 g
              have e2 : m.fld .n a i = m.young.top := q
              have h1 := h.geo.nf
              have h2 := h.geo.yf
              have h3 := h.geo.yl
              unfold Sp.top at e2; omega
          · obtain ⟨j, e, hj, _⟩ := Sp.begins_iff.1 g
            have e2 : m.fld .n a i = m.young.top := q
            have h1 := h.geo.nf
            have h2 := h.geo.yf
            have h3 := h.geo.yl
            unfold Sp.top at e2; omega
      · have := unmovedTo_congr (m := m) (m' := { m with young := m.young.app (v :: List.replicate l.length 0) }) rfl rfl m.other.used fun _ _ _ => Iff.rfl
        show m.left = ((_ : Nat) : Int)
        rw [this]; exact h.lf
end Mem
end Go.Proofs.Hp
