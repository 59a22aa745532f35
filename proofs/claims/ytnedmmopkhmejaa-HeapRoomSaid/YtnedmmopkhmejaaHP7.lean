/- Plain: 'needed' answers, and what it counts. -/
import Derived.Test.YtnedmmopkhmejaaHP6
namespace Go.Proofs.Hp
namespace Mem
variable {m m' : Mem} {Y H : Nat} {y : Bool}

/-- How many words a young object has. -/
def szY (m : Mem) (c : Int) : Nat := match shapeOf m.shapes (m.young.get c) with | some l => l.length + 1 | none => 0
theorem szY_of {c : Int} {l : List Bool} (h : m.ob .y c l) : m.szY c = l.length + 1 := by unfold szY; have := h.2; simp only [sp] at this; rw [this]

structure YL (m : Mem) (l : List Int) : Prop where
  nd : l.Nodup
  bg : ∀ c ∈ l, m.young.begins c = true

theorem YL.nil (m : Mem) : YL m [] := ⟨List.nodup_nil, by simp⟩
theorem meetY_mem {l : List Int} {a x : Int} : x ∈ m.meetY l a ↔ x ∈ l ∨ (x = a ∧ m.young.begins a = true) := by
  unfold meetY
  by_cases h1 : m.young.begins a = true
  · by_cases h2 : a ∈ l
    · simp only [h1, List.contains_eq_mem, h2, decide_true, Bool.not_true, Bool.and_false, Bool.false_eq_true, if_false, and_true]
      constructor
      · exact .inl
      · rintro (q | rfl); exact q; exact h2
    · simp [h1, h2]
  · simp [h1]
theorem YL.meet {l : List Int} (h : YL m l) (a : Int) : YL m (m.meetY l a) := by
  refine ⟨?_, fun c hc => ?_⟩
  · unfold meetY
    split
    · rename_i q
      simp only [Bool.and_eq_true, Bool.not_eq_true', List.contains_eq_mem, decide_eq_false_iff_not] at q
      exact nodup_snoc h.nd q.2
    · exact h.nd
  · rcases meetY_mem.1 hc with q | ⟨rfl, q⟩
    · exact h.bg c q
    · exact q
theorem YL.fold {l : List Int} (h : YL m l) : ∀ vs : List Int, YL m (vs.foldl m.meetY l) ∧ ∀ x, x ∈ vs.foldl m.meetY l ↔ x ∈ l ∨ (x ∈ vs ∧ m.young.begins x = true)
  | [] => ⟨h, by simp⟩
  | v :: vs => by
    obtain ⟨h1, h2⟩ := (h.meet v).fold vs
    refine ⟨h1, fun x => ?_⟩
    rw [List.foldl_cons, h2, meetY_mem, List.mem_cons]
    constructor
    · rintro ((q | ⟨rfl, q⟩) | ⟨q1, q2⟩)
      · exact .inl q
      · exact .inr ⟨.inl rfl, q⟩
      · exact .inr ⟨.inr q1, q2⟩
    · rintro (q | ⟨rfl | q1, q2⟩)
      · exact .inl (.inl q)
      · exact .inl (.inr ⟨rfl, q2⟩)
      · exact .inr ⟨q1, q2⟩
/-- What a list is is told by what stands ahead. -/
theorem fold_prefix (m : Mem) : ∀ (vs l : List Int), ∃ r, vs.foldl m.meetY l = l ++ r
  | [], l => ⟨[], by simp⟩
  | v :: vs, l => by
    obtain ⟨r, hr⟩ := fold_prefix m vs (m.meetY l v)
    rw [List.foldl_cons, hr]
    unfold meetY
    split
    · exact ⟨v :: r, by simp⟩
    · exact ⟨r, rfl⟩
theorem YL.len {l : List Int} (h : YL m l) : l.length ≤ m.young.used := range_le h.nd (m.young.frm : Int) m.young.used fun x hx => by
  obtain ⟨i, e, hi, _⟩ := Sp.begins_iff.1 (h.bg x hx)
  omega

theorem refVals_of {s : Sp} (a : Int) : ∀ (l : List Bool) (i : Int), (∀ k : Nat, k < l.length → s.ok (a + 1 + (i + (k : Int))) = true) → ∃ vs, refVals s a l i = some vs ∧ ∀ x, x ∈ vs ↔ ∃ k : Nat, l[k]? = some true ∧ x = s.get (a + 1 + (i + (k : Int)))
  | [], i, _ => ⟨[], rfl, by simp⟩
  | b :: bs, i, h => by
    obtain ⟨vs, h1, h2⟩ := refVals_of (s := s) a bs (i + 1) fun k hk => by
      have := h (k + 1) (by simp; omega)
      rw [show i + 1 + (k : Int) = i + ((k + 1 : Nat) : Int) by push_cast; omega]; exact this
    have hsh : ∀ x, (∃ k : Nat, bs[k]? = some true ∧ x = s.get (a + 1 + (i + 1 + (k : Int)))) ↔ ∃ k : Nat, (b :: bs)[k + 1]? = some true ∧ x = s.get (a + 1 + (i + ((k + 1 : Nat) : Int))) := fun x => by
      simp only [List.getElem?_cons_succ]
      constructor <;> rintro ⟨k, q1, q2⟩ <;> exact ⟨k, q1, by rw [q2]; congr 1; push_cast; omega⟩
    unfold refVals
    cases b with
    | false =>
      refine ⟨vs, h1, fun x => ?_⟩
      rw [h2, hsh]
      constructor
      · rintro ⟨k, q⟩; exact ⟨k + 1, q⟩
      · rintro ⟨k, q⟩
        cases k with
        | zero => simp at q
        | succ k => exact ⟨k, q⟩
    | true =>
      have h0 := h 0 (by simp)
      simp only [Int.natCast_zero, Int.add_zero] at h0
      rw [if_pos rfl, if_pos h0, h1]
      refine ⟨_, rfl, fun x => ?_⟩
      rw [List.mem_cons, h2, hsh]
      constructor
      · rintro (rfl | ⟨k, q⟩)
        · exact ⟨0, by simp, by simp⟩
        · exact ⟨k + 1, q⟩
      · rintro ⟨k, q⟩
        cases k with
        | zero => left; simpa using q.2
        | succ k => exact .inr ⟨k, q⟩

theorem refVals_ob (tl : m.Tiled) {wh : Wh} {a : Int} {l : List Bool} (ha : m.ob wh a l) : ∃ vs, refVals (m.sp wh) a l 0 = some vs ∧ ∀ x, x ∈ vs ↔ ∃ k : Nat, l[k]? = some true ∧ x = m.fld wh a k := by
  obtain ⟨vs, h1, h2⟩ := refVals_of (s := m.sp wh) a l 0 fun k hk => by
    rw [Int.zero_add]; exact (has_field tl ha hk).2
  refine ⟨vs, h1, fun x => ?_⟩
  rw [h2]
  simp only [Int.zero_add]; rfl

/-- Young objects that are closed under their fields. -/
structure Closed (m : Mem) (C : List Int) : Prop where
  yl : YL m C
  cl : ∀ c ∈ C, ∀ i, m.rf .y c i → m.young.begins (m.fld .y c i) = true → m.fld .y c i ∈ C

theorem neededLoop_of (h : Inv m Y H) : ∀ (k i : Nat) (n : Int) (l : List Int), YL m l → i ≤ l.length → m.young.used + 1 ≤ k + i → n = (sumOf m.szY (l.take i) : Int) → (∀ j, j < i → ∀ c, l[j]? = some c → ∀ f, m.rf .y c f → m.young.begins (m.fld .y c f) = true → m.fld .y c f ∈ l) →
    ∃ C, m.neededLoop k i n l = some (sumOf m.szY C : Int) ∧ Closed m C ∧ ∃ r, C = l ++ r
  | 0, i, n, l, hl, hi, hk, _, _ => by have := hl.len; omega
  | k + 1, i, n, l, hl, hi, hk, hn, hc => by
    unfold neededLoop
    cases hx : l[i]? with
    | none =>
      have hle := List.getElem?_eq_none_iff.1 hx
      refine ⟨l, ?_, ⟨hl, fun c hcm f => ?_⟩, [], by simp⟩
      · rw [hn, List.take_of_length_le hle]
      · obtain ⟨j, hj⟩ := List.mem_iff_getElem?.1 hcm
        have : j < l.length := (List.getElem?_eq_some_iff.1 hj).1
        exact hc j (by omega) c hj f
    | some a =>
      obtain ⟨hil, hax⟩ := List.getElem?_eq_some_iff.1 hx
      have hab := hl.bg a (by rw [← hax]; exact List.getElem_mem hil)
      obtain ⟨sh, hob⟩ := h.ty.shape hab
      simp only [h.ty.fields hob (m := m) rfl]
      obtain ⟨vs, hv1, hv2⟩ := refVals_ob h.tl (wh := .y) hob
      have hv1' : refVals m.young a sh 0 = some vs := hv1
      simp only [hv1']
      obtain ⟨q1, q2⟩ := hl.fold vs
      obtain ⟨r, hr⟩ := fold_prefix m vs l
      obtain ⟨C, g1, g2, r', g3⟩ := neededLoop_of h k (i + 1) (n + ((sh.length + 1 : Nat) : Int)) (vs.foldl m.meetY l) q1 (by rw [hr]; simp; omega) (by omega)
        (by
          rw [hr, List.take_append_of_le_length (by omega), List.take_succ_eq_append_getElem hil, sumOf_snoc, hax, hn, szY_of (m := m) hob]; push_cast; omega)
        (fun j hj c hcj f hrf hyb => by
          rw [hr, List.getElem?_append_left (by omega)] at hcj
          rcases Nat.lt_or_ge j i with hji | hji
          · exact (q2 _).2 (.inl (hc j hji c hcj f hrf hyb))
          · obtain rfl : j = i := by omega
            rw [hx] at hcj; cases hcj
            obtain ⟨l', o1, o2⟩ := hrf
            have e := ob_len o1 hob
            subst e
            exact (q2 _).2 (.inr ⟨(hv2 _).2 ⟨f, o2, rfl⟩, hyb⟩))
      exact ⟨C, g1, g2, r ++ r', by rw [g3, hr, List.append_assoc]⟩

theorem knownVals_of (h : Inv m Y H) : ∀ ks : List (Int × Int), (∀ k ∈ ks, k ∈ m.known) → ∃ vs, knownVals m.now ks = some vs ∧ ∀ x, x ∈ vs ↔ ∃ k ∈ ks, x = m.now.get (k.1 + 1 + k.2)
  | [], _ => ⟨[], rfl, by simp⟩
  | k :: ks, hk => by
    obtain ⟨vs, h1, h2⟩ := knownVals_of h ks fun x hx => hk x (by simp [hx])
    obtain ⟨i, e, l, o1, o2⟩ := h.kv k (hk k (by simp))
    have hok := (has_field h.tl o1 (getElem_lt o2)).2
    unfold knownVals
    rw [e, if_pos (show m.now.ok (k.1 + 1 + (i : Int)) = true from hok), h1]
    refine ⟨_, rfl, fun x => ?_⟩
    rw [List.mem_cons, h2]
    constructor
    · rintro (rfl | ⟨k', q1, q2⟩)
      · exact ⟨k, by simp, by rw [e]⟩
      · exact ⟨k', by simp [q1], q2⟩
    · rintro ⟨k', q1, q2⟩
      rcases List.mem_cons.1 q1 with rfl | q
      · left; rw [q2, e]
      · exact .inr ⟨k', q, q2⟩

/-- 'needed' counts the words of young objects that are closed, and hold what roots and remembered fields refer to. -/
theorem Inv.needed (h : Inv m Y H) (roots : List Int) : ∃ C, m.needed roots = some (sumOf m.szY C : Int) ∧ Closed m C ∧ (∀ r ∈ roots, m.young.begins r = true → r ∈ C) ∧ (∀ k ∈ m.known, m.young.begins (m.now.get (k.1 + 1 + k.2)) = true → m.now.get (k.1 + 1 + k.2) ∈ C) := by
  obtain ⟨vs, h1, h2⟩ := knownVals_of h m.known fun _ hk => hk
  unfold Mem.needed
  rw [h1]
  simp only
  obtain ⟨q1, q2⟩ := (YL.nil m).fold roots
  obtain ⟨p1, p2⟩ := q1.fold vs
  obtain ⟨C, g1, g2, r, g3⟩ := neededLoop_of h (m.young.words.length + 1) 0 0 _ p1 (Nat.zero_le _) (by have := h.ty.le; omega) (by simp [sumOf]) (fun j hj => by omega)
  refine ⟨C, g1, g2, fun x hx hy => ?_, fun k hk hy => ?_⟩
  · rw [g3]; exact List.mem_append.2 (.inl ((p2 x).2 (.inl ((q2 x).2 (.inr ⟨hx, hy⟩)))))
  · rw [g3]; exact List.mem_append.2 (.inl ((p2 _).2 (.inr ⟨(h2 _).2 ⟨k, hk, rfl⟩, hy⟩)))
end Mem
end Go.Proofs.Hp
