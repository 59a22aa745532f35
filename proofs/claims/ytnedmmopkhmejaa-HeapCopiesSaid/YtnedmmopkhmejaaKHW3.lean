/- Walks: made, find, current, size, field. -/
import Derived.Test.YtnedmmopkhmejaaKHW2
import Derived.Test.YtnedmmopkhmejaaKHMRep
import Derived.Lib.Hide
import Derived.Deep.RegionHeld3
import Derived.RangeFuncNested
set_option linter.unusedVariables false
set_option linter.unusedSimpArgs false
namespace Go.Proofs.Ytnedmmopkhmejaa
open Go.RowKit Go.Proofs.Hp

theorem c_made (w : World) (L : ML) (m : Mem) (h : MemRep w L m) :
    Calls Try.prog 67 #[.pointer (some ⟨L.b, 0, none⟩)] w fun e w' => e = .returned (.bool true) ∧ w = w' := by
  have hc1 := h.c1
  go_enter Try.func67, Try.ntmps67
  go_wp2
  go_ret
  exact ⟨rfl, rfl⟩

theorem c_made_nil (w : World) :
    Calls Try.prog 67 #[.pointer none] w fun e w' => e = .returned (.bool false) ∧ w = w' := by
  go_enter Try.func67, Try.ntmps67
  go_wp2
  go_ret
  exact ⟨rfl, rfl⟩

theorem enters {P : Program} {f : FuncId} {fn : Func} {c : Code} (hf : P.funcs[f]? = some fn) (hname : (fn.name == "runtime.NumGoroutine") = false) (hb : fn.body = some c) (args : Array Value) (w : World) :
    (callFunc f args).run P w = .ok (.enter f args) w := by
  have hn : ¬ fn.name = "runtime.NumGoroutine" := by simpa using hname
  simp [callFunc, hf, hn, hb]

/-- A pointer to a space, or nil. -/
def optPtr : Option Nat → Value
  | some p => .pointer (some ⟨p, 0, none⟩)
  | none => .pointer none

theorem c_find (w : World) (g : Nat) (cap : Array Value) (B : Nat) (ps : List Nat) (f : Nat → Bool) (hlen : ps.length ≤ 100) (hcf : ∀ args w, (callFunc g args).run Try.prog w = .ok (.enter g args) w)
    (hps : ∀ i (h : i < ps.length), w.cell? ⟨B, i, none⟩ = some (.pointer (some ⟨ps[i], 0, none⟩)))
    (hg : ∀ p ∈ ps, ∀ n, Calls Try.prog g (#[.pointer (some ⟨p, 0, none⟩)] ++ cap) (w.drewN n) fun e w' => e = .returned (.bool (f p)) ∧ ∃ k, w' = w.drewN k) :
    Calls Try.prog 105 #[.func (.func g) #[] cap, .slice (some ⟨B, 0, none⟩) ps.length ps.length] w fun e w' =>
      e = .returned (.tuple #[optPtr (ps.find? f), .bool (ps.find? f).isSome]) ∧ ∃ n, w' = w.drewN n := by
  go_enter Try.func105, Try.ntmps105
  go_wp2
  go_loopw [7, 11] (fun t i wr => ∃ k : Nat, k ≤ ps.length ∧ i = .int .i64 k ∧ (∃ n, wr = w.drewN n) ∧ (∀ j (h : j < k) (h' : j < ps.length), f ps[j] = false)) (fun _ i _ => ps.length - (intOf i).toNat)
  case atStart => exact ⟨0, by omega, rfl, ⟨0, rfl⟩, fun j h => by omega⟩
  case round =>
    obtain ⟨k, hk, rfl, ⟨n, rfl⟩, hno⟩ := hrel
    by_cases hlt : k < ps.length
    · have hc := hps k hlt
      have hgk := hg ps[k] (List.getElem_mem hlt) n
      have hno' := Lib.hid hno
      clear hno hps hg
      go_wp2_with (fail)
      refine hgk.mono ?_
      rintro e w1 ⟨rfl, n1, rfl⟩
      cases hf : f ps[k]
      · clear hgk
        have hf' := Lib.hid hf
        clear hf
        go_wp2
        go_roundw
        case rel => exact ⟨k + 1, by omega, by go_num, ⟨_, rfl⟩, fun j hj h' => by
          rcases Nat.lt_or_ge j k with q | q
          · exact hno'.out j q h'
          · obtain rfl : j = k := by omega
            exact hf'.out⟩
        case measure => simp [intOf]; omega
      · clear hgk
        have hfin : ps.find? f = some ps[k] := by
          rw [List.find?_eq_some_iff_getElem]
          exact ⟨hf, k, hlt, rfl, fun j hj => by simp [hno'.out j hj (by omega)]⟩
        clear hf
        have hfin' := Lib.hid hfin
        clear hfin
        go_wp2
        go_ret2
        exact ⟨by rw [hfin'.out]; rfl, _, rfl⟩
    · have hfin : ps.find? f = none := by
        rw [List.find?_eq_none]
        intro x hx
        obtain ⟨j, hj, rfl⟩ := List.mem_iff_getElem.1 hx
        simp [hno j (by omega) hj]
      have hfin' := Lib.hid hfin
      clear hfin hno hps hg
      go_wp2
      go_ret2
      exact ⟨by rw [hfin'.out]; rfl, _, rfl⟩

theorem c_current1 (w : World) (L : SpL) (s : Sp) (h : SpRep w L s) (B : Nat) (a : Int) (hB : w.cell? ⟨B, 0, none⟩ = some (.int .i64 a)) :
    Calls Try.prog 109 #[.pointer (some ⟨L.b, 0, none⟩), .pointer (some ⟨B, 0, none⟩)] w fun e w' => e = .returned (.bool (s.begins a)) ∧ ∃ n, w' = w.drewN n := by
  go_enter Try.func109, Try.ntmps109
  go_wp2_with (fail)
  refine (c_begins w L s h a).mono ?_
  rintro e w1 ⟨rfl, n, rfl⟩
  go_wp2
  go_ret
  exact ⟨rfl, _, rfl⟩

theorem c_in1 (w : World) (L : SpL) (s : Sp) (h : SpRep w L s) (B : Nat) (a : Int) (hB : w.cell? ⟨B, 0, none⟩ = some (.int .i64 a)) :
    Calls Try.prog 106 #[.pointer (some ⟨L.b, 0, none⟩), .pointer (some ⟨B, 0, none⟩)] w fun e w' => e = .returned (.bool (s.begins a)) ∧ ∃ n, w' = w.drewN n := by
  go_enter Try.func106, Try.ntmps106
  go_wp2_with (fail)
  refine (c_begins w L s h a).mono ?_
  rintro e w1 ⟨rfl, n, rfl⟩
  go_wp2
  go_ret
  exact ⟨rfl, _, rfl⟩

def curPtr (L : ML) : Option Wh → Value
  | some wh => .pointer (some ⟨(L.spL wh).b, 0, none⟩)
  | none => .pointer none

theorem c_find_cur (w : World) (L : ML) (m : Mem) (h : MemRep w L m) (a : Int) (B G : Nat) (T : TypeId) (hB' : w.heap[B]? = some (.cells #[.int .i64 a] 3 (0, 0)))
    (hG : w.heap[G]? = some (.cells #[.pointer (some ⟨L.y.b, 0, none⟩), .pointer (some ⟨L.n.b, 0, none⟩)] T (0, 0))) :
    Calls Try.prog 105 #[.func (.func 109) #[] #[.pointer (some ⟨B, 0, none⟩)], .slice (some ⟨G, 0, none⟩) 2 2] w fun e w' =>
      e = .returned (.tuple #[curPtr L (m.cur a), .bool (m.cur a).isSome]) ∧ ∃ n, w' = w.drewN n := by
  have hB : w.cell? ⟨B, 0, none⟩ = some (.int .i64 a) := by rw [cell_of hB']; rfl
  have hne : L.y.b ≠ L.n.b := by
    obtain ⟨_, _, _, _, _, _, _, _, _, q, _⟩ := h.apart
    intro e
    exact (q L.y.b (by simp [SpL.fp])).1 (by rw [e]; simp [SpL.fp])
  have hf := c_find w 109 #[.pointer (some ⟨B, 0, none⟩)] G [L.y.b, L.n.b] (fun p => if p = L.y.b then m.young.begins a else m.now.begins a) (by simp) (enters Try.func109 (by kernel_rfl) rfl)
    (by
      intro i hi
      rw [cell_of hG]
      match i, hi with
      | 0, _ => rfl
      | 1, _ => rfl)
    (by
      intro p hp n
      simp only [List.mem_cons, List.not_mem_nil, or_false] at hp
      rcases hp with rfl | rfl
      · exact Calls.quiet_of (by simpa using c_current1 (w.drewN n) L.y m.young (h.drewN n).y B a hB)
      · exact Calls.quiet_of (by simpa [Ne.symm hne] using c_current1 (w.drewN n) L.n m.now (h.drewN n).n B a hB))
  refine hf.mono ?_
  rintro e w' ⟨rfl, hw⟩
  refine ⟨?_, hw⟩
  unfold Mem.cur
  by_cases h1 : m.young.begins a = true
  · simp [h1, optPtr, curPtr, ML.spL]
  · have h1' : m.young.begins a = false := by simpa using h1
    by_cases h2 : m.now.begins a = true
    · simp [h1', h2, Ne.symm hne, optPtr, curPtr, ML.spL]
    · have h2' : m.now.begins a = false := by simpa using h2
      simp [h1', h2', Ne.symm hne, optPtr, curPtr]

set_option maxRecDepth 100000 in
theorem c_current (w : World) (L : ML) (m : Mem) (h : MemRep w L m) (a : Int) :
    Calls Try.prog 71 #[.pointer (some ⟨L.b, 0, none⟩), .int .i64 a] w fun e w' => e = .returned (.tuple #[curPtr L (m.cur a), .bool (m.cur a).isSome]) ∧ Below w.heap.size w w' := by
  have c1 := h.c1
  have c2 := h.c2
  go_enter Try.func71, Try.ntmps71
  go_wp2_with (fail)
  go_region_held3 (fun w' => w'.cell? ⟨L.b, 1, none⟩ = some (.pointer (some ⟨L.y.b, 0, none⟩)) ∧ w'.cell? ⟨L.b, 2, none⟩ = some (.pointer (some ⟨L.n.b, 0, none⟩))) (go_keep)
    (((with_reducible refine (c_find_cur _ L m (((h.alloc _).alloc _).drew) a _ _ _ (al2 w _ _).1 (al2 w _ _).2).mono ?_); rintro e w' ⟨rfl, n, rfl⟩))
  all_goals
    go_wp2
    go_ret2
    exact ⟨rfl, ((((Fr.refl _ w).alloc _).alloc _).drewN _).below⟩

/-- What a walk needs of the shape of an object: the slice of shapes, its cell, the shape's own cells. -/
theorem MemRep.fields {w : World} {L : ML} {m : Mem} (h : MemRep w L m) {s : Sp} {a : Int} {l : List Bool} (hl : m.fieldsAt s a = some l) :
    s.ok a = true ∧ l.length ≤ 60 ∧ ∃ b o cap p cap', w.cell? ⟨L.b, 0, none⟩ = some (.slice (some ⟨b, o, none⟩) m.shapes.length cap) ∧ 0 ≤ s.get a ∧ s.get a < (m.shapes.length : Int) ∧
      w.cell? ⟨b, o + (s.get a).toNat, none⟩ = some (.slice p l.length cap') ∧ (∀ i, i < l.length → ∃ b' o', p = some ⟨b', o', none⟩ ∧ w.cell? ⟨b', o' + i, none⟩ = some (.bool (l.getD i false))) := by
  unfold Mem.fieldsAt Mem.shapeAt at hl
  by_cases h1 : s.ok a = true
  · rw [if_pos h1] at hl
    by_cases h2 : 0 ≤ s.get a
    · rw [if_pos h2] at hl
      obtain ⟨b, o, cap, u, e1, e2, e3, p, cap', e4, e5⟩ := h.sh.at hl
      refine ⟨h1, h.sll l (List.mem_of_getElem? hl), b, o, cap, p, cap', by rw [← e1]; exact h.c0, h2, by omega, by rw [← e4]; exact e3, fun i hi => ?_⟩
      rcases e5 with rfl | ⟨b', o', e6, _, e7⟩
      · simp at hi
      · exact ⟨b', o', e6, by rw [e7 i hi]; simp [hi]⟩
    · rw [if_neg h2] at hl; cases hl
  · rw [if_neg h1] at hl; cases hl

theorem SpRep.getw {w : World} {L : SpL} {s : Sp} (h : SpRep w L s) {a : Int} (ha : s.ok a = true) : w.cell? ⟨L.wb, s.idx a, none⟩ = some (.int .i64 (s.get a)) := by
  unfold Sp.get
  refine h.word ?_
  simp only [Sp.ok, Bool.and_eq_true, decide_eq_true_eq] at ha
  unfold Sp.idx; omega

theorem c_size (w : World) (L : ML) (m : Mem) (h : MemRep w L m) (wh : Wh) (a : Int) (n : Nat) (hn : m.size (m.sp wh) a = some n) :
    Calls Try.prog 112 #[.pointer (some ⟨L.b, 0, none⟩), .pointer (some ⟨(L.spL wh).b, 0, none⟩), .int .i64 a] w fun e w' => e = .returned (.int .i64 n) ∧ ∃ k, w' = w.drewN k := by
  unfold Mem.size at hn
  cases hl : m.fieldsAt (m.sp wh) a with
  | none => rw [hl] at hn; cases hn
  | some l =>
    rw [hl] at hn
    simp only [Option.map_some, Option.some.injEq] at hn
    obtain ⟨ho, hl60, b, o, cap, p, cap', q1, q2, q3, q4, _⟩ := h.fields hl
    have hw := (h.spR wh).getw ho
    have hc : ∀ n, Calls Try.prog 61 #[.pointer (some ⟨(L.spL wh).b, 0, none⟩), .int .i64 a] (w.drewN n) fun e w' => e = .returned (.pointer (some ⟨(L.spL wh).wb, (m.sp wh).idx a, none⟩)) ∧ ∃ k, w' = w.drewN k :=
      fun n => Calls.quiet_of (c_word _ _ _ ((h.spR wh).drewN n) a ho)
    subst hn
    clear hl ho
    go_enter Try.func112, Try.ntmps112
    go_wp2
    go_quiet ((go_at_call 61; exact hc _))
    go_wp2
    go_ret
    exact ⟨ret_int (a := 1 + (l.length : Int)) (by omega), _, rfl⟩

theorem below_drewN {B : Nat} {a w : World} (h : Below B a w) (n : Nat) : Below B a (w.drewN n) := h.trans ⟨rfl, rfl, rfl, Nat.le_refl _, fun _ _ => rfl⟩

def fieldV (L : ML) (m : Mem) (a f : Int) : Int ⊕ (Wh × Bool) → Value
  | .inl e => .tuple #[.pointer none, .bool false, .int .i64 e]
  | .inr (wh, r) => .tuple #[.pointer (some ⟨(L.spL wh).wb, (m.sp wh).idx (a + 1 + f), none⟩), .bool r, .int .i64 0]

theorem begins_ok {w : World} {L : SpL} {s : Sp} (h : SpRep w L s) {a : Int} (hb : s.begins a = true) : s.ok a = true := by
  have := h.le
  simp only [Sp.begins, Sp.has, Sp.ok, Bool.and_eq_true, decide_eq_true_eq] at *
  omega
theorem cur_begins {m : Mem} {a : Int} {wh : Wh} (hc : m.cur a = some wh) : (m.sp wh).begins a = true := by
  unfold Mem.cur at hc
  split at hc
  · cases hc; assumption
  · split at hc
    · cases hc; assumption
    · cases hc

set_option maxRecDepth 100000 in
theorem c_field (w : World) (L : ML) (m : Mem) (h : MemRep w L m) (a f : Int) (r : Int ⊕ (Wh × Bool)) (hr : m.fieldE a f = some r) :
    Calls Try.prog 92 #[.pointer (some ⟨L.b, 0, none⟩), .int .i64 a, .int .i64 f] w fun e w' => e = .returned (fieldV L m a f r) ∧ Below w.heap.size w w' := by
  have hcur := c_current w L m h a
  unfold Mem.fieldE at hr
  cases hc : m.cur a with
  | none =>
    rw [hc] at hr hcur
    simp only [Option.some.injEq] at hr
    subst hr
    clear hc
    go_enter Try.func92, Try.ntmps92
    go_wp2_with (fail)
    refine (c_made w L m h).mono ?_
    rintro e w0 ⟨rfl, rfl⟩
    go_wp2_with (fail)
    refine hcur.mono ?_
    rintro e w1 ⟨rfl, hb⟩
    go_wp2
    go_ret3
    exact ⟨rfl, hb⟩
  | some wh =>
    rw [hc] at hr hcur
    have hbeg := cur_begins hc
    have hok := begins_ok (h.spR wh) hbeg
    simp only at hr
    cases hl : m.shapeAt ((m.sp wh).get a) with
    | none => rw [hl] at hr; cases hr
    | some l =>
      rw [hl] at hr
      simp only at hr
      have hfl : m.fieldsAt (m.sp wh) a = some l := by unfold Mem.fieldsAt; rw [if_pos hok]; exact hl
      simp only [curPtr, Option.isSome_some] at hcur
      by_cases hf0 : 0 ≤ f
      · rw [if_pos hf0] at hr
        have hf00 : ¬ f < 0 := by omega
        cases hi : l[f.toNat]? with
        | none =>
          rw [hi] at hr
          simp only [Option.some.injEq] at hr
          subst hr
          have hge : (l.length : Int) ≤ f := by
            have := List.getElem?_eq_none_iff.1 hi
            omega
          clear hc hl hi
          have hge2 : ¬ f < (l.length : Int) := by omega
          go_enter Try.func92, Try.ntmps92
          go_wp2_with (fail)
          refine (c_made w L m h).mono ?_
          rintro e w0 ⟨rfl, rfl⟩
          go_wp2_with (fail)
          refine hcur.mono ?_
          rintro e w1 ⟨rfl, hb⟩
          have h1 := h.below hb
          obtain ⟨_, hl60, b, o, cap, p, cap', q1, q2, q3, q4, q5⟩ := h1.fields hfl
          have hw := (h1.spR wh).getw hok
          have hc1 : ∀ n, Calls Try.prog 61 #[.pointer (some ⟨(L.spL wh).b, 0, none⟩), .int .i64 a] (w1.drewN n) fun e w' => e = .returned (.pointer (some ⟨(L.spL wh).wb, (m.sp wh).idx a, none⟩)) ∧ ∃ k, w' = w1.drewN k :=
            fun n => Calls.quiet_of (c_word _ _ _ ((h1.spR wh).drewN n) a hok)
          clear hfl hok hbeg q5
          go_wp2_with (fail)
          go_quiet ((go_at_call 61; exact hc1 _))
          go_wp2
          go_ret3
          exact ⟨rfl, below_drewN hb nq⟩
        | some rf =>
          rw [hi] at hr
          simp only at hr
          by_cases hok2 : (m.sp wh).ok (a + 1 + f) = true
          · rw [if_pos hok2] at hr
            simp only [Option.some.injEq] at hr
            subst hr
            obtain ⟨hfl1, hfl2⟩ := List.getElem?_eq_some_iff.1 hi
            have hlt : f < (l.length : Int) := by omega
            have hrf : l.getD f.toNat false = rf := by rw [List.getD_eq_getElem?_getD, hi]; rfl
            clear hc hl hi hfl2
            go_enter Try.func92, Try.ntmps92
            go_wp2_with (fail)
            refine (c_made w L m h).mono ?_
            rintro e w0 ⟨rfl, rfl⟩
            go_wp2_with (fail)
            refine hcur.mono ?_
            rintro e w1 ⟨rfl, hb⟩
            have h1 := h.below hb
            obtain ⟨_, hl60, b, o, cap, p, cap', q1, q2, q3, q4, q5⟩ := h1.fields hfl
            have hw := (h1.spR wh).getw hok
            have hc1 : ∀ n, Calls Try.prog 61 #[.pointer (some ⟨(L.spL wh).b, 0, none⟩), .int .i64 a] (w1.drewN n) fun e w' => e = .returned (.pointer (some ⟨(L.spL wh).wb, (m.sp wh).idx a, none⟩)) ∧ ∃ k, w' = w1.drewN k :=
              fun n => Calls.quiet_of (c_word _ _ _ ((h1.spR wh).drewN n) a hok)
            obtain ⟨b', o', rfl, q6⟩ := q5 f.toNat hfl1
            rw [hrf] at q6
            have hab := hok
            simp only [Sp.ok, Bool.and_eq_true, decide_eq_true_eq] at hab
            have hb1 := (h1.spR wh).b1
            have hb2 := (h1.spR wh).b2
            have e1 : IntKind.i64.wrap (a + 1) = a + 1 := IntWalk.i64_in _ (by omega)
            have e2 : IntKind.i64.wrap (a + 1 + f) = a + 1 + f := IntWalk.i64_in _ (by omega)
            clear hfl hok hbeg q5 hab hb1 hb2 hfl1 hrf
            have e1' := Lib.hid e1
            have e2' := Lib.hid e2
            clear e1 e2
            go_wp2_with (fail)
            go_quiet ((go_at_call 61; exact hc1 _))
            have h2 := h1.drewN nq
            have hb2 := below_drewN hb nq
            replace q6 : (w1.drewN nq).cell? ⟨b', o' + f.toNat, none⟩ = some (.bool rf) := q6
            generalize w1.drewN nq = w2 at *
            have hc2 : ∀ n, Calls Try.prog 61 #[.pointer (some ⟨(L.spL wh).b, 0, none⟩), .int .i64 (a + 1 + f)] (w2.drewN n) fun e w' => e = .returned (.pointer (some ⟨(L.spL wh).wb, (m.sp wh).idx (a + 1 + f), none⟩)) ∧ ∃ k, w' = w2.drewN k :=
              fun n => Calls.quiet_of (c_word _ _ _ ((h2.spR wh).drewN n) (a + 1 + f) hok2)
            have e1 := e1'.out
            have e2 := e2'.out
            clear hc1 hw q1 q2 q3 q4 hok2
            go_wp2_with (fail)
            go_quiet ((go_at_call 61; exact hc2 _))
            go_wp2
            go_ret3
            exact ⟨rfl, below_drewN hb2 nq⟩
          · rw [if_neg hok2] at hr; cases hr
      · rw [if_neg hf0] at hr
        simp only [Option.some.injEq] at hr
        subst hr
        have hf00 : f < 0 := by omega
        clear hc hl
        go_enter Try.func92, Try.ntmps92
        go_wp2_with (fail)
        refine (c_made w L m h).mono ?_
        rintro e w0 ⟨rfl, rfl⟩
        go_wp2_with (fail)
        refine hcur.mono ?_
        rintro e w1 ⟨rfl, hb⟩
        have h1 := h.below hb
        obtain ⟨_, hl60, b, o, cap, p, cap', q1, q2, q3, q4, q5⟩ := h1.fields hfl
        have hw := (h1.spR wh).getw hok
        have hc1 : ∀ n, Calls Try.prog 61 #[.pointer (some ⟨(L.spL wh).b, 0, none⟩), .int .i64 a] (w1.drewN n) fun e w' => e = .returned (.pointer (some ⟨(L.spL wh).wb, (m.sp wh).idx a, none⟩)) ∧ ∃ k, w' = w1.drewN k :=
          fun n => Calls.quiet_of (c_word _ _ _ ((h1.spR wh).drewN n) a hok)
        clear hfl hok hbeg q5
        go_wp2_with (fail)
        go_quiet ((go_at_call 61; exact hc1 _))
        go_wp2
        go_ret3
        exact ⟨rfl, below_drewN hb nq⟩
end Go.Proofs.Ytnedmmopkhmejaa
