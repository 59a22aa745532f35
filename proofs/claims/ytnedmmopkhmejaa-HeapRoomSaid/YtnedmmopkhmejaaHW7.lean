/- Walks: object, Step. -/
import Derived.Test.YtnedmmopkhmejaaHW6
namespace Go.Proofs.Ytnedmmopkhmejaa
open Go.RowKit Go.Proofs.Hp

set_option maxRecDepth 100000 in
theorem c_object (w : World) (L : ML) (m : Mem) (h : MemRep w L m) (a : Int) (i o : Nat) (ha : a = (m.now.frm : Int) + (i : Int)) (hi : i < m.now.words.length) (ho : Mem.objAt m.now.starts i = some o) :
    Calls Try.prog 80 #[.pointer (some ⟨L.b, 0, none⟩), .int .i64 a] w fun e w' => e = .returned (.int .i64 ((m.now.frm : Int) + (o : Int))) ∧ ∃ n, w' = w.drewN n := by
  subst ha
  go_enter Try.func80, Try.ntmps80
  go_wp2
  go_loopw [1] (fun a wr => ∃ i : Nat, a = .int .i64 ((m.now.frm : Int) + (i : Int)) ∧ i < m.now.words.length ∧ Hid (Mem.objAt m.now.starts i = some o) ∧ ∃ n, wr = w.drewN n) (fun a _ => (intOf a).toNat)
  case atStart => exact ⟨i, rfl, hi, Lib.hid ho, 0, rfl⟩
  case round =>
    obtain ⟨j, rfl, hj, hoj, n, rfl⟩ := hrel
    have h1 := h.drewN n
    have c2 := h1.c2
    have d1 := h1.n.c1
    have d3 := h1.n.c3
    have hb1 := h1.n.b1
    have hb2 := h1.n.b2
    have hlen := h1.n.len
    have hs := h1.n.start (i := j) hj
    have e1 : IntKind.i64.wrap ((m.now.frm : Int) + (j : Int) - (m.now.frm : Int)) = (j : Int) := by
      rw [show (m.now.frm : Int) + (j : Int) - (m.now.frm : Int) = (j : Int) by omega]; exact IntWalk.i64_in _ (by omega)
    have k1 : (j : Int) < (m.now.starts.length : Int) := by omega
    clear hlen hi ho
    have hw : ∀ q, ∃ n', (w.drewN n).drewN q = w.drewN n' := fun q => ⟨n + q, by rw [World.drewN_drewN]⟩
    clear h1
    obtain ⟨wx, hwx⟩ : ∃ wx, w.drewN n = wx := ⟨_, rfl⟩
    rw [hwx] at c2 d1 d3 hs hw ⊢
    have hwx' := Lib.hid hwx
    clear hwx
    cases hst : m.now.starts.getD j false with
    | true =>
      rw [hst] at hs
      have hjo : j = o := by
        have := hoj.out
        cases j with
        | zero => simp only [Mem.objAt, hst, if_true, Option.some.injEq] at this; exact this
        | succ j => simp only [Mem.objAt, hst, if_true, Option.some.injEq] at this; exact this
      subst hjo
      clear hst hoj
      go_wp2_with (fail)
      go_quiet (fail)
      go_wp2
      go_ret
      exact ⟨rfl, by obtain ⟨n', e⟩ := hw nq; exact ⟨n', e⟩⟩
    | false =>
      rw [hst] at hs
      cases j with
      | zero => have := hoj.out; unfold Mem.objAt at this; rw [hst] at this; cases this
      | succ j =>
        have hoj' : Hid (Mem.objAt m.now.starts j = some o) := by
          have := hoj.out
          simp only [Mem.objAt, hst, Bool.false_eq_true, if_false] at this
          exact this
        clear hst hoj
        have e2 : IntKind.i64.wrap ((m.now.frm : Int) + ((j + 1 : Nat) : Int) - 1) = (m.now.frm : Int) + (j : Int) := by
          rw [show (m.now.frm : Int) + ((j + 1 : Nat) : Int) - 1 = (m.now.frm : Int) + (j : Int) by omega]; exact IntWalk.i64_in _ (by omega)
        go_wp2_with (fail)
        go_quiet (fail)
        go_wp2
        refine ⟨⟨j, ?_, by omega, hoj', ?_⟩, ?_⟩
        · rw [show (m.now.frm : Int) + ((j : Int) + 1) - 1 = (m.now.frm : Int) + (j : Int) by omega]
        · obtain ⟨n', e⟩ := hw nq; exact ⟨n', e⟩
        · simp [intOf]; omega

/-- The first steps of 'Step': what the scan looks at. -/
theorem stepLoop_round {k : Nat} {m m' : Mem} (h : Mem.stepLoop (k + 1) m = some m') (hs : m.scan ≠ m.now.top) :
    m.now.ok m.scan = true ∧ ∃ o, Mem.objAt m.now.starts (m.now.idx m.scan) = some o ∧
      ((m.now.idx m.scan = o ∧ Mem.stepLoop k { m with scan := m.scan + 1 } = some m') ∨
       (m.now.idx m.scan ≠ o ∧ ∃ l, m.shapeAt (m.now.words.getD o 0) = some l ∧
          ((l[m.now.idx m.scan - o - 1]? = some false ∧ Mem.stepLoop k { m with scan := m.scan + 1 } = some m') ∨
           (l[m.now.idx m.scan - o - 1]? = some true ∧ ∃ m1, m.fwdIn false .n m.scan = some m1 ∧ Mem.stepLoop k { m1 with scan := m1.scan + 1 } = some m')))) := by
  unfold Mem.stepLoop at h
  rw [if_neg hs] at h
  split at h
  · rename_i hok
    refine ⟨hok, ?_⟩
    split at h
    · cases h
    · rename_i o ho
      refine ⟨o, ho, ?_⟩
      by_cases e : m.now.idx m.scan = o
      · rw [if_pos e] at h; exact .inl ⟨e, h⟩
      · rw [if_neg e] at h
        refine .inr ⟨e, ?_⟩
        cases hl : m.shapeAt (m.now.words.getD o 0) with
        | none => rw [hl] at h; cases h
        | some l =>
          rw [hl] at h
          refine ⟨l, rfl, ?_⟩
          simp only at h
          cases hf : l[m.now.idx m.scan - o - 1]? with
          | none => rw [hf] at h; cases h
          | some b =>
            rw [hf] at h
            cases b with
            | false => exact .inl ⟨rfl, h⟩
            | true =>
              simp only at h
              cases hw : m.fwdIn false .n m.scan with
              | none => rw [hw] at h; cases h
              | some m1 => rw [hw] at h; exact .inr ⟨rfl, m1, rfl, h⟩
  · cases h

theorem objAt_le (st : List Bool) : ∀ (i o : Nat), Mem.objAt st i = some o → o ≤ i
  | 0, o, h => by unfold Mem.objAt at h; split at h <;> simp at h; omega
  | i + 1, o, h => by
    unfold Mem.objAt at h
    split at h
    · simp at h; omega
    · have := objAt_le st i o h; omega
end Go.Proofs.Ytnedmmopkhmejaa
