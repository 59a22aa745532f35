/- Walks: SameInts, Shapes. -/
import Derived.Test.YtnedmmopkhmejaaKHW23
import Derived.Test.YtnedmmopkhmejaaKHPure
set_option linter.unusedVariables false
set_option linter.unusedSimpArgs false
namespace Go.Proofs.Ytnedmmopkhmejaa
open Go.RowKit Go.Proofs.Hp
attribute [local go_sem] Oper.semAt_some

/-- What a comparison answers, behind draws. -/
def SameR (b : Bool) (w : World) (e : Ending) (w' : World) : Prop := e = .returned (.bool b) ∧ ∃ n, w' = w.drewN n

theorem SameR.of {bb b : Bool} {w : World} (h : bb = b) (n : Nat) : SameR bb w (.returned (.bool b)) (w.drewN n) := by subst h; exact ⟨rfl, n, rfl⟩

theorem SameR.of2 {bb b : Bool} {w : World} (h : bb = b) (n m : Nat) : SameR bb w (.returned (.bool b)) ((w.drewN n).drewN m) := by subst h; exact ⟨rfl, n + m, by rw [World.drewN_drewN]⟩

theorem beq_take {xs ys : List Int} {k : Nat} (hl : xs.length = ys.length) (hk : k < xs.length) (he : xs.take k = ys.take k) : (xs[k] ≠ ys[k]'(by omega) → (xs == ys) = false) ∧ (xs[k] = ys[k]'(by omega) → xs.take (k + 1) = ys.take (k + 1)) := by
  refine ⟨fun hne => ?_, fun h => ?_⟩
  · rw [beq_eq_false_iff_ne]
    intro e
    apply hne
    subst e; rfl
  · rw [List.take_succ_eq_append_getElem hk, List.take_succ_eq_append_getElem (by omega), he, h]

set_option maxRecDepth 100000 in
set_option maxHeartbeats 1000000 in
theorem c_SameInts (w : World) (D D' : Nat → Prop) (v v' : Value) (xs ys : List Int) (hx : IntsAt w D v xs) (hy : IntsAt w D' v' ys) (hlx : xs.length ≤ 140737488355328) (hly : ys.length ≤ 140737488355328) :
    Calls Try.prog 21 #[v, v'] w (SameR (xs == ys) w) := by
  obtain ⟨p, cap, rfl, hcx⟩ := hx
  obtain ⟨p', cap', rfl, hcy⟩ := hy
  have hcxH := Lib.hid hcx
  have hcyH := Lib.hid hcy
  clear hcx hcy
  by_cases hne : xs.length = ys.length
  · have hb : ((xs.length : Int) != (ys.length : Int)) = false := by simp [hne]
    have hneH := Lib.hid hne
    have hle : (ys.length : Int) = (xs.length : Int) := by omega
    have hleH := Lib.hid hle
    obtain ⟨n, hn⟩ : ∃ n, n = xs.length := ⟨_, rfl⟩
    have hn2 : ys.length = n := by omega
    have hnH := Lib.hid hn
    have hn2H := Lib.hid hn2
    rw [hn2, ← hn]
    rw [← hn] at hlx
    clear hb hle hne hn hn2 hly
    go_enter Try.func21, Try.ntmps21
    go_wp2_with (fail)
    go_loopw [5] (fun i wr => ∃ (k : Nat), i = .int .i64 k ∧ k ≤ n ∧ (∃ q, wr = w.drewN q) ∧ Hid (xs.take k = ys.take k)) (fun i _ => n - (intOf i).toNat)
    case atStart => exact ⟨0, rfl, by omega, ⟨0, rfl⟩, Lib.hid (by simp)⟩
    case round =>
      obtain ⟨k, rfl, hk, ⟨q, rfl⟩, hst⟩ := hrel
      by_cases hlt : k < n
      · have hkx : k < xs.length := by rw [← hnH.out]; exact hlt
        have hky : k < ys.length := by rw [hn2H.out]; exact hlt
        obtain ⟨b, o, rfl, hu⟩ : ∃ b o, p = some ⟨b, o, none⟩ ∧ w.cell? ⟨b, o + k, none⟩ = some (.int .i64 xs[k]) := by
          rcases hcxH.out with e | ⟨b, o, hp, _, hcc⟩
          · rw [e] at hkx; simp at hkx
          · exact ⟨b, o, hp, hcc k hkx⟩
        obtain ⟨b', o', rfl, hu'⟩ : ∃ b o, p' = some ⟨b, o, none⟩ ∧ w.cell? ⟨b, o + k, none⟩ = some (.int .i64 ys[k]) := by
          rcases hcyH.out with e | ⟨b, o, hp, _, hcc⟩
          · rw [e] at hky; simp at hky
          · exact ⟨b, o, hp, hcc k hky⟩
        obtain ⟨s1, s2⟩ := beq_take hneH.out hkx hst.out
        have s1H := Lib.hid s1
        have s2H := Lib.hid s2
        clear s1 s2
        generalize xs[k] = x at *
        generalize ys[k] = y at *
        obtain ⟨bb, hbb⟩ : ∃ bb, bb = (x != y) := ⟨_, rfl⟩
        have hb1 : (x != y) = bb := hbb.symm
        have hbbH := Lib.hid hbb
        clear hbb
        cases bb with
        | true =>
          have hres := s1H.out (by have := hbbH.out; simpa using this.symm)
          have hresH := Lib.hid hres
          clear hres
          go_wp2_with (fail)
          go_quiet (fail)
          go_wp2
          go_ret
          exact SameR.of2 hresH.out _ _
        | false =>
          have hnext := s2H.out (by have := hbbH.out; simpa using this.symm)
          have hnextH := Lib.hid hnext
          clear hnext
          go_wp2_with (fail)
          go_quiet (fail)
          go_wp2
          go_roundw
          case rel => exact ⟨k + 1, by go_num, by omega, ⟨_, rfl⟩, hnextH⟩
          case measure => simp [intOf]; omega
      · have hkn : k = n := by omega
        have hall : (xs == ys) = true := by
          have e := hst.out
          rw [hkn] at e
          rw [List.take_of_length_le (by rw [← hnH.out]; exact Nat.le_refl _), List.take_of_length_le (by rw [hn2H.out]; exact Nat.le_refl _)] at e
          simp [e]
        have hallH := Lib.hid hall
        clear hall hkn
        go_wp2
        go_ret
        exact SameR.of hallH.out _
  · have hb : ((xs.length : Int) != (ys.length : Int)) = true := by simp; omega
    have hres : (xs == ys) = false := by rw [beq_eq_false_iff_ne]; intro e; exact hne (by rw [e])
    have hresH := Lib.hid hres
    have hne2 : ¬ (xs.length : Int) = (ys.length : Int) := by omega
    clear hres hne
    go_enter Try.func21, Try.ntmps21
    go_wp2
    go_ret
    exact SameR.of hresH.out 0

set_option maxRecDepth 100000 in
theorem c_Shapes (w : World) : Calls Try.prog 39 #[] w fun e w' => ∃ v, e = .returned v ∧ ShRep w' (fun k => w.heap.size ≤ k ∧ k < w'.heap.size) v San.shapes ∧ Below w.heap.size w w' := by
  go_enter Try.func39, Try.ntmps39
  go_wp2
  go_ret
  obtain ⟨k1, k2, k3⟩ := al3 w (.cells #[.bool false, .bool true] 4) (.cells #[] 4) (.cells #[.slice (some ⟨w.heap.size, 0, none⟩) 2 2, .slice (some ⟨w.heap.size + 1, 0, none⟩) 0 0] 73)
  have hbl : Below w.heap.size w (((w.alloc (.cells #[.bool false, .bool true] 4)).alloc (.cells #[] 4)).alloc (.cells #[.slice (some ⟨w.heap.size, 0, none⟩) 2 2, .slice (some ⟨w.heap.size + 1, 0, none⟩) 0 0] 73)) := Fr.below ((((Fr.refl _ w).alloc _).alloc _).alloc _)
  have hsz : (((w.alloc (.cells #[.bool false, .bool true] 4)).alloc (.cells #[] 4)).alloc (.cells #[.slice (some ⟨w.heap.size, 0, none⟩) 2 2, .slice (some ⟨w.heap.size + 1, 0, none⟩) 0 0] 73)).heap.size = w.heap.size + 3 := by simp only [al_size]
  generalize (((w.alloc (.cells #[.bool false, .bool true] 4)).alloc (.cells #[] 4)).alloc (.cells #[.slice (some ⟨w.heap.size, 0, none⟩) 2 2, .slice (some ⟨w.heap.size + 1, 0, none⟩) 0 0] 73)) = W at *
  refine ⟨_, rfl, ⟨some ⟨w.heap.size + 1 + 1, 0, none⟩, 2, rfl, .inr ⟨w.heap.size + 1 + 1, 0, rfl, ⟨by omega, by omega⟩, fun i hi => ?_⟩⟩, hbl⟩
  have hi2 : i < 2 := hi
  rcases i with _ | _ | i
  · refine ⟨.slice (some ⟨w.heap.size, 0, none⟩) 2 2, by rw [cell_of k3]; rfl, some ⟨w.heap.size, 0, none⟩, 2, rfl, .inr ⟨w.heap.size, 0, rfl, ⟨by omega, by omega⟩, fun j hj => ?_⟩⟩
    have hj2 : j < 2 := hj
    rcases j with _ | _ | j
    · rw [cell_of k1]; rfl
    · rw [cell_of k1]; rfl
    · omega
  · exact ⟨.slice (some ⟨w.heap.size + 1, 0, none⟩) 0 0, by rw [cell_of k3]; rfl, some ⟨w.heap.size + 1, 0, none⟩, 0, rfl, .inl rfl⟩
  · omega
end Go.Proofs.Ytnedmmopkhmejaa
