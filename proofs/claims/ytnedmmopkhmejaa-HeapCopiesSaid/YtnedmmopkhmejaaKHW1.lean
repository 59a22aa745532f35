/- Walks of the small methods of blocks and spaces. -/
import Derived.Test.YtnedmmopkhmejaaProg
import Derived.Test.YtnedmmopkhmejaaKHRep
set_option linter.unusedVariables false
set_option linter.unusedSimpArgs false
namespace Go.Proofs.Ytnedmmopkhmejaa
open Go.RowKit Go.Proofs.Hp

theorem ret_bool {a b : Bool} (h : a = b) : Ending.returned (.bool a) = .returned (.bool b) := by rw [h]
theorem ret_int {k : IntKind} {a b : Int} (h : a = b) : Ending.returned (.int k a) = .returned (.int k b) := by rw [h]

theorem c_word (w : World) (L : SpL) (s : Sp) (h : SpRep w L s) (a : Int) (ha : s.ok a = true) :
    Calls Try.prog 61 #[.pointer (some ⟨L.b, 0, none⟩), .int .i64 a] w fun e w' => e = .returned (.pointer (some ⟨L.wb, s.idx a, none⟩)) ∧ ∃ n, w' = w.drewN n := by
  have hc0 := h.c0
  have hc1 := h.c1
  simp only [Sp.ok, Bool.and_eq_true, decide_eq_true_eq] at ha
  obtain ⟨h1, h2⟩ := ha
  have h1' : 0 ≤ a - (s.frm : Int) := by omega
  have h2' : a - (s.frm : Int) < (s.words.length : Int) := by omega
  have hb := h.b1
  have hb2 := h.b2
  go_enter Try.func61, Try.ntmps61
  go_wp2
  go_quiet (fail)
  go_wp2
  go_ret
  exact ⟨by simp [Sp.idx], _, rfl⟩

theorem c_room (w : World) (L : SpL) (s : Sp) (h : SpRep w L s) :
    Calls Try.prog 83 #[.pointer (some ⟨L.b, 0, none⟩)] w fun e w' => e = .returned (.int .i64 s.room) ∧ ∃ n, w' = w.drewN n := by
  have hc0 := h.c0
  have hc2 := h.c2
  have hb := h.b1
  have hb2 := h.b2
  have hle := h.le
  have e1 : IntKind.i64.wrap ((s.words.length : Int) - (s.used : Int)) = (s.words.length : Int) - (s.used : Int) := IntWalk.i64_in _ (by omega)
  go_enter Try.func83, Try.ntmps83
  go_wp2
  go_quiet (fail)
  go_wp2
  go_ret
  exact ⟨by simp [Sp.room], _, rfl⟩

theorem c_has (w : World) (L : SpL) (s : Sp) (h : SpRep w L s) (a : Int) :
    Calls Try.prog 110 #[.pointer (some ⟨L.b, 0, none⟩), .int .i64 a] w fun e w' => e = .returned (.bool (s.has a)) ∧ ∃ n, w' = w.drewN n := by
  have hc1 := h.c1
  have hc2 := h.c2
  have hb := h.b1
  have hb2 := h.b2
  have hle := h.le
  have e1 : IntKind.i64.wrap ((s.frm : Int) + (s.used : Int)) = (s.frm : Int) + (s.used : Int) := IntWalk.i64_in _ (by omega)
  by_cases g : (s.frm : Int) ≤ a
  · have g1 : decide ((s.frm : Int) ≤ a) = true := by simpa using g
    go_enter Try.func110, Try.ntmps110
    go_wp2
    go_quiet (fail)
    go_wp2
    go_ret
    exact ⟨ret_bool (a := decide (a < (s.frm : Int) + (s.used : Int))) (by rw [Bool.eq_iff_iff]; simp only [Sp.has, Bool.and_eq_true, decide_eq_true_eq]; omega), _, rfl⟩
  · have g1 : decide ((s.frm : Int) ≤ a) = false := by simpa using g
    go_enter Try.func110, Try.ntmps110
    go_wp2
    go_quiet (fail)
    go_wp2
    go_ret
    exact ⟨ret_bool (a := false) (by rw [Bool.eq_iff_iff]; simp only [Sp.has, Bool.and_eq_true, decide_eq_true_eq, Bool.false_eq_true, false_iff]; omega), _, rfl⟩

theorem c_begins (w : World) (L : SpL) (s : Sp) (h : SpRep w L s) (a : Int) :
    Calls Try.prog 72 #[.pointer (some ⟨L.b, 0, none⟩), .int .i64 a] w fun e w' => e = .returned (.bool (s.begins a)) ∧ ∃ n, w' = w.drewN n := by
  have hc1 := h.c1
  have hc3 := h.c3
  have hb := h.b1
  have hb2 := h.b2
  have hle := h.le
  have hlen := h.len
  have hh : ∀ n, Calls Try.prog 110 #[.pointer (some ⟨L.b, 0, none⟩), .int .i64 a] (w.drewN n) fun e w' => e = .returned (.bool (s.has a)) ∧ ∃ m, w' = w.drewN m :=
    fun n => Calls.quiet_of (c_has _ L s (h.drewN n) a)
  by_cases g : s.has a = true
  · have g0 := g
    simp only [Sp.has, Bool.and_eq_true, decide_eq_true_eq] at g0
    obtain ⟨g1, g2⟩ := g0
    have k1 : 0 ≤ a - (s.frm : Int) := by omega
    have k2 : a - (s.frm : Int) < (s.starts.length : Int) := by omega
    have e1 : IntKind.i64.wrap (a - (s.frm : Int)) = a - (s.frm : Int) := IntWalk.i64_in _ (by have := hlen; omega)
    have hs := h.start (i := a.toNat - s.frm) (by omega)
    rw [g] at hh
    clear hlen hle hb hb2 
    go_enter Try.func72, Try.ntmps72
    go_wp2
    go_quiet ((go_at_call 110; exact hh _))
    go_wp2
    go_ret
    exact ⟨by simp [Sp.begins, g, Sp.idx], _, rfl⟩
  · have g1 : s.has a = false := by simpa using g
    rw [g1] at hh
    go_enter Try.func72, Try.ntmps72
    go_wp2
    go_quiet ((go_at_call 110; exact hh _))
    go_wp2
    go_ret
    exact ⟨by simp [Sp.begins, g1], _, rfl⟩
end Go.Proofs.Ytnedmmopkhmejaa
