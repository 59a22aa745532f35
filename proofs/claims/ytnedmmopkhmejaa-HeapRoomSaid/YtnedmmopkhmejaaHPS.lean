/- Plain: the memory of the chapter's examples. -/
import Derived.Test.YtnedmmopkhmejaaHP10
import Derived.KernelRfl
namespace Go.Proofs.Hp
namespace San
def shapes : List (List Bool) := [[false, true], []]
def m0 : Mem := Mem.newM shapes 40 10
def m1 : Mem := (m0.allocE 0).1
def m2 : Mem := (m1.allocE 0).1
def m3 : Mem := (m2.allocE 0).1
def m4 : Mem := match m3.setE 1 1 4 with
  | some (m, _) => m
  | none => m3
def m5 : Mem := match m4.minorE [4, 1] with
  | some (m, _) => m
  | none => m4
def m6 : Mem := match m5.getE 14 1 with
  | some (m, _) => m
  | none => m5
def m7 : Mem := match m6.flipE [14] with
  | some (m, _) => m
  | none => m6
def m8 : Mem := match m7.getE 51 1 with
  | some (m, _) => m
  | none => m7
def m9 : Mem := match m8.stepE 3 with
  | some (m, _) => m
  | none => m8
def m10 : Mem := match m9.stepE 3 with
  | some (m, _) => m
  | none => m9
theorem a1 : (m0.allocE 0).2 = (1, 0) := by kernel_rfl
theorem a2 : (m1.allocE 0).2 = (4, 0) := by kernel_rfl
theorem a3 : (m2.allocE 0).2 = (7, 0) := by kernel_rfl
theorem a4 : m3.allocE 0 = (m3, 0, 14) := by kernel_rfl
theorem s4 : m3.setE 1 1 4 = some (m4, 0) := by kernel_rfl
theorem s5 : m4.minorE [4, 1] = some (m5, [11, 14], 0) := by kernel_rfl
theorem r5 : m5.young.used = 0 ∧ m5.now.used = 6 ∧ m5.left = 0 := ⟨by kernel_rfl, by kernel_rfl, by kernel_rfl⟩
theorem s6 : m5.getE 14 1 = some (m6, 11, 0) := by kernel_rfl
theorem h6 : m6.shapeE 4 = (0, 5) := by kernel_rfl
theorem s7 : m6.flipE [14] = some (m7, [51], 0) := by kernel_rfl
theorem b6 : m6.busy = false := by kernel_rfl
theorem r7 : m7.young.used = 0 ∧ m7.now.used = 3 ∧ m7.left = 3 := ⟨by kernel_rfl, by kernel_rfl, by kernel_rfl⟩
theorem s8 : m7.getE 51 1 = some (m8, 54, 0) := by kernel_rfl
theorem r8 : m8.young.used = 0 ∧ m8.now.used = 6 ∧ m8.left = 0 := ⟨by kernel_rfl, by kernel_rfl, by kernel_rfl⟩
theorem s9 : m8.stepE 3 = some (m9, 3, 0) := by kernel_rfl
theorem s10 : m9.stepE 3 = some (m10, 0, 0) := by kernel_rfl
theorem b8 : m8.busy = true := by kernel_rfl
theorem b9 : m9.busy = true := by kernel_rfl
theorem b10 : m10.busy = false := by kernel_rfl
theorem inv0 : m0.Inv 10 40 := Mem.Inv.new (by decide) (by decide) (by decide) (by decide) (by decide) (by decide)
theorem inv3 : m3.Inv 10 40 := (((inv0.allocE 0).1.allocE 0).1.allocE 0).1
theorem inv4 : m4.Inv 10 40 := by
  obtain ⟨m, e, h, hi, _⟩ := inv3.setE 1 1 4
  rw [s4] at h; simp only [Option.some.injEq, Prod.mk.injEq] at h; rw [h.1]; exact hi
theorem inv5 : m5.Inv 10 40 := by
  obtain ⟨m, o, e, h, hi⟩ := inv4.minorE [4, 1]
  rw [s5] at h; simp only [Option.some.injEq, Prod.mk.injEq] at h; rw [h.1]; exact hi.inv inv4
theorem inv6 : m6.Inv 10 40 := by
  obtain ⟨m, o, e, h, hi, _⟩ := inv5.getE 14 1
  rw [s6] at h; simp only [Option.some.injEq, Prod.mk.injEq] at h; rw [h.1]; exact hi
theorem inv7 : m7.Inv 10 40 := by
  obtain ⟨m, o, e, h, hi⟩ := inv6.flipE [14]
  rw [s7] at h; simp only [Option.some.injEq, Prod.mk.injEq] at h; rw [h.1]; exact hi.inv inv6
theorem inv8 : m8.Inv 10 40 := by
  obtain ⟨m, o, e, h, hi, _⟩ := inv7.getE 51 1
  rw [s8] at h; simp only [Option.some.injEq, Prod.mk.injEq] at h; rw [h.1]; exact hi
theorem inv9 : m9.Inv 10 40 := by
  obtain ⟨m, o, e, h, hi, _⟩ := inv8.stepE 3
  rw [s9] at h; simp only [Option.some.injEq, Prod.mk.injEq] at h; rw [h.1]; exact hi
theorem inv10 : m10.Inv 10 40 := by
  obtain ⟨m, o, e, h, hi, _⟩ := inv9.stepE 3
  rw [s10] at h; simp only [Option.some.injEq, Prod.mk.injEq] at h; rw [h.1]; exact hi
end San
end Go.Proofs.Hp
