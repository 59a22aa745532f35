/- Walks: deeds, act. -/
import Derived.Test.YtnedmmopkhmejaaKHA4
import Derived.Deep.WholeRow
set_option linter.unusedVariables false
set_option linter.unusedSimpArgs false
namespace Go.Proofs.Ytnedmmopkhmejaa
open Go.RowKit Go.Proofs.Hp
attribute [local go_sem] Oper.semAt_some

def fnV (f : Nat) : Value := .func (.func f) #[] #[]
def deedCells : Array Value := #[.nilFunc, .bool false, .bool false, fnV 121, .bool true, .bool false, fnV 122, .bool true, .bool true, fnV 123, .bool true, .bool true, fnV 124, .bool true, .bool false,
  fnV 125, .bool true, .bool false, fnV 126, .bool true, .bool true, fnV 127, .bool false, .bool false, fnV 128, .bool false, .bool false, fnV 129, .bool false, .bool false]

def deedZero : Array Value := #[.nilFunc, .bool false, .bool false, .nilFunc, .bool false, .bool false, .nilFunc, .bool false, .bool false, .nilFunc, .bool false, .bool false, .nilFunc, .bool false, .bool false, .nilFunc, .bool false, .bool false, .nilFunc, .bool false, .bool false, .nilFunc, .bool false, .bool false, .nilFunc, .bool false, .bool false, .nilFunc, .bool false, .bool false]

set_option maxRecDepth 100000 in
theorem c_deeds (w : World) : Calls Try.prog 114 #[] w fun e w' => e = .returned (.agg deedCells) ∧ w' = w.alloc (.cells deedCells 172) := by
  go_enter Try.func114, Try.ntmps114
  go_wp2_with (first
    | (refine wpList_store_row rfl 172 (.tmp 0) (.tmp 10) rfl w.heap.size deedCells rfl rfl 172 deedZero (heap_alloc_last _ _) (by kernel_rfl) rfl (by kernel_rfl) ?_))
  show bodyPost Try.prog Try.f114 _ Exit.ret _ ((w.alloc (.cells deedZero 172)).setRow w.heap.size deedCells)
  rw [World.setRow_alloc_new]
  have hld := run_loadVar_new (P := Try.prog) w 172 deedCells 10 171 (by kernel_rfl) (by kernel_rfl)
  have hlc := run_loadCellsFrom_new (P := Try.prog) w 172 deedCells 30 rfl
  generalize hdc : deedCells = dc at *
  refine bodyPost_ret (v := .agg dc) ?_ rfl ⟨rfl, rfl⟩
  simp [results, Try.results114, Act.put, asAddr, Sem.run_bind, Sem.run_pure, Result.andThen, hld]
end Go.Proofs.Ytnedmmopkhmejaa
