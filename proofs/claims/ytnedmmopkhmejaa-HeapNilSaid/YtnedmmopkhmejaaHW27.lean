/- Walks at a nil memory; called; HeapNil. -/
import Derived.Test.YtnedmmopkhmejaaHW26
namespace Go.Proofs.Ytnedmmopkhmejaa
open Go.RowKit Go.Proofs.Hp
attribute [local go_sem] Oper.semAt_some

set_option maxRecDepth 100000 in
theorem c_Alloc_nil (w : World) (a : Int) : Calls Try.prog 33 #[.pointer none, .int .i64 a] w fun e w' => e = .returned (.tuple #[.int .i64 0, .int .i64 12]) ∧ Below w.heap.size w w' := by
  have hm := c_made_nil w
  go_enter Try.func33, Try.ntmps33
  go_wp2_with (fail)
  skip
  refine hm.mono ?_
  rintro e w1 ⟨rfl, rfl⟩
  go_wp2
  try rw [Exit.noGoto_ret]
  go_ret2
  exact ⟨rfl, Below.refl _ _⟩
set_option maxRecDepth 100000 in
theorem c_Shape_nil (w : World) (a : Int) : Calls Try.prog 42 #[.pointer none, .int .i64 a] w fun e w' => e = .returned (.tuple #[.int .i64 0, .int .i64 12]) ∧ Below w.heap.size w w' := by
  have hm := c_made_nil w
  go_enter Try.func42, Try.ntmps42
  go_wp2_with (fail)
  skip
  refine hm.mono ?_
  rintro e w1 ⟨rfl, rfl⟩
  go_wp2
  skip
  go_ret2
  exact ⟨rfl, Below.refl _ _⟩
set_option maxRecDepth 100000 in
theorem c_field_nil (w : World) (a f : Int) : Calls Try.prog 92 #[.pointer none, .int .i64 a, .int .i64 f] w fun e w' => e = .returned (.tuple #[.pointer none, .bool false, .int .i64 12]) ∧ Below w.heap.size w w' := by
  have hm := c_made_nil w
  go_enter Try.func92, Try.ntmps92
  go_wp2_with (fail)
  skip
  refine hm.mono ?_
  rintro e w1 ⟨rfl, rfl⟩
  go_wp2
  skip
  go_ret3
  exact ⟨rfl, Below.refl _ _⟩
set_option maxRecDepth 100000 in
theorem c_rooted_nil (w : World) (p : Option Addr) (n c : Nat) : Calls Try.prog 57 #[.pointer none, .slice p n c] w fun e w' => e = .returned (.int .i64 12) ∧ Below w.heap.size w w' := by
  have hm := c_made_nil w
  go_enter Try.func57, Try.ntmps57
  go_wp2_with (fail)
  skip
  refine hm.mono ?_
  rintro e w1 ⟨rfl, rfl⟩
  go_wp2
  try rw [Exit.noGoto_ret]
  go_ret
  exact ⟨rfl, Below.refl _ _⟩
set_option maxRecDepth 100000 in
theorem c_Flip_nil (w : World) (p : Option Addr) (n c : Nat) : Calls Try.prog 43 #[.pointer none, .slice p n c] w fun e w' => e = .returned (.tuple #[.slice none 0 0, .int .i64 12]) ∧ Below w.heap.size w w' := by
  have hm := c_made_nil w
  go_enter Try.func43, Try.ntmps43
  go_wp2_with (fail)
  skip
  refine hm.mono ?_
  rintro e w1 ⟨rfl, rfl⟩
  go_wp2
  skip
  go_ret2
  exact ⟨rfl, Below.refl _ _⟩
set_option maxRecDepth 100000 in
theorem c_Step_nil (w : World) (a : Int) : Calls Try.prog 31 #[.pointer none, .int .i64 a] w fun e w' => e = .returned (.tuple #[.int .i64 0, .int .i64 12]) ∧ Below w.heap.size w w' := by
  have hm := c_made_nil w
  go_enter Try.func31, Try.ntmps31
  go_wp2_with (fail)
  go_step3; go_wp2_with (fail)
  refine hm.mono ?_
  rintro e w1 ⟨rfl, rfl⟩
  go_wp2
  try rw [Exit.noGoto_ret]
  go_ret2
  exact ⟨rfl, Below.refl _ _⟩
set_option maxRecDepth 100000 in
theorem c_Busy_nil (w : World) : Calls Try.prog 23 #[.pointer none] w fun e w' => e = .returned (.bool false) ∧ Below w.heap.size w w' := by
  have hm := c_made_nil w
  go_enter Try.func23, Try.ntmps23
  go_wp2_with (fail)
  skip
  refine hm.mono ?_
  rintro e w1 ⟨rfl, rfl⟩
  go_wp2
  skip
  go_ret
  exact ⟨rfl, Below.refl _ _⟩
set_option maxRecDepth 100000 in
theorem c_Copy_nil (w : World) : Calls Try.prog 27 #[.pointer none] w fun e w' => e = .returned (.pointer none) ∧ Below w.heap.size w w' := by
  have hm := c_made_nil w
  go_enter Try.func27, Try.ntmps27
  go_wp2_with (fail)
  skip
  refine hm.mono ?_
  rintro e w1 ⟨rfl, rfl⟩
  go_wp2
  skip
  go_ret
  exact ⟨rfl, Below.refl _ _⟩

set_option maxRecDepth 100000 in
theorem c_Get_nil (w : World) (a f : Int) : Calls Try.prog 41 #[.pointer none, .int .i64 a, .int .i64 f] w fun e w' => e = .returned (.tuple #[.int .i64 0, .int .i64 12]) ∧ Below w.heap.size w w' := by
  have hm := c_field_nil w a f
  go_enter Try.func41, Try.ntmps41
  go_wp2_with (fail)
  refine hm.mono ?_
  rintro e w1 ⟨rfl, hb⟩
  clear hm
  go_wp2
  go_ret2
  exact ⟨rfl, hb⟩
set_option maxRecDepth 100000 in
theorem c_Set_nil (w : World) (a f v : Int) : Calls Try.prog 40 #[.pointer none, .int .i64 a, .int .i64 f, .int .i64 v] w fun e w' => e = .returned (.int .i64 12) ∧ Below w.heap.size w w' := by
  have hm := c_field_nil w a f
  go_enter Try.func40, Try.ntmps40
  go_wp2_with (fail)
  refine hm.mono ?_
  rintro e w1 ⟨rfl, hb⟩
  clear hm
  go_wp2
  go_ret
  exact ⟨rfl, hb⟩
set_option maxRecDepth 100000 in
theorem c_Minor_nil (w : World) (p : Option Addr) (n c : Nat) : Calls Try.prog 34 #[.pointer none, .slice p n c] w fun e w' => e = .returned (.tuple #[.slice none 0 0, .int .i64 12]) ∧ Below w.heap.size w w' := by
  have hm := c_rooted_nil w p n c
  go_enter Try.func34, Try.ntmps34
  go_wp2_with (fail)
  refine hm.mono ?_
  rintro e w1 ⟨rfl, hb⟩
  clear hm
  go_wp2
  go_ret2
  exact ⟨rfl, hb⟩

set_option maxRecDepth 100000 in
theorem c_Check_nil (w : World) : Calls Try.prog 26 #[.pointer none] w fun e w' => e = .returned (.int .i64 12) ∧ Below w.heap.size w w' := by
  have hb := al_same w (box (.pointer none) 27)
  have hbl : Below w.heap.size w (w.alloc (box (.pointer none) 27)) := (Below.refl _ w).alloc (Nat.le_refl _) _
  simp only [box] at hb hbl
  have x0 : (w.alloc (.cells #[.pointer none] 27)).cell? ⟨w.heap.size, 0, none⟩ = some (.pointer none) := by rw [cell_of hb]; rfl
  have hm := c_made_nil (w.alloc (.cells #[.pointer none] 27))
  go_enter Try.func26, Try.ntmps26
  go_wp2_with (fail)
  refine hm.mono ?_
  rintro e w1 ⟨rfl, rfl⟩
  clear hm
  go_wp2
  go_ret
  exact ⟨rfl, hbl⟩

set_option maxRecDepth 100000 in
theorem c_Room_nil (w : World) : Calls Try.prog 24 #[.pointer none] w fun e w' => e = .returned (.agg #[.int .i64 0, .int .i64 0, .int .i64 0]) ∧ Below w.heap.size w w' := by
  have hz := al_same w (.cells #[.int .i64 0, .int .i64 0, .int .i64 0] 54)
  have f0 : Fr (fun _ => False) w (w.alloc (.cells #[.int .i64 0, .int .i64 0, .int .i64 0] 54)) := (Fr.refl _ w).alloc _
  go_enter Try.func24, Try.ntmps24
  go_wp2_with (fail)
  generalize w.alloc (.cells #[.int .i64 0, .int .i64 0, .int .i64 0] 54) = W at *
  refine (c_made_nil W).mono ?_
  rintro e w0 ⟨rfl, rfl⟩
  have z0 : W.cell? ⟨w.heap.size, 0, none⟩ = some (.int .i64 0) := by rw [cell_of hz]; rfl
  have z1 : W.cell? ⟨w.heap.size, 1, none⟩ = some (.int .i64 0) := by rw [cell_of hz]; rfl
  have z2 : W.cell? ⟨w.heap.size, 2, none⟩ = some (.int .i64 0) := by rw [cell_of hz]; rfl
  have zf0 := free_of hz 0
  have zf1 := free_of hz 1
  have zf2 := free_of hz 2
  go_wp2
  rw [setCell_id z0, setCell_id z1, setCell_id z2]
  exact bodyPost_ret (v := .agg #[.int .i64 0, .int .i64 0, .int .i64 0]) (by simp [results, Try.results24, go_sem, z0, z1, z2]) rfl ⟨rfl, f0.below⟩

set_option maxRecDepth 100000 in
theorem c_Picture_nil (w : World) (p : Option Addr) (n c : Nat) : Calls Try.prog 19 #[.pointer none, .slice p n c] w fun e w' => e = .returned (.tuple #[.agg #[.slice none 0 0, .slice none 0 0, .slice none 0 0], .int .i64 12]) ∧ Below w.heap.size w w' := by
  have f0 : Fr (fun _ => False) w ((w.alloc (.cells #[.pointer none] 27)).alloc (.cells #[.slice none 0 0, .slice none 0 0, .slice none 0 0] 42)) := ((Fr.refl _ w).alloc _).alloc _
  have hz : ((w.alloc (.cells #[.pointer none] 27)).alloc (.cells #[.slice none 0 0, .slice none 0 0, .slice none 0 0] 42)).heap[w.heap.size + 1]? = some (.cells #[.slice none 0 0, .slice none 0 0, .slice none 0 0] 42 (0, 0)) := by rw [al_at _ _ _ (by simp only [al_size])]
  go_enter Try.func19, Try.ntmps19
  go_wp2_with (fail)
  generalize ((w.alloc (.cells #[.pointer none] 27)).alloc (.cells #[.slice none 0 0, .slice none 0 0, .slice none 0 0] 42)) = W at *
  refine (c_rooted_nil W p n c).mono ?_
  rintro e W1 ⟨rfl, hb⟩
  have hz1 := (Fr.of_below (S := fun _ => False) hb).blk hz id
  have z0 : W1.cell? ⟨w.heap.size + 1, 0, none⟩ = some (.slice none 0 0) := by rw [cell_of hz1]; rfl
  have z1 : W1.cell? ⟨w.heap.size + 1, 1, none⟩ = some (.slice none 0 0) := by rw [cell_of hz1]; rfl
  have z2 : W1.cell? ⟨w.heap.size + 1, 2, none⟩ = some (.slice none 0 0) := by rw [cell_of hz1]; rfl
  have zf0 := free_of hz1 0
  have zf1 := free_of hz1 1
  have zf2 := free_of hz1 2
  go_wp2
  rw [setCell_id z0, setCell_id z1, setCell_id z2]
  have f1 : Fr (fun _ => False) w W1 := f0.trans (Fr.of_below hb)
  exact bodyPost_ret (v := .tuple #[.agg #[.slice none 0 0, .slice none 0 0, .slice none 0 0], .int .i64 12]) (by simp [results, Try.results19, go_sem, z0, z1, z2]) rfl ⟨rfl, f1.below⟩

theorem tmod7 (k : Int) : -7 < k.tmod 7 ∧ k.tmod 7 < 7 := by
  rcases Int.le_total 0 k with h | h
  · rw [Int.tmod_eq_emod_of_nonneg h]; omega
  · have e : k.tmod 7 = -((-k).tmod 7) := by rw [Int.neg_tmod]; omega
    rw [e, Int.tmod_eq_emod_of_nonneg (by omega)]; omega
def kindOf (k : Int) : Int := (k.tmod 7 + 7) % 7
theorem kind_bounds (k : Int) : kindOf k = 0 ∨ kindOf k = 1 ∨ kindOf k = 2 ∨ kindOf k = 3 ∨ kindOf k = 4 ∨ kindOf k = 5 ∨ kindOf k = 6 := by
  unfold kindOf; omega

set_option maxRecDepth 100000 in
theorem c_kind (w : World) (k a b c : Int) (v : Value) :
    Calls Try.prog 49 #[.agg #[.int .i64 k, .int .i64 a, .int .i64 b, .int .i64 c, v]] w fun e w' => e = .returned (.int .i64 (kindOf k)) ∧ Below w.heap.size w w' := by
  have hz := al_same w (.cells #[.int .i64 k, .int .i64 a, .int .i64 b, .int .i64 c, v] 38)
  have f0 : Fr (fun _ => False) w (w.alloc (.cells #[.int .i64 k, .int .i64 a, .int .i64 b, .int .i64 c, v] 38)) := (Fr.refl _ w).alloc _
  have x0 : (w.alloc (.cells #[.int .i64 k, .int .i64 a, .int .i64 b, .int .i64 c, v] 38)).cell? ⟨w.heap.size, 0, none⟩ = some (.int .i64 k) := by rw [cell_of hz]; rfl
  obtain ⟨h2, h1⟩ := tmod7 k
  go_enter Try.func49, Try.ntmps49
  go_wp2
  go_ret
  exact ⟨rfl, f0.below⟩

set_option maxRecDepth 100000 in
set_option maxHeartbeats 2000000 in
theorem c_called_nil (w : World) (k a b c : Int) (p : Option Addr) (n cp : Nat) :
    Calls Try.prog 17 #[.pointer none, .agg #[.int .i64 k, .int .i64 a, .int .i64 b, .int .i64 c, .slice p n cp]] w fun e w' => e = .returned (.tuple #[.int .i64 0, .slice none 0 0, .int .i64 12]) ∧ Below w.heap.size w w' := by
  have hz := al_same w (.cells #[.int .i64 k, .int .i64 a, .int .i64 b, .int .i64 c, .slice p n cp] 38)
  have f0 : Fr (fun _ => False) w (w.alloc (.cells #[.int .i64 k, .int .i64 a, .int .i64 b, .int .i64 c, .slice p n cp] 38)) := (Fr.refl _ w).alloc _
  have hk := c_kind (w.alloc (.cells #[.int .i64 k, .int .i64 a, .int .i64 b, .int .i64 c, .slice p n cp] 38)) k a b c (.slice p n cp)
  have x0 : (w.alloc (.cells #[.int .i64 k, .int .i64 a, .int .i64 b, .int .i64 c, .slice p n cp] 38)).cell? ⟨w.heap.size, 0, none⟩ = some (.int .i64 k) := by rw [cell_of hz]; rfl
  have x1 : (w.alloc (.cells #[.int .i64 k, .int .i64 a, .int .i64 b, .int .i64 c, .slice p n cp] 38)).cell? ⟨w.heap.size, 1, none⟩ = some (.int .i64 a) := by rw [cell_of hz]; rfl
  have x2 : (w.alloc (.cells #[.int .i64 k, .int .i64 a, .int .i64 b, .int .i64 c, .slice p n cp] 38)).cell? ⟨w.heap.size, 2, none⟩ = some (.int .i64 b) := by rw [cell_of hz]; rfl
  have x3 : (w.alloc (.cells #[.int .i64 k, .int .i64 a, .int .i64 b, .int .i64 c, .slice p n cp] 38)).cell? ⟨w.heap.size, 3, none⟩ = some (.int .i64 c) := by rw [cell_of hz]; rfl
  have x4 : (w.alloc (.cells #[.int .i64 k, .int .i64 a, .int .i64 b, .int .i64 c, .slice p n cp] 38)).cell? ⟨w.heap.size, 4, none⟩ = some (.slice p n cp) := by rw [cell_of hz]; rfl
  go_enter Try.func17, Try.ntmps17
  go_wp2_with (fail)
  generalize (w.alloc (.cells #[.int .i64 k, .int .i64 a, .int .i64 b, .int .i64 c, .slice p n cp] 38)) = W at *
  refine hk.mono ?_
  rintro e W1 ⟨rfl, hb⟩
  clear hk x0 x1 x2 x3 x4
  have hz1 := (Fr.of_below (S := fun _ => False) hb).blk hz id
  have hbl := f0.below.trans (hb.mono f0.size)
  have x0 : W1.cell? ⟨w.heap.size, 0, none⟩ = some (.int .i64 k) := by rw [cell_of hz1]; rfl
  have x1 : W1.cell? ⟨w.heap.size, 1, none⟩ = some (.int .i64 a) := by rw [cell_of hz1]; rfl
  have x2 : W1.cell? ⟨w.heap.size, 2, none⟩ = some (.int .i64 b) := by rw [cell_of hz1]; rfl
  have x3 : W1.cell? ⟨w.heap.size, 3, none⟩ = some (.int .i64 c) := by rw [cell_of hz1]; rfl
  have x4 : W1.cell? ⟨w.heap.size, 4, none⟩ = some (.slice p n cp) := by rw [cell_of hz1]; rfl
  have hkb := kind_bounds k
  generalize kindOf k = kk at *
  clear hz hz1 f0 hb
  rcases hkb with rfl | rfl | rfl | rfl | rfl | rfl | rfl
  · skip
    go_wp2_with (fail)
    refine (c_Alloc_nil W1 a).mono ?_
    rintro e W2 ⟨rfl, hb2⟩
    have hb3 := hbl.trans (hb2.mono hbl.size)
    go_wp2
    go_ret3
    exact ⟨rfl, hb3⟩
  · skip
    go_wp2_with (fail)
    refine (c_Shape_nil W1 a).mono ?_
    rintro e W2 ⟨rfl, hb2⟩
    have hb3 := hbl.trans (hb2.mono hbl.size)
    go_wp2
    go_ret3
    exact ⟨rfl, hb3⟩
  · skip
    go_wp2_with (fail)
    refine (c_Get_nil W1 a b).mono ?_
    rintro e W2 ⟨rfl, hb2⟩
    have hb3 := hbl.trans (hb2.mono hbl.size)
    go_wp2
    go_ret3
    exact ⟨rfl, hb3⟩
  · skip
    go_wp2_with (fail)
    refine (c_Set_nil W1 a b c).mono ?_
    rintro e W2 ⟨rfl, hb2⟩
    have hb3 := hbl.trans (hb2.mono hbl.size)
    go_wp2
    go_ret3
    exact ⟨rfl, hb3⟩
  · skip
    go_wp2_with (fail)
    refine (c_Minor_nil W1 p n cp).mono ?_
    rintro e W2 ⟨rfl, hb2⟩
    have hb3 := hbl.trans (hb2.mono hbl.size)
    go_wp2
    go_ret3
    exact ⟨rfl, hb3⟩
  · skip
    go_wp2_with (fail)
    refine (c_Flip_nil W1 p n cp).mono ?_
    rintro e W2 ⟨rfl, hb2⟩
    have hb3 := hbl.trans (hb2.mono hbl.size)
    go_wp2
    go_ret3
    exact ⟨rfl, hb3⟩
  · skip
    go_wp2_with (fail)
    refine (c_Step_nil W1 a).mono ?_
    rintro e W2 ⟨rfl, hb2⟩
    have hb3 := hbl.trans (hb2.mono hbl.size)
    go_wp2
    go_ret3
    exact ⟨rfl, hb3⟩
end Go.Proofs.Ytnedmmopkhmejaa
