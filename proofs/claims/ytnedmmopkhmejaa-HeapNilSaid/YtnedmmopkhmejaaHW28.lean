/- Walk: HeapNil. -/
import Derived.Test.YtnedmmopkhmejaaHW27
namespace Go.Proofs.Ytnedmmopkhmejaa
open Go.RowKit Go.Proofs.Hp
attribute [local go_sem] Oper.semAt_some

theorem nilPic (w : World) (D : Nat → Prop) : PicAt w D (.slice none 0 0) (.slice none 0 0) (.slice none 0 0) ⟨[], [], []⟩ := ⟨⟨none, 0, rfl, .inl rfl⟩, ⟨none, 0, rfl, .inl rfl⟩, ⟨none, 0, rfl, .inl rfl⟩, by simp, by simp, by simp, by simp⟩

set_option maxRecDepth 100000 in
set_option maxHeartbeats 2000000 in
theorem c_HeapNil (w : World) (k a b c : Int) (p : Option Addr) (n cp : Nat) :
    Calls Try.prog 4 #[.agg #[.int .i64 k, .int .i64 a, .int .i64 b, .int .i64 c, .slice p n cp]] w fun e w' => e = .returned (.bool true) ∧ Below w.heap.size w w' := by
  have hz := al_same w (.cells #[.int .i64 k, .int .i64 a, .int .i64 b, .int .i64 c, .slice p n cp] 38)
  have f0 : Fr (fun _ => False) w (w.alloc (.cells #[.int .i64 k, .int .i64 a, .int .i64 b, .int .i64 c, .slice p n cp] 38)) := (Fr.refl _ w).alloc _
  have hk := c_called_nil (w.alloc (.cells #[.int .i64 k, .int .i64 a, .int .i64 b, .int .i64 c, .slice p n cp] 38)) k a b c p n cp
  have x0 : (w.alloc (.cells #[.int .i64 k, .int .i64 a, .int .i64 b, .int .i64 c, .slice p n cp] 38)).cell? ⟨w.heap.size, 0, none⟩ = some (.int .i64 k) := by rw [cell_of hz]; rfl
  have x1 : (w.alloc (.cells #[.int .i64 k, .int .i64 a, .int .i64 b, .int .i64 c, .slice p n cp] 38)).cell? ⟨w.heap.size, 1, none⟩ = some (.int .i64 a) := by rw [cell_of hz]; rfl
  have x2 : (w.alloc (.cells #[.int .i64 k, .int .i64 a, .int .i64 b, .int .i64 c, .slice p n cp] 38)).cell? ⟨w.heap.size, 2, none⟩ = some (.int .i64 b) := by rw [cell_of hz]; rfl
  have x3 : (w.alloc (.cells #[.int .i64 k, .int .i64 a, .int .i64 b, .int .i64 c, .slice p n cp] 38)).cell? ⟨w.heap.size, 3, none⟩ = some (.int .i64 c) := by rw [cell_of hz]; rfl
  have x4 : (w.alloc (.cells #[.int .i64 k, .int .i64 a, .int .i64 b, .int .i64 c, .slice p n cp] 38)).cell? ⟨w.heap.size, 4, none⟩ = some (.slice p n cp) := by rw [cell_of hz]; rfl
  go_enter Try.func4, Try.ntmps4
  go_wp2_with (fail)
  generalize (w.alloc (.cells #[.int .i64 k, .int .i64 a, .int .i64 b, .int .i64 c, .slice p n cp] 38)) = W at *
  refine hk.mono ?_
  rintro e W1 ⟨rfl, hb⟩
  clear hk x0 x1 x2 x3 x4
  have hz1 := (Fr.of_below (S := fun _ => False) hb).blk hz id
  have hbl := f0.below.trans (hb.mono f0.size)
  have x0 : W1.cell? ⟨w.heap.size, 0, none⟩ = some (.int .i64 k) := by rw [cell_of hz1]; rfl
  have x1 : W1.cell? ⟨w.heap.size, 1, none⟩ = some (.int .i64 a) := by rw [cell_of hz1]; rfl
  have x2 : W1.cell? ⟨w.heap.size, 2, none⟩ = some (.int .i64 b) := by rw [cell_of hz1]; rfl
  have x3 : W1.cell? ⟨w.heap.size, 3, none⟩ = some (.int .i64 c) := by rw [cell_of hz1]; rfl
  have x4 : W1.cell? ⟨w.heap.size, 4, none⟩ = some (.slice p n cp) := by rw [cell_of hz1]; rfl
  clear hz hz1 f0 hb x0 x1 x2 x3
  go_wp2_with (fail)
  refine (c_Picture_nil W1 p n cp).mono ?_
  rintro e W2 ⟨rfl, hb2⟩
  have hbl2 := hbl.trans (hb2.mono hbl.size)
  clear hbl hb2 x4
  have hbl3 := hbl2.trans ((((Below.refl W2.heap.size W2).alloc (Nat.le_refl _) (.cells #[.slice none 0 0, .slice none 0 0, .slice none 0 0] 42))).mono hbl2.size)
  have hsp := c_SamePictures (W2.alloc (.cells #[.slice none 0 0, .slice none 0 0, .slice none 0 0] 42)) (fun _ => False) (fun _ => False) (.slice none 0 0) (.slice none 0 0) (.slice none 0 0) (.slice none 0 0) (.slice none 0 0) (.slice none 0 0) ⟨[], [], []⟩ ⟨[], [], []⟩ (nilPic _ _) (nilPic _ _)
  rw [show Pic.same ⟨[], [], []⟩ ⟨[], [], []⟩ = true from rfl] at hsp
  have hzp := al_same W2 (.cells #[.slice none 0 0, .slice none 0 0, .slice none 0 0] 42)
  have p0 : (W2.alloc (.cells #[.slice none 0 0, .slice none 0 0, .slice none 0 0] 42)).cell? ⟨W2.heap.size, 0, none⟩ = some (.slice none 0 0) := by rw [cell_of hzp]; rfl
  have p1 : (W2.alloc (.cells #[.slice none 0 0, .slice none 0 0, .slice none 0 0] 42)).cell? ⟨W2.heap.size, 1, none⟩ = some (.slice none 0 0) := by rw [cell_of hzp]; rfl
  have p2 : (W2.alloc (.cells #[.slice none 0 0, .slice none 0 0, .slice none 0 0] 42)).cell? ⟨W2.heap.size, 2, none⟩ = some (.slice none 0 0) := by rw [cell_of hzp]; rfl
  clear hzp hbl2
  go_wp2_with (fail)
  refine hsp.mono ?_
  rintro e W3 ⟨rfl, hb3⟩
  have hbl4 := hbl3.trans (hb3.mono hbl3.size)
  clear hsp p0 p1 p2 hbl3 hb3
  go_wp2_with (fail)
  refine (c_sanity W3).mono ?_
  rintro e W4 ⟨rfl, hb4⟩
  have hbl5 := hbl4.trans (hb4.mono hbl4.size)
  clear hbl4 hb4
  go_wp2_with (fail)
  refine (c_Busy_nil W4).mono ?_
  rintro e W5 ⟨rfl, hb5⟩
  have hbl6 := hbl5.trans (hb5.mono hbl5.size)
  clear hbl5 hb5
  go_wp2_with (fail)
  refine (c_Room_nil W5).mono ?_
  rintro e W6 ⟨rfl, hb6⟩
  have hbl7 := hbl6.trans (hb6.mono hbl6.size)
  clear hbl6 hb6
  go_wp2_with (fail)
  refine (c_Check_nil W6).mono ?_
  rintro e W7 ⟨rfl, hb7⟩
  have hbl8 := hbl7.trans (hb7.mono hbl7.size)
  clear hbl7 hb7
  go_wp2_with (fail)
  refine (c_Copy_nil W7).mono ?_
  rintro e W8 ⟨rfl, hb8⟩
  have hbl9 := hbl8.trans (hb8.mono hbl8.size)
  clear hbl8 hb8
  go_wp2
  go_ret
  exact ⟨rfl, hbl9⟩
end Go.Proofs.Ytnedmmopkhmejaa
