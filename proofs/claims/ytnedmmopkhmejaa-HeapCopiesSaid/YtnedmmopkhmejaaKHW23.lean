/- Walk: Check of a memory that is in order. -/
import Derived.Test.YtnedmmopkhmejaaKHW22
set_option linter.unusedVariables false
set_option linter.unusedSimpArgs false
namespace Go.Proofs.Ytnedmmopkhmejaa
open Go.RowKit Go.Proofs.Hp
attribute [local go_sem] Oper.semAt_some

theorem c_Check1 (w : World) (q Bm : Nat) : Calls Try.prog 68 #[.pointer (some ⟨q, 0, none⟩), .pointer (some ⟨Bm, 0, none⟩)] w fun e w' =>
    ∃ B, e = .returned (.func (.func 69) #[] #[.pointer (some ⟨Bm, 0, none⟩), .pointer (some ⟨B, 0, none⟩)]) ∧ w'.heap[B]? = some (box (ptrV q) 95) ∧ Below w.heap.size w w' := by
  have hb := al_same w (box (ptrV q) 95)
  have hbl : Below w.heap.size w (w.alloc (box (ptrV q) 95)) := (Below.refl _ w).alloc (Nat.le_refl _) _
  simp only [box, ptrV] at hb hbl
  go_enter Try.func68, Try.ntmps68
  go_wp2
  go_ret
  exact ⟨w.heap.size, rfl, hb, hbl⟩

theorem fine_of (m : Mem) (isNow : Bool) (s : Sp) (a : Int) : ∀ (bs : List Bool) (i : Nat), Mem.fineFrom m isNow s a bs (i : Int) = some true → ∀ k : Nat, bs[k]? = some true → m.fineField isNow s a ((i + k : Nat) : Int) = true
  | [], i, _, k, hk => by simp at hk
  | b :: bs, i, h, k, hk => by
    unfold Mem.fineFrom at h
    cases b with
    | false =>
      cases k with
      | zero => simp at hk
      | succ k =>
        have := fine_of m isNow s a bs (i + 1) h k (by simpa using hk)
        rw [show i + (k + 1) = i + 1 + k by omega]; exact this
    | true =>
      rw [if_pos rfl] at h
      split at h
      · split at h
        · rename_i hf
          cases k with
          | zero => exact hf
          | succ k =>
            have := fine_of m isNow s a bs (i + 1) h k (by simpa using hk)
            rw [show i + (k + 1) = i + 1 + k by omega]; exact this
        · cases h
      · cases h

theorem check_w {w W w3 : World} {Bm : Nat} (h : Below Bm w W) (hb : w.heap.size = Bm) (h3 : Below W.drew.heap.size W.drew w3) : Below Bm w w3 := by
  subst hb
  have h3' : Below W.heap.size W w3 := ⟨h3.os, h3.tape, h3.output, h3.size, h3.block⟩
  exact h.trans (h3'.mono h.size)
theorem check_b {W w3 : World} {Bm : Nat} {o : Obj} (h : W.heap[Bm]? = some o) (h3 : Below W.drew.heap.size W.drew w3) : w3.heap[Bm]? = some o := (Fr.of_below (S := fun _ => False) h3).blk h id
theorem check_b2 {W w3 w4 w5 : World} {Bm : Nat} {o : Obj} (h : W.heap[Bm]? = some o) (h3 : Below W.drew.heap.size W.drew w3) (h4 : Below w3.heap.size w3 w4) (h5 : Below w4.heap.size w4 w5) : w5.heap[Bm]? = some o :=
  (Fr.of_below (S := fun _ => False) h5).blk ((Fr.of_below (S := fun _ => False) h4).blk (check_b h h3) id) id
theorem check_w2 {w W w3 w4 w5 : World} {Bm : Nat} (h : Below Bm w W) (hb : w.heap.size = Bm) (h3 : Below W.drew.heap.size W.drew w3) (h4 : Below w3.heap.size w3 w4) (h5 : Below w4.heap.size w4 w5) : Below Bm w w5 := by
  have q := check_w h hb h3
  subst hb
  have q4 := q.trans (h4.mono q.size)
  exact q4.trans (h5.mono q4.size)

set_option maxRecDepth 100000 in
set_option maxHeartbeats 2000000 in
theorem c_Check (w : World) (L : ML) (m : Mem) (h : MemRep w L m) {Y H : Nat} (hI : m.Inv Y H) :
    Calls Try.prog 26 #[.pointer (some ⟨L.b, 0, none⟩)] w fun e w' => e = .returned (.int .i64 0) ∧ Below w.heap.size w w' := by
  have hO : ∀ (wh : Wh) (isNow : Bool), ((isNow = true ∧ wh = .n) ∨ (isNow = false ∧ wh = .y)) → ∀ W Bm B, Below w.heap.size w W → W.heap[Bm]? = some (box (ptrV L.b) 27) → W.heap[B]? = some (box (ptrV (L.spL wh).b) 95) →
      Calls Try.prog 74 #[.pointer (some ⟨L.b, 0, none⟩), .pointer (some ⟨(L.spL wh).b, 0, none⟩), .func (.func 69) #[] #[.pointer (some ⟨Bm, 0, none⟩), .pointer (some ⟨B, 0, none⟩)]] W fun e w' => e = .returned (.bool true) ∧ Below W.heap.size W w' := by
    intro wh isNow hwh W Bm B hW hbm hb
    have hM := h.below hW
    refine c_ordered W L m hM wh (hI.tl wh) _ _ (enters Try.func69 (by kernel_rfl) rfl) fun W' a hW' hbg => ?_
    obtain ⟨sh, hob⟩ := (hI.tl wh).shape hbg
    have hM' := hM.below hW'
    have hfF : Fr (fun _ => False) W W' := Fr.of_below hW'
    refine c_fine W' L m hM' wh isNow hwh Bm B (hfF.blk hbm id) (hfF.blk hb id) a sh hob (hI.tl wh) fun k hk => ?_
    have := fine_of m isNow (m.sp wh) a sh 0 (by have q := Mem.fineFrom_of hI hwh (l := sh) hob sh 0 (by simp); exact q) k hk
    simpa using this
  have hOy : ∀ W Bm B, Below w.heap.size w W → W.heap[Bm]? = some (box (ptrV L.b) 27) → W.heap[B]? = some (box (ptrV L.y.b) 95) → Calls Try.prog 74 #[.pointer (some ⟨L.b, 0, none⟩), .pointer (some ⟨L.y.b, 0, none⟩), .func (.func 69) #[] #[.pointer (some ⟨Bm, 0, none⟩), .pointer (some ⟨B, 0, none⟩)]] W fun e w' => e = .returned (.bool true) ∧ Below W.heap.size W w' := hO .y false (.inr ⟨rfl, rfl⟩)
  have hOn : ∀ W Bm B, Below w.heap.size w W → W.heap[Bm]? = some (box (ptrV L.b) 27) → W.heap[B]? = some (box (ptrV L.n.b) 95) → Calls Try.prog 74 #[.pointer (some ⟨L.b, 0, none⟩), .pointer (some ⟨L.n.b, 0, none⟩), .func (.func 69) #[] #[.pointer (some ⟨Bm, 0, none⟩), .pointer (some ⟨B, 0, none⟩)]] W fun e w' => e = .returned (.bool true) ∧ Below W.heap.size W w' := hO .n true (.inl ⟨rfl, rfl⟩)
  clear hO
  have hb := al_same w (box (ptrV L.b) 27)
  have hbl : Below w.heap.size w (w.alloc (box (ptrV L.b) 27)) := (Below.refl _ w).alloc (Nat.le_refl _) _
  have hM1 := h.below hbl
  simp only [box, ptrV] at hb hbl hM1
  have x0 : (w.alloc (.cells #[.pointer (some ⟨L.b, 0, none⟩)] 27)).cell? ⟨w.heap.size, 0, none⟩ = some (.pointer (some ⟨L.b, 0, none⟩)) := by rw [cell_of hb]; rfl
  have hmd := c_made _ L m hM1
  go_enter Try.func26, Try.ntmps26
  go_wp2_with (fail)
  have hBm : w.heap.size = w.heap.size := rfl
  generalize hpm : w.heap.size = Bm at *
  generalize (w.alloc (.cells #[.pointer (some ⟨L.b, 0, none⟩)] 27)) = W at *
  refine hmd.mono ?_
  rintro e w0 ⟨rfl, rfl⟩
  clear hmd hBm
  have hcf := enters (P := Try.prog) Try.func68 (by kernel_rfl) rfl
  have x1 := hM1.c1
  have x2 := hM1.c2
  have hblH := Lib.hid hbl
  have hbH := Lib.hid hb
  have hOyH := Lib.hid hOy
  have hOnH := Lib.hid hOn
  have hpmH := Lib.hid hpm
  clear hbl hb hOy hOn hpm
  go_wp2_with (fail)
  go_region_held3 (fun w' => w'.cell? ⟨Bm, 0, none⟩ = some (.pointer (some ⟨L.b, 0, none⟩)) ∧ w'.cell? ⟨L.b, 1, none⟩ = some (.pointer (some ⟨L.y.b, 0, none⟩)) ∧ w'.cell? ⟨L.b, 2, none⟩ = some (.pointer (some ⟨L.n.b, 0, none⟩))) (go_keep)
    (first
      | ((with_reducible refine (c_Check1 W.drew L.y.b Bm).mono ?_); rintro e w3 ⟨B1, rfl, hb3, hl3⟩; have k0 := (Fr.of_below (S := fun _ => False) hl3).cell x0 id; have k1 := (Fr.of_below (S := fun _ => False) hl3).cell x1 id; have k2 := (Fr.of_below (S := fun _ => False) hl3).cell x2 id; have o1 := hOyH.out w3 Bm B1 (check_w hblH.out hpmH.out hl3) (check_b hbH.out hl3) hb3)
      | ((with_reducible refine o1.mono ?_); rintro e w4 ⟨rfl, hl4⟩; have j0 := (Fr.of_below (S := fun _ => False) hl4).cell k0 id; have j1 := (Fr.of_below (S := fun _ => False) hl4).cell k1 id; have j2 := (Fr.of_below (S := fun _ => False) hl4).cell k2 id)
      | ((with_reducible refine (c_Check1 w4 L.n.b Bm).mono ?_); rintro e w5 ⟨B2, rfl, hb5, hl5⟩; have i0 := (Fr.of_below (S := fun _ => False) hl5).cell j0 id; have i1 := (Fr.of_below (S := fun _ => False) hl5).cell j1 id; have i2 := (Fr.of_below (S := fun _ => False) hl5).cell j2 id; have o2 := hOnH.out w5 Bm B2 (check_w2 hblH.out hpmH.out hl3 hl4 hl5) (check_b2 hbH.out hl3 hl4 hl5) hb5)
      | ((with_reducible refine o2.mono ?_); rintro e w6 ⟨rfl, hl6⟩; have g0 := (Fr.of_below (S := fun _ => False) hl6).cell i0 id; have g1 := (Fr.of_below (S := fun _ => False) hl6).cell i1 id; have g2 := (Fr.of_below (S := fun _ => False) hl6).cell i2 id))
  have hfin : Below w.heap.size w w5 := by have q := check_w2 hblH.out hpmH.out hl3 hl4 hl5; rw [hpmH.out]; exact q
  have hfin6 := hfin.trans (hl6.mono hfin.size)
  go_wp2
  go_ret
  exact ⟨rfl, hfin6⟩
end Go.Proofs.Ytnedmmopkhmejaa
