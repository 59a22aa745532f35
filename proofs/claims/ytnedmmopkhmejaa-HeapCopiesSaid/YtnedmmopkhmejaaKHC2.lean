/- Walk: Copy. -/
import Derived.Test.YtnedmmopkhmejaaKHC1
set_option linter.unusedVariables false
set_option linter.unusedSimpArgs false
namespace Go.Proofs.Ytnedmmopkhmejaa
open Go.RowKit Go.Proofs.Hp
attribute [local go_sem] Oper.semAt_some

theorem MemRep.cloneSlots {w : World} {L : ML} {m : Mem} (h : MemRep w L m) {p : Option Addr} {cap : Nat} (hv : L.kv = .slice p m.known.length cap) :
    Calls Try.prog 77 #[.slice p m.known.length cap] w fun e w' => ∃ v', e = .returned v' ∧ w'.ownsRow w.heap.size 131 2 v' m.known.length (flatSlots m.known) ∧ Below w.heap.size w w' := by
  have hk := h.kn
  rw [hv] at hk
  have hl := hk.1
  refine c_CloneSlots w p m.known.length cap (flatSlots m.known) (fun e => ?_) hl (fun a e j u hu => ?_) (fun u hu => ?_) h.kl
  · rcases hk.2 with ⟨e1, e2⟩ | ⟨g, cap', cur, e1, _⟩
    · exact e2
    · rw [e] at e1; cases e1
  · rcases hk.2 with ⟨e1, e2⟩ | ⟨g, cap', cur, e1, hb, hg, hn, _, hs, ht⟩
    · rw [e2] at hl
      have hj := (List.getElem?_eq_some_iff.1 hu).1
      omega
    · rw [e] at e1
      simp only [Value.slice.injEq, Option.some.injEq] at e1
      obtain ⟨rfl, -, -⟩ := e1
      have hj := (List.getElem?_eq_some_iff.1 hu).1
      rw [addr_add, cell_of hg]
      rw [← ht, List.getElem?_take] at hu
      split at hu
      · simpa using hu
      · cases hu
  · simp only [flatSlots, List.mem_flatMap] at hu
    obtain ⟨k, _, hk2⟩ := hu
    simp only [List.mem_cons, List.not_mem_nil, or_false] at hk2
    rcases hk2 with rfl | rfl <;> rfl

set_option maxRecDepth 100000 in
set_option maxHeartbeats 4000000 in
theorem c_Copy (w : World) (L : ML) (m : Mem) (h : MemRep w L m) :
    Calls Try.prog 27 #[.pointer (some ⟨L.b, 0, none⟩)] w fun e w' => ∃ (L' : ML) (mv : List (Int × Int)), e = .returned (.pointer (some ⟨L'.b, 0, none⟩)) ∧ L'.D = L.D ∧ MemRep w' L' (m.withMv mv) ∧ Mem.SameMv mv m.moved ∧ Below w.heap.size w w' ∧ ∀ k ∈ L'.fp, w.heap.size ≤ k := by
  have c0 := h.c0
  have c1 := h.c1
  have c2 := h.c2
  have c3 := h.c3
  have c4 := h.c4
  have c5 := h.c5
  have c6 := h.c6
  have c7 := h.c7
  have c8 := h.c8
  obtain ⟨sp, scap, hshv⟩ : ∃ p c, L.shv = .slice p m.shapes.length c := by obtain ⟨p, c, e, _⟩ := h.sh; exact ⟨p, c, e⟩
  obtain ⟨kp, kcap, hkv⟩ := h.kvS
  rw [hshv] at c0
  rw [hkv] at c4
  have hmd := c_made w L m h
  have hH := Lib.hid h
  clear h
  go_enter Try.func27, Try.ntmps27
  go_wp2_with (fail)
  refine hmd.mono ?_
  rintro e w0 ⟨rfl, hw0⟩
  subst hw0
  go_wp2_with (fail)
  have hM := hH.out.alloc (.cells #[.slice sp m.shapes.length scap, .pointer (some ⟨L.y.b, 0, none⟩), .pointer (some ⟨L.n.b, 0, none⟩), .pointer (some ⟨L.o.b, 0, none⟩), .slice kp m.known.length kcap, .bool m.busy, .int .i64 m.scan, .map (some L.mb), .int .i64 m.left] 100)
  have hB0 := al_same w (.cells #[.slice sp m.shapes.length scap, .pointer (some ⟨L.y.b, 0, none⟩), .pointer (some ⟨L.n.b, 0, none⟩), .pointer (some ⟨L.o.b, 0, none⟩), .slice kp m.known.length kcap, .bool m.busy, .int .i64 m.scan, .map (some L.mb), .int .i64 m.left] 100)
  have hbw : Below w.heap.size w (w.alloc (.cells #[.slice sp m.shapes.length scap, .pointer (some ⟨L.y.b, 0, none⟩), .pointer (some ⟨L.n.b, 0, none⟩), .pointer (some ⟨L.o.b, 0, none⟩), .slice kp m.known.length kcap, .bool m.busy, .int .i64 m.scan, .map (some L.mb), .int .i64 m.left] 100)) := (Below.refl _ _).alloc (Nat.le_refl _) _
  have hBL : ¬ w.heap.size = L.b := fun e => by have := lt_of_block hH.out.blk; omega
  have hBL' : ¬ L.b = w.heap.size := fun e => hBL e.symm
  have hcf := enters (P := Try.prog) Try.func75 (by kernel_rfl) rfl
  clear c0 c1 c2 c3 c4 c5 c6 c7 c8 hmd
  generalize hB : w.heap.size = B at *
  generalize w.alloc (.cells #[.slice sp m.shapes.length scap, .pointer (some ⟨L.y.b, 0, none⟩), .pointer (some ⟨L.n.b, 0, none⟩), .pointer (some ⟨L.o.b, 0, none⟩), .slice kp m.known.length kcap, .bool m.busy, .int .i64 m.scan, .map (some L.mb), .int .i64 m.left] 100) = W at *
  have c1 := hM.c1
  have c2 := hM.c2
  have c3 := hM.c3
  have hc1 := c_Copy1 W.drew L.y m.young hM.drew.y
  have hM0 := Lib.hid hM.drew
  have hB0H := Lib.hid (show W.drew.heap[B]? = _ from hB0)
  clear hM hB0
  go_region_held3 (fun w' => w'.cell? ⟨L.b, 1, none⟩ = some (.pointer (some ⟨L.y.b, 0, none⟩)) ∧ w'.cell? ⟨L.b, 2, none⟩ = some (.pointer (some ⟨L.n.b, 0, none⟩)) ∧ w'.cell? ⟨L.b, 3, none⟩ = some (.pointer (some ⟨L.o.b, 0, none⟩))) (go_keep)
    (first
      | ((with_reducible refine hc1.mono ?_); rintro e w1 ⟨L1, rfl, s1, g1, b1⟩; have h1 := hM0.out.below b1; have hc2 := c_Copy1 w1 L.n m.now h1.n; have c1 := h1.c1; have c2 := h1.c2; have c3 := h1.c3)
      | ((with_reducible refine hc2.mono ?_); rintro e w2 ⟨L2, rfl, s2, g2, b2⟩; have h2 := h1.below b2; have hc3 := c_Copy1 w2 L.o m.other h2.o; have c1 := h2.c1; have c2 := h2.c2; have c3 := h2.c3)
      | ((with_reducible refine hc3.mono ?_); rintro e w3 ⟨L3, rfl, s3, g3, b3⟩; have h3 := h2.below b3; have c1 := h3.c1; have c2 := h3.c2; have c3 := h3.c3; have hB3 := (b3.block B (by have := lt_of_block hB0H.out; have := b1.size; have := b2.size; omega)).trans ((b2.block B (by have := lt_of_block hB0H.out; have := b1.size; omega)).trans ((b1.block B (lt_of_block hB0H.out)).trans hB0H.out)); have x1 : w3.cell? ⟨B, 1, none⟩ = some (.pointer (some ⟨L.y.b, 0, none⟩)) := (by rw [cell_of hB3]; rfl); have x2 : w3.cell? ⟨B, 2, none⟩ = some (.pointer (some ⟨L.n.b, 0, none⟩)) := (by rw [cell_of hB3]; rfl); have x3 : w3.cell? ⟨B, 3, none⟩ = some (.pointer (some ⟨L.o.b, 0, none⟩)) := (by rw [cell_of hB3]; rfl); have z1 := free_of hB3 1; have z2 := free_of hB3 2; have z3 := free_of hB3 3))
  all_goals
    have hBW : B < W.heap.size := by have := lt_of_block hB0H.out; exact this
    have e1 : W.drew.heap.size = W.heap.size := rfl
    have z12 := b1.size
    have z23 := b2.size
    have z34 := b3.size
    have u1 := (s1.below' b2).below' b3
    have u2 := s2.below' b3
    have hlo : ∀ k, (k ∈ L1.fp → W.heap.size ≤ k ∧ k < w1.heap.size) ∧ (k ∈ L2.fp → w1.heap.size ≤ k ∧ k < w2.heap.size) ∧ (k ∈ L3.fp → w2.heap.size ≤ k ∧ k < w3.heap.size) :=
      fun k => ⟨fun q => ⟨g1 k q, s1.lt q⟩, fun q => ⟨g2 k q, s2.lt q⟩, fun q => ⟨g3 k q, s3.lt q⟩⟩
    have hBw3 : Below B w w3 := (((below_drewN hbw 1).trans (b1.mono (by omega))).trans (b2.mono (by omega))).trans (b3.mono (by omega))
    obtain ⟨W5, hW5, hM5, hB5, t1, t2, t3, f5⟩ := store3 (.pointer (some ⟨L1.b, 0, none⟩)) (.pointer (some ⟨L2.b, 0, none⟩)) (.pointer (some ⟨L3.b, 0, none⟩)) h3 hB3 u1 u2 s3 (fun k hk e => by have := hH.out.lt hk; omega) (fun k hk e => by have := hH.out.Dlt k hk; omega)
      (fun k hk e => by have := g1 k hk; omega) (fun k hk e => by have := g2 k hk; omega) (fun k hk e => by have := g3 k hk; omega)
    rw [hW5]
    have hBw5 : Below B w W5 := Fr.to_below hBw3 (by omega) f5 fun k e => by omega
    have hall := Lib.hid (And.intro t1 (And.intro t2 t3))
    have hloH := Lib.hid (And.intro hlo (And.intro z12 (And.intro z23 (And.intro z34 (And.intro f5.size hBW)))))
    clear hlo z12 z23 z34 e1 u1 u2 hBw3 hW5 t1 t2 t3 x1 x2 x3 z1 z2 z3 c1 c2 c3 hc1 hc2 hc3 h1 h2 h3 s1 s2 s3 g1 g2 g3 b1 b2 b3 hB3 f5 hcf
    have c4 := hM5.c4
    have hcl := hM5.cloneSlots hkv
    rw [hkv] at c4
    have hM5H := Lib.hid (And.intro hM5 (And.intro hB5 hBw5))
    clear hM5 hB5 hBw5 hbw
    go_wp2_with (fail)
    refine hcl.mono ?_
    rintro e W6 ⟨kv', rfl, ho6, hb6⟩
    have hB6 := (hb6.block B (lt_of_block hM5H.out.2.1)).trans hM5H.out.2.1
    have x4 : W6.cell? ⟨B, 4, none⟩ = some (.slice kp m.known.length kcap) := by rw [cell_of hB6]; rfl
    have z4 := free_of hB6 4
    have x7 : W6.cell? ⟨B, 7, none⟩ = some (.map (some L.mb)) := by rw [cell_of hB6]; rfl
    have z7 := free_of hB6 7
    have hmk := @run_makeMap Try.prog
    obtain ⟨kq, kqc, hkvs⟩ := ownsRow_slice ho6
    have hCW : Hid (CopyW w (((W6.setCell ⟨B, 4, none⟩ kv').setCell ⟨B, 7, none⟩ (.map (some W6.heap.size))).alloc (.map #[] 0)) L m L1 L2 L3 kv' B W6.heap.size) := Lib.hid (by
      obtain ⟨hlo, z12, z23, z34, z35, hBW⟩ := hloH.out
      have e0 : W.drew.heap.size = W.heap.size := rfl
      obtain ⟨t1, t2, t3⟩ := hall.out
      refine copy_w7 (a1 := w1.heap.size) (a2 := w2.heap.size) (a3 := w3.heap.size) (kp := .slice kp m.known.length kcap) hH.out hB.symm hM5H.out.2.2 t1 t2 t3 ho6 hb6 (by rw [hshv]; exact hB6) ?_ (fun k hk => ?_) (fun k hk => ?_) (fun k hk => ?_) z23 z34 z35
      · have := z12; omega
      · have := (hlo k).1 hk; omega
      · have := (hlo k).2.1 hk; omega
      · have := (hlo k).2.2 hk; omega)
    have hB7 : ((W6.setCell ⟨B, 4, none⟩ kv').alloc (.map #[] 0)).heap[B]? = some (.cells #[.slice sp m.shapes.length scap, .pointer (some ⟨L1.b, 0, none⟩), .pointer (some ⟨L2.b, 0, none⟩), .pointer (some ⟨L3.b, 0, none⟩), kv', .bool m.busy, .int .i64 m.scan, .map (some L.mb), .int .i64 m.left] 100 (0, 0)) :=
      (al_old _ _ _ (by have q := lt_of_block hB6; simpa [World.setCell] using q)).trans (heap_setCell_same (i := 4) _ hB6)
    have x7' : ((W6.setCell ⟨B, 4, none⟩ kv').alloc (.map #[] 0)).cell? ⟨B, 7, none⟩ = some (.map (some L.mb)) := by rw [cell_of hB7]; rfl
    have z7' := free_of hB7 7
    have xL7 : (((W6.setCell ⟨B, 4, none⟩ kv').setCell ⟨B, 7, none⟩ (.map (some W6.heap.size))).alloc (.map #[] 0)).cell? ⟨L.b, 7, none⟩ = some (.map (some L.mb)) := by
      rw [cell_of ((hCW.out.bl.block L.b hCW.out.old.2.1).trans hCW.out.h.blk)]; rfl
    have xk7 : W6.cell? ⟨L.b, 7, none⟩ = some (.map (some L.mb)) := (hM5H.out.1.below hb6).c7
    have hLs : L.b < W6.heap.size := lt_of_cell xk7
    have hLne : ¬ L.b = W6.heap.size := by omega
    have hmap := hCW.out.old.1
    have hBlt : B < W6.heap.size := lt_of_block hB6
    clear ho6 hb6 hB6 hcl c4 hB7 x7 z7 hall hloH hM5H hH hM0 hB0H
    subst hkvs
    have e1 : (((W6.setCell ⟨B, 4, none⟩ (.slice kq m.known.length kqc)).setCell ⟨B, 7, none⟩ (.map (some W6.heap.size))).alloc (.map #[] 0)).heap.size = W6.heap.size + 1 := by simp [World.setCell]
    have e1H := Lib.hid e1
    clear e1
    go_wp2_with (first
      | (at_range; refine wpList_range_ints _ rfl _ 97 rfl 3 3 Try.underlying97 L.mb m.moved rfl hmap ?_; intro w8 hit hf8 hs8)
      | go_in)
    go_frame
    rw [e1H.out] at hit hs8 ⊢
    have hNs : W6.heap.size < (((W6.setCell ⟨B, 4, none⟩ (.slice kq m.known.length kqc)).setCell ⟨B, 7, none⟩ (.map (some W6.heap.size))).alloc (.map #[] 0)).heap.size := by rw [e1H.out]; omega
    generalize (((W6.setCell ⟨B, 4, none⟩ (.slice kq m.known.length kqc)).setCell ⟨B, 7, none⟩ (.map (some W6.heap.size))).alloc (.map #[] 0)) = U at *
    generalize W6.heap.size = N at *
    clear e1H hmk x7' z7' xL7 xk7 hLs hLne x4 z4 hmap hBL hBL'
    go_loopw [5, 6] (fun _ _ wr => ∃ done, ItRep wr L.mb (N + 1) m.moved done ∧ MapRep wr N done ∧ Fr (fun k => N ≤ k) U wr) (fun _ _ wr => wr.rangeLeft L.mb (N + 1))
    case atStart => exact ⟨[], hit, hCW.out.mp.block (hf8.block _ hNs id), hf8.mono fun _ _ q => q.elim⟩
    case round =>
      clear hit hf8 hs8
      obtain ⟨done, hit, hmp, hF⟩ := hrel
      have hmB := hCW.out.old.2.2
      have hbB := hF.blk hCW.out.blk (by omega)
      go_wp2_with (first
        | (at_next; refine wpList_next_ints _ rfl _ rfl L.mb (N + 1) m.moved done rfl hit ?_ ?_)
        | go_in)
      · intro hdone
        go_wp2
        go_ret
        obtain ⟨L', hb', hD', hrep, hbl, hfp⟩ := copy_end hCW.out hF hmp
        exact ⟨L', done, by rw [hb']; rfl, hD', hrep, hit.same (fun p hp => hdone.out p.1 p.2 hp), hbl, hfp⟩
      · intro x c w9 hlk hlt hit9 hrl hf9 hs9 hen
        have hb9 := hf9.blk hbB (by omega)
        have x7 : w9.cell? ⟨B, 7, none⟩ = some (.map (some N)) := by rw [cell_of hb9]; rfl
        have hm9 : MapRep w9 N done := hmp.block (hf9.block N (lt_of_map hmp) (by omega))
        obtain ⟨w10, hmu, hm10, hf10⟩ := run_mapUpdate_ints (P := Try.prog) w9 97 3 3 Try.underlying97 Try.underlying3 N done hm9 x c (List.lookup_eq_none_iff.2 fun p hp => bne_iff_ne.2 (hlk.out p.1 p.2 hp))
        have hlt9 := hit9.lt
        have q1 := hf10.block L.mb hlt9.1 (by omega)
        have q2 := hf10.block (N + 1) hlt9.2.1 (by omega)
        have hit10 := Lib.hid (hit9.of_blocks q1 q2)
        have hF10 := Lib.hid ((hF.trans (hf9.mono fun k _ e => by omega)).trans (hf10.mono fun k _ e => by omega))
        have hm10H := Lib.hid hm10
        have hrl10 : Hid (w10.rangeLeft L.mb (N + 1) < wr.rangeLeft L.mb (N + 1)) := Lib.hid (by rw [rangeLeft_of q1 q2]; exact hrl)
        clear hlk hlt hit9 hrl hf9 hs9 hb9 hm9 hm10 hf10 hlt9 q1 q2 hbB hmB
        go_wp2_with (fail)
        go_roundw
        case rel => exact ⟨_, hit10.out, hm10H.out, hF10.out⟩
        case measure => exact hrl10.out
end Go.Proofs.Ytnedmmopkhmejaa
