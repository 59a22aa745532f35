/- Two memories side by side. -/
import Derived.Test.YtnedmmopkhmejaaKHB1
import Derived.Test.YtnedmmopkhmejaaKHC2
import Derived.Test.YtnedmmopkhmejaaKHD3
import Derived.Test.YtnedmmopkhmejaaKHPure
set_option linter.unusedVariables false
set_option linter.unusedSimpArgs false
namespace Go.Proofs.Ytnedmmopkhmejaa
open Go.RowKit Go.Proofs.Hp
attribute [local go_sem] Oper.semAt_some

/-- Two memories that share nothing, and roots. -/
structure TwoR (w0 w : World) (L : ML) (m : Mem) (K : ML) (n : Mem) (rv : Value) (rs : List Int) : Prop where
  r1 : MemRep w L m
  r2 : MemRep w K n
  dj : ∀ k ∈ L.fp, k ∉ K.fp
  d1 : ∀ k, L.D k → k ∉ K.fp
  d2 : ∀ k, K.D k → k ∉ L.fp
  b1 : ∀ k ∈ L.fp, w0.heap.size ≤ k
  b2 : ∀ k ∈ K.fp, w0.heap.size ≤ k
  bl : Below w0.heap.size w0 w
  ro : OutAt w (fun k => k ∉ L.fp ∧ k ∉ K.fp) rv rs
theorem TwoR.ev1 {w0 w w' : World} {L L' : ML} {m m' : Mem} {K : ML} {n : Mem} {rv : Value} {rs : List Int} (h : TwoR w0 w L m K n rv rs) (hr : MemRep w' L' m') (e : Ev L L' w w') : TwoR w0 w' L' m' K n rv rs := by
  have hK : ∀ k ∈ K.fp, k < w.heap.size := fun k hk => h.r2.lt hk
  refine ⟨hr, h.r2.fr e.fr (fun k hk q => h.dj k q hk) (fun k hk => h.d2 k hk), fun k hk q => ?_, fun k hk => h.d1 k (by rw [← e.D]; exact hk), fun k hk q => ?_, fun k hk => ?_, h.b2, ?_, ?_⟩
  · rcases e.fp k hk with y | y
    · exact h.dj k y q
    · have := hK k q; omega
  · rcases e.fp k q with y | y
    · exact h.d2 k hk y
    · have := h.r2.Dlt k hk; omega
  · rcases e.fp k hk with y | y
    · exact h.b1 k y
    · exact Nat.le_trans h.bl.size y
  · exact ⟨e.fr.os.trans h.bl.os, e.fr.tape.trans h.bl.tape, e.fr.output.trans h.bl.output, Nat.le_trans h.bl.size e.fr.size, fun k hk => (e.fr.block k (Nat.lt_of_lt_of_le hk h.bl.size) (fun q => by have := h.b1 k q; omega)).trans (h.bl.block k hk)⟩
  · refine (h.ro.mono (D' := fun k => (k ∉ L.fp ∧ k ∉ K.fp) ∧ k < w.heap.size) fun k hk hl => ⟨hk, hl⟩).of_blocks (fun k hk _ => e.fr.block k hk.2 hk.1.1) |>.mono fun k hk _ => ⟨fun q => (e.fp k q).elim hk.1.1 (fun g => by omega), hk.1.2⟩
theorem TwoR.swap {w0 w : World} {L : ML} {m : Mem} {K : ML} {n : Mem} {rv : Value} {rs : List Int} (h : TwoR w0 w L m K n rv rs) : TwoR w0 w K n L m rv rs :=
  ⟨h.r2, h.r1, fun k hk q => h.dj k q hk, h.d2, h.d1, h.b2, h.b1, h.bl, h.ro.mono fun k hk _ => ⟨hk.2, hk.1⟩⟩
theorem TwoR.ev2 {w0 w w' : World} {L : ML} {m : Mem} {K K' : ML} {n n' : Mem} {rv : Value} {rs : List Int} (h : TwoR w0 w L m K n rv rs) (hr : MemRep w' K' n') (e : Ev K K' w w') : TwoR w0 w' L m K' n' rv rs := (h.swap.ev1 hr e).swap
theorem TwoR.below {w0 w w' : World} {L : ML} {m : Mem} {K : ML} {n : Mem} {rv : Value} {rs : List Int} (h : TwoR w0 w L m K n rv rs) (hb : Below w.heap.size w w') : TwoR w0 w' L m K n rv rs :=
  h.ev1 (h.r1.below hb) (Ev.of_fr (Fr.of_below hb))
/-- The copy beside its memory. -/
theorem TwoR.of_copy {w0 w w' : World} {L K : ML} {m n : Mem} {rv : Value} {rs : List Int} (h : OwnR w0 w L m) (ho : OutAt w (fun k => 0 ≤ k ∧ k ∉ L.fp) rv rs) (hD : K.D = L.D) (hr : MemRep w' K n) (hb : Below w.heap.size w w') (hf : ∀ k ∈ K.fp, w.heap.size ≤ k) : TwoR w0 w' L m K n rv rs := by
  have h2 := h.below hb
  refine ⟨h2.rep, hr, fun k hk q => ?_, fun k hk q => ?_, fun k hk q => ?_, h.fpB, fun k hk => Nat.le_trans h.bl.size (hf k hk), h2.bl, ?_⟩
  · have := h.rep.lt hk; have := hf k q; omega
  · have := h.rep.Dlt k hk; have := hf k q; omega
  · rw [hD] at hk; exact h.rep.dj k q hk
  · refine (ho.mono (D' := fun k => k ∉ L.fp ∧ k < w.heap.size) fun k hk hl => ⟨hk.2, hl⟩).of_blocks (fun k hk _ => hb.block k hk.2) |>.mono fun k hk _ => ⟨hk.1, fun q => by have := hf k q; omega⟩
/-- .. and two pictures. -/
structure SmR (w0 W : World) (L : ML) (m : Mem) (K : ML) (n : Mem) (rv : Value) (rs : List Int) (B1 B2 : Nat) (a1 a2 a3 b1 b2 b3 : Value) (p : Pic) : Prop where
  two : TwoR w0 W L m K n rv rs
  h1 : W.heap[B1]? = some (.cells #[a1, a2, a3] 42 (0, 0))
  h2 : W.heap[B2]? = some (.cells #[b1, b2, b3] 42 (0, 0))
  p1 : PicAt W (fun _ => True) a1 a2 a3 p
  p2 : PicAt W (fun _ => True) b1 b2 b3 p
theorem SmR.below {w0 W W' : World} {L : ML} {m : Mem} {K : ML} {n : Mem} {rv : Value} {rs : List Int} {B1 B2 : Nat} {a1 a2 a3 b1 b2 b3 : Value} {p : Pic} (h : SmR w0 W L m K n rv rs B1 B2 a1 a2 a3 b1 b2 b3 p) (hb : Below W.heap.size W W') : SmR w0 W' L m K n rv rs B1 B2 a1 a2 a3 b1 b2 b3 p :=
  ⟨h.two.below hb, (hb.block _ (lt_of_block h.h1)).trans h.h1, (hb.block _ (lt_of_block h.h2)).trans h.h2, h.p1.bl hb, h.p2.bl hb⟩
theorem SmR.start {w0 W W10 : World} {L : ML} {m : Mem} {K : ML} {n : Mem} {rv : Value} {rs : List Int} {a1 a2 a3 b1 b2 b3 : Value} {p : Pic} (hp : PicAt W (fun _ => True) a1 a2 a3 p) (hb : Below (W.alloc (.cells #[a1, a2, a3] 42)).heap.size (W.alloc (.cells #[a1, a2, a3] 42)) W10)
    (hq : PicAt W10 (fun _ => True) b1 b2 b3 p) (hT : TwoR w0 W10 L m K n rv rs) : SmR w0 (W10.alloc (.cells #[b1, b2, b3] 42)) L m K n rv rs W.heap.size W10.heap.size a1 a2 a3 b1 b2 b3 p := by
  have bA : Below W.heap.size W (W.alloc (.cells #[a1, a2, a3] 42)) := (Below.refl _ _).alloc (Nat.le_refl _) _
  have bB : Below W10.heap.size W10 (W10.alloc (.cells #[b1, b2, b3] 42)) := (Below.refl _ _).alloc (Nat.le_refl _) _
  have hlt : W.heap.size < (W.alloc (.cells #[a1, a2, a3] 42)).heap.size := by simp
  exact ⟨hT.below bB, (bB.block _ (Nat.lt_of_lt_of_le hlt hb.size)).trans ((hb.block _ hlt).trans (al_same _ _)), al_same _ _, ((hp.bl bA).bl hb).bl bB, hq.bl bB⟩
end Go.Proofs.Ytnedmmopkhmejaa
