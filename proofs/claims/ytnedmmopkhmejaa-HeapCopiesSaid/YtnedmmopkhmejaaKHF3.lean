/- HeapCopies: a memory, its copy, and what the calls gave, side by side. -/
import Derived.Test.YtnedmmopkhmejaaKHF2
import Derived.Great.BuildSlice
set_option linter.unusedVariables false
set_option linter.unusedSimpArgs false
namespace Go.Proofs.Ytnedmmopkhmejaa
open Go.RowKit Go.Proofs.Hp
attribute [local go_sem] Oper.semAt_some

/-- The memory and its copy behind calls, and the row of what they gave; 'W1': the world right behind the copy. -/
structure CR (W1 : World) (L0 K0 : ML) (w : World) (L : ML) (m : Mem) (K : ML) (n : Mem) (gv : Value) (gs : List (Int × Int)) : Prop where
  r1 : MemRep w L m
  r2 : MemRep w K n
  dj : ∀ k ∈ L.fp, k ∉ K.fp
  d1 : ∀ k, L.D k → k ∉ K.fp
  d2 : ∀ k, K.D k → k ∉ L.fp
  fL : ∀ k ∈ L.fp, k ∈ L0.fp ∨ W1.heap.size ≤ k
  fK : ∀ k ∈ K.fp, k ∈ K0.fp ∨ W1.heap.size ≤ k
  dL : ∀ k, L.D k → k < W1.heap.size
  dK : ∀ k, K.D k → k < W1.heap.size
  fr : Fr (fun k => k ∈ L0.fp ∨ k ∈ K0.fp) W1 w
  own : w.ownsRow W1.heap.size 89 2 gv gs.length (flatGot gs)
  ne : ∀ k, gv.ownBlock = some k → k ∉ L.fp ∧ k ∉ K.fp
theorem CR.start {w0 W1 : World} {L : ML} {m : Mem} {K : ML} {n : Mem} {rv : Value} {rs : List Int} (h : TwoR w0 W1 L m K n rv rs) : CR W1 L K W1 L m K n (.slice none 0 0) [] :=
  ⟨h.r1, h.r2, h.dj, h.d1, h.d2, fun _ q => .inl q, fun _ q => .inl q, fun k q => h.r1.Dlt k q, fun k q => h.r2.Dlt k q, Fr.refl _ _, ⟨rfl, .inl ⟨rfl, rfl⟩⟩, fun k q => by cases q⟩
theorem CR.swap {W1 : World} {L0 K0 : ML} {w : World} {L : ML} {m : Mem} {K : ML} {n : Mem} {gv : Value} {gs : List (Int × Int)} (h : CR W1 L0 K0 w L m K n gv gs) : CR W1 K0 L0 w K n L m gv gs :=
  ⟨h.r2, h.r1, fun k hk q => h.dj k q hk, h.d2, h.d1, h.fK, h.fL, h.dK, h.dL, h.fr.mono fun k _ q => q.symm, h.own, fun k q => (h.ne k q).symm⟩
theorem CR.ev1 {W1 : World} {L0 K0 : ML} {w w' : World} {L L' : ML} {m m' : Mem} {K : ML} {n : Mem} {gv : Value} {gs : List (Int × Int)} (h : CR W1 L0 K0 w L m K n gv gs) (hr : MemRep w' L' m') (e : Ev L L' w w') : CR W1 L0 K0 w' L' m' K n gv gs := by
  have hK : ∀ k ∈ K.fp, k < w.heap.size := fun k hk => h.r2.lt hk
  have hsz := h.fr.size
  refine ⟨hr, h.r2.fr e.fr (fun k hk q => h.dj k q hk) (fun k hk => h.d2 k hk), fun k hk q => ?_, fun k hk => h.d1 k (by rw [← e.D]; exact hk), fun k hk q => ?_, fun k hk => ?_, h.fK, fun k hk => h.dL k (by rw [← e.D]; exact hk), h.dK, h.fr.trans' e.fr fun k hk => ?_, own_fr h.own e.fr fun k hk => (h.ne k hk).1, fun k hk => ⟨fun q => ?_, (h.ne k hk).2⟩⟩
  · rcases e.fp k hk with y | y
    · exact h.dj k y q
    · have := hK k q; omega
  · rcases e.fp k q with y | y
    · exact h.d2 k hk y
    · have := h.r2.Dlt k hk; omega
  · rcases e.fp k hk with y | y
    · exact h.fL k y
    · exact .inr (by omega)
  · exact (h.fL k hk).imp .inl id
  · rcases e.fp k q with y | y
    · exact (h.ne k hk).1 y
    · have := (h.own.lt k hk).2; omega
theorem CR.ev2 {W1 : World} {L0 K0 : ML} {w w' : World} {L : ML} {m : Mem} {K K' : ML} {n n' : Mem} {gv : Value} {gs : List (Int × Int)} (h : CR W1 L0 K0 w L m K n gv gs) (hr : MemRep w' K' n') (e : Ev K K' w w') : CR W1 L0 K0 w' L m K' n' gv gs := (h.swap.ev1 hr e).swap
theorem CR.below {W1 : World} {L0 K0 : ML} {w w' : World} {L : ML} {m : Mem} {K : ML} {n : Mem} {gv : Value} {gs : List (Int × Int)} (h : CR W1 L0 K0 w L m K n gv gs) (hb : Below w.heap.size w w') : CR W1 L0 K0 w' L m K n gv gs :=
  h.ev1 (h.r1.below hb) (Ev.of_fr (Fr.of_below hb))
theorem CR.alloc {W1 : World} {L0 K0 : ML} {w : World} {L : ML} {m : Mem} {K : ML} {n : Mem} {gv : Value} {gs : List (Int × Int)} (h : CR W1 L0 K0 w L m K n gv gs) (o : Obj) : CR W1 L0 K0 (w.alloc o) L m K n gv gs := h.below ((Below.refl _ _).alloc (Nat.le_refl _) o)
/-- One more. -/
theorem CR.app {W1 : World} {L0 K0 : ML} {w w' : World} {o : Obj} {L : ML} {m : Mem} {K : ML} {n : Mem} {gv v' : Value} {gs : List (Int × Int)} {g : Nat} (h : CR W1 L0 K0 w L m K n gv gs) (x : Int × Int) (hv : v'.ownBlock = some g) (ho : w'.ownsRow W1.heap.size 89 2 v' (gs.length + 1) (flatGot gs ++ gotCells x)) (hg : (w.alloc o).grownBy w' gv.ownBlock) (hat : gv.ownBlock = some g ∨ w.heap.size ≤ g) :
    CR W1 L0 K0 w' L m K n v' (gs ++ [x]) := by
  have hf := fr_grown hg
  have hW : ∀ k, gv.ownBlock = some k → W1.heap.size ≤ k := fun k q => (h.own.lt k q).1
  refine ⟨h.r1.fr hf (fun k hk q => (h.ne k q).1 hk) (fun k hk q => by have := h.dL k hk; have := hW k q; omega), h.r2.fr hf (fun k hk q => (h.ne k q).2 hk) (fun k hk q => by have := h.dK k hk; have := hW k q; omega), h.dj, h.d1, h.d2, h.fL, h.fK, h.dL, h.dK, h.fr.trans' hf fun k q => .inr (hW k q), ?_, fun k q => ?_⟩
  · rw [List.length_append, flatGot_app, show flatGot [x] = gotCells x from List.append_nil _]; exact ho
  · rw [hv] at q
    simp only [Option.some.injEq] at q
    subst q
    rcases hat with e | e
    · exact h.ne _ e
    · exact ⟨fun z => by have := h.r1.lt z; omega, fun z => by have := h.r2.lt z; omega⟩

theorem buildG (w : World) (a b : Int) : (Instr.buildSlice 87 1 #[(0, .agg #[.int .i64 a, .int .i64 b])]).run Try.prog w = .ok (.slice (some ⟨w.heap.size, 0, none⟩) 1 1) (w.alloc (.cells #[.int .i64 a, .int .i64 b] 89)) := by
  obtain ⟨i0, hi, hz0, hz1, hz2⟩ := info_parts Try.infoGot
  exact run_buildSlice w 87 89 1 _ _ i0 _ Try.underlying87 hi hz0 (by rw [hz1]; decide) (by rw [hz1]; decide) (by rw [hz1]; kernel_rfl)
theorem wpList_g1 {ops : Array Oper} {rest : List Oper} {o : Oper} {a : Act} {w : World} {Q : Exit → Act → World → Prop} (hg : o.guard = none) (x : Operand) (ho : o.op = .buildSlice 87 1 #[(0, x)]) {i j : Int} (hx : a.eval x = .agg #[.int .i64 i, .int .i64 j]) (N : Nat) (hN : w.heap.size = N)
    (h : wpList Try.prog ops Q rest (a.put o.dst (.slice (some ⟨N, 0, none⟩) 1 1)) (w.alloc (.cells #[.int .i64 i, .int .i64 j] 89))) : wpList Try.prog ops Q (o :: rest) a w := by
  subst hN
  refine wpList_plain hg fun _ hK => ?_
  unfold Oper.wp execOp
  simp only [ho, Sem.run_bind, List.map_toArray, List.map_cons, List.map_nil, hx, buildG, Result.andThen_ok]
  exact hK _ _ h
end Go.Proofs.Ytnedmmopkhmejaa
