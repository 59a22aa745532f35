/- A player in the world; walks: drop, copied, keep, look, refers. -/
import Derived.Test.YtnedmmopkhmejaaKHW25
set_option linter.unusedVariables false
set_option linter.unusedSimpArgs false
namespace Go.Proofs.Hp
/-- A player: a memory, and roots. -/
structure Pl where
  mem : Mem
  roots : List Int
namespace Pl
def kept (p : Pl) : Mem × List Int × Int → Pl × Int
  | (m', out, e) => (⟨m', if e = 0 then out else p.roots⟩, e)
def clearE (p : Pl) : Option (Pl × Int) := (p.mem.minorE p.roots).map p.kept
def flipA (p : Pl) : Option (Pl × Int) := (p.mem.flipE p.roots).map p.kept
def lookE (p : Pl) (n : Int) : Option (Pl × Int) := (p.mem.stepE n).map fun r => (⟨r.1, p.roots⟩, r.2.2)
def put (p : Pl) (i : Nat) (v : Int) : Pl := { p with roots := p.roots.set i v }
def root (p : Pl) (i : Nat) : Int := p.roots.getD i 0
def refersE (p : Pl) (i : Nat) (f : Int) (want : Bool) : Option Int :=
  match p.mem.fieldE (p.root i) f with
  | none => none
  | some (.inl e) => some e
  | some (.inr (_, is)) => if is = want then some 0 else some 1
end Pl
end Go.Proofs.Hp
namespace Go.Proofs.Ytnedmmopkhmejaa
open Go.RowKit Go.Proofs.Hp
attribute [local go_sem] Oper.semAt_some

/-- A player's own blocks. -/
def pOwn (pb : Nat) (L : ML) (rv : Value) (n : Nat) (k : Nat) : Prop := k ∈ L.fp ∨ k = pb ∨ (n ≠ 0 ∧ rv.ownBlock = some k)

def plBlock (L : ML) (rv : Value) : Obj := .cells #[ptrV L.b, rv, .bool false] 140 (0, 0)

structure PRep (w : World) (pb : Nat) (L : ML) (rv : Value) (p : Pl) : Prop where
  rep : MemRep w L p.mem
  blk : w.heap[pb]? = some (plBlock L rv)
  out : OutAt w (fun k => k ∉ L.fp ∧ ¬ L.D k ∧ k ≠ pb) rv p.roots
  pf : pb ∉ L.fp
  pD : ¬ L.D pb

/-- How a player's blocks may turn. -/
structure PEv (pb : Nat) (L L' : ML) (rv rv' : Value) (n : Nat) (w w' : World) : Prop where
  b : L'.b = L.b
  D : L'.D = L.D
  own : ∀ k, pOwn pb L' rv' n k → pOwn pb L rv n k ∨ w.heap.size ≤ k
  fr : Fr (pOwn pb L rv n) w w'
theorem PEv.refl (pb : Nat) (L : ML) (rv : Value) (n : Nat) (w : World) : PEv pb L L rv rv n w w := ⟨rfl, rfl, fun _ h => .inl h, Fr.refl _ _⟩
theorem PEv.trans {pb : Nat} {L L1 L2 : ML} {rv rv1 rv2 : Value} {n : Nat} {w w1 w2 : World} (h : PEv pb L L1 rv rv1 n w w1) (h' : PEv pb L1 L2 rv1 rv2 n w1 w2) : PEv pb L L2 rv rv2 n w w2 :=
  ⟨h'.b.trans h.b, h'.D.trans h.D, fun k hk => (h'.own k hk).elim (h.own k) (fun q => .inr (Nat.le_trans h.fr.size q)), h.fr.trans' h'.fr h.own⟩
theorem PEv.of_fr {pb : Nat} {L : ML} {rv : Value} {n : Nat} {w w' : World} (h : Fr (pOwn pb L rv n) w w') : PEv pb L L rv rv n w w' := ⟨rfl, rfl, fun _ h => .inl h, h⟩
theorem PEv.of_ev {pb : Nat} {L L' : ML} {rv : Value} {n : Nat} {w w' : World} (h : Ev L L' w w') : PEv pb L L' rv rv n w w' :=
  ⟨h.b, h.D, fun k hk => by
    rcases hk with q | q | q
    · exact (h.fp k q).imp .inl id
    · exact .inl (.inr (.inl q))
    · exact .inl (.inr (.inr q)), h.fr.mono fun k _ q => .inl q⟩

section
variable {w w' : World} {pb : Nat} {L L' : ML} {rv : Value} {p : Pl}
theorem PRep.c0 (h : PRep w pb L rv p) : w.cell? ⟨pb, 0, none⟩ = some (.pointer (some ⟨L.b, 0, none⟩)) := by rw [cell_of h.blk]; rfl
theorem PRep.c1 (h : PRep w pb L rv p) : w.cell? ⟨pb, 1, none⟩ = some rv := by rw [cell_of h.blk]; rfl
theorem PRep.c2 (h : PRep w pb L rv p) : w.cell? ⟨pb, 2, none⟩ = some (.bool false) := by rw [cell_of h.blk]; rfl
theorem PRep.z1 (h : PRep w pb L rv p) : w.frozen? ⟨pb, 1, none⟩ = false := free_of h.blk 1
theorem PRep.ints (h : PRep w pb L rv p) : IntsAt w (fun k => k ∉ L.fp ∧ ¬ L.D k ∧ k ≠ pb) rv p.roots := h.out.ints

/-- The memory is turned. -/
theorem PRep.ev {m' : Mem} (h : PRep w pb L rv p) (h' : MemRep w' L' m') (e : Ev L L' w w') : PRep w' pb L' rv ⟨m', p.roots⟩ := by
  refine ⟨h', ?_, ?_, fun q => (e.fp pb q).elim h.pf (fun g => by have := lt_of_block h.blk; omega), by rw [e.D]; exact h.pD⟩
  · have := (e.fr.block pb (lt_of_block h.blk) h.pf).trans h.blk
    rw [this]; unfold plBlock ptrV; rw [e.b]
  · refine (h.out.mono (D' := fun k => (k ∉ L.fp ∧ ¬ L.D k ∧ k ≠ pb) ∧ k < w.heap.size) fun k hk hl => ⟨hk, hl⟩).of_blocks (fun k hk _ => e.fr.block k hk.2 hk.1.1) |>.mono fun k hk _ => ⟨fun q => (e.fp k q).elim hk.1.1 (fun g => by omega), by rw [e.D]; exact hk.1.2.1, hk.1.2.2⟩
theorem PRep.below (h : PRep w pb L rv p) (hb : Below w.heap.size w w') : PRep w' pb L rv p := h.ev (h.rep.below hb) (Ev.of_fr (Fr.of_below hb))
theorem PRep.alloc (h : PRep w pb L rv p) (o : Obj) : PRep (w.alloc o) pb L rv p := h.below ((Below.refl _ _).alloc (Nat.le_refl _) o)
theorem PRep.drewN (h : PRep w pb L rv p) (n : Nat) : PRep (w.drewN n) pb L rv p := h.below (below_drewN (Below.refl _ _) n)
theorem PRep.drew (h : PRep w pb L rv p) : PRep w.drew pb L rv p := h.drewN 1

/-- A root's cell. -/
theorem PRep.root (h : PRep w pb L rv p) {i : Nat} (hi : i < p.roots.length) : ∃ g cap, rv = .slice (some ⟨g, 0, none⟩) p.roots.length cap ∧ w.cell? ⟨g, i, none⟩ = some (.int .i64 (p.root i)) ∧ w.frozen? ⟨g, i, none⟩ = false ∧ g ∉ L.fp ∧ ¬ L.D g ∧ g ≠ pb := by
  obtain ⟨q, cap, hv, ho | ⟨g, hp, hD, hr⟩⟩ := h.out
  · rw [ho] at hi; simp at hi
  · have hc := hr.cell (i := i) (by simpa using hi)
    rw [List.getElem_map] at hc
    exact ⟨g, cap, by rw [hv, hp], by rw [hc]; simp [Pl.root, List.getD_eq_getElem?_getD, hi], hr.free i, hD.1, hD.2.1, hD.2.2⟩
theorem PRep.setRoot {g cap : Nat} (h : PRep w pb L (.slice (some ⟨g, 0, none⟩) p.roots.length cap) p) {i : Nat} (hi : i < p.roots.length) (v : Int) :
    PRep (w.setCell ⟨g, i, none⟩ (.int .i64 v)) pb L (.slice (some ⟨g, 0, none⟩) p.roots.length cap) (p.put i v) ∧ PEv pb L L (.slice (some ⟨g, 0, none⟩) p.roots.length cap) (.slice (some ⟨g, 0, none⟩) p.roots.length cap) p.roots.length w (w.setCell ⟨g, i, none⟩ (.int .i64 v)) := by
  have f : Fr (fun k => k = g) w (w.setCell ⟨g, i, none⟩ (.int .i64 v)) := (Fr.refl _ _).setCell _ _ (.inl rfl)
  obtain ⟨q, cap', hv, ho | ⟨g', hp, hD, hr⟩⟩ := h.out
  · rw [ho] at hi; simp at hi
  · simp only [Value.slice.injEq] at hv
    obtain ⟨rfl, _, rfl⟩ := hv
    cases hp
    refine ⟨⟨h.rep.fr f (fun k hk e => hD.1 (by subst e; exact hk)) (fun k hk e => hD.2.1 (by subst e; exact hk)), (f.block pb (lt_of_block h.blk) (fun e => hD.2.2 e.symm)).trans h.blk, ⟨_, cap, by simp [Pl.put], .inr ⟨g, rfl, hD, ?_⟩⟩, h.pf, h.pD⟩, PEv.of_fr (f.mono fun k _ e => .inr (.inr ⟨by omega, by rw [e]; rfl⟩))⟩
    simp only [Pl.put, List.map_set]
    exact hr.set (by simpa using hi) _
end

set_option maxRecDepth 100000 in
theorem c_pdrop (w : World) (pb : Nat) (L : ML) (rv : Value) (p : Pl) (h : PRep w pb L rv p) (k b c : Int) (i : Nat) (hi : i < p.roots.length) :
    Calls Try.prog 125 #[.pointer (some ⟨pb, 0, none⟩), .agg #[.int .i64 k, .int .i64 (i : Int), .int .i64 b, .int .i64 c]] w
      fun e w' => e = .returned (.int .i64 0) ∧ PRep w' pb L rv (p.put i 0) ∧ PEv pb L L rv rv p.roots.length w w' := by
  obtain ⟨g, cap, rfl, hc, hz, -⟩ := h.root hi
  have hiI : (i : Int) < (p.roots.length : Int) := by omega
  have h0 := h.alloc (.cells #[.int .i64 k, .int .i64 (i : Int), .int .i64 b, .int .i64 c] 78)
  have f0 : Fr (fun _ => False) w (w.alloc (.cells #[.int .i64 k, .int .i64 (i : Int), .int .i64 b, .int .i64 c] 78)) := (Fr.refl _ w).alloc _
  have a1 : (w.alloc (.cells #[.int .i64 k, .int .i64 (i : Int), .int .i64 b, .int .i64 c] 78)).cell? ⟨w.heap.size, 1, none⟩ = some (.int .i64 (i : Int)) := by rw [cell_of (al_same _ _)]; rfl
  have a2 : (w.alloc (.cells #[.int .i64 k, .int .i64 (i : Int), .int .i64 b, .int .i64 c] 78)).cell? ⟨w.heap.size, 2, none⟩ = some (.int .i64 b) := by rw [cell_of (al_same _ _)]; rfl
  have a3 : (w.alloc (.cells #[.int .i64 k, .int .i64 (i : Int), .int .i64 b, .int .i64 c] 78)).cell? ⟨w.heap.size, 3, none⟩ = some (.int .i64 c) := by rw [cell_of (al_same _ _)]; rfl
  have hblk : (w.alloc (.cells #[.int .i64 k, .int .i64 (i : Int), .int .i64 b, .int .i64 c] 78)).heap[w.heap.size]? = some (.cells #[.int .i64 k, .int .i64 (i : Int), .int .i64 b, .int .i64 c] 78) := al_same _ _
  have hpa : w.heap.size ≠ pb := by have := lt_of_block h.blk; omega
  have hla : ∀ k ∈ L.fp, k ≠ w.heap.size := fun k hk e => by have := h.rep.lt hk; omega
  have c1 := h0.c1
  have hc0 := f0.cell hc id
  have hz0 := f0.free hc hz id
  clear a2 a3 hblk hpa hla
  go_enter Try.func125, Try.ntmps125
  go_wp2_with (fail)
  generalize hB : w.heap.size = B at *
  generalize w.alloc (.cells #[.int .i64 k, .int .i64 (i : Int), .int .i64 b, .int .i64 c] 78) = W at *
  refine wp_region_still_tail 7 (by kernel_rfl) (by kernel_rfl) ?_
  show wpStill _ _ (W.drew) (fun a' => wpList _ _ _ _ a' (W.drew)) _ _
  simp only [List.take_succ_cons, List.take_zero, List.drop_succ_cons, List.drop_zero]
  repeat still_step
  refine wpStill_nil ?_
  have h1 := h0.drew
  have f1 := f0.drew
  have hs := h1.setRoot hi 0
  have hc1 : W.drew.cell? ⟨g, i, none⟩ = some (.int .i64 (p.root i)) := hc0
  have hz1 : W.drew.frozen? ⟨g, i, none⟩ = false := hz0
  clear hc hz hc0 hz0 c1 a1 h0 f0
  generalize W.drew = W1 at *
  go_wp2
  go_ret
  exact ⟨rfl, hs.1, (PEv.of_fr (f1.mono fun _ _ q => q.elim)).trans hs.2⟩

set_option maxRecDepth 100000 in
theorem c_pcopied (w : World) (pb : Nat) (L : ML) (rv : Value) (p : Pl) (h : PRep w pb L rv p) (k c : Int) (i j : Nat) (hi : i < p.roots.length) (hj : j < p.roots.length) :
    Calls Try.prog 126 #[.pointer (some ⟨pb, 0, none⟩), .agg #[.int .i64 k, .int .i64 (i : Int), .int .i64 (j : Int), .int .i64 c]] w
      fun e w' => e = .returned (.int .i64 0) ∧ PRep w' pb L rv (p.put i (p.root j)) ∧ PEv pb L L rv rv p.roots.length w w' := by
  obtain ⟨g, cap, rfl, hc, hz, -⟩ := h.root hi
  obtain ⟨g', cap', e1, hcj, -⟩ := h.root hj
  simp only [Value.slice.injEq, Option.some.injEq, Addr.mk.injEq] at e1
  obtain ⟨⟨rfl, -⟩, -, rfl⟩ := e1
  have hiI : (i : Int) < (p.roots.length : Int) := by omega
  have hjI : (j : Int) < (p.roots.length : Int) := by omega
  have h0 := h.alloc (.cells #[.int .i64 k, .int .i64 (i : Int), .int .i64 (j : Int), .int .i64 c] 78)
  have f0 : Fr (fun _ => False) w (w.alloc (.cells #[.int .i64 k, .int .i64 (i : Int), .int .i64 (j : Int), .int .i64 c] 78)) := (Fr.refl _ w).alloc _
  have a1 : (w.alloc (.cells #[.int .i64 k, .int .i64 (i : Int), .int .i64 (j : Int), .int .i64 c] 78)).cell? ⟨w.heap.size, 1, none⟩ = some (.int .i64 (i : Int)) := by rw [cell_of (al_same _ _)]; rfl
  have a2 : (w.alloc (.cells #[.int .i64 k, .int .i64 (i : Int), .int .i64 (j : Int), .int .i64 c] 78)).cell? ⟨w.heap.size, 2, none⟩ = some (.int .i64 (j : Int)) := by rw [cell_of (al_same _ _)]; rfl
  have a3 : (w.alloc (.cells #[.int .i64 k, .int .i64 (i : Int), .int .i64 (j : Int), .int .i64 c] 78)).cell? ⟨w.heap.size, 3, none⟩ = some (.int .i64 c) := by rw [cell_of (al_same _ _)]; rfl
  have hblk : (w.alloc (.cells #[.int .i64 k, .int .i64 (i : Int), .int .i64 (j : Int), .int .i64 c] 78)).heap[w.heap.size]? = some (.cells #[.int .i64 k, .int .i64 (i : Int), .int .i64 (j : Int), .int .i64 c] 78) := al_same _ _
  have hpa : w.heap.size ≠ pb := by have := lt_of_block h.blk; omega
  have hla : ∀ k ∈ L.fp, k ≠ w.heap.size := fun k hk e => by have := h.rep.lt hk; omega
  have c1 := h0.c1
  have hc0 := f0.cell hc id
  have hz0 := f0.free hc hz id
  have hcj0 := f0.cell hcj id
  clear a3 hblk hpa hla
  go_enter Try.func126, Try.ntmps126
  go_wp2_with (fail)
  generalize hB : w.heap.size = B at *
  generalize w.alloc (.cells #[.int .i64 k, .int .i64 (i : Int), .int .i64 (j : Int), .int .i64 c] 78) = W at *
  refine wp_region_still_tail 15 (by kernel_rfl) (by kernel_rfl) ?_
  show wpStill _ _ (W.drew) (fun a' => wpList _ _ _ _ a' (W.drew)) _ _
  simp only [List.take_succ_cons, List.take_zero, List.drop_succ_cons, List.drop_zero]
  repeat still_step
  refine wpStill_nil ?_
  have h1 := h0.drew
  have f1 := f0.drew
  have hs := h1.setRoot hi (p.root j)
  have hc1 : W.drew.cell? ⟨g, i, none⟩ = some (.int .i64 (p.root i)) := hc0
  have hz1 : W.drew.frozen? ⟨g, i, none⟩ = false := hz0
  clear hc hz hc0 hz0 c1 a1 a2 h0 f0 hcj hcj0
  generalize W.drew = W1 at *
  go_wp2
  go_ret
  exact ⟨rfl, hs.1, (PEv.of_fr (f1.mono fun _ _ q => q.elim)).trans hs.2⟩

set_option maxRecDepth 100000 in
theorem c_pkeep (w : World) (pb : Nat) (L : ML) (rv v : Value) (p : Pl) (out : List Int) (er : Int) (h : PRep w pb L rv p) (ho : OutAt w (fun k => k ∉ L.fp ∧ ¬ L.D k ∧ k ≠ pb) v out) :
    Calls Try.prog 133 #[.pointer (some ⟨pb, 0, none⟩), v, .int .i64 er] w
      fun e w' => e = .returned (.int .i64 er) ∧ PRep w' pb L (if er = 0 then v else rv) (p.kept (p.mem, out, er)).1 ∧ Fr (fun k => k = pb) w w' := by
  have c1 := h.c1
  have z1 := h.z1
  have ho' := ho
  obtain ⟨q, cap, hv, -⟩ := ho'
  have hbk := h.blk
  have f1 : Fr (fun k => k = pb) w (w.setCell ⟨pb, 1, none⟩ v) := (Fr.refl _ _).setCell _ _ (.inl rfl)
  by_cases he : er = 0
  · subst he
    simp only [if_true, Pl.kept]
    have hr : PRep (w.setCell ⟨pb, 1, none⟩ v) pb L v ⟨p.mem, out⟩ := by
      refine ⟨h.rep.fr f1 (fun k hk e => h.pf (by subst e; exact hk)) (fun k hk e => h.pD (by subst e; exact hk)), ?_, ho.of_blocks fun k hk hl => f1.block k hl hk.2.2, h.pf, h.pD⟩
      show (w.setCell ⟨pb, 1, none⟩ v).heap[pb]? = _
      unfold plBlock at hbk
      rw [heap_setCell_same v hbk]
      rfl
    subst hv
    clear ho hbk
    go_enter Try.func133, Try.ntmps133
    go_wp2
    go_ret
    exact ⟨rfl, hr, f1⟩
  · simp only [if_neg he, Pl.kept]
    have he' : ((er : Int) == 0) = false := by simpa using he
    subst hv
    clear ho hbk
    go_enter Try.func133, Try.ntmps133
    go_wp2
    go_ret
    exact ⟨rfl, h, Fr.refl _ _⟩

set_option maxRecDepth 100000 in
theorem c_plook (w : World) (pb : Nat) (L : ML) (rv : Value) (p p' : Pl) (h : PRep w pb L rv p) (k n b c er : Int) (hn : n ≤ 9223372036854775807) (hl : p.lookE n = some (p', er)) :
    Calls Try.prog 129 #[.pointer (some ⟨pb, 0, none⟩), .agg #[.int .i64 k, .int .i64 n, .int .i64 b, .int .i64 c]] w
      fun e w' => e = .returned (.int .i64 er) ∧ ∃ L', PRep w' pb L' rv p' ∧ PEv pb L L' rv rv p.roots.length w w' := by
  unfold Pl.lookE at hl
  cases hs : p.mem.stepE n with
  | none => rw [hs] at hl; cases hl
  | some r =>
    obtain ⟨m', v, e0⟩ := r
    rw [hs] at hl
    simp only [Option.map_some, Option.some.injEq, Prod.mk.injEq] at hl
    obtain ⟨rfl, rfl⟩ := hl
    have h0 := h.alloc (.cells #[.int .i64 k, .int .i64 n, .int .i64 b, .int .i64 c] 78)
    have f0 : Fr (fun _ => False) w (w.alloc (.cells #[.int .i64 k, .int .i64 n, .int .i64 b, .int .i64 c] 78)) := (Fr.refl _ w).alloc _
    have a1 : (w.alloc (.cells #[.int .i64 k, .int .i64 n, .int .i64 b, .int .i64 c] 78)).cell? ⟨w.heap.size, 1, none⟩ = some (.int .i64 n) := by rw [cell_of (al_same _ _)]; rfl
    have a2 : (w.alloc (.cells #[.int .i64 k, .int .i64 n, .int .i64 b, .int .i64 c] 78)).cell? ⟨w.heap.size, 2, none⟩ = some (.int .i64 b) := by rw [cell_of (al_same _ _)]; rfl
    have a3 : (w.alloc (.cells #[.int .i64 k, .int .i64 n, .int .i64 b, .int .i64 c] 78)).cell? ⟨w.heap.size, 3, none⟩ = some (.int .i64 c) := by rw [cell_of (al_same _ _)]; rfl
    have hblk : (w.alloc (.cells #[.int .i64 k, .int .i64 n, .int .i64 b, .int .i64 c] 78)).heap[w.heap.size]? = some (.cells #[.int .i64 k, .int .i64 n, .int .i64 b, .int .i64 c] 78) := al_same _ _
    have hpa : w.heap.size ≠ pb := by have := lt_of_block h.blk; omega
    have hla : ∀ k ∈ L.fp, k ≠ w.heap.size := fun k hk e => by have := h.rep.lt hk; omega
    have c0 := h0.c0
    have c2 := h0.c2
    clear a2 a3 hblk hpa hla
    go_enter Try.func129, Try.ntmps129
    go_wp2_with (fail)
    generalize hB : w.heap.size = B at *
    generalize w.alloc (.cells #[.int .i64 k, .int .i64 n, .int .i64 b, .int .i64 c] 78) = W at *
    have h1 := h0.drew
    have hst := (c_Step W.drew L p.mem m' h1.rep n v e0 hn hs).mono (R' := fun e w' => e = .returned (.tuple #[.int .i64 v, .int .i64 e0]) ∧ ∃ L', PRep w' pb L' rv ⟨m', p.roots⟩ ∧ PEv pb L L' rv rv p.roots.length w w')
      fun e w' ⟨L', q1, q2, q3⟩ => ⟨q1, L', h1.ev q2 q3, (PEv.of_fr (f0.drew.mono fun _ _ q => q.elim)).trans (PEv.of_ev q3)⟩
    clear h1 h0 f0
    go_region_law ((go_simp; with_reducible refine hst.mono ?_); rintro e w1 ⟨rfl, L', h2, e2⟩; dsimp only)
    all_goals
      clear hst
      go_wp2
      go_ret
      exact ⟨rfl, L', h2, e2⟩

set_option maxRecDepth 100000 in
set_option maxHeartbeats 2000000 in
theorem c_prefers (w : World) (pb : Nat) (L : ML) (rv : Value) (p : Pl) (h : PRep w pb L rv p) (i : Nat) (hi : i < p.roots.length) (f : Int) (want : Bool) (r : Int) (hr : p.refersE i f want = some r) :
    Calls Try.prog 132 #[.pointer (some ⟨pb, 0, none⟩), .int .i64 (i : Int), .int .i64 f, .bool want] w
      fun e w' => e = .returned (.int .i64 r) ∧ Below w.heap.size w w' := by
  obtain ⟨g, cap, rfl, hc, hz, -⟩ := h.root hi
  have hiI : (i : Int) < (p.roots.length : Int) := by omega
  have c0 := h.c0
  have c1 := h.c1
  unfold Pl.refersE at hr
  cases hf : p.mem.fieldE (p.root i) f with
  | none => rw [hf] at hr; cases hr
  | some q =>
    rw [hf] at hr
    have hfd := c_field w.drew L p.mem h.rep.drew (p.root i) f q hf
    have hb1 : Below w.heap.size w w.drew := below_drewN (Below.refl _ _) 1
    replace hfd := hfd.mono (R' := fun e w' => e = .returned (fieldV L p.mem (p.root i) f q) ∧ Below w.heap.size w w') fun e w' ⟨q1, q2⟩ => ⟨q1, hb1.trans (q2.mono hb1.size)⟩
    clear hb1
    cases q with
    | inl e1 =>
      simp only [Option.some.injEq] at hr
      subst hr
      have hne := Mem.fieldE_err hf
      have hne' : ((e1 : Int) == 0) = false := by simpa using hne
      simp only [fieldV] at hfd
      clear hf hne
      go_enter Try.func132, Try.ntmps132
      go_wp2_with (fail)
      go_region_law ((go_simp; with_reducible refine hfd.mono ?_); rintro e w1 ⟨rfl, hb⟩; dsimp only)
      all_goals
        clear hfd c0 c1 hc hz
        go_wp2
        go_ret
        exact ⟨rfl, hb⟩
    | inr q =>
      obtain ⟨wh, is⟩ := q
      simp only at hr
      simp only [fieldV] at hfd
      clear hf
      go_enter Try.func132, Try.ntmps132
      go_wp2_with (fail)
      go_region_law ((go_simp; with_reducible refine hfd.mono ?_); rintro e w1 ⟨rfl, hb⟩; dsimp only)
      all_goals
        clear hfd c0 c1 hc hz
        cases is <;> cases want <;> simp only [if_true, if_false, Option.some.injEq, Bool.true_eq_false, Bool.false_eq_true, reduceIte] at hr <;> subst hr
        all_goals
          go_wp2
          go_ret
          exact ⟨rfl, hb⟩
end Go.Proofs.Ytnedmmopkhmejaa
