/- Walks of the player: clear, flip. -/
import Derived.Test.YtnedmmopkhmejaaKHA1
set_option linter.unusedVariables false
set_option linter.unusedSimpArgs false
namespace Go.Proofs.Hp
namespace Mem
theorem fwdAll_len {y : Bool} : ∀ {rs out : List Int} {m m' : Mem}, fwdAll y m rs = some (out, m') → out.length = rs.length
  | [], out, m, m', h => by simp only [fwdAll, Option.some.injEq, Prod.mk.injEq] at h; rw [← h.1]
  | r :: rs, out, m, m', h => by
    simp only [fwdAll] at h
    split at h
    · cases h
    · rename_i m1 r1 _
      split at h
      · cases h
      · rename_i rs1 m2 h2
        simp only [Option.some.injEq, Prod.mk.injEq] at h
        rw [← h.1, List.length_cons, List.length_cons, fwdAll_len h2]
theorem minor_len {rs out : List Int} {m m' : Mem} (h : m.minor rs = some (out, m')) : out.length = rs.length := by
  unfold Mem.minor at h
  split at h
  · cases h
  · rename_i out1 m1 h1
    split at h
    · cases h
    · split at h
      · cases h
      · simp only [Option.some.injEq, Prod.mk.injEq] at h
        rw [← h.1]; exact fwdAll_len h1
theorem minorE_len {rs out : List Int} {m m' : Mem} (h : m.minorE rs = some (m', out, 0)) : out.length = rs.length := by
  unfold Mem.minorE at h
  split at h
  · rename_i hne; simp only [Option.some.injEq, Prod.mk.injEq] at h; exact absurd h.2.2 hne
  · split at h
    · cases h
    · split at h
      · simp at h
      · simp only [Option.map_eq_some_iff, Prod.mk.injEq, Prod.exists] at h
        obtain ⟨o, m1, h1, _, h2, _⟩ := h
        rw [← h2]; exact minor_len h1
theorem flipE_len {rs out : List Int} {m m' : Mem} (h : m.flipE rs = some (m', out, 0)) : out.length = rs.length := by
  unfold Mem.flipE at h
  split at h
  · simp at h
  · split at h
    · cases h
    · rename_i m1 out1 e h1
      split at h
      · rename_i hne; simp only [Option.some.injEq, Prod.mk.injEq] at h; exact absurd h.2.2 hne
      · rename_i he
        simp only [ne_eq, Decidable.not_not] at he
        subst he
        simp only [Option.map_eq_some_iff, Prod.mk.injEq, Prod.exists] at h
        obtain ⟨o, m2, h2, _, h3, _⟩ := h
        rw [← h3, fwdAll_len h2, minorE_len h1]
end Mem
end Go.Proofs.Hp
namespace Go.Proofs.Ytnedmmopkhmejaa
open Go.RowKit Go.Proofs.Hp
attribute [local go_sem] Oper.semAt_some

theorem OutAt.inD {w : World} {D : Nat → Prop} {v : Value} {xs : List Int} (h : OutAt w D v xs) (hx : xs ≠ []) {k : Nat} (hk : v.ownBlock = some k) : D k := by
  obtain ⟨p, cap, hv, ho | ⟨g, hp, hD, hr⟩⟩ := h
  · exact absurd ho hx
  · rw [hv, hp] at hk
    simp only [Value.ownBlock, Option.some.injEq] at hk
    rw [← hk]; exact hD

theorem c_FlipE (w : World) (L : ML) (m m' : Mem) (h : MemRep w L m) (D : Nat → Prop) (v : Value) (roots out : List Int) (er : Int) (hr : IntsAt w D v roots) (hl : roots.length ≤ 1048576) (hm : m.flipE roots = some (m', out, er)) :
    Calls Try.prog 43 #[.pointer (some ⟨L.b, 0, none⟩), v] w fun e w' => ∃ v' L', e = .returned (.tuple #[v', .int .i64 er]) ∧ MemRep w' L' m' ∧ Ev L L' w w' ∧ OutAt w' (fun k => w.heap.size ≤ k ∧ k ∉ L'.fp) v' out := by
  cases hb : m.busy with
  | false => exact c_Flip w L m m' h D v roots out er hr hl hb hm
  | true =>
    unfold Mem.flipE at hm
    rw [if_pos hb] at hm
    simp only [Option.some.injEq, Prod.mk.injEq] at hm
    obtain ⟨rfl, rfl, rfl⟩ := hm
    have hv : ∃ p n c, v = .slice p n c := by obtain ⟨p, c, q, -⟩ := hr; exact ⟨p, _, c, q⟩
    refine (c_Flip_busy w L m h v hv hb).mono ?_
    rintro e w' ⟨rfl, rfl⟩
    exact ⟨_, L, rfl, h, Ev.refl _ _, OutAt.nil _ _⟩

/-- What Minor or Flip leaves of a player. -/
theorem PRep.moved {w W w' : World} {pb : Nat} {L L' : ML} {rv v' : Value} {p : Pl} {m' : Mem} {out : List Int} {er : Int} (h : PRep W pb L rv p) (f0 : Fr (fun _ => False) w W) (q2 : MemRep w' L' m') (q3 : Ev L L' W w')
    (q4 : OutAt w' (fun k => W.heap.size ≤ k ∧ k ∉ L'.fp) v' out) (hlen : er = 0 → out.length = p.roots.length) :
    PRep w' pb L' rv ⟨m', p.roots⟩ ∧ OutAt w' (fun k => k ∉ L'.fp ∧ ¬ L'.D k ∧ k ≠ pb) v' out ∧ PEv pb L L' rv (if er = 0 then v' else rv) p.roots.length w w' ∧ pb < w.heap.size + (W.heap.size - w.heap.size) := by
  have hp := lt_of_block h.blk
  refine ⟨h.ev q2 q3, q4.mono fun k hk _ => ⟨hk.2, fun q => ?_, by have := hk.1; omega⟩, ⟨q3.b, q3.D, ?_, (f0.mono fun _ _ q => q.elim).trans' (q3.fr.mono fun k _ q => .inl q) fun k q => .inl q⟩, by have := f0.size; omega⟩
  · rw [q3.D] at q; have := h.rep.Dlt k q; have := hk.1; omega
  · intro k hk
    rcases hk with q | q | ⟨q, q'⟩
    · exact (q3.fp k q).imp .inl fun g => Nat.le_trans f0.size g
    · exact .inl (.inr (.inl q))
    · by_cases he : er = 0
      · rw [if_pos he] at q'
        have := hlen he
        exact .inr (Nat.le_trans f0.size (q4.inD (fun e => by rw [e] at this; simp at this; omega) q').1)
      · rw [if_neg he] at q'
        exact .inl (.inr (.inr ⟨q, q'⟩))

set_option maxRecDepth 100000 in
set_option maxHeartbeats 2000000 in
theorem c_pclear (w : World) (pb : Nat) (L : ML) (rv : Value) (p p' : Pl) (h : PRep w pb L rv p) (hlr : p.roots.length ≤ 1048576) (k a b c er : Int) (hl : p.clearE = some (p', er)) :
    Calls Try.prog 127 #[.pointer (some ⟨pb, 0, none⟩), .agg #[.int .i64 k, .int .i64 a, .int .i64 b, .int .i64 c]] w
      fun e w' => e = .returned (.int .i64 er) ∧ ∃ L' rv', PRep w' pb L' rv' p' ∧ PEv pb L L' rv rv' p.roots.length w w' := by
  unfold Pl.clearE at hl
  cases hs : p.mem.minorE p.roots with
  | none => rw [hs] at hl; cases hl
  | some r =>
    obtain ⟨m', out, e0⟩ := r
    rw [hs] at hl
    simp only [Option.map_some, Option.some.injEq] at hl
    have he0 : e0 = er := (congrArg Prod.snd hl)
    subst he0
    have hp' : p' = (p.kept (m', out, e0)).1 := (congrArg Prod.fst hl).symm
    subst hp'
    clear hl
    have h0 := h.alloc (.cells #[.int .i64 k, .int .i64 a, .int .i64 b, .int .i64 c] 78)
    have f0 : Fr (fun _ => False) w (w.alloc (.cells #[.int .i64 k, .int .i64 a, .int .i64 b, .int .i64 c] 78)) := (Fr.refl _ w).alloc _
    have a1 : (w.alloc (.cells #[.int .i64 k, .int .i64 a, .int .i64 b, .int .i64 c] 78)).cell? ⟨w.heap.size, 1, none⟩ = some (.int .i64 a) := by rw [cell_of (al_same _ _)]; rfl
    have a2 : (w.alloc (.cells #[.int .i64 k, .int .i64 a, .int .i64 b, .int .i64 c] 78)).cell? ⟨w.heap.size, 2, none⟩ = some (.int .i64 b) := by rw [cell_of (al_same _ _)]; rfl
    have a3 : (w.alloc (.cells #[.int .i64 k, .int .i64 a, .int .i64 b, .int .i64 c] 78)).cell? ⟨w.heap.size, 3, none⟩ = some (.int .i64 c) := by rw [cell_of (al_same _ _)]; rfl
    have hblk : (w.alloc (.cells #[.int .i64 k, .int .i64 a, .int .i64 b, .int .i64 c] 78)).heap[w.heap.size]? = some (.cells #[.int .i64 k, .int .i64 a, .int .i64 b, .int .i64 c] 78) := al_same _ _
    have hpa : w.heap.size ≠ pb := by have := lt_of_block h.blk; omega
    have hla : ∀ k ∈ L.fp, k ≠ w.heap.size := fun k hk e => by have := h.rep.lt hk; omega
    have c0 := h0.c0
    have c1 := h0.c1
    have c2 := h0.c2
    clear a1 a2 a3 hblk hpa hla
    have hlen : e0 = 0 → out.length = p.roots.length := fun e => by subst e; exact Mem.minorE_len hs
    obtain ⟨rp, rcap, hrv, -⟩ := h.out
    subst hrv
    go_enter Try.func127, Try.ntmps127
    go_wp2_with (fail)
    generalize hB : w.heap.size = B at *
    generalize w.alloc (.cells #[.int .i64 k, .int .i64 a, .int .i64 b, .int .i64 c] 78) = W at *
    have h1 := h0.drew
    have f1 := f0.drew
    have hst := (c_Minor W.drew L p.mem m' h1.rep _ (.slice rp p.roots.length rcap) p.roots out e0 h1.ints hlr hs).mono (R' := fun e w' => ∃ v' L', e = .returned (.tuple #[v', .int .i64 e0]) ∧
        PRep w' pb L' (.slice rp p.roots.length rcap) ⟨m', p.roots⟩ ∧ OutAt w' (fun k => k ∉ L'.fp ∧ ¬ L'.D k ∧ k ≠ pb) v' out ∧ PEv pb L L' (.slice rp p.roots.length rcap) (if e0 = 0 then v' else .slice rp p.roots.length rcap) p.roots.length w w' ∧ pb < w'.heap.size)
      fun e w' ⟨v', L', q1, q2, q3, q4⟩ => by
        obtain ⟨r1, r2, r3, -⟩ := h1.moved f1 q2 q3 q4 hlen
        exact ⟨v', L', q1, r1, r2, r3, lt_of_block r1.blk⟩
    clear h0 f0 h1 f1 hlen hs
    have hH := Lib.hid h
    clear h
    go_region_law (first
      | ((go_simp; with_reducible refine hst.mono ?_); rintro e w1 ⟨v', L', rfl, h2, o2, e2, l2⟩; have hkp := c_pkeep w1 pb L' _ v' _ out e0 h2 o2; dsimp only)
      | ((go_simp; with_reducible refine hkp.mono ?_); rintro e w2 ⟨rfl, h3, f3⟩; dsimp only))
    all_goals
      clear hst hkp
      go_wp2
      go_ret
      refine ⟨rfl, L', _, h3, e2.b, e2.D, e2.own, ?_⟩
      exact e2.fr.trans' f3 fun k q => .inl (.inr (.inl q))
set_option maxRecDepth 100000 in
set_option maxHeartbeats 2000000 in
theorem c_pflip (w : World) (pb : Nat) (L : ML) (rv : Value) (p p' : Pl) (h : PRep w pb L rv p) (hlr : p.roots.length ≤ 1048576) (k a b c er : Int) (hl : p.flipA = some (p', er)) :
    Calls Try.prog 128 #[.pointer (some ⟨pb, 0, none⟩), .agg #[.int .i64 k, .int .i64 a, .int .i64 b, .int .i64 c]] w
      fun e w' => e = .returned (.int .i64 er) ∧ ∃ L' rv', PRep w' pb L' rv' p' ∧ PEv pb L L' rv rv' p.roots.length w w' := by
  unfold Pl.flipA at hl
  cases hs : p.mem.flipE p.roots with
  | none => rw [hs] at hl; cases hl
  | some r =>
    obtain ⟨m', out, e0⟩ := r
    rw [hs] at hl
    simp only [Option.map_some, Option.some.injEq] at hl
    have he0 : e0 = er := (congrArg Prod.snd hl)
    subst he0
    have hp' : p' = (p.kept (m', out, e0)).1 := (congrArg Prod.fst hl).symm
    subst hp'
    clear hl
    have h0 := h.alloc (.cells #[.int .i64 k, .int .i64 a, .int .i64 b, .int .i64 c] 78)
    have f0 : Fr (fun _ => False) w (w.alloc (.cells #[.int .i64 k, .int .i64 a, .int .i64 b, .int .i64 c] 78)) := (Fr.refl _ w).alloc _
    have a1 : (w.alloc (.cells #[.int .i64 k, .int .i64 a, .int .i64 b, .int .i64 c] 78)).cell? ⟨w.heap.size, 1, none⟩ = some (.int .i64 a) := by rw [cell_of (al_same _ _)]; rfl
    have a2 : (w.alloc (.cells #[.int .i64 k, .int .i64 a, .int .i64 b, .int .i64 c] 78)).cell? ⟨w.heap.size, 2, none⟩ = some (.int .i64 b) := by rw [cell_of (al_same _ _)]; rfl
    have a3 : (w.alloc (.cells #[.int .i64 k, .int .i64 a, .int .i64 b, .int .i64 c] 78)).cell? ⟨w.heap.size, 3, none⟩ = some (.int .i64 c) := by rw [cell_of (al_same _ _)]; rfl
    have hblk : (w.alloc (.cells #[.int .i64 k, .int .i64 a, .int .i64 b, .int .i64 c] 78)).heap[w.heap.size]? = some (.cells #[.int .i64 k, .int .i64 a, .int .i64 b, .int .i64 c] 78) := al_same _ _
    have hpa : w.heap.size ≠ pb := by have := lt_of_block h.blk; omega
    have hla : ∀ k ∈ L.fp, k ≠ w.heap.size := fun k hk e => by have := h.rep.lt hk; omega
    have c0 := h0.c0
    have c1 := h0.c1
    have c2 := h0.c2
    clear a1 a2 a3 hblk hpa hla
    have hlen : e0 = 0 → out.length = p.roots.length := fun e => by subst e; exact Mem.flipE_len hs
    obtain ⟨rp, rcap, hrv, -⟩ := h.out
    subst hrv
    go_enter Try.func128, Try.ntmps128
    go_wp2_with (fail)
    generalize hB : w.heap.size = B at *
    generalize w.alloc (.cells #[.int .i64 k, .int .i64 a, .int .i64 b, .int .i64 c] 78) = W at *
    have h1 := h0.drew
    have f1 := f0.drew
    have hst := (c_FlipE W.drew L p.mem m' h1.rep _ (.slice rp p.roots.length rcap) p.roots out e0 h1.ints hlr hs).mono (R' := fun e w' => ∃ v' L', e = .returned (.tuple #[v', .int .i64 e0]) ∧
        PRep w' pb L' (.slice rp p.roots.length rcap) ⟨m', p.roots⟩ ∧ OutAt w' (fun k => k ∉ L'.fp ∧ ¬ L'.D k ∧ k ≠ pb) v' out ∧ PEv pb L L' (.slice rp p.roots.length rcap) (if e0 = 0 then v' else .slice rp p.roots.length rcap) p.roots.length w w' ∧ pb < w'.heap.size)
      fun e w' ⟨v', L', q1, q2, q3, q4⟩ => by
        obtain ⟨r1, r2, r3, -⟩ := h1.moved f1 q2 q3 q4 hlen
        exact ⟨v', L', q1, r1, r2, r3, lt_of_block r1.blk⟩
    clear h0 f0 h1 f1 hlen hs
    have hH := Lib.hid h
    clear h
    go_region_law (first
      | ((go_simp; with_reducible refine hst.mono ?_); rintro e w1 ⟨v', L', rfl, h2, o2, e2, l2⟩; have hkp := c_pkeep w1 pb L' _ v' _ out e0 h2 o2; dsimp only)
      | ((go_simp; with_reducible refine hkp.mono ?_); rintro e w2 ⟨rfl, h3, f3⟩; dsimp only))
    all_goals
      clear hst hkp
      go_wp2
      go_ret
      refine ⟨rfl, L', _, h3, e2.b, e2.D, e2.own, ?_⟩
      exact e2.fr.trans' f3 fun k q => .inl (.inr (.inl q))
end Go.Proofs.Ytnedmmopkhmejaa
