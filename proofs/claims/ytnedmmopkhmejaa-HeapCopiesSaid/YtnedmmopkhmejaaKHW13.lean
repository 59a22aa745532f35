/- Walk: minor. -/
import Derived.Test.YtnedmmopkhmejaaKHW12
set_option linter.unusedVariables false
set_option linter.unusedSimpArgs false
namespace Go.Proofs.Ytnedmmopkhmejaa
open Go.RowKit Go.Proofs.Hp
attribute [local go_sem] Oper.semAt_some

/-- A slice of ints that may be written. -/
def OutAt (w : World) (D : Nat → Prop) (v : Value) (xs : List Int) : Prop :=
  ∃ p cap, v = .slice p xs.length cap ∧ (xs = [] ∨ ∃ g, p = some ⟨g, 0, none⟩ ∧ D g ∧ Row w g 3 (xs.map (.int .i64)))
theorem OutAt.of_blocks {w w' : World} {D : Nat → Prop} {v : Value} {xs : List Int} (h : OutAt w D v xs) (e : ∀ k, D k → k < w.heap.size → w'.heap[k]? = w.heap[k]?) : OutAt w' D v xs := by
  obtain ⟨p, cap, hv, h | ⟨g, hp, hD, hr⟩⟩ := h
  · exact ⟨p, cap, hv, .inl h⟩
  · exact ⟨p, cap, hv, .inr ⟨g, hp, hD, hr.of_block (e g hD hr.lt)⟩⟩
theorem OutAt.mono {w : World} {D D' : Nat → Prop} {v : Value} {xs : List Int} (h : OutAt w D v xs) (e : ∀ k, D k → k < w.heap.size → D' k) : OutAt w D' v xs := by
  obtain ⟨p, cap, hv, h | ⟨g, hp, hD, hr⟩⟩ := h
  · exact ⟨p, cap, hv, .inl h⟩
  · exact ⟨p, cap, hv, .inr ⟨g, hp, e g hD hr.lt, hr⟩⟩
theorem OutAt.ints {w : World} {D : Nat → Prop} {v : Value} {xs : List Int} (h : OutAt w D v xs) : IntsAt w D v xs := by
  obtain ⟨p, cap, hv, h | ⟨g, hp, hD, hr⟩⟩ := h
  · exact ⟨p, cap, hv, .inl h⟩
  · exact ⟨p, cap, hv, .inr ⟨g, 0, hp, hD, fun i hi => by have := hr.cell (i := i) (by simpa using hi); simpa using this⟩⟩
theorem OutAt.of_owns {w : World} {base n : Nat} {v : Value} {xs : List Int} (h : w.ownsRow base 3 1 v n (xs.map (.int .i64))) : OutAt w (fun k => base ≤ k) v xs := by
  have hl := h.1
  simp at hl
  rcases h.2 with ⟨rfl, h0⟩ | ⟨g, cap, cur, rfl, hb, hg, hn, _, hs, ht⟩
  · have : xs = [] := List.eq_nil_of_length_eq_zero (by omega)
    subst this
    exact ⟨none, 0, rfl, .inl rfl⟩
  · refine ⟨_, cap, by rw [hl], .inr ⟨g, rfl, hb, cur, hg, by simp; omega, fun i hi => ?_⟩⟩
    rw [← ht, List.getElem?_take, if_pos (by simp at hi; omega)]
    simp

def ML.mbTo (L : ML) (mb : Nat) : ML := { L with mb := mb }
theorem mbTo_fp {L : ML} {mb k : Nat} (h : k ∈ (L.mbTo mb).fp) : k ∈ L.fp ∨ k = mb := by
  rcases MemRep.mem_fp.1 h with q | q | q
  · exact .inl (MemRep.mem_fp.2 (.inl q))
  · exact .inr q
  · exact .inl (MemRep.mem_fp.2 (.inr (.inr q)))

theorem OutAt.own {S : Nat → Prop} {w w' : World} {D : Nat → Prop} {v : Value} {xs : List Int} (h : OutAt w D v xs) (hf : Fr S w w') (hS : ∀ k, S k → v.ownBlock ≠ some k) : OutAt w' D v xs := by
  obtain ⟨p, cap, hv, h | ⟨g, hp, hD, hr⟩⟩ := h
  · exact ⟨p, cap, hv, .inl h⟩
  · exact ⟨p, cap, hv, .inr ⟨g, hp, hD, hr.of_block (hf.block g hr.lt (fun q => hS g q (by rw [hv, hp]; rfl)))⟩⟩

/-- The memory's own block is turned, and it has another map. -/
theorem MemRep.reMap {w w' : World} {L : ML} {m : Mem} (h : MemRep w L m) {mb' : Nat} {m' : Mem} (hb : w'.heap[L.b]? = some (memBlock { L with mb := mb' } m')) (hf : Fr (fun k => k = L.b) w w')
    (hmb : MapRep w mb' m'.moved) (hn : mb' ∉ L.fp) (hD : ¬ L.D mb')
    (e2 : m'.young = m.young ∧ m'.now = m.now ∧ m'.other = m.other ∧ m'.known = m.known ∧ m'.shapes = m.shapes)
    (s0 : 0 ≤ m'.scan) (s1 : m'.scan ≤ 4194304) (l0 : 0 ≤ m'.left) (l1 : m'.left ≤ 1048576) : MemRep w' { L with mb := mb' } m' := by
  obtain ⟨a0, a1, a2, a3, a4, _⟩ := h.apart
  obtain ⟨m1, m2, m3, m4, m5, m6, m7, m8, m9⟩ := m'
  obtain ⟨rfl, rfl, rfl, rfl, rfl⟩ := e2
  have ho : ∀ a, SpRep w' (L.spL a) (m.sp a) := fun a => (h.spR a).fr hf (fun k hk e => (h.sp_b a).1 (by subst e; exact hk))
  have hbm : mb' ≠ L.b := fun e => hn (MemRep.mem_fp.2 (.inl e))
  refine ⟨hb, ho .y, ho .n, ho .o, ownsRow_of_blocks h.kn fun k hk => hf.block k (ownsRow_lt h.kn hk) (fun e => a4 (by subst e; exact hk)),
    (let ⟨es, c, h1, h2⟩ := hmb; ⟨es, c, hf.blk h1 hbm, h2⟩),
    h.sh.of_blocks fun k hk => hf.block k (h.Dlt k hk) (fun e => h.dj k (by subst e; exact MemRep.mem_fp.2 (.inl rfl)) hk), ?_, ?_, fun k hk => Nat.lt_of_lt_of_le (h.Dlt k hk) hf.size, h.sl, h.sll, s0, s1, l0, l1, h.kb, h.kl⟩
  · have hnd := h.nd
    simp only [ML.fp, List.nodup_cons, List.mem_cons, not_or] at hnd ⊢
    obtain ⟨⟨_, q1⟩, _, q2⟩ := hnd
    refine ⟨⟨Ne.symm hbm, q1⟩, fun q => hn ?_, q2⟩
    simp only [ML.fp, List.mem_cons]
    exact .inr (.inr q)
  · intro k hk
    rcases MemRep.mem_fp.1 hk with q | q | q
    · exact h.dj k (MemRep.mem_fp.2 (.inl q))
    · subst q; exact hD
    · exact h.dj k (MemRep.mem_fp.2 (.inr (.inr q)))

/-- The remembered fields are struck. -/
theorem MemRep.noKnown {w w' : World} {L : ML} {m : Mem} (h : MemRep w L m) (hb : w'.heap[L.b]? = some (memBlock { L with kv := .slice none 0 0 } { m with known := [] })) (hf : Fr (fun k => k = L.b) w w') :
    MemRep w' { L with kv := .slice none 0 0 } { m with known := [] } := by
  obtain ⟨a0, a1, a2, a3, a4, _⟩ := h.apart
  have ho : ∀ a, SpRep w' (L.spL a) (m.sp a) := fun a => (h.spR a).fr hf (fun k hk e => (h.sp_b a).1 (by subst e; exact hk))
  refine ⟨hb, ho .y, ho .n, ho .o, World.ownsRow_nil _ _ _ _, (let ⟨es, c, h1, h2⟩ := h.mv; ⟨es, c, hf.blk h1 (Ne.symm a0), h2⟩),
    h.sh.of_blocks fun k hk => hf.block k (h.Dlt k hk) (fun e => h.dj k (by subst e; exact MemRep.mem_fp.2 (.inl rfl)) hk), ?_, ?_, fun k hk => Nat.lt_of_lt_of_le (h.Dlt k hk) hf.size, h.sl, h.sll, h.sc0, h.sc1, h.lf0, h.lf1, by simp, by simp⟩
  · have hnd := h.nd
    have hsub : List.Sublist (ML.fp { L with kv := .slice none 0 0 }) L.fp := by
      simp only [ML.fp, kvBlocks]
      refine List.Sublist.cons_cons _ (List.Sublist.cons_cons _ (List.Sublist.append (List.Sublist.refl _) (List.Sublist.append (List.Sublist.refl _) (List.Sublist.append (List.Sublist.refl _) (List.nil_sublist _)))))
    exact hnd.sublist hsub
  · intro k hk
    refine h.dj k ?_
    rcases MemRep.mem_fp.1 hk with q | q | q | q | q | q
    · exact MemRep.mem_fp.2 (.inl q)
    · exact MemRep.mem_fp.2 (.inr (.inl q))
    · exact MemRep.mem_fp.2 (by simp only at q; simp [q])
    · exact MemRep.mem_fp.2 (by simp only at q; simp [q])
    · exact MemRep.mem_fp.2 (by simp only at q; simp [q])
    · simp [kvBlocks] at q

/-- What minor works on. -/
structure MR (W : World) (L : ML) (m0 : Mem) (B mb : Nat) (v : Value) (mk : Mem) (outs : List Int) : Prop where
  rep : MemRep W (L.mbTo mb) mk
  fpl : ∀ k ∈ L.fp, k < B
  Dl : ∀ k, L.D k → k < B
  mbB : B < mb
  b0 : W.heap[B]? = some (box (ptrV L.b) 27)
  old : MapRep W L.mb m0.moved
  nmb : L.mb ∉ (L.mbTo mb).fp
  out : OutAt W (fun g => B < g ∧ g ≠ mb) v outs
  vo : ∀ g, v.ownBlock = some g → B < g ∧ g ≠ mb ∧ g < W.heap.size

theorem MapRep.of_block {w w' : World} {b : Nat} {l : List (Int × Int)} (h : MapRep w b l) (e : w'.heap[b]? = w.heap[b]?) : MapRep w' b l := let ⟨es, c, h1, h2⟩ := h; ⟨es, c, e.trans h1, h2⟩
theorem MapRep.lt {w : World} {b : Nat} {l : List (Int × Int)} (h : MapRep w b l) : b < w.heap.size := let ⟨_, _, h1, _⟩ := h; lt_of_block h1

theorem MR.mbl {W : World} {L : ML} {m0 mk : Mem} {B mb : Nat} {v : Value} {outs : List Int} (h : MR W L m0 B mb v mk outs) : mb < W.heap.size :=
  h.rep.lt (MemRep.mem_fp.2 (.inr (.inl rfl)))

/-- What is done beside. -/
theorem MR.fr {W W' : World} {L : ML} {m0 mk : Mem} {B mb : Nat} {v : Value} {outs : List Int} {S : Nat → Prop} (h : MR W L m0 B mb v mk outs) (hf : Fr S W W') (hS : ∀ k, S k → B < k ∧ k ≠ mb ∧ v.ownBlock ≠ some k) : MR W' L m0 B mb v mk outs := by
  have hB := h.mbB
  have hl := lt_of_block h.b0
  have hmb := h.mbl
  refine ⟨h.rep.fr hf (fun k hk q => ?_) (fun k hk q => ?_), h.fpl, h.Dl, hB, hf.blk h.b0 (fun q => by have := (hS _ q).1; omega), h.old.of_block (hf.block _ h.old.lt (fun q => ?_)), h.nmb, ?_, fun g hg => ⟨(h.vo g hg).1, (h.vo g hg).2.1, Nat.lt_of_lt_of_le (h.vo g hg).2.2 hf.size⟩⟩
  · have := hS k q
    rcases mbTo_fp hk with q | q
    · have := h.fpl k q; omega
    · exact this.2.1 q
  · have := (hS k q).1; have := h.Dl k hk; omega
  · have := (hS _ q).1; have := h.fpl L.mb (MemRep.mem_fp.2 (.inr (.inl rfl))); omega
  · obtain ⟨p, cap, hv, ho | ⟨g, hp, hD, hr⟩⟩ := h.out
    · exact ⟨p, cap, hv, .inl ho⟩
    · exact ⟨p, cap, hv, .inr ⟨g, hp, hD, hr.of_block (hf.block g hr.lt (fun q => (hS g q).2.2 (by rw [hv, hp]; rfl)))⟩⟩
theorem MR.drewN {W : World} {L : ML} {m0 mk : Mem} {B mb : Nat} {v : Value} {outs : List Int} (h : MR W L m0 B mb v mk outs) (n : Nat) : MR (W.drewN n) L m0 B mb v mk outs :=
  h.fr (S := fun _ => False) ((Fr.refl _ W).drewN n) (fun _ q => q.elim)

/-- The memory is turned. -/
theorem MR.fwd {W W' : World} {L : ML} {m0 mk mk' : Mem} {B mb : Nat} {v : Value} {outs : List Int} (h : MR W L m0 B mb v mk outs) (h' : MemRep W' (L.mbTo mb) mk') (hf : Fr (fun k => k ∈ (L.mbTo mb).fp) W W') : MR W' L m0 B mb v mk' outs := by
  have hB := h.mbB
  have hn : ∀ k, B ≤ k → k ≠ mb → k ∉ (L.mbTo mb).fp := fun k h1 h2 q => by
    rcases mbTo_fp q with q | q
    · have := h.fpl k q; omega
    · exact h2 q
  exact ⟨h', h.fpl, h.Dl, hB, hf.blk h.b0 (hn _ (Nat.le_refl _) (by omega)), h.old.of_block (hf.block _ h.old.lt h.nmb), h.nmb, h.out.of_blocks fun k hk hl => hf.block k hl (hn k (by omega) hk.2), fun g hg => ⟨(h.vo g hg).1, (h.vo g hg).2.1, Nat.lt_of_lt_of_le (h.vo g hg).2.2 hf.size⟩⟩

theorem MR.outSet {W W1 : World} {L : ML} {m0 mk mk' : Mem} {B mb g k n cap : Nat} {outs : List Int} (h : MR W L m0 B mb (.slice (some ⟨g, 0, none⟩) n cap) mk outs) (hk : k < outs.length) (to : Int)
    (hf : Fr (fun k => k ∈ (L.mbTo mb).fp) W W1) (h' : MemRep (W1.setCell ⟨g, k, none⟩ (.int .i64 to)) (L.mbTo mb) mk') :
    MR (W1.setCell ⟨g, k, none⟩ (.int .i64 to)) L m0 B mb (.slice (some ⟨g, 0, none⟩) n cap) mk' (outs.set k to) := by
  have hB := h.mbB
  have hn : ∀ k, B ≤ k → k ≠ mb → k ∉ (L.mbTo mb).fp := fun k h1 h2 q => by
    rcases mbTo_fp q with q | q
    · have := h.fpl k q; omega
    · exact h2 q
  obtain ⟨p, cap', hv, ho | ⟨g', hp, hD, hr⟩⟩ := h.out
  · rw [ho] at hk; simp at hk
  · simp only [Value.slice.injEq] at hv
    obtain ⟨rfl, hn', rfl⟩ := hv
    cases hp
    have hfx : Fr (fun j => j ∈ (L.mbTo mb).fp ∨ j = g) W (W1.setCell ⟨g, k, none⟩ (.int .i64 to)) := (hf.mono fun j _ q => .inl q).setCell _ _ (.inl (.inr rfl))
    have hr1 : Row W1 g 3 (outs.map (.int .i64)) := hr.of_block (hf.block g hr.lt (hn g (by omega) hD.2))
    have hmb := h.fpl L.mb (MemRep.mem_fp.2 (.inr (.inl rfl)))
    refine ⟨h', h.fpl, h.Dl, hB, hfx.blk h.b0 (fun q => q.elim (hn _ (Nat.le_refl _) (by omega)) (by omega)), h.old.of_block (hfx.block _ h.old.lt (fun q => q.elim h.nmb (by omega))), h.nmb, ?_, fun g hg => ⟨(h.vo g hg).1, (h.vo g hg).2.1, Nat.lt_of_lt_of_le (h.vo g hg).2.2 hfx.size⟩⟩
    exact ⟨_, cap, by simp [hn'], .inr ⟨g, rfl, hD, by rw [List.map_set]; exact hr1.set (by simpa using hk) _⟩⟩
end Go.Proofs.Ytnedmmopkhmejaa
