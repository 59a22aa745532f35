/- Walk: New. -/
import Derived.Test.YtnedmmopkhmejaaKHW19
set_option linter.unusedVariables false
set_option linter.unusedSimpArgs false
namespace Go.Proofs.Ytnedmmopkhmejaa
open Go.RowKit Go.Proofs.Hp
attribute [local go_sem] Oper.semAt_some

/-- The shapes are others. -/
theorem MemRep.reShapes {w w' : World} {L : ML} {m : Mem} (h : MemRep w L m) {v' : Value} {D' : Nat → Prop} {ss : List (List Bool)} (hb : w'.heap[L.b]? = some (memBlock { L with shv := v', D := D' } { m with shapes := ss }))
    (hf : Fr (fun k => k = L.b ∨ L.shv.ownBlock = some k) w w') (ho : ∀ k, L.shv.ownBlock = some k → k ∉ L.fp) (hs : ShRep w' D' v' ss) (hdj : ∀ k ∈ L.fp, ¬ D' k) (hD : ∀ k, D' k → k < w'.heap.size) (hl : ss.length ≤ 60) (hll : ∀ l ∈ ss, l.length ≤ 60) :
    MemRep w' { L with shv := v', D := D' } { m with shapes := ss } := by
  obtain ⟨a0, a1, a2, a3, a4, b1, b2, b3, b4, _⟩ := h.apart
  have hnot : ∀ k, k ∈ L.fp → k ≠ L.b → ¬ (k = L.b ∨ L.shv.ownBlock = some k) := fun k hk hne q => q.elim hne (fun e => ho k e hk)
  have hsp : ∀ a, SpRep w' (L.spL a) (m.sp a) := fun a => (h.spR a).fr hf fun k hk => hnot k (MemRep.spfp hk) (fun e => (h.sp_b a).1 (by rw [← e]; exact hk))
  refine ⟨hb, hsp .y, hsp .n, hsp .o, ownsRow_of_blocks h.kn fun k hk => hf.block k (ownsRow_lt h.kn hk) (hnot k (MemRep.mem_fp.2 (by simp [hk])) (fun e => a4 (by rw [← e]; exact hk))),
    (let ⟨es, c, g1, g2⟩ := h.mv; ⟨es, c, hf.blk g1 (hnot _ (MemRep.mem_fp.2 (by simp)) (Ne.symm a0)), g2⟩), hs, h.nd, hdj, hD, hl, hll, h.sc0, h.sc1, h.lf0, h.lf1, h.kb, h.kl⟩

theorem ownsRow_base {w : World} {B B' : Nat} {T : TypeId} {size n : Nat} {v : Value} {xs : List Value} (h : w.ownsRow B T size v n xs) (hb : B' ≤ B) : w.ownsRow B' T size v n xs := by
  obtain ⟨h1, h2 | ⟨g, cap, cur, q1, q2, q3, q4⟩⟩ := h
  · exact ⟨h1, .inl h2⟩
  · exact ⟨h1, .inr ⟨g, cap, cur, q1, by omega, q3, q4⟩⟩
theorem ownsRow_kv {w : World} {B : Nat} {T : TypeId} {size n : Nat} {v : Value} {xs : List Value} (h : w.ownsRow B T size v n xs) {k : Nat} (hk : k ∈ kvBlocks v) : v.ownBlock = some k := by
  rcases h.2 with ⟨rfl, _⟩ | ⟨g, cap, cur, rfl, _⟩
  · simp [kvBlocks] at hk
  · simp [kvBlocks] at hk; subst hk; rfl
theorem own_ne {w : World} {B B' : Nat} {T T' : TypeId} {size size' n n' : Nat} {v v' : Value} {xs xs' : List Value} (h : w.ownsRow B T size v n xs) (h' : w.ownsRow B' T' size' v' n' xs') (hT : T ≠ T') {k : Nat} (hk : v.ownBlock = some k) : v'.ownBlock ≠ some k := by
  intro hk'
  rcases h.2 with ⟨rfl, _⟩ | ⟨g, cap, cur, rfl, _, q, _⟩
  · cases hk
  · rcases h'.2 with ⟨rfl, _⟩ | ⟨g', cap', cur', rfl, _, q', _⟩
    · cases hk'
    · simp only [Value.ownBlock, Option.some.injEq] at hk hk'
      subst hk
      subst hk'
      rw [q] at q'
      simp only [Option.some.injEq, Obj.cells.injEq] at q'
      exact hT q'.2.1

/-- A memory whose shapes are being laid: the first ones. -/
structure NewR (B : Nat) (W : World) (L : ML) (v : Value) (m : Mem) (us : List Value) (ss : List (List Bool)) : Prop where
  rep : MemRep W { L with shv := v, D := fun j => B ≤ j ∧ j ∉ L.fp ∧ j < W.heap.size } { m with shapes := ss }
  own : W.ownsRow B 73 1 v ss.length us
  ub : ∀ i (h : i < ss.length) (h' : i < us.length), W.ownsRow B 4 1 us[i] ss[i].length (ss[i].map .bool) ∧ ∀ k, us[i].ownBlock = some k → k ∉ L.fp
  fpB : ∀ k ∈ L.fp, B ≤ k
  vfp : ∀ k, v.ownBlock = some k → k ∉ L.fp

theorem ShRep.of_owns {W : World} {base : Nat} {D : Nat → Prop} {v : Value} {us : List Value} {ss : List (List Bool)} (ho : W.ownsRow base 73 1 v ss.length us) (hD : ∀ k, v.ownBlock = some k → D k) (ul : us.length = ss.length) (ub : ∀ i (h : i < ss.length) (h' : i < us.length), BoolsAt W D us[i] ss[i]) : ShRep W D v ss := by
  rcases ho.2 with ⟨rfl, h0⟩ | ⟨g, cap, cur, rfl, hb, hg, hn, _, hs, ht⟩
  · have : ss = [] := List.eq_nil_of_length_eq_zero (by omega)
    subst this
    exact ⟨none, 0, rfl, .inl rfl⟩
  · refine ⟨_, cap, rfl, .inr ⟨g, 0, rfl, hD g rfl, fun i hi => ⟨us[i]'(by omega), ?_, ub i hi (by omega)⟩⟩⟩
    rw [cell_of hg]
    have e : (cur.toList.take (ss.length * 1))[0 + i]? = some (us[i]'(by omega)) := by rw [ht]; simp [show i < us.length by omega]
    rw [List.getElem?_take_of_lt (by omega)] at e
    simpa using e

/-- One more shape. -/
theorem NewR.snoc {B : Nat} {w5 w6 : World} {L : ML} {v u : Value} {m : Mem} {us : List Value} {ss : List (List Bool)} {s : List Bool} (h : NewR B w5 L v m us ss) (hu : w5.ownsRow B 4 1 u s.length (s.map .bool)) (hufp : ∀ k, u.ownBlock = some k → k ∉ L.fp) {o : Obj} {g gcap : Nat}
    (hg : (w5.alloc o).grownBy w6 v.ownBlock) (hown : w6.ownsRow B 73 1 (.slice (some ⟨g, 0, none⟩) (ss.length + 1) gcap) (ss.length + 1) (us ++ [u])) (hat : v.ownBlock = some g ∨ g = (w5.alloc o).heap.size) (hl : ss.length + 1 ≤ 60) (hls : s.length ≤ 60) :
    NewR B (w6.setCell ⟨L.b, 0, none⟩ (.slice (some ⟨g, 0, none⟩) (ss.length + 1) gcap)) L (.slice (some ⟨g, 0, none⟩) (ss.length + 1) gcap) m (us ++ [u]) (ss ++ [s]) ∧
    Fr (fun k => B ≤ k) w5 (w6.setCell ⟨L.b, 0, none⟩ (.slice (some ⟨g, 0, none⟩) (ss.length + 1) gcap)) := by
  have hul : us.length = ss.length := by have := h.own.1; omega
  have hsz1 : (w5.alloc o).heap.size = w5.heap.size + 1 := al_size _ _
  have hsz : w5.heap.size + 1 ≤ w6.heap.size := by have := hg.size; omega
  have hb5 := h.rep.blk
  have hLlt : L.b < w5.heap.size := lt_of_block hb5
  have hLfp : L.b ∈ L.fp := MemRep.mem_fp.2 (.inl rfl)
  have hfr6 : Fr (fun k => v.ownBlock = some k) w5 w6 := by
    refine ⟨hg.os, hg.tape, hg.output, by omega, fun k hk hn => (hg.block k (by omega) (fun e => hn e.symm)).trans (al_old _ _ _ hk)⟩
  have hb6 : w6.heap[L.b]? = _ := hfr6.blk hb5 (fun e => h.vfp _ e hLfp)
  have hf : Fr (fun k => k = L.b ∨ v.ownBlock = some k) w5 (w6.setCell ⟨L.b, 0, none⟩ (.slice (some ⟨g, 0, none⟩) (ss.length + 1) gcap)) :=
    (hfr6.mono fun k _ q => .inr q).setCell _ _ (.inl (.inl rfl))
  have hgfp : g ∉ L.fp := by
    rcases hat with q | q
    · exact h.vfp g q
    · intro e
      have := h.rep.lt (k := g) e
      omega
  have hglt : g < w6.heap.size := (hown.lt g rfl).2
  have hgB : B ≤ g := (hown.lt g rfl).1
  have hgb : g ≠ L.b := fun e => hgfp (by rw [e]; exact hLfp)
  have hown' : (w6.setCell ⟨L.b, 0, none⟩ (.slice (some ⟨g, 0, none⟩) (ss.length + 1) gcap)).ownsRow B 73 1 (.slice (some ⟨g, 0, none⟩) (ss.length + 1) gcap) (ss.length + 1) (us ++ [u]) :=
    ownsRow_of_blocks hown fun k hk => Below.heap_setCell _ _ _ _ (fun e => hgb (by
      have : k = g := by simpa [kvBlocks] using hk
      rw [← this]; exact e))
  have hkeep : ∀ {x : Value} {n : Nat} {xs : List Value}, w5.ownsRow B 4 1 x n xs → (∀ k, x.ownBlock = some k → k ∉ L.fp) → (w6.setCell ⟨L.b, 0, none⟩ (.slice (some ⟨g, 0, none⟩) (ss.length + 1) gcap)).ownsRow B 4 1 x n xs := fun {x n xs} hx hxf =>
    ownsRow_of_blocks hx fun k hk => hf.block k (ownsRow_lt hx hk) (fun q => q.elim (fun e => hxf k (ownsRow_kv hx hk) (by rw [e]; exact hLfp)) (fun e => own_ne h.own hx (by decide) e (ownsRow_kv hx hk)))
  have hub : ∀ i (h : i < (ss ++ [s]).length) (h' : i < (us ++ [u]).length), (w6.setCell ⟨L.b, 0, none⟩ (.slice (some ⟨g, 0, none⟩) (ss.length + 1) gcap)).ownsRow B 4 1 (us ++ [u])[i] (ss ++ [s])[i].length ((ss ++ [s])[i].map .bool) ∧ ∀ k, (us ++ [u])[i].ownBlock = some k → k ∉ L.fp := by
    intro i hi hi'
    rcases Nat.lt_or_ge i ss.length with q | q
    · rw [List.getElem_append_left q, List.getElem_append_left (by omega)]
      obtain ⟨k1, k2⟩ := h.ub i q (by omega)
      exact ⟨hkeep k1 k2, k2⟩
    · have e : i = ss.length := by simp at hi; omega
      subst e
      rw [List.getElem_append_right (Nat.le_refl _), List.getElem_append_right (by omega)]
      simp only [hul, Nat.sub_self, List.getElem_cons_zero]
      exact ⟨hkeep hu hufp, hufp⟩
  have hsz6 : (w6.setCell ⟨L.b, 0, none⟩ (.slice (some ⟨g, 0, none⟩) (ss.length + 1) gcap)).heap.size = w6.heap.size := by simp [World.setCell]
  have hown2 : (w6.setCell ⟨L.b, 0, none⟩ (.slice (some ⟨g, 0, none⟩) (ss.length + 1) gcap)).ownsRow B 73 1 (.slice (some ⟨g, 0, none⟩) (ss.length + 1) gcap) (ss ++ [s]).length (us ++ [u]) := by
    rw [List.length_append]; exact hown'
  refine ⟨⟨?_, hown2, hub, h.fpB, fun k hk => ?_⟩, ?_⟩
  · refine h.rep.reShapes (v' := .slice (some ⟨g, 0, none⟩) (ss.length + 1) gcap) (D' := fun j => B ≤ j ∧ j ∉ L.fp ∧ j < (w6.setCell ⟨L.b, 0, none⟩ (.slice (some ⟨g, 0, none⟩) (ss.length + 1) gcap)).heap.size) (ss := ss ++ [s]) ?_ hf (fun k hk => h.vfp k hk) ?_ (fun k hk q => q.2.1 hk) (fun k q => q.2.2) (by simp; omega) ?_
    · rw [heap_setCell_same _ hb6]; rfl
    · refine ShRep.of_owns hown2 (fun k hk => ?_) (by simp [hul]) (fun i hi hi' => ?_)
      · simp only [Value.ownBlock, Option.some.injEq] at hk
        subst hk
        exact ⟨hgB, hgfp, by rw [hsz6]; exact hglt⟩
      · obtain ⟨k1, k2⟩ := hub i hi hi'
        exact (BoolsAt.of_owns k1).mono fun k hk => ⟨(k1.lt k hk).1, k2 k hk, (k1.lt k hk).2⟩
    · intro l hl'
      rcases List.mem_append.1 hl' with q | q
      · exact h.rep.sll l q
      · simp only [List.mem_singleton] at q; subst q; exact hls
  · simp only [Value.ownBlock, Option.some.injEq] at hk
    subst hk; exact hgfp
  · refine hf.mono fun k hk q => ?_
    rcases q with rfl | q
    · exact h.fpB _ hLfp
    · exact (h.own.lt k q).1

/-- At the start. -/
theorem NewR.start {B : Nat} {W0 W1 W2 W3 : World} {y n o : SpL} {half young mb : Nat} (hB : B ≤ W0.heap.size) (hy : SpRep W1 y (Sp.fresh 1 young)) (ly : ∀ k ∈ y.fp, W0.heap.size ≤ k) (hn : SpRep W2 n (Sp.fresh (1 + young) half)) (ln : ∀ k ∈ n.fp, W1.heap.size ≤ k) (ho : SpRep W3 o (Sp.fresh (1 + young + half) half)) (lo : ∀ k ∈ o.fp, W2.heap.size ≤ k)
    (f12 : Fr (fun _ => False) W1 W2) (f23 : Fr (fun _ => False) W2 W3) {W : World} (hmb : mb = W3.heap.size) (hW : W = (W3.alloc (.map #[] 0)).alloc (.cells #[.slice none 0 0, ptrV y.b, ptrV n.b, ptrV o.b, .slice none 0 0, .bool false, .int .i64 0, .map (some mb), .int .i64 0] 100)) :
    NewR B W ⟨W3.heap.size + 1, y, n, o, .slice none 0 0, .slice none 0 0, mb, fun _ => False⟩ (.slice none 0 0) (Mem.newM [] half young) [] [] := by
  subst hmb
  have f3W : Fr (fun _ => False) W3 W := by rw [hW]; exact ((Fr.refl _ W3).alloc _).alloc _
  have s12 := f12.size
  have s23 := f23.size
  have y1 : ∀ k ∈ y.fp, k < W1.heap.size := fun k hk => hy.lt hk
  have n1 : ∀ k ∈ n.fp, k < W2.heap.size := fun k hk => hn.lt hk
  have o1 : ∀ k ∈ o.fp, k < W3.heap.size := fun k hk => ho.lt hk
  have hfp : ∀ k, k ∈ ML.fp ⟨W3.heap.size + 1, y, n, o, .slice none 0 0, .slice none 0 0, W3.heap.size, fun _ => False⟩ ↔ k = W3.heap.size + 1 ∨ k = W3.heap.size ∨ k ∈ y.fp ∨ k ∈ n.fp ∨ k ∈ o.fp := fun k => by
    simp [ML.fp, kvBlocks]
  have hs : W.heap.size = W3.heap.size + 2 := by rw [hW, al_size, al_size]
  have hyn : young = (Sp.fresh 1 young).words.length := by simp [Sp.fresh]
  have hmap : W.heap[W3.heap.size]? = some (.map #[] 0) := by rw [hW, al_old _ _ _ (by rw [al_size]; omega), al_same]
  have hblk : W.heap[W3.heap.size + 1]? = some (.cells #[.slice none 0 0, ptrV y.b, ptrV n.b, ptrV o.b, .slice none 0 0, .bool false, .int .i64 0, .map (some W3.heap.size), .int .i64 0] 100 (0, 0)) := by
    rw [hW, al_at _ _ _ (by rw [al_size])]
  refine ⟨⟨hblk, hy.fr (S := fun _ => False) (f12.trans (f23.trans f3W)) (fun _ _ => id), hn.fr (S := fun _ => False) (f23.trans f3W) (fun _ _ => id), ho.fr (S := fun _ => False) f3W (fun _ _ => id), World.ownsRow_nil _ _ _ _, ⟨#[], 0, hmap, rfl, Go.MapKept.stamped_empty 0⟩, ⟨none, 0, rfl, .inl rfl⟩, ?_, fun k hk q => q.2.1 hk, fun k q => q.2.2, by simp, by simp, by simp [Mem.newM], by simp [Mem.newM], by simp [Mem.newM], by simp [Mem.newM], by simp [Mem.newM], by simp [Mem.newM]⟩,
    World.ownsRow_nil _ _ _ _, fun i hi => by simp at hi, fun k hk => ?_, fun k hk => by cases hk⟩
  · simp only [ML.fp, List.nodup_cons, List.nodup_append, List.mem_cons, List.mem_append, not_or, kvBlocks, List.not_mem_nil, not_false_eq_true, and_true, List.nodup_nil, false_implies, implies_true, or_false]
    refine ⟨⟨by omega, fun q => by have := y1 _ q; omega, fun q => by have := n1 _ q; omega, fun q => by have := o1 _ q; omega⟩, ⟨fun q => by have := y1 _ q; omega, fun q => by have := n1 _ q; omega, fun q => by have := o1 _ q; omega⟩, hy.nd, ⟨hn.nd, ho.nd, fun a ha b hb' e => ?_⟩, fun a ha b hb' e => ?_⟩
    · subst e; have := n1 _ ha; have := lo _ hb'; omega
    · subst e
      have := y1 _ ha
      rcases hb' with q | q
      · have := ln _ q; omega
      · have := lo _ q; omega
  · rcases (hfp k).1 hk with q | q | q | q | q
    · have := lt_of_block hy.blk; have := ly y.b (by simp [SpL.fp]); omega
    · have := lt_of_block hy.blk; have := ly y.b (by simp [SpL.fp]); omega
    · have := ly k q; omega
    · have := ln k q; have := lt_of_block hy.blk; have := ly y.b (by simp [SpL.fp]); omega
    · have := lo k q; have := lt_of_block hy.blk; have := ly y.b (by simp [SpL.fp]); omega

theorem new_keep {w w5 w6 : World} {o : Obj} {pb : Nat} {c : Array Value} {T : TypeId} {v : Value} (hb : Below w.heap.size w w5) (hc : w.heap[pb]? = some (.cells c T (0, 0))) (hne : v.ownBlock ≠ some pb) (hg : (w5.alloc o).grownBy w6 v.ownBlock) : w6.heap[pb]? = some (.cells c T (0, 0)) := by
  have hlt := lt_of_block hc
  have h5 : w5.heap[pb]? = some (.cells c T (0, 0)) := (hb.block pb hlt).trans hc
  have hlt5 := lt_of_block h5
  exact (hg.block pb (by rw [al_size]; omega) (fun e => hne e.symm)).trans ((al_old _ _ _ hlt5).trans h5)
theorem new_ak {w w5 : World} {o : Obj} {pb i : Nat} {ob : Obj} {v : Value} (hb : Below w.heap.size w w5) (hc : w.heap[pb]? = some ob) (h5 : w5.cell? ⟨pb, i, none⟩ = some v) : (w5.alloc o).cell? ⟨pb, i, none⟩ = some v := by
  rw [← h5]; exact World.cell?_of_block (al_old _ _ _ (Nat.lt_of_lt_of_le (lt_of_block hc) hb.size))
theorem MemRep.reD {w : World} {L : ML} {m : Mem} (h : MemRep w L m) {D' : Nat → Prop} (hs : ∀ k, L.D k → D' k) (hdj : ∀ k ∈ L.fp, ¬ D' k) (hD : ∀ k, D' k → k < w.heap.size) : MemRep w { L with D := D' } m := by
  refine ⟨h.blk, h.y, h.n, h.o, h.kn, h.mv, ?_, h.nd, hdj, hD, h.sl, h.sll, h.sc0, h.sc1, h.lf0, h.lf1, h.kb, h.kl⟩
  obtain ⟨p, cap, e, h2 | ⟨b, o, e2, e3, e4⟩⟩ := h.sh
  · exact ⟨p, cap, e, .inl h2⟩
  · exact ⟨p, cap, e, .inr ⟨b, o, e2, hs _ e3, fun i hi => let ⟨u, q1, q2⟩ := e4 i hi; ⟨u, q1, q2.mono hs⟩⟩⟩
theorem NewR.below {B : Nat} {W W' : World} {L : ML} {v : Value} {m : Mem} {us : List Value} {ss : List (List Bool)} (h : NewR B W L v m us ss) (hb : Below W.heap.size W W') : NewR B W' L v m us ss := by
  have hbl : ∀ {T : TypeId} {size n : Nat} {x : Value} {xs : List Value}, W.ownsRow B T size x n xs → W'.ownsRow B T size x n xs := fun {T size n x xs} q => ownsRow_of_blocks q fun k hk => hb.block k (ownsRow_lt q hk)
  refine ⟨(h.rep.below hb).reD (D' := fun j => B ≤ j ∧ j ∉ L.fp ∧ j < W'.heap.size) (fun k q => ⟨q.1, q.2.1, Nat.lt_of_lt_of_le q.2.2 hb.size⟩) (fun k hk q => q.2.1 hk) (fun k q => q.2.2), hbl h.own, fun i hi hi' => ⟨hbl (h.ub i hi hi').1, (h.ub i hi hi').2⟩, h.fpB, h.vfp⟩

theorem new_al {w w5 : World} (hb : Below w.heap.size w w5) (o : Obj) {k : Nat} (hk : k < w.heap.size) : (w5.alloc o).heap[k]? = w.heap[k]? := (al_old _ _ _ (Nat.lt_of_lt_of_le hk hb.size)).trans (hb.block k hk)
theorem new_sz {w1 w w5 : World} {o : Obj} (h1 : Below w1.heap.size w1 w) (hb : Below w.heap.size w w5) : w1.heap.size ≤ (w5.alloc o).heap.size := by rw [al_size]; have := h1.size; have := hb.size; omega

set_option maxRecDepth 100000 in
set_option maxHeartbeats 4000000 in
theorem c_New (w : World) (D : Nat → Prop) (v : Value) (ss : List (List Bool)) (h : ShRep w D v ss) (hD : ∀ k, D k → k < w.heap.size) (Y H : Nat) (hsz : Mem.sizedE ss = 0) (hY0 : 0 < Y) (hH0 : 0 < H) (hY : Y ≤ 1024) (hH : H ≤ 4096) :
    Calls Try.prog 15 #[v, .int .i64 H, .int .i64 Y] w fun e w' => ∃ L, e = .returned (.tuple #[.pointer (some ⟨L.b, 0, none⟩), .int .i64 0]) ∧ MemRep w' L (Mem.newM ss H Y) ∧ Below w.heap.size w w' ∧ (∀ k ∈ L.fp, w.heap.size ≤ k) ∧ (∀ k, L.D k → w.heap.size ≤ k) := by
  have hl : ss.length ≤ 60 := by
    unfold Mem.sizedE at hsz
    split at hsz
    · cases hsz
    · omega
  have hll : ∀ l ∈ ss, l.length ≤ 60 := by
    unfold Mem.sizedE at hsz
    split at hsz
    · cases hsz
    · split at hsz
      · cases hsz
      · rename_i hn
        intro l hlm
        simp only [List.any_eq_true, decide_eq_true_eq, not_exists, not_and] at hn
        have := hn l hlm; omega
  have hsd := c_sized w D v ss h (by omega) (fun l hlm => by have := hll l hlm; omega)
  rw [hsz] at hsd
  clear hsz
  obtain ⟨p, cap, rfl, hcc⟩ := h
  have h : ShRep w D (.slice p ss.length cap) ss := ⟨p, cap, rfl, hcc⟩
  clear hcc
  have hh1 : ¬ (4096 : Int) < (H : Int) := by omega
  have hh2 : ¬ (1024 : Int) < (Y : Int) := by omega
  have hh3 : ¬ (H : Int) < 1 := by omega
  have hh4 : ¬ (Y : Int) < 1 := by omega
  have hlH := Lib.hid hl
  have hllH := Lib.hid hll
  have hDH := Lib.hid hD
  have hhH := Lib.hid h
  clear hll hD h
  have hmk := @run_makeMap Try.prog
  go_enter Try.func15, Try.ntmps15
  go_wp2_with (fail)
  refine hsd.mono ?_
  rintro e w1 ⟨rfl, rfl⟩
  clear hsd
  go_wp2_with (fail)
  have hp1 : Calls Try.prog 45 #[.int .i64 1, .int .i64 Y] w1 fun e w' => ∃ L : SpL, e = .returned (.pointer (some ⟨L.b, 0, none⟩)) ∧ SpRep w' L (Sp.fresh 1 Y) ∧ (∀ k ∈ L.fp, w1.heap.size ≤ k) ∧ Fr (fun _ => False) w1 w' := c_spaceOf w1 1 Y (by omega) hY0 (by omega)
  refine hp1.mono ?_
  rintro e W1 ⟨Ly, rfl, ry, ly, fy⟩
  clear hp1
  have hp2 : Calls Try.prog 45 #[.int .i64 (1 + (Y : Int)), .int .i64 H] W1 fun e w' => ∃ L : SpL, e = .returned (.pointer (some ⟨L.b, 0, none⟩)) ∧ SpRep w' L (Sp.fresh (1 + Y) H) ∧ (∀ k ∈ L.fp, W1.heap.size ≤ k) ∧ Fr (fun _ => False) W1 w' := by
    have e : (1 + (Y : Int)) = ((1 + Y : Nat) : Int) := by push_cast; rfl
    rw [e]; exact c_spaceOf W1 (1 + Y) H (by omega) hH0 (by omega)
  have hly := Lib.hid ly
  clear ly
  go_wp2_with (fail)
  refine hp2.mono ?_
  rintro e W2 ⟨Ln, rfl, rn, ln, fn⟩
  clear hp2
  have hp3 : Calls Try.prog 45 #[.int .i64 (1 + (Y : Int) + (H : Int)), .int .i64 H] W2 fun e w' => ∃ L : SpL, e = .returned (.pointer (some ⟨L.b, 0, none⟩)) ∧ SpRep w' L (Sp.fresh (1 + Y + H) H) ∧ (∀ k ∈ L.fp, W2.heap.size ≤ k) ∧ Fr (fun _ => False) W2 w' := by
    have e : (1 + (Y : Int) + (H : Int)) = ((1 + Y + H : Nat) : Int) := by push_cast; rfl
    rw [e]; exact c_spaceOf W2 (1 + Y + H) H (by omega) hH0 (by omega)
  have hln := Lib.hid ln
  clear ln
  go_wp2_with (fail)
  refine hp3.mono ?_
  rintro e W3 ⟨Lo, rfl, ro, lo, fo⟩
  clear hp3
  have hlo := Lib.hid lo
  clear lo
  have hst := NewR.start (B := w1.heap.size) (Nat.le_refl _) ry hly.out rn hln.out ro hlo.out fn fo rfl rfl
  have hF3 : Fr (fun _ => False) w1 W3 := fy.trans (fn.trans fo)
  have hB3 : Below w1.heap.size w1 ((W3.alloc (.map #[] 0)).alloc (.cells #[.slice none 0 0, ptrV Ly.b, ptrV Ln.b, ptrV Lo.b, .slice none 0 0, .bool false, .int .i64 0, .map (some W3.heap.size), .int .i64 0] 100)) := Fr.below ((hF3.alloc _).alloc _)
  have hstH := Lib.hid hst
  have hB3H := Lib.hid hB3
  clear hst hB3 ry rn ro fy fn fo hF3
  go_wp2_with (fail)
  obtain ⟨L0, hL0⟩ : ∃ L0 : ML, L0 = ⟨W3.heap.size + 1, Ly, Ln, Lo, .slice none 0 0, .slice none 0 0, W3.heap.size, fun _ => False⟩ := ⟨_, rfl⟩
  have hL0b : L0.b = W3.heap.size + 1 := by rw [hL0]
  rw [← hL0] at hstH
  obtain ⟨pb, hpb⟩ : ∃ pb, pb = L0.b := ⟨_, rfl⟩
  rw [← hL0b, ← hpb]
  obtain ⟨WS, hWS⟩ : ∃ WS, WS = ((W3.alloc (.map #[] 0)).alloc (.cells #[.slice none 0 0, ptrV Ly.b, ptrV Ln.b, ptrV Lo.b, .slice none 0 0, .bool false, .int .i64 0, .map (some W3.heap.size), .int .i64 0] 100)) := ⟨_, rfl⟩
  rw [← hWS] at hstH hB3H
  rw [show (W3.alloc (.map #[] 0)).alloc (.cells #[.slice none 0 0, .pointer (some ⟨Ly.b, 0, none⟩), .pointer (some ⟨Ln.b, 0, none⟩), .pointer (some ⟨Lo.b, 0, none⟩), .slice none 0 0, .bool false, .int .i64 0, .map (some W3.heap.size), .int .i64 0] 100) = WS from hWS.symm]
  have hpbH := Lib.hid hpb
  clear hL0 hL0b hWS hpb hmk
  go_loopw [41] (fun i wr => ∃ (k : Nat) (us : List Value) (v : Value), i = .int .i64 k ∧ k ≤ ss.length ∧ NewR w1.heap.size wr L0 v (Mem.newM [] H Y) us (ss.take k) ∧ Below w1.heap.size w1 wr) (fun i _ => ss.length - (intOf i).toNat)
  case atStart => exact ⟨0, [], _, rfl, by omega, hstH.out, hB3H.out⟩
  case round =>
    clear hstH hB3H
    obtain ⟨k, us, v, rfl, hk, hN, hB⟩ := hrel
    by_cases hlt : k < ss.length
    · have htl : (ss.take k).length = k := by simp; omega
      obtain ⟨b, o, u0, rfl, hu0, hb0⟩ : ∃ b o u, p = some ⟨b, o, none⟩ ∧ w1.cell? ⟨b, o + k, none⟩ = some u ∧ BoolsAt w1 D u ss[k] := by
        obtain ⟨p', cap', hv, hc⟩ := hhH.out
        simp only [Value.slice.injEq] at hv
        rcases hc with e | ⟨b, o, hp, _, hcc⟩
        · rw [e] at hlt; simp at hlt
        · obtain ⟨u, q1, q2⟩ := hcc k hlt
          exact ⟨b, o, u, hv.1.trans hp, q1, q2⟩
      have hfB : Fr (fun _ => False) w1 wr := Fr.of_below hB
      have hu1 := hfB.cell hu0 id
      have hb1 : BoolsAt wr D u0 ss[k] := hb0.of_blocks fun j hj => hfB.block j (hDH.out j hj) id
      have hsl : ss[k].length ≤ 60 := hllH.out _ (List.getElem_mem hlt)
      obtain ⟨sk, hsk⟩ : ∃ sk, sk = ss[k] := ⟨_, rfl⟩
      rw [← hsk] at hb1 hsl
      have hskkH := Lib.hid hsk
      clear hsk hb0
      have hcl : Calls Try.prog 46 #[u0] wr.drew fun e w' => ∃ v', e = .returned v' ∧ w'.ownsRow wr.heap.size 4 1 v' sk.length (sk.map .bool) ∧ Below wr.heap.size wr w' := ((show BoolsAt wr.drew D u0 sk from hb1).clone (by omega)).mono fun _ _ ⟨v', q1, q2, q3⟩ => ⟨v', q1, q2, ⟨q3.os, q3.tape, q3.output, q3.size, q3.block⟩⟩
      have hown := hN.own
      rw [htl] at hown
      obtain ⟨vp, vcap, rfl⟩ := ownsRow_slice hown
      have hN0 : wr.cell? ⟨pb, 0, none⟩ = some (.slice vp k vcap) := by rw [hpbH.out]; exact hN.rep.c0
      obtain ⟨p', cap', rfl, -⟩ := hb1
      have hNH := Lib.hid hN
      have hownH := Lib.hid hown
      have htlH := Lib.hid htl
      have hltH := Lib.hid hlt
      have hBH := Lib.hid hB
      have hslH := Lib.hid hsl
      obtain ⟨i0, hi, hz0, hz1, hz2⟩ := info_parts Try.infoBools
      obtain ⟨cs, hblk, hcs0⟩ : ∃ c, wr.heap[pb]? = some (.cells c 100 (0, 0)) ∧ c[0]? = some (.slice vp k vcap) := ⟨_, by rw [hpbH.out]; exact hN.rep.blk, rfl⟩
      have hvne : (Value.slice vp k vcap).ownBlock ≠ some pb := fun e => hN.vfp _ e (MemRep.mem_fp.2 (.inl hpbH.out))
      have hblkH := Lib.hid hblk
      have hcs0H := Lib.hid hcs0
      have hvneH := Lib.hid hvne
      clear hN hown htl hu0 hsl hblk hvne hB hfB hcs0
      go_wp2_with (fail)
      go_region_law
        (first
          | ((go_simp; with_reducible refine hcl.mono ?_); rintro e w5 ⟨u, rfl, hu, hb5⟩; obtain ⟨up, ucap, rfl⟩ := ownsRow_slice hu; have k5 := (Fr.of_below (S := fun _ => False) hb5).cell hN0 id; have ak5 := new_ak (o := .cells #[.slice up sk.length ucap] 73) hb5 hblkH.out k5; dsimp only)
          | (refine step_append_lies _ rfl (.tmp 49) (.tmp 52) 22 rfl w1.heap.size 73 i0 (.slice none 0 0) 1 24 Try.underlying22 hi hz0 hz1 hz2 rfl (by decide) (.slice vp k vcap) k us rfl (ownsRow_of_blocks hownH.out fun j hj => new_al hb5 _ (ownsRow_lt hownH.out hj)) ⟨w5.heap.size, 0, none⟩ 1 1 [.slice up sk.length ucap] rfl rfl (World.news_of_block (al_same w5 (.cells #[.slice up sk.length ucap] 73))) (by simp [Value.oneCell']) (by decide) (by have := hlH.out; have := hltH.out; simp only [maxLen]; omega) (by have := hlH.out; have := hltH.out; omega) (new_sz hBH.out hb5) _ rfl ?_; intro g gcap w6 hown6 hgrow hat hglt; have h6 := new_keep hb5 hblkH.out hvneH.out hgrow; have k6 := (cell_of h6 0).trans hcs0H.out; have z6 := free_of h6 0; clear h6))
      all_goals
        have hN5 := hNH.out.below hb5
        have hul : sk.length ≤ 60 := hslH.out
        have hkl : (ss.take k).length + 1 ≤ 60 := by rw [htlH.out]; have := hlH.out; have := hltH.out; omega
        have hsn := hN5.snoc (s := sk) (ownsRow_base hu hBH.out.size) (fun j hj hfp => by have := (hu.lt j hj).1; have := hNH.out.rep.lt (k := j) hfp; omega) hgrow (by rw [htlH.out]; exact hown6) hat hkl hul
        have htk : ss.take k ++ [sk] = ss.take (k + 1) := by rw [List.take_succ_eq_append_getElem hltH.out, hskkH.out]
        rw [htk, htlH.out, ← hpbH.out] at hsn
        obtain ⟨hN6, hf6⟩ := hsn
        have hb6 : Below w1.heap.size w1 (w6.setCell ⟨pb, 0, none⟩ (.slice (some ⟨g, 0, none⟩) (k + 1) gcap)) := by
          have q := (hBH.out.trans (hb5.mono hBH.out.size))
          exact ⟨hf6.os.trans q.os, hf6.tape.trans q.tape, hf6.output.trans q.output, Nat.le_trans q.size hf6.size, fun j hj => (hf6.block j (Nat.lt_of_lt_of_le hj q.size) (by omega)).trans (q.block j hj)⟩
        clear k6 z6 k5 ak5 hN0 hu1 hgrow hown6 hat hN5 hf6 hkl hcl hu hb5 htk
        go_wp2
        go_roundw
        case rel => exact ⟨k + 1, _, _, by go_num, (by have := hltH.out; omega), hN6, hb6⟩
        case measure => have := hltH.out; simp [intOf]; omega
    · obtain rfl : k = ss.length := by omega
      rw [List.take_length] at hN
      have hNH := Lib.hid hN
      clear hN hlt
      go_wp2
      go_ret2
      exact ⟨{ L0 with shv := v, D := fun j => w1.heap.size ≤ j ∧ j ∉ L0.fp ∧ j < wr.heap.size }, (by have e := hpbH.out; subst e; rfl), hNH.out.rep, hB, fun j hj => hNH.out.fpB j hj, fun j hj => hj.1⟩
end Go.Proofs.Ytnedmmopkhmejaa
