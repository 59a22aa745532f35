/- Sets of ints (map[int]bool), and needed's closure 'meet'. -/
import Derived.Maps.AppendAt
import Derived.Test.YtnedmmopkhmejaaKHW9
set_option linter.unusedVariables false
set_option linter.unusedSimpArgs false
namespace Go.Proofs.Ytnedmmopkhmejaa
open Go.RowKit Go.Proofs.Hp

/-- A map[int]bool that holds just 'true'. -/
def SetRep (w : World) (b : Nat) (l : List Int) : Prop :=
  ∃ es clock, w.heap[b]? = some (.map es clock) ∧ es.toList.map (fun e => (e.key, e.val)) = l.map fun a => (Value.int .i64 a, Value.bool true)

theorem findNow_set (a : Int) : ∀ (es : List MapEntry) (l : List Int) (i : Nat), es.map (fun e => (e.key, e.val)) = l.map (fun a => (Value.int .i64 a, Value.bool true)) →
    ∃ r, Instr.findNow (.int .i64) (.int .i64 a) es i = some r ∧ r.map (·.2) = (if l.contains a then some (Value.bool true) else none)
  | [], l, i, h => by
    cases l with
    | nil => exact ⟨none, rfl, rfl⟩
    | cons => simp at h
  | e :: es, l, i, h => by
    cases l with
    | nil => simp at h
    | cons p l =>
      simp only [List.map_cons, List.cons.injEq, Prod.mk.injEq] at h
      obtain ⟨⟨hk, hv⟩, ht⟩ := h
      by_cases e1 : a = p
      · refine ⟨some (i, e.val), ?_, ?_⟩
        · simp [Instr.findNow, Instr.sameNow, hk, e1]
        · simp [e1, hv]
      · obtain ⟨r, h1, h2⟩ := findNow_set a es l (i + 1) ht
        refine ⟨r, ?_, ?_⟩
        · have e2 : (a == p) = false := by simpa using e1
          simp [Instr.findNow, Instr.sameNow, hk, h1, e2]
        · rw [h2]; simp [e1]

/-- 's[k]'. -/
theorem run_lookup_set {P : Program} (w : World) (t kt et : TypeId) (ht : P.underlying t = some (.map kt et)) (hk : P.underlying kt = some (.int .i64)) (hz : ∀ w, (zeroValue et).run P w = .ok (.bool false) w)
    (b : Nat) (l : List Int) (h : SetRep w b l) (a : Int) :
    (Instr.lookup t (.map (some b)) (.int .i64 a) false).run P w = .ok (.bool (l.contains a)) w := by
  obtain ⟨es, clock, hb, he⟩ := h
  obtain ⟨r, h1, h2⟩ := findNow_set a es.toList l 0 he
  have hf : ∀ w, (Instr.findKey kt (.int .i64 a) es.toList).run P w = .ok r w := by
    intro w; simp [Instr.findKey, run_underlying hk, h1]
  have hck : ∀ (w : World) (e : Bool), (Instr.checkKey e 10000 kt (.int .i64 a)).run P w = .ok () w := fun w e => run_checkKey_int w kt hk 9999 e a
  cases hl : l.contains a with
  | false =>
    rw [hl] at h2
    cases r with
    | none => simp [Instr.lookup, run_underlying ht, getObj, Sem.run, hb, hck, hf, hz]
    | some p => simp at h2
  | true =>
    rw [hl] at h2
    cases r with
    | none => simp at h2
    | some p =>
      simp only [Option.map_some, if_true, Option.some.injEq] at h2
      simp [Instr.lookup, run_underlying ht, getObj, Sem.run, hb, hck, hf, h2]

/-- 's[k] = true' of a new key. -/
theorem run_mapUpdate_set {P : Program} (w : World) (t kt et : TypeId) (ht : P.underlying t = some (.map kt et)) (hk : P.underlying kt = some (.int .i64))
    (b : Nat) (l : List Int) (h : SetRep w b l) (a : Int) (hn : l.contains a = false) :
    ∃ w', (Instr.mapUpdate t (.map (some b)) (.int .i64 a) (.bool true)).run P w = .ok () w' ∧ SetRep w' b (l ++ [a]) ∧ Fr (fun k => k = b) w w' := by
  obtain ⟨es, clock, hb, he⟩ := h
  obtain ⟨r, h1, h2⟩ := findNow_set a es.toList l 0 he
  rw [hn] at h2
  cases r with
  | some p => simp at h2
  | none =>
    have hf : ∀ w, (Instr.findKey kt (.int .i64 a) es.toList).run P w = .ok none w := by
      intro w; simp [Instr.findKey, run_underlying hk, h1]
    have hck : ∀ (w : World) (e : Bool), (Instr.checkKey e 10000 kt (.int .i64 a)).run P w = .ok () w := fun w e => run_checkKey_int w kt hk 9999 e a
    refine ⟨{ w with heap := w.heap.setIfInBounds b (.map (es.push { key := .int .i64 a, val := .bool true, born := clock }) (clock + 1)) }, ?_, ?_, ?_⟩
    · simp [Instr.mapUpdate, run_underlying ht, getObj, setObj, Sem.run, hb, hck, hf]
    · have hlt := lt_of_block hb
      refine ⟨es.push { key := .int .i64 a, val := .bool true, born := clock }, clock + 1, by simp [hlt], ?_⟩
      simp only [Array.toList_push, List.map_append, List.map_cons, List.map_nil]
      rw [he]
    · refine ⟨rfl, rfl, rfl, by simp, fun k hk hs => ?_⟩
      have : b ≠ k := fun e => hs e.symm
      simp [Array.getElem?_setIfInBounds, this]

theorem SetRep.of_block {w w' : World} {b : Nat} {l : List Int} (h : SetRep w b l) (e : w'.heap[b]? = w.heap[b]?) : SetRep w' b l :=
  let ⟨es, c, h1, h2⟩ := h; ⟨es, c, e.trans h1, h2⟩

/-- A list of different ints in a range is not longer than the range. -/
theorem nodup_range_le : ∀ (n : Nat) (lo : Int) (l : List Int), l.Nodup → (∀ a ∈ l, lo ≤ a ∧ a < lo + (n : Int)) → l.length ≤ n
  | 0, lo, l, _, h => by
    cases l with
    | nil => simp
    | cons a l => have := h a (by simp); omega
  | n + 1, lo, l, hn, h => by
    have h1 := nodup_range_le n lo (l.erase (lo + (n : Int))) (hn.erase _) (fun a ha => by
      have ha' := (hn.mem_erase_iff).1 ha
      have := h a ha'.2
      have := ha'.1
      omega)
    have h2 : l.length ≤ (l.erase (lo + (n : Int))).length + 1 := by rw [List.length_erase]; split <;> omega
    omega

theorem Try.infoInt : (Try.prog.info? 3).map (fun i => (i.zero, i.size, i.bytes)) = some (some (.int .i64 0), 1, 8) := by kernel_rfl
theorem zeroBool' : ∀ w, (zeroValue 4).run Try.prog w = .ok (.bool false) w := Try.zeroBool

/-- What needed works on. -/
structure NR (W : World) (L : ML) (m : Mem) (B : Nat) (X : Nat → Prop) (l : List Int) : Prop where
  rep : MemRep W L m
  fpl : ∀ k ∈ L.fp, k < B
  Dl : ∀ k, L.D k → k < B
  b0 : W.heap[B]? = some (box (ptrV L.b) 27)
  b1 : SetRep W (B + 1) l
  b2 : W.heap[B + 2]? = some (box (.map (some (B + 1))) 174)
  b3 : ∃ v, W.heap[B + 3]? = some (box v 34) ∧ W.ownsRow (B + 5) 3 1 v l.length (l.map (.int .i64)) ∧ ∀ k, v.ownBlock = some k → ¬ X k
  b4 : W.heap[B + 4]? = some (box (.func (.func 116) #[] #[ptrV B, ptrV (B + 2), ptrV (B + 3)]) 175)
  nd : l.Nodup
  yg : ∀ a ∈ l, m.young.begins a = true
  X5 : ∀ k, X k → B + 5 ≤ k ∧ k < W.heap.size

theorem NR.len {W : World} {L : ML} {m : Mem} {B : Nat} {X : Nat → Prop} {l : List Int} (h : NR W L m B X l) : l.length ≤ m.young.used := by
  refine nodup_range_le _ (m.young.frm : Int) l h.nd fun a ha => ?_
  have := h.yg a ha
  simp only [Sp.begins, Sp.has, Bool.and_eq_true, decide_eq_true_eq] at this
  exact this.1

/-- What is done elsewhere. -/
theorem NR.fr {W W' : World} {L : ML} {m : Mem} {B : Nat} {X X' : Nat → Prop} {l : List Int} (h : NR W L m B X l) (hf : Fr X' W W') (hX : ∀ k, X' k → X k ∨ W.heap.size ≤ k) (hX' : ∀ k, X' k → k < W'.heap.size) : NR W' L m B X' l := by
  have hs := lt_of_block h.b4
  have n : ∀ k, k < B + 5 → ¬ X' k := fun k hk q => by
    rcases hX k q with q | q
    · have := (h.X5 k q).1; omega
    · omega
  obtain ⟨v, h1, h2, h3⟩ := h.b3
  have hv : ∀ k, v.ownBlock = some k → ¬ X' k := fun k hk q => by
    rcases hX k q with q | q
    · exact h3 k hk q
    · have := (h2.lt k hk).2; omega
  refine ⟨h.rep.fr hf (fun k hk => n k (by have := h.fpl k hk; omega)) (fun k hk => n k (by have := h.Dl k hk; omega)), h.fpl, h.Dl, hf.blk h.b0 (n _ (by omega)),
    h.b1.of_block (hf.block _ (by omega) (n _ (by omega))), hf.blk h.b2 (n _ (by omega)), ⟨v, hf.blk h1 (n _ (by omega)), ?_, hv⟩, hf.blk h.b4 (n _ (by omega)), h.nd, h.yg, fun k hk => ⟨?_, hX' k hk⟩⟩
  · refine ownsRow_of_blocks h2 fun k hk => ?_
    have hk' : v.ownBlock = some k := by
      rcases h2.2 with ⟨rfl, _⟩ | ⟨g, cap, cur, rfl, _⟩
      · simp [kvBlocks] at hk
      · simp [kvBlocks] at hk; subst hk; rfl
    exact hf.block k (h2.lt k hk').2 (hv k hk')
  · rcases hX k hk with q | q
    · exact (h.X5 k q).1
    · omega
/-- What 'meet' turns. -/
def MeetS (B : Nat) (X : Nat → Prop) (k : Nat) : Prop := k = B + 1 ∨ k = B + 3 ∨ (B + 5 ≤ k ∧ ¬ X k)
theorem MeetS.ge {B : Nat} {X : Nat → Prop} {k : Nat} (h : MeetS B X k) : B ≤ k := by rcases h with h | h | h <;> omega

theorem NR.drewN {W : World} {L : ML} {m : Mem} {B : Nat} {X : Nat → Prop} {l : List Int} (h : NR W L m B X l) (n : Nat) : NR (W.drewN n) L m B X l :=
  h.fr ((Fr.refl _ W).drewN n) (fun _ q => .inl q) (fun k q => (h.X5 k q).2)

theorem wpList_append_run {P : Program} {w : World} {ops : Array Oper} {rest : List Oper} {o : Oper} {a : Act} {Q : Exit → Act → World → Prop} (hgd : o.guard = none) (s x : Operand) (t : TypeId)
    (ho : o.op = .call { callee := .builtin .append, args := #[s, x], argTypes := #[t, t] }) (v u : Value) (hs : a.eval s = v) (hx : a.eval x = u) (v' : Value) (w' : World)
    (hr : (Builtin.append_ #[t, t] o.type #[v, u]).run P w = .ok v' w') (h : wpList P ops Q rest (a.put o.dst v') w') : wpList P ops Q (o :: rest) a w := by
  refine wpList_plain hgd fun K hK => ?_
  unfold Oper.wp execOp
  simp only [ho, resolve, invoke, builtin, Sem.run_bind, Sem.run_pure, Result.andThen_ok, List.map_toArray, List.map_cons, List.map_nil, hs, hx, hr]
  exact hK _ _ h

theorem ownsRow_slice {W : World} {base : Nat} {e : TypeId} {size : Nat} {v : Value} {k : Nat} {xs : List Value} (h : W.ownsRow base e size v k xs) : ∃ p cap, v = .slice p k cap := by
  rcases h.2 with ⟨rfl, h0⟩ | ⟨g, cap, _, rfl, _⟩
  · exact ⟨none, 0, by rw [h0]⟩
  · exact ⟨_, cap, rfl⟩

set_option maxRecDepth 100000 in
theorem c_meet (W : World) (L : ML) (m : Mem) (B : Nat) (X : Nat → Prop) (l : List Int) (h : NR W L m B X l) (a : Int) :
    Calls Try.prog 116 #[.int .i64 a, .pointer (some ⟨B, 0, none⟩), .pointer (some ⟨B + 2, 0, none⟩), .pointer (some ⟨B + 3, 0, none⟩)] W fun e W' => e = .returned (.tuple #[]) ∧ NR W' L m B X (m.meetY l a) ∧ Fr (MeetS B X) W W' := by
  have hcb := c_begins W _ _ h.rep.y a
  have d0 : W.cell? ⟨B, 0, none⟩ = some (.pointer (some ⟨L.b, 0, none⟩)) := by rw [cell_of h.b0]; rfl
  have d1 := h.rep.c1
  cases hb : m.young.begins a with
  | false =>
    rw [hb] at hcb
    have hm : m.meetY l a = l := by unfold Mem.meetY; rw [hb]; rfl
    rw [hm]
    clear hb hm
    go_enter Try.func116, Try.ntmps116
    go_wp2_with (fail)
    refine hcb.mono ?_
    rintro e w1 ⟨rfl, n, rfl⟩
    go_wp2
    go_end0
    exact ⟨rfl, h.drewN n, (Fr.refl _ W).drewN n⟩
  | true =>
    rw [hb] at hcb
    cases hl : l.contains a with
    | true =>
      have hm : m.meetY l a = l := by unfold Mem.meetY; rw [hb, hl]; rfl
      rw [hm]
      go_enter Try.func116, Try.ntmps116
      go_wp2_with (fail)
      refine hcb.mono ?_
      rintro e w1 ⟨rfl, n, rfl⟩
      have h1 := h.drewN n
      have f1 : Fr (MeetS B X) W (W.drewN n) := (Fr.refl _ W).drewN n
      generalize W.drewN n = W1 at *
      have e2 : W1.cell? ⟨B + 2, 0, none⟩ = some (.map (some (B + 1))) := by rw [cell_of h1.b2]; rfl
      have hlk := run_lookup_set (P := Try.prog) W1 174 3 4 Try.underlying174 Try.underlying3 zeroBool' (B + 1) l h1.b1 a
      rw [hl] at hlk
      clear hb hm hl
      go_wp2
      go_end0
      exact ⟨rfl, h1, f1⟩
    | false =>
      have hm : m.meetY l a = l ++ [a] := by unfold Mem.meetY; rw [hb, hl]; rfl
      rw [hm]
      go_enter Try.func116, Try.ntmps116
      go_wp2_with (fail)
      refine hcb.mono ?_
      rintro e w1 ⟨rfl, n, rfl⟩
      have h1 := h.drewN n
      have f1 : Fr (MeetS B X) W (W.drewN n) := (Fr.refl _ W).drewN n
      generalize W.drewN n = W1 at *
      have e2 : W1.cell? ⟨B + 2, 0, none⟩ = some (.map (some (B + 1))) := by rw [cell_of h1.b2]; rfl
      have hlk := run_lookup_set (P := Try.prog) W1 174 3 4 Try.underlying174 Try.underlying3 zeroBool' (B + 1) l h1.b1 a
      rw [hl] at hlk
      obtain ⟨W2, hmu, hs2, f2⟩ := run_mapUpdate_set (P := Try.prog) W1 174 3 4 Try.underlying174 Try.underlying3 (B + 1) l h1.b1 a hl
      obtain ⟨v, g3, o3, x3⟩ := h1.b3
      have hsz := lt_of_block h1.b4
      have e3 : W2.cell? ⟨B + 3, 0, none⟩ = some v := by rw [cell_of (f2.blk g3 (by omega))]; rfl
      have z3 : W2.frozen? ⟨B + 3, 0, none⟩ = false := free_of (f2.blk g3 (by omega)) 0
      obtain ⟨vp, vcap, hvs⟩ := ownsRow_slice o3
      have hvb : ∀ k, v.ownBlock = some k → B + 5 ≤ k := fun k hk => (o3.lt k hk).1
      have o2 : W2.ownsRow (B + 5) 3 1 v l.length (l.map (.int .i64)) := ownsRow_of_blocks o3 fun k hk => f2.block k (ownsRow_lt o3 hk) (by
        have : v.ownBlock = some k := by
          rcases o3.2 with ⟨rfl, _⟩ | ⟨g, cap, cur, rfl, _⟩
          · simp [kvBlocks] at hk
          · simp [kvBlocks] at hk; subst hk; rfl
        have := hvb k this; omega)
      obtain ⟨i0, hi, hz0, hz1, hz2⟩ := info_parts Try.infoInt
      have hlen := h1.len
      have hle := h1.rep.y.le
      have hle1 := h1.rep.y.b1
      obtain ⟨v', W4, hap, o4, g4, _, at4⟩ := run_append_own_at (P := Try.prog) (W2.alloc (.cells #[.int .i64 a] 3)) (B + 5) 34 34 3 i0 (.int .i64 0) 1 8 Try.underlying34 hi hz0 hz1 hz2 rfl (by decide) v l.length _ (o2.alloc _)
        ⟨W2.heap.size, 0, none⟩ 1 1 [.int .i64 a] rfl (cell_one_new _ _ _) (by simp [Value.oneCell']) (by simp only [maxLen]; omega) (by omega) (by simp; have := f2.size; omega)
      obtain ⟨g', cap', rfl⟩ := ownsRow_succ o4
      have hs12 := f2.size
      have hgb : ∀ k, k < W2.heap.size → v.ownBlock ≠ some k → W4.heap[k]? = W2.heap[k]? := fun k hk hne =>
        (g4.block k (by simp; omega) (fun e => hne e.symm)).trans (al_old _ _ _ hk)
      have hb4 : W4.heap[B + 3]? = some (box v 34) := (hgb _ (by omega) (fun e => by have := hvb _ e; omega)).trans (f2.blk g3 (by omega))
      have e4 : W4.cell? ⟨B + 3, 0, none⟩ = some v := by rw [cell_of hb4]; rfl
      have z4 : W4.frozen? ⟨B + 3, 0, none⟩ = false := free_of hb4 0
      have hs24 : W2.heap.size ≤ W4.heap.size := by have := g4.size; simp at this; omega
      have f5 : Fr (fun k => k = B + 1 ∨ k = B + 3 ∨ v.ownBlock = some k) W1 (W4.setCell ⟨B + 3, 0, none⟩ (.slice (some ⟨g', 0, none⟩) (l.length + 1) cap')) := by
        have q : Fr (fun k => k = B + 1 ∨ k = B + 3 ∨ v.ownBlock = some k) W1 W4 :=
          ⟨g4.os.trans f2.os, g4.tape.trans f2.tape, g4.output.trans f2.output, by omega, fun k hk hne => (hgb k (by omega) (fun e => hne (.inr (.inr e)))).trans (f2.block k hk (fun e => hne (.inl e)))⟩
        exact q.setCell _ _ (.inl (.inr (.inl rfl)))
      have hb5 : (W4.setCell ⟨B + 3, 0, none⟩ (.slice (some ⟨g', 0, none⟩) (l.length + 1) cap')).heap[B + 3]? = some (box (.slice (some ⟨g', 0, none⟩) (l.length + 1) cap') 34) := by
        rw [heap_setCell_same _ hb4]; rfl
      have o5 : (W4.setCell ⟨B + 3, 0, none⟩ (.slice (some ⟨g', 0, none⟩) (l.length + 1) cap')).ownsRow (B + 5) 3 1 (.slice (some ⟨g', 0, none⟩) (l.length + 1) cap') (l.length + 1) (l.map (.int .i64) ++ [.int .i64 a]) :=
        ownsRow_of_blocks o4 fun k hk => by
          have : k = g' := by simpa [kvBlocks] using hk
          have h5 := (o4.lt g' rfl).1
          exact (Fr.setCell (Fr.refl (fun q => q = B + 3) W4) ⟨B + 3, 0, none⟩ _ (.inl rfl)).block k (by subst this; exact (o4.lt _ rfl).2) (by omega)
      have s5 : SetRep (W4.setCell ⟨B + 3, 0, none⟩ (.slice (some ⟨g', 0, none⟩) (l.length + 1) cap')) (B + 1) (l ++ [a]) := by
        refine hs2.of_block ?_
        refine ((Fr.setCell (Fr.refl (fun q => q = B + 3) W4) ⟨B + 3, 0, none⟩ _ (.inl rfl)).block (B + 1) (by omega) (by omega)).trans ?_
        exact hgb _ (by omega) (fun e => by have := hvb _ e; omega)
      have hnot : ∀ k, k < B ∨ k = B ∨ k = B + 2 ∨ k = B + 4 → ¬ (k = B + 1 ∨ k = B + 3 ∨ v.ownBlock = some k) := fun k hk q => by
        rcases q with q | q | q
        · omega
        · omega
        · have := hvb _ q; omega
      have hxx : ∀ k, (Value.slice (some ⟨g', 0, none⟩) (l.length + 1) cap').ownBlock = some k → ¬ X k := fun k hk q => by
        rcases at4 with e | e
        · exact x3 k (by rw [← e]; exact hk) q
        · rw [hk] at e
          have := (h1.X5 k q).2
          simp at e
          omega
      have hfin : NR (W4.setCell ⟨B + 3, 0, none⟩ (.slice (some ⟨g', 0, none⟩) (l.length + 1) cap')) L m B X (l ++ [a]) :=
        ⟨h1.rep.fr f5 (fun k hk => hnot k (.inl (h1.fpl k hk))) (fun k hk => hnot k (.inl (h1.Dl k hk))), h1.fpl, h1.Dl, f5.blk h1.b0 (hnot _ (by omega)), s5, f5.blk h1.b2 (hnot _ (by omega)),
          ⟨_, hb5, by rw [List.length_append, List.map_append]; exact o5, hxx⟩, f5.blk h1.b4 (hnot _ (by omega)),
          List.nodup_append.2 ⟨h1.nd, by simp, fun x hx y hy e => by simp at hy; subst hy; subst e; rw [List.contains_eq_mem] at hl; simp [hx] at hl⟩,
          fun x hx => by rcases List.mem_append.1 hx with q | q; exact h1.yg x q; (simp at q; subst q; exact hb), fun k hk => ⟨(h1.X5 k hk).1, Nat.lt_of_lt_of_le (h1.X5 k hk).2 f5.size⟩⟩
      have hffin : Fr (MeetS B X) W (W4.setCell ⟨B + 3, 0, none⟩ (.slice (some ⟨g', 0, none⟩) (l.length + 1) cap')) := by
        refine f1.trans (f5.mono fun k hk q => ?_)
        rcases q with q | q | q
        · exact .inl q
        · exact .inr (.inl q)
        · exact .inr (.inr ⟨hvb _ q, x3 k q⟩)
      clear hxx hnot s5 o5 hb5 f5 hgb at4 x3 o4 o2 hs2 g4
      subst hvs
      clear hl hm hb hcb
      go_wp2_with (at_builtin; refine wpList_append_run rfl _ _ 34 rfl _ _ rfl rfl _ _ hap ?_)
      go_end0
      exact ⟨rfl, hfin, hffin⟩
end Go.Proofs.Ytnedmmopkhmejaa
