/- How a memory of package heap lies in the model's world: the blocks, what stays where nothing of them is written, and what a store does to them. No function of the program is walked here. -/
import Derived.WalkKit
import Derived.Deep.QuietTactic
import Derived.BigQuiet
import Derived.Test.YtnedmmopkhmejaaKHPure
set_option linter.unusedVariables false
set_option linter.unusedSimpArgs false
namespace Go.Proofs.Ytnedmmopkhmejaa
open Go.RowKit Go.Proofs.Hp

/-- But for the blocks in S nothing that was there has turned. -/
structure Fr (S : Nat → Prop) (w w' : World) : Prop where
  os : w'.os = w.os
  tape : w'.tape = w.tape
  output : w'.output = w.output
  size : w.heap.size ≤ w'.heap.size
  block : ∀ k, k < w.heap.size → ¬ S k → w'.heap[k]? = w.heap[k]?

theorem Fr.refl (S : Nat → Prop) (w : World) : Fr S w w := ⟨rfl, rfl, rfl, Nat.le_refl _, fun _ _ _ => rfl⟩
theorem Fr.mono {S T : Nat → Prop} {w w' : World} (h : Fr S w w') (hs : ∀ k, k < w.heap.size → S k → T k) : Fr T w w' := ⟨h.os, h.tape, h.output, h.size, fun k hk ht => h.block k hk (fun hsk => ht (hs k hk hsk))⟩
theorem Fr.trans {S : Nat → Prop} {w w1 w2 : World} (h : Fr S w w1) (h' : Fr S w1 w2) : Fr S w w2 :=
  ⟨h'.os.trans h.os, h'.tape.trans h.tape, h'.output.trans h.output, Nat.le_trans h.size h'.size, fun k hk hs => (h'.block k (Nat.lt_of_lt_of_le hk h.size) hs).trans (h.block k hk hs)⟩
/-- The second step may touch what the first one made. -/
theorem Fr.trans' {S T : Nat → Prop} {w w1 w2 : World} (h : Fr S w w1) (h' : Fr T w1 w2) (hT : ∀ k, T k → S k ∨ w.heap.size ≤ k) : Fr S w w2 :=
  ⟨h'.os.trans h.os, h'.tape.trans h.tape, h'.output.trans h.output, Nat.le_trans h.size h'.size, fun k hk hs => (h'.block k (Nat.lt_of_lt_of_le hk h.size) (fun t => (hT k t).elim hs (fun q => by omega))).trans (h.block k hk hs)⟩
theorem Fr.drewN {S : Nat → Prop} {w w' : World} (h : Fr S w w') (n : Nat) : Fr S w (w'.drewN n) := ⟨h.os, h.tape, h.output, h.size, h.block⟩
theorem Fr.drew {S : Nat → Prop} {w w' : World} (h : Fr S w w') : Fr S w w'.drew := ⟨h.os, h.tape, h.output, h.size, h.block⟩
theorem Fr.of_drewN {S : Nat → Prop} {w w' : World} (n : Nat) (h : Fr S (w.drewN n) w') : Fr S w w' := ⟨h.os, h.tape, h.output, h.size, h.block⟩
theorem Fr.setCell {S : Nat → Prop} {w w' : World} (h : Fr S w w') (a : Addr) (v : Value) (ha : S a.block ∨ w.heap.size ≤ a.block) : Fr S w (w'.setCell a v) :=
  ⟨h.os, h.tape, h.output, by simpa [World.setCell] using h.size, fun k hk hs => (Below.heap_setCell _ _ _ _ (fun e => by subst e; exact ha.elim hs (fun q => by omega))).trans (h.block k hk hs)⟩
theorem Fr.alloc {S : Nat → Prop} {w w' : World} (h : Fr S w w') (o : Obj) : Fr S w (w'.alloc o) :=
  ⟨h.os, h.tape, h.output, by have := h.size; simp; omega, fun k hk hs => (Below.heap_alloc _ _ _ (Nat.lt_of_lt_of_le hk h.size)).trans (h.block k hk hs)⟩
theorem Fr.setRow {S : Nat → Prop} {w w' : World} (h : Fr S w w') (g : Nat) (cs : Array Value) (hg : S g ∨ w.heap.size ≤ g) : Fr S w (w'.setRow g cs) :=
  ⟨h.os, h.tape, h.output, by simpa [World.setRow] using h.size, fun k hk hs => (setRow_other w' g k cs (fun e => by subst e; exact hg.elim hs (fun q => by omega))).trans (h.block k hk hs)⟩
theorem Fr.of_below {S : Nat → Prop} {w w' : World} (h : Below w.heap.size w w') : Fr S w w' := ⟨h.os, h.tape, h.output, h.size, fun k hk _ => h.block k hk⟩
theorem Fr.below {w w' : World} (h : Fr (fun _ => False) w w') : Below w.heap.size w w' := ⟨h.os, h.tape, h.output, h.size, fun k hk => h.block k hk id⟩
theorem Fr.cell {S : Nat → Prop} {w w' : World} (h : Fr S w w') {b o : Nat} {v : Value} (hc : w.cell? ⟨b, o, none⟩ = some v) (hs : ¬ S b) : w'.cell? ⟨b, o, none⟩ = some v := by
  have hlt : b < w.heap.size := by
    rcases Nat.lt_or_ge b w.heap.size with h' | h'
    · exact h'
    · simp [World.cell?, Array.getElem?_eq_none h'] at hc
  rw [← hc]; exact World.cell?_of_block (w := w) (h.block b hlt hs)

theorem Fr.free {S : Nat → Prop} {w w' : World} (h : Fr S w w') {b o : Nat} {v : Value} (hc : w.cell? ⟨b, o, none⟩ = some v) (hf : w.frozen? ⟨b, o, none⟩ = false) (hs : ¬ S b) : w'.frozen? ⟨b, o, none⟩ = false := by
  have hlt : b < w.heap.size := by
    rcases Nat.lt_or_ge b w.heap.size with h' | h'
    · exact h'
    · simp [World.cell?, Array.getElem?_eq_none h'] at hc
  rw [← hf]; exact World.frozen?_of_block (w := w) (h.block b hlt hs)

theorem lt_of_block {w : World} {b : Nat} {o : Obj} (h : w.heap[b]? = some o) : b < w.heap.size := by
  rcases Nat.lt_or_ge b w.heap.size with h' | h'
  · exact h'
  · simp [Array.getElem?_eq_none h'] at h
theorem Fr.blk {S : Nat → Prop} {w w' : World} (h : Fr S w w') {b : Nat} {o : Obj} (hb : w.heap[b]? = some o) (hs : ¬ S b) : w'.heap[b]? = some o := (h.block b (lt_of_block hb) hs).trans hb

theorem cell_of {w : World} {b : Nat} {c : Array Value} {T : TypeId} {fz : Nat × Nat} (h : w.heap[b]? = some (.cells c T fz)) (i : Nat) : w.cell? ⟨b, i, none⟩ = c[i]? := by
  simp [World.cell?, h]
theorem free_of {w : World} {b : Nat} {c : Array Value} {T : TypeId} (h : w.heap[b]? = some (.cells c T (0, 0))) (i : Nat) : w.frozen? ⟨b, i, none⟩ = false := by
  simp [World.frozen?, h]

theorem heap_setCell_same {w : World} {b i : Nat} {c : Array Value} {T : TypeId} {fz : Nat × Nat} (v : Value) (h : w.heap[b]? = some (.cells c T fz)) :
    (w.setCell ⟨b, i, none⟩ v).heap[b]? = some (.cells (c.setIfInBounds i v) T fz) := by
  simp [World.setCell, Array.getElem?_modify, h]

theorem take_xs_drop (l : List Value) (i : Nat) (xs : List Value) (j : Nat) (h : i + xs.length ≤ l.length) :
    (l.take i ++ xs ++ l.drop (i + xs.length))[j]? = if j < i then l[j]? else if j < i + xs.length then xs[j - i]? else l[j]? := by
  by_cases a1 : j < i
  · rw [List.append_assoc, List.getElem?_append_left (by simp; omega), List.getElem?_take_of_lt a1, if_pos a1]
  · have e1 : (l.take i).length = i := by simp; omega
    rw [List.append_assoc, List.getElem?_append_right (by omega), e1, if_neg a1]
    by_cases a2 : j < i + xs.length
    · rw [List.getElem?_append_left (by omega), if_pos a2]
    · rw [List.getElem?_append_right (by omega), if_neg a2, List.getElem?_drop]
      congr 1; omega

/-- A store of what is there. -/
theorem setCell_id {w : World} {b o : Nat} {v : Value} (h : w.cell? ⟨b, o, none⟩ = some v) : w.setCell ⟨b, o, none⟩ v = w := by
  unfold World.cell? at h
  cases hb : w.heap[b]? with
  | none => simp [hb] at h
  | some x =>
    cases x with
    | cells c T fz =>
      simp [hb] at h
      have hlt := lt_of_block hb
      have hc : c.setIfInBounds o v = c := by
        apply Array.ext_getElem?
        intro i
        rw [Array.getElem?_setIfInBounds]
        split
        · rename_i e; subst e
          split
          · exact h.symm
          · rename_i hn; simp at hn; rw [Array.getElem?_eq_none (by omega)]
        · rfl
      rw [setCell_eq_setRow w b o c T fz v hb, hc]
      exact setRow_self w b c T fz hb
    | _ => simp [hb] at h

/-- A block holds the values vs in its first cells. -/
def Row (w : World) (b : Nat) (T : TypeId) (vs : List Value) : Prop :=
  ∃ c : Array Value, w.heap[b]? = some (.cells c T (0, 0)) ∧ vs.length ≤ c.size ∧ ∀ i, i < vs.length → c[i]? = vs[i]?

theorem Row.of_block {w w' : World} {b : Nat} {T : TypeId} {vs : List Value} (h : Row w b T vs) (e : w'.heap[b]? = w.heap[b]?) : Row w' b T vs := by
  obtain ⟨c, h1, h2⟩ := h; exact ⟨c, e.trans h1, h2⟩
theorem Row.lt {w : World} {b : Nat} {T : TypeId} {vs : List Value} (h : Row w b T vs) : b < w.heap.size := by
  obtain ⟨c, h1, _⟩ := h; exact lt_of_block h1
theorem Row.cell {w : World} {b : Nat} {T : TypeId} {vs : List Value} (h : Row w b T vs) {i : Nat} (hi : i < vs.length) : w.cell? ⟨b, i, none⟩ = some vs[i] := by
  obtain ⟨c, h1, _, h3⟩ := h; rw [cell_of h1, h3 i hi]; simp [hi]
theorem Row.free {w : World} {b : Nat} {T : TypeId} {vs : List Value} (h : Row w b T vs) (i : Nat) : w.frozen? ⟨b, i, none⟩ = false := by
  obtain ⟨c, h1, _⟩ := h; exact free_of h1 i
theorem Row.set {w : World} {b : Nat} {T : TypeId} {vs : List Value} (h : Row w b T vs) {i : Nat} (hi : i < vs.length) (v : Value) : Row (w.setCell ⟨b, i, none⟩ v) b T (vs.set i v) := by
  obtain ⟨c, h1, h2, h3⟩ := h
  refine ⟨c.setIfInBounds i v, heap_setCell_same v h1, by simpa using h2, fun j hj => ?_⟩
  simp only [List.length_set] at hj
  rw [Array.getElem?_setIfInBounds, List.getElem?_set]
  by_cases e : i = j
  · subst e; simp [hi]; omega
  · simp [e, h3 j hj]
theorem Row.setRow {w : World} {b : Nat} {T : TypeId} {vs : List Value} (h : Row w b T vs) (i : Nat) (xs : List Value) (hx : i + xs.length ≤ vs.length) :
    ∃ c, w.heap[b]? = some (.cells c T (0, 0)) ∧ i + xs.length ≤ c.size ∧ Row (w.setRow b (c.toList.take i ++ xs ++ c.toList.drop (i + xs.length)).toArray) b T (vs.take i ++ xs ++ vs.drop (i + xs.length)) := by
  obtain ⟨c, h1, h2, h3⟩ := h
  refine ⟨c, h1, by omega, _, setRow_heap w b c _ T _ h1, by simp; omega, fun j hj => ?_⟩
  simp only [List.length_append, List.length_take, List.length_drop] at hj
  simp only [List.getElem?_toArray]
  rw [take_xs_drop c.toList i xs j (by simp; omega), take_xs_drop vs i xs j hx]
  have := h3 j (by omega)
  simp only [Array.getElem?_toList, this]

theorem al_same (w : World) (o : Obj) : (w.alloc o).heap[w.heap.size]? = some o := by show (w.heap.push o)[w.heap.size]? = _; simp
theorem al_at (w : World) (o : Obj) (k : Nat) (h : k = w.heap.size) : (w.alloc o).heap[k]? = some o := by rw [h]; exact al_same w o
theorem al_old (w : World) (o : Obj) (k : Nat) (h : k < w.heap.size) : (w.alloc o).heap[k]? = w.heap[k]? := Below.heap_alloc w o k h
theorem al_size (w : World) (o : Obj) : (w.alloc o).heap.size = w.heap.size + 1 := by show (w.heap.push o).size = _; simp
theorem al2 (w : World) (a b : Obj) : ((w.alloc a).alloc b).drew.heap[w.heap.size]? = some a ∧ ((w.alloc a).alloc b).drew.heap[w.heap.size + 1]? = some b := by
  refine ⟨?_, ?_⟩
  · show ((w.alloc a).alloc b).heap[w.heap.size]? = some a
    rw [al_old _ _ _ (by simp only [al_size]; omega), al_same]
  · show ((w.alloc a).alloc b).heap[w.heap.size + 1]? = some b
    rw [al_at _ _ _ (by simp only [al_size])]
theorem al3 (w : World) (a b c : Obj) : (((w.alloc a).alloc b).alloc c).heap[w.heap.size]? = some a ∧ (((w.alloc a).alloc b).alloc c).heap[w.heap.size + 1]? = some b ∧ (((w.alloc a).alloc b).alloc c).heap[w.heap.size + 1 + 1]? = some c := by
  refine ⟨?_, ?_, ?_⟩
  · rw [al_old _ _ _ (by simp only [al_size]; omega), al_old _ _ _ (by simp only [al_size]; omega), al_same]
  · rw [al_old _ _ _ (by simp only [al_size]; omega), al_at _ _ _ (by simp only [al_size])]
  · rw [al_at _ _ _ (by simp only [al_size])]

/-- Where a space lies: its own block, that of its words (with the slice's capacity), that of its starts. -/
structure SpL where
  b : Nat
  wb : Nat
  wc : Nat
  sb : Nat
  sc : Nat
def SpL.fp (l : SpL) : List Nat := [l.b, l.wb, l.sb]

def spBlock (L : SpL) (s : Sp) : Obj :=
  .cells #[.slice (some ⟨L.wb, 0, none⟩) s.words.length L.wc, .int .i64 s.frm, .int .i64 s.used, .slice (some ⟨L.sb, 0, none⟩) s.starts.length L.sc] 117 (0, 0)

structure SpRep (w : World) (L : SpL) (s : Sp) : Prop where
  blk : w.heap[L.b]? = some (spBlock L s)
  ws : Row w L.wb 3 (s.words.map (Value.int .i64))
  ss : Row w L.sb 4 (s.starts.map Value.bool)
  nd : L.fp.Nodup
  pos : 0 < s.words.length
  le : s.used ≤ s.words.length
  len : s.starts.length = s.words.length
  b1 : s.words.length ≤ 1048576
  b2 : s.frm ≤ 1048576
  wc : s.words.length ≤ L.wc
  sc : s.starts.length ≤ L.sc

section
variable {w w' : World} {L : SpL} {s : Sp}
theorem SpRep.of_blocks (h : SpRep w L s) (e : ∀ k ∈ L.fp, w'.heap[k]? = w.heap[k]?) : SpRep w' L s :=
  ⟨(e _ (by simp [SpL.fp])).trans h.blk, h.ws.of_block (e _ (by simp [SpL.fp])), h.ss.of_block (e _ (by simp [SpL.fp])), h.nd, h.pos, h.le, h.len, h.b1, h.b2, h.wc, h.sc⟩
theorem SpRep.ne1 (h : SpRep w L s) : L.b ≠ L.wb := by have := h.nd; simp [SpL.fp] at this; omega
theorem SpRep.ne2 (h : SpRep w L s) : L.b ≠ L.sb := by have := h.nd; simp [SpL.fp] at this; omega
theorem SpRep.ne3 (h : SpRep w L s) : L.wb ≠ L.sb := by have := h.nd; simp [SpL.fp] at this; omega
theorem SpRep.lt (h : SpRep w L s) {k : Nat} (hk : k ∈ L.fp) : k < w.heap.size := by
  simp only [SpL.fp, List.mem_cons, List.not_mem_nil, or_false] at hk
  rcases hk with rfl | rfl | rfl
  · exact lt_of_block h.blk
  · exact h.ws.lt
  · exact h.ss.lt
theorem SpRep.c0 (h : SpRep w L s) : w.cell? ⟨L.b, 0, none⟩ = some (.slice (some ⟨L.wb, 0, none⟩) s.words.length L.wc) := by rw [cell_of h.blk]; rfl
theorem SpRep.c1 (h : SpRep w L s) : w.cell? ⟨L.b, 1, none⟩ = some (.int .i64 s.frm) := by rw [cell_of h.blk]; rfl
theorem SpRep.c2 (h : SpRep w L s) : w.cell? ⟨L.b, 2, none⟩ = some (.int .i64 s.used) := by rw [cell_of h.blk]; rfl
theorem SpRep.c3 (h : SpRep w L s) : w.cell? ⟨L.b, 3, none⟩ = some (.slice (some ⟨L.sb, 0, none⟩) s.starts.length L.sc) := by rw [cell_of h.blk]; rfl
theorem SpRep.fb (h : SpRep w L s) (i : Nat) : w.frozen? ⟨L.b, i, none⟩ = false := free_of h.blk i
theorem SpRep.word (h : SpRep w L s) {i : Nat} (hi : i < s.words.length) : w.cell? ⟨L.wb, i, none⟩ = some (.int .i64 (s.words.getD i 0)) := by
  rw [h.ws.cell (i := i) (by simpa using hi)]; simp [hi]
theorem SpRep.fw (h : SpRep w L s) (i : Nat) : w.frozen? ⟨L.wb, i, none⟩ = false := h.ws.free i
theorem SpRep.start (h : SpRep w L s) {i : Nat} (hi : i < s.words.length) : w.cell? ⟨L.sb, i, none⟩ = some (.bool (s.starts.getD i false)) := by
  have := h.len
  rw [h.ss.cell (i := i) (by simp; omega)]; simp [show i < s.starts.length by omega]
theorem SpRep.fs (h : SpRep w L s) (i : Nat) : w.frozen? ⟨L.sb, i, none⟩ = false := h.ss.free i

/-- A store into another block. -/
theorem SpRep.setCell_other (h : SpRep w L s) {b i : Nat} {v : Value} (hb : b ∉ L.fp) : SpRep (w.setCell ⟨b, i, none⟩ v) L s :=
  h.of_blocks fun k hk => Below.heap_setCell _ _ _ _ (fun e => hb (by subst e; exact hk))
theorem SpRep.alloc (h : SpRep w L s) (o : Obj) : SpRep (w.alloc o) L s := h.of_blocks fun _ hk => Below.heap_alloc _ _ _ (h.lt hk)
theorem SpRep.drewN (h : SpRep w L s) (n : Nat) : SpRep (w.drewN n) L s := h.of_blocks fun _ _ => rfl
theorem SpRep.fr {S : Nat → Prop} (h : SpRep w L s) (hf : Fr S w w') (hS : ∀ k ∈ L.fp, ¬ S k) : SpRep w' L s := h.of_blocks fun k hk => hf.block k (h.lt hk) (hS k hk)
/-- A store of a word. -/
theorem SpRep.setWord (h : SpRep w L s) {i : Nat} (hi : i < s.words.length) (v : Int) : SpRep (w.setCell ⟨L.wb, i, none⟩ (.int .i64 v)) L { s with words := s.words.set i v } := by
  refine ⟨?_, ?_, ?_, h.nd, by simpa using h.pos, by simpa using h.le, by simpa using h.len, by simpa using h.b1, h.b2, by simpa using h.wc, by simpa using h.sc⟩
  · rw [Below.heap_setCell _ _ _ _ (fun e => h.ne1 e), h.blk]; simp [spBlock]
  · have := h.ws.set (i := i) (by simpa using hi) (.int .i64 v)
    rwa [← List.map_set] at this
  · exact h.ss.of_block (Below.heap_setCell _ _ _ _ (fun e => h.ne3 e.symm))
theorem SpRep.setStart (h : SpRep w L s) {i : Nat} (hi : i < s.words.length) (v : Bool) : SpRep (w.setCell ⟨L.sb, i, none⟩ (.bool v)) L { s with starts := s.starts.set i v } := by
  refine ⟨?_, ?_, ?_, h.nd, by simpa using h.pos, by simpa using h.le, by simpa using h.len, by simpa using h.b1, h.b2, by simpa using h.wc, by simpa using h.sc⟩
  · rw [Below.heap_setCell _ _ _ _ (fun e => h.ne2 e), h.blk]; simp [spBlock]
  · exact h.ws.of_block (Below.heap_setCell _ _ _ _ (fun e => h.ne3 e))
  · have := h.ss.set (i := i) (by have := h.len; simp; omega) (.bool v)
    rwa [← List.map_set] at this
/-- The count of taken words. -/
theorem SpRep.setUsed (h : SpRep w L s) {u : Nat} (hu : u ≤ s.words.length) : SpRep (w.setCell ⟨L.b, 2, none⟩ (.int .i64 u)) L { s with used := u } := by
  refine ⟨?_, ?_, ?_, h.nd, h.pos, hu, h.len, h.b1, h.b2, h.wc, h.sc⟩
  · rw [heap_setCell_same _ h.blk]; rfl
  · exact h.ws.of_block (Below.heap_setCell _ _ _ _ (fun e => h.ne1 e.symm))
  · exact h.ss.of_block (Below.heap_setCell _ _ _ _ (fun e => h.ne2 e.symm))
/-- A row of words. -/
theorem SpRep.setWords (h : SpRep w L s) (i : Nat) (xs : List Int) (hx : i + xs.length ≤ s.words.length) :
    ∃ c, w.heap[L.wb]? = some (.cells c 3 (0, 0)) ∧ i + xs.length ≤ c.size ∧
      SpRep (w.setRow L.wb (c.toList.take i ++ xs.map (Value.int .i64) ++ c.toList.drop (i + xs.length)).toArray) L { s with words := s.words.take i ++ xs ++ s.words.drop (i + xs.length) } := by
  obtain ⟨c, h1, h2, h3⟩ := h.ws.setRow i (xs.map (Value.int .i64)) (by simpa using hx)
  simp only [List.length_map] at h2 h3
  have hl : (s.words.take i ++ xs ++ s.words.drop (i + xs.length)).length = s.words.length := by simp; omega
  refine ⟨c, h1, h2, ?_, ?_, ?_, h.nd, by rw [hl]; exact h.pos, by rw [hl]; exact h.le, by rw [hl]; exact h.len, by rw [hl]; exact h.b1, h.b2, by rw [hl]; exact h.wc, h.sc⟩
  · rw [setRow_other _ _ _ _ h.ne1, h.blk]; simp only [spBlock, hl]
  · have e : (s.words.take i ++ xs ++ s.words.drop (i + xs.length)).map (Value.int .i64) = (s.words.map (Value.int .i64)).take i ++ xs.map (Value.int .i64) ++ (s.words.map (Value.int .i64)).drop (i + xs.length) := by
      simp [List.map_take, List.map_drop]
    rw [e]; exact h3
  · exact h.ss.of_block (setRow_other _ _ _ _ (fun e => h.ne3 e.symm))
end
end Go.Proofs.Ytnedmmopkhmejaa
