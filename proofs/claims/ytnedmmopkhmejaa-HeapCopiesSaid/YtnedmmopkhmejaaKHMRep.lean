/- How a whole memory of package heap lies in the world. -/
import Derived.Test.YtnedmmopkhmejaaKHRep
set_option linter.unusedVariables false
set_option linter.unusedSimpArgs false
namespace Go.Proofs.Ytnedmmopkhmejaa
open Go.RowKit Go.Proofs.Hp

/-- A slice of bools that reads as xs, in blocks of D (where it is not empty). -/
def BoolsAt (w : World) (D : Nat → Prop) (v : Value) (xs : List Bool) : Prop :=
  ∃ p cap, v = .slice p xs.length cap ∧ (xs = [] ∨ ∃ b o, p = some ⟨b, o, none⟩ ∧ D b ∧ ∀ i (h : i < xs.length), w.cell? ⟨b, o + i, none⟩ = some (.bool xs[i]))

/-- A slice of slices of bools. -/
def ShRep (w : World) (D : Nat → Prop) (v : Value) (ss : List (List Bool)) : Prop :=
  ∃ p cap, v = .slice p ss.length cap ∧ (ss = [] ∨ ∃ b o, p = some ⟨b, o, none⟩ ∧ D b ∧ ∀ i (h : i < ss.length), ∃ u, w.cell? ⟨b, o + i, none⟩ = some u ∧ BoolsAt w D u ss[i])

theorem cell_same {w w' : World} {b o : Nat} {v : Value} (e : w'.heap[b]? = w.heap[b]?) (h : w.cell? ⟨b, o, none⟩ = some v) : w'.cell? ⟨b, o, none⟩ = some v := by
  rw [← h]; exact World.cell?_of_block (w := w) e

theorem BoolsAt.of_blocks {w w' : World} {D : Nat → Prop} {v : Value} {xs : List Bool} (h : BoolsAt w D v xs) (e : ∀ k, D k → w'.heap[k]? = w.heap[k]?) : BoolsAt w' D v xs := by
  obtain ⟨p, cap, hv, h | ⟨b, o, hp, hD, hc⟩⟩ := h
  · exact ⟨p, cap, hv, .inl h⟩
  · exact ⟨p, cap, hv, .inr ⟨b, o, hp, hD, fun i hi => cell_same (e b hD) (hc i hi)⟩⟩
theorem ShRep.of_blocks {w w' : World} {D : Nat → Prop} {v : Value} {ss : List (List Bool)} (h : ShRep w D v ss) (e : ∀ k, D k → w'.heap[k]? = w.heap[k]?) : ShRep w' D v ss := by
  obtain ⟨p, cap, hv, h | ⟨b, o, hp, hD, hc⟩⟩ := h
  · exact ⟨p, cap, hv, .inl h⟩
  · exact ⟨p, cap, hv, .inr ⟨b, o, hp, hD, fun i hi => let ⟨u, h1, h2⟩ := hc i hi; ⟨u, cell_same (e b hD) h1, h2.of_blocks e⟩⟩⟩

/-- The shape at a number: its slice's value, and what it reads as. -/
theorem ShRep.at {w : World} {D : Nat → Prop} {v : Value} {ss : List (List Bool)} (h : ShRep w D v ss) {i : Nat} {l : List Bool} (hl : ss[i]? = some l) :
    ∃ b o cap u, v = .slice (some ⟨b, o, none⟩) ss.length cap ∧ i < ss.length ∧ w.cell? ⟨b, o + i, none⟩ = some u ∧ BoolsAt w D u l := by
  obtain ⟨p, cap, hv, h | ⟨b, o, hp, hD, hc⟩⟩ := h
  · subst h; simp at hl
  · obtain ⟨hi, he⟩ := List.getElem?_eq_some_iff.1 hl
    obtain ⟨u, h1, h2⟩ := hc i hi
    subst hp
    exact ⟨b, o, cap, u, hv, hi, h1, by rw [he] at h2; exact h2⟩

/-- The remembered fields. -/
def flatSlots (l : List (Int × Int)) : List Value := l.flatMap fun k => [.int .i64 k.1, .int .i64 k.2]
def kvBlocks : Value → List Nat
  | .slice (some a) _ _ => [a.block]
  | _ => []

/-- The entries of a map of ints. -/
def MapRep (w : World) (b : Nat) (l : List (Int × Int)) : Prop :=
  ∃ es clock, w.heap[b]? = some (.map es clock) ∧ es.toList.map (fun e => (e.key, e.val)) = l.map (fun p => (Value.int .i64 p.1, Value.int .i64 p.2)) ∧ Go.MapKept.Stamped es clock

structure ML where
  b : Nat
  y : SpL
  n : SpL
  o : SpL
  shv : Value
  kv : Value
  mb : Nat
  D : Nat → Prop
def ML.fp (L : ML) : List Nat := L.b :: L.mb :: (L.y.fp ++ (L.n.fp ++ (L.o.fp ++ kvBlocks L.kv)))

def ptrV (b : Nat) : Value := .pointer (some ⟨b, 0, none⟩)

def memBlock (L : ML) (m : Mem) : Obj :=
  .cells #[L.shv, ptrV L.y.b, ptrV L.n.b, ptrV L.o.b, L.kv, .bool m.busy, .int .i64 m.scan, .map (some L.mb), .int .i64 m.left] 100 (0, 0)

structure MemRep (w : World) (L : ML) (m : Mem) : Prop where
  blk : w.heap[L.b]? = some (memBlock L m)
  y : SpRep w L.y m.young
  n : SpRep w L.n m.now
  o : SpRep w L.o m.other
  kn : w.ownsRow 0 131 2 L.kv m.known.length (flatSlots m.known)
  mv : MapRep w L.mb m.moved
  sh : ShRep w L.D L.shv m.shapes
  nd : L.fp.Nodup
  dj : ∀ k ∈ L.fp, ¬ L.D k
  Dlt : ∀ k, L.D k → k < w.heap.size
  sl : m.shapes.length ≤ 60
  sll : ∀ l ∈ m.shapes, l.length ≤ 60
  sc0 : 0 ≤ m.scan
  sc1 : m.scan ≤ 4194304
  lf0 : 0 ≤ m.left
  lf1 : m.left ≤ 1048576
  kb : ∀ k ∈ m.known, 0 ≤ k.1 ∧ k.1 ≤ 4194304 ∧ 0 ≤ k.2 ∧ k.2 ≤ 60
  kl : m.known.length ≤ 1048576

/-- How a memory's blocks may turn. -/
structure Ev (L L' : ML) (w w' : World) : Prop where
  b : L'.b = L.b
  D : L'.D = L.D
  shv : L'.shv = L.shv
  fp : ∀ k ∈ L'.fp, k ∈ L.fp ∨ w.heap.size ≤ k
  fr : Fr (fun k => k ∈ L.fp) w w'
theorem Ev.refl (L : ML) (w : World) : Ev L L w w := ⟨rfl, rfl, rfl, fun _ h => .inl h, Fr.refl _ _⟩
theorem Ev.of_fr {L : ML} {w w' : World} (h : Fr (fun k => k ∈ L.fp) w w') : Ev L L w w' := ⟨rfl, rfl, rfl, fun _ h => .inl h, h⟩
theorem Ev.trans {L L1 L2 : ML} {w w1 w2 : World} (h : Ev L L1 w w1) (h' : Ev L1 L2 w1 w2) : Ev L L2 w w2 :=
  ⟨h'.b.trans h.b, h'.D.trans h.D, h'.shv.trans h.shv, fun k hk => (h'.fp k hk).elim (h.fp k) (fun q => .inr (Nat.le_trans h.fr.size q)), h.fr.trans' h'.fr h.fp⟩

theorem ownsRow_of_blocks {w w' : World} {base : Nat} {e : TypeId} {size : Nat} {v : Value} {n : Nat} {xs : List Value} (h : w.ownsRow base e size v n xs) (hb : ∀ k ∈ kvBlocks v, w'.heap[k]? = w.heap[k]?) : w'.ownsRow base e size v n xs := by
  obtain ⟨h1, h2 | ⟨g, cap, cur, hv, hg, hh, r⟩⟩ := h
  · exact ⟨h1, .inl h2⟩
  · exact ⟨h1, .inr ⟨g, cap, cur, hv, hg, (hb g (by rw [hv]; simp [kvBlocks])).trans hh, r⟩⟩

theorem ownsRow_lt {w : World} {base : Nat} {e : TypeId} {size : Nat} {v : Value} {n : Nat} {xs : List Value} (h : w.ownsRow base e size v n xs) {k : Nat} (hk : k ∈ kvBlocks v) : k < w.heap.size := by
  obtain ⟨h1, h2 | ⟨g, cap, cur, hv, hg, hh, r⟩⟩ := h
  · simp [h2, kvBlocks] at hk
  · rw [hv] at hk; simp [kvBlocks] at hk; subst hk; exact lt_of_block hh

section
variable {w w' : World} {L : ML} {m : Mem}

theorem MemRep.mem_fp {k : Nat} : k ∈ L.fp ↔ k = L.b ∨ k = L.mb ∨ k ∈ L.y.fp ∨ k ∈ L.n.fp ∨ k ∈ L.o.fp ∨ k ∈ kvBlocks L.kv := by
  simp [ML.fp]

theorem MemRep.lt (h : MemRep w L m) {k : Nat} (hk : k ∈ L.fp) : k < w.heap.size := by
  rcases mem_fp.1 hk with rfl | rfl | h1 | h1 | h1 | h1
  · exact lt_of_block h.blk
  · obtain ⟨es, c, h1, _⟩ := h.mv; exact lt_of_block h1
  · exact h.y.lt h1
  · exact h.n.lt h1
  · exact h.o.lt h1
  · exact ownsRow_lt h.kn h1

theorem MemRep.of_blocks (h : MemRep w L m) (e : ∀ k ∈ L.fp, w'.heap[k]? = w.heap[k]?) (eD : ∀ k, L.D k → w'.heap[k]? = w.heap[k]?) (hs : w.heap.size ≤ w'.heap.size) : MemRep w' L m where
  blk := (e _ (MemRep.mem_fp.2 (.inl rfl))).trans h.blk
  y := h.y.of_blocks fun k hk => e k (MemRep.mem_fp.2 (by simp [hk]))
  n := h.n.of_blocks fun k hk => e k (MemRep.mem_fp.2 (by simp [hk]))
  o := h.o.of_blocks fun k hk => e k (MemRep.mem_fp.2 (by simp [hk]))
  kn := ownsRow_of_blocks h.kn fun k hk => e k (MemRep.mem_fp.2 (by simp [hk]))
  mv := let ⟨es, c, h1, h2⟩ := h.mv; ⟨es, c, (e _ (MemRep.mem_fp.2 (.inr (.inl rfl)))).trans h1, h2⟩
  sh := h.sh.of_blocks eD
  nd := h.nd
  dj := h.dj
  Dlt := fun k hk => Nat.lt_of_lt_of_le (h.Dlt k hk) hs
  sl := h.sl
  sll := h.sll
  sc0 := h.sc0
  sc1 := h.sc1
  lf0 := h.lf0
  lf1 := h.lf1
  kb := h.kb
  kl := h.kl

/-- What is written elsewhere does not turn a memory. -/
theorem MemRep.fr {S : Nat → Prop} (h : MemRep w L m) (hf : Fr S w w') (hS : ∀ k ∈ L.fp, ¬ S k) (hD : ∀ k, L.D k → ¬ S k) : MemRep w' L m :=
  h.of_blocks (fun k hk => hf.block k (h.lt hk) (hS k hk)) (fun k hk => hf.block k (h.Dlt k hk) (hD k hk)) hf.size
theorem MemRep.drewN (h : MemRep w L m) (n : Nat) : MemRep (w.drewN n) L m := h.of_blocks (fun _ _ => rfl) (fun _ _ => rfl) (Nat.le_refl _)
theorem MemRep.drew (h : MemRep w L m) : MemRep w.drew L m := h.of_blocks (fun _ _ => rfl) (fun _ _ => rfl) (Nat.le_refl _)
theorem MemRep.alloc (h : MemRep w L m) (o : Obj) : MemRep (w.alloc o) L m := h.fr (S := fun _ => False) ((Fr.refl _ w).alloc o) (fun _ _ => id) (fun _ _ => id)
theorem MemRep.below (h : MemRep w L m) (hb : Below w.heap.size w w') : MemRep w' L m := h.fr (S := fun _ => False) (Fr.of_below hb) (fun _ _ => id) (fun _ _ => id)

theorem MemRep.c0 (h : MemRep w L m) : w.cell? ⟨L.b, 0, none⟩ = some L.shv := by rw [cell_of h.blk]; rfl
theorem MemRep.c1 (h : MemRep w L m) : w.cell? ⟨L.b, 1, none⟩ = some (.pointer (some ⟨L.y.b, 0, none⟩)) := by rw [cell_of h.blk]; rfl
theorem MemRep.c2 (h : MemRep w L m) : w.cell? ⟨L.b, 2, none⟩ = some (.pointer (some ⟨L.n.b, 0, none⟩)) := by rw [cell_of h.blk]; rfl
theorem MemRep.c3 (h : MemRep w L m) : w.cell? ⟨L.b, 3, none⟩ = some (.pointer (some ⟨L.o.b, 0, none⟩)) := by rw [cell_of h.blk]; rfl
theorem MemRep.c4 (h : MemRep w L m) : w.cell? ⟨L.b, 4, none⟩ = some L.kv := by rw [cell_of h.blk]; rfl
theorem MemRep.c5 (h : MemRep w L m) : w.cell? ⟨L.b, 5, none⟩ = some (.bool m.busy) := by rw [cell_of h.blk]; rfl
theorem MemRep.c6 (h : MemRep w L m) : w.cell? ⟨L.b, 6, none⟩ = some (.int .i64 m.scan) := by rw [cell_of h.blk]; rfl
theorem MemRep.c7 (h : MemRep w L m) : w.cell? ⟨L.b, 7, none⟩ = some (.map (some L.mb)) := by rw [cell_of h.blk]; rfl
theorem MemRep.c8 (h : MemRep w L m) : w.cell? ⟨L.b, 8, none⟩ = some (.int .i64 m.left) := by rw [cell_of h.blk]; rfl
theorem MemRep.fb (h : MemRep w L m) (i : Nat) : w.frozen? ⟨L.b, i, none⟩ = false := free_of h.blk i

def ML.spL (L : ML) : Wh → SpL
  | .y => L.y
  | .n => L.n
  | .o => L.o
theorem MemRep.spR (h : MemRep w L m) (wh : Wh) : SpRep w (L.spL wh) (m.sp wh) := by
  cases wh
  · exact h.y
  · exact h.n
  · exact h.o
theorem MemRep.spfp {k : Nat} {wh : Wh} (hk : k ∈ (L.spL wh).fp) : k ∈ L.fp := by
  refine mem_fp.2 ?_
  cases wh <;> simp [ML.spL] at hk <;> simp [hk]
/-- The blocks are apart. -/
theorem MemRep.apart (h : MemRep w L m) : L.b ≠ L.mb ∧ L.b ∉ L.y.fp ∧ L.b ∉ L.n.fp ∧ L.b ∉ L.o.fp ∧ L.b ∉ kvBlocks L.kv ∧ L.mb ∉ L.y.fp ∧ L.mb ∉ L.n.fp ∧ L.mb ∉ L.o.fp ∧ L.mb ∉ kvBlocks L.kv ∧
    (∀ k ∈ L.y.fp, k ∉ L.n.fp ∧ k ∉ L.o.fp ∧ k ∉ kvBlocks L.kv) ∧ (∀ k ∈ L.n.fp, k ∉ L.o.fp ∧ k ∉ kvBlocks L.kv) ∧ (∀ k ∈ L.o.fp, k ∉ kvBlocks L.kv) := by
  have hn := h.nd
  simp only [ML.fp, List.nodup_cons, List.nodup_append, List.mem_cons, List.mem_append, not_or] at hn
  obtain ⟨⟨a1, a2, a3, a4, a5⟩, ⟨b1, b2, b3, b4⟩, _, ⟨_, ⟨_, _, e3⟩, e2⟩, e1⟩ := hn
  refine ⟨a1, a2, a3, a4, a5, b1, b2, b3, b4, fun k hk => ⟨fun q => e1 k hk k (.inl q) rfl, fun q => e1 k hk k (.inr (.inl q)) rfl, fun q => e1 k hk k (.inr (.inr q)) rfl⟩, fun k hk => ⟨fun q => e2 k hk k (.inl q) rfl, fun q => e2 k hk k (.inr q) rfl⟩, fun k hk q => e3 k hk k q rfl⟩

theorem MemRep.spfp_ne (h : MemRep w L m) {a b : Wh} (hab : a ≠ b) {k : Nat} (ha : k ∈ (L.spL a).fp) : k ∉ (L.spL b).fp := by
  obtain ⟨_, _, _, _, _, _, _, _, _, q1, q2, _⟩ := h.apart
  cases a <;> cases b <;> simp only [ML.spL] at * <;> first
    | exact absurd rfl hab
    | exact (q1 k ha).1
    | exact (q1 k ha).2.1
    | exact (q2 k ha).1
    | exact fun hb => (q1 k hb).1 ha
    | exact fun hb => (q1 k hb).2.1 ha
    | exact fun hb => (q2 k hb).1 ha
theorem MemRep.sp_b (h : MemRep w L m) (a : Wh) : L.b ∉ (L.spL a).fp ∧ L.mb ∉ (L.spL a).fp := by
  obtain ⟨_, a1, a2, a3, _, b1, b2, b3, _⟩ := h.apart
  cases a
  · exact ⟨a1, b1⟩
  · exact ⟨a2, b2⟩
  · exact ⟨a3, b3⟩
theorem MemRep.sp_kv (h : MemRep w L m) (a : Wh) {k : Nat} (hk : k ∈ kvBlocks L.kv) : k ∉ (L.spL a).fp := by
  obtain ⟨_, _, _, _, _, _, _, _, _, q1, q2, q3⟩ := h.apart
  cases a
  · exact fun q => (q1 k q).2.2 hk
  · exact fun q => (q2 k q).2 hk
  · exact fun q => q3 k q hk

/-- One space is turned, the rest stays. -/
theorem MemRep.upd (h : MemRep w L m) (wh : Wh) {s' : Sp} (hs : SpRep w' (L.spL wh) s') (hf : Fr (fun k => k ∈ (L.spL wh).fp) w w') : MemRep w' L (m.setSp s' wh) := by
  have hb := hf.blk h.blk (h.sp_b wh).1
  have hkn : w'.ownsRow 0 131 2 L.kv m.known.length (flatSlots m.known) := ownsRow_of_blocks h.kn fun k hk => hf.block k (ownsRow_lt h.kn hk) (h.sp_kv wh hk)
  have hmv : MapRep w' L.mb m.moved := let ⟨es, c, h1, h2⟩ := h.mv; ⟨es, c, hf.blk h1 (h.sp_b wh).2, h2⟩
  have hsh : ShRep w' L.D L.shv m.shapes := h.sh.of_blocks fun k hk => hf.block k (h.Dlt k hk) (fun q => h.dj k (MemRep.spfp q) hk)
  have hD : ∀ k, L.D k → k < w'.heap.size := fun k hk => Nat.lt_of_lt_of_le (h.Dlt k hk) hf.size
  have ho : ∀ a, a ≠ wh → SpRep w' (L.spL a) (m.sp a) := fun a ha => (h.spR a).fr hf (fun k hk => h.spfp_ne ha hk)
  cases wh with
  | y => exact ⟨hb, hs, ho .n (by simp), ho .o (by simp), hkn, hmv, hsh, h.nd, h.dj, hD, h.sl, h.sll, h.sc0, h.sc1, h.lf0, h.lf1, h.kb, h.kl⟩
  | n => exact ⟨hb, ho .y (by simp), hs, ho .o (by simp), hkn, hmv, hsh, h.nd, h.dj, hD, h.sl, h.sll, h.sc0, h.sc1, h.lf0, h.lf1, h.kb, h.kl⟩
  | o => exact ⟨hb, ho .y (by simp), ho .n (by simp), hs, hkn, hmv, hsh, h.nd, h.dj, hD, h.sl, h.sll, h.sc0, h.sc1, h.lf0, h.lf1, h.kb, h.kl⟩

/-- The map of new addresses is turned. -/
theorem MemRep.updMap (h : MemRep w L m) {mv : List (Int × Int)} (hm : MapRep w' L.mb mv) (hf : Fr (fun k => k = L.mb) w w') : MemRep w' L { m with moved := mv } := by
  obtain ⟨a0, _, _, _, _, _, _, _, b4, _⟩ := h.apart
  have ho : ∀ a, SpRep w' (L.spL a) (m.sp a) := fun a => (h.spR a).fr hf (fun k hk e => (h.sp_b a).2 (by subst e; exact hk))
  exact ⟨hf.blk h.blk a0, ho .y, ho .n, ho .o, ownsRow_of_blocks h.kn fun k hk => hf.block k (ownsRow_lt h.kn hk) (fun e => b4 (by subst e; exact hk)), hm,
    h.sh.of_blocks fun k hk => hf.block k (h.Dlt k hk) (fun e => h.dj k (by subst e; exact MemRep.mem_fp.2 (.inr (.inl rfl))) hk), h.nd, h.dj, fun k hk => Nat.lt_of_lt_of_le (h.Dlt k hk) hf.size, h.sl, h.sll, h.sc0, h.sc1, h.lf0, h.lf1, h.kb, h.kl⟩

/-- The memory's own block is turned. -/
theorem MemRep.updBlk (h : MemRep w L m) {L' : ML} {m' : Mem} (hb : w'.heap[L.b]? = some (memBlock L' m')) (hf : Fr (fun k => k = L.b) w w')
    (e1 : L'.b = L.b ∧ L'.y = L.y ∧ L'.n = L.n ∧ L'.o = L.o ∧ L'.shv = L.shv ∧ L'.kv = L.kv ∧ L'.mb = L.mb ∧ L'.D = L.D)
    (e2 : m'.young = m.young ∧ m'.now = m.now ∧ m'.other = m.other ∧ m'.known = m.known ∧ m'.moved = m.moved ∧ m'.shapes = m.shapes)
    (s0 : 0 ≤ m'.scan) (s1 : m'.scan ≤ 4194304) (l0 : 0 ≤ m'.left) (l1 : m'.left ≤ 1048576) : MemRep w' L' m' := by
  obtain ⟨a0, a1, a2, a3, a4, _⟩ := h.apart
  obtain ⟨L'b, L'y, L'n, L'o, L's, L'k, L'm, L'D⟩ := L'
  obtain ⟨rfl, rfl, rfl, rfl, rfl, rfl, rfl, rfl⟩ := e1
  obtain ⟨m1, m2, m3, m4, m5, m6, m7, m8, m9⟩ := m'
  obtain ⟨rfl, rfl, rfl, rfl, rfl, rfl⟩ := e2
  have ho : ∀ a, SpRep w' (L.spL a) (m.sp a) := fun a => (h.spR a).fr hf (fun k hk e => (h.sp_b a).1 (by subst e; exact hk))
  exact ⟨hb, ho .y, ho .n, ho .o, ownsRow_of_blocks h.kn fun k hk => hf.block k (ownsRow_lt h.kn hk) (fun e => a4 (by subst e; exact hk)),
    (let ⟨es, c, h1, h2⟩ := h.mv; ⟨es, c, hf.blk h1 (Ne.symm a0), h2⟩),
    h.sh.of_blocks fun k hk => hf.block k (h.Dlt k hk) (fun e => h.dj k (by subst e; exact MemRep.mem_fp.2 (.inl rfl)) hk), h.nd, h.dj, fun k hk => Nat.lt_of_lt_of_le (h.Dlt k hk) hf.size, h.sl, h.sll, s0, s1, l0, l1, h.kb, h.kl⟩

/-- The memory's own block is turned, and it has a new map. -/
theorem MemRep.newMap (h : MemRep w L m) {mb' : Nat} {m' : Mem} (hb : w'.heap[L.b]? = some (memBlock { L with mb := mb' } m')) (hf : Fr (fun k => k = L.b) w w')
    (hmb : w.heap[mb']? = some (.map #[] 0)) (hn : mb' ∉ L.fp) (hD : ¬ L.D mb')
    (e2 : m'.young = m.young ∧ m'.now = m.now ∧ m'.other = m.other ∧ m'.known = m.known ∧ m'.moved = [] ∧ m'.shapes = m.shapes)
    (s0 : 0 ≤ m'.scan) (s1 : m'.scan ≤ 4194304) (l0 : 0 ≤ m'.left) (l1 : m'.left ≤ 1048576) : MemRep w' { L with mb := mb' } m' := by
  obtain ⟨a0, a1, a2, a3, a4, _⟩ := h.apart
  obtain ⟨m1, m2, m3, m4, m5, m6, m7, m8, m9⟩ := m'
  obtain ⟨rfl, rfl, rfl, rfl, rfl, rfl⟩ := e2
  have ho : ∀ a, SpRep w' (L.spL a) (m.sp a) := fun a => (h.spR a).fr hf (fun k hk e => (h.sp_b a).1 (by subst e; exact hk))
  have hbm : mb' ≠ L.b := fun e => hn (MemRep.mem_fp.2 (.inl e))
  refine ⟨hb, ho .y, ho .n, ho .o, ownsRow_of_blocks h.kn fun k hk => hf.block k (ownsRow_lt h.kn hk) (fun e => a4 (by subst e; exact hk)),
    ⟨#[], 0, hf.blk hmb hbm, rfl, Go.MapKept.stamped_empty 0⟩,
    h.sh.of_blocks fun k hk => hf.block k (h.Dlt k hk) (fun e => h.dj k (by subst e; exact MemRep.mem_fp.2 (.inl rfl)) hk), ?_, ?_, fun k hk => Nat.lt_of_lt_of_le (h.Dlt k hk) hf.size, h.sl, h.sll, s0, s1, l0, l1, h.kb, h.kl⟩
  · have hnd := h.nd
    simp only [ML.fp, List.nodup_cons, List.mem_cons, not_or] at hnd ⊢
    obtain ⟨⟨_, q1⟩, _, q2⟩ := hnd
    refine ⟨⟨Ne.symm hbm, q1⟩, fun q => hn ?_, q2⟩
    simp only [ML.fp, List.mem_cons]
    exact .inr (.inr q)
  · intro k hk
    rcases MemRep.mem_fp.1 hk with q | q | q
    · exact h.dj k (MemRep.mem_fp.2 (.inl q))
    · subst q; exact hD
    · exact h.dj k (MemRep.mem_fp.2 (.inr (.inr q)))
end
end Go.Proofs.Ytnedmmopkhmejaa
