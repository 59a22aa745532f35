/- Walk: the closure of Copy. -/
import Derived.Test.YtnedmmopkhmejaaKHB1
import Derived.Maps.RangeWalk
import Derived.Test.YtnedmmopkhmejaaKHPure
set_option linter.unusedVariables false
set_option linter.unusedSimpArgs false
namespace Go.Proofs.Ytnedmmopkhmejaa
open Go.RowKit Go.Proofs.Hp
attribute [local go_sem] Oper.semAt_some

theorem row_of_owns {w : World} {B n : Nat} {T : TypeId} {v : Value} {xs : List Value} (h : w.ownsRow B T 1 v n xs) (hx : xs ≠ []) :
    ∃ g cap, v = .slice (some ⟨g, 0, none⟩) n cap ∧ B ≤ g ∧ Row w g T xs ∧ n ≤ cap := by
  have hl := h.1
  rcases h.2 with ⟨rfl, h0⟩ | ⟨g, cap, cur, rfl, hb, hg, hn, _, hs, ht⟩
  · have : xs = [] := List.eq_nil_of_length_eq_zero (by omega)
    exact absurd this hx
  · refine ⟨g, cap, rfl, hb, ⟨cur, hg, by omega, fun i hi => ?_⟩, by omega⟩
    rw [← ht, List.getElem?_take, if_pos (by omega)]
    simp
theorem SpRep.intsAt {w : World} {L : SpL} {s : Sp} (h : SpRep w L s) : IntsAt w (fun _ => True) (.slice (some ⟨L.wb, 0, none⟩) s.words.length L.wc) s.words :=
  ⟨_, _, rfl, .inr ⟨L.wb, 0, rfl, trivial, fun i hi => by have := h.ws.cell (i := i) (by simpa using hi); simpa using this⟩⟩
theorem SpRep.boolsAt {w : World} {L : SpL} {s : Sp} (h : SpRep w L s) : BoolsAt w (fun _ => True) (.slice (some ⟨L.sb, 0, none⟩) s.starts.length L.sc) s.starts :=
  ⟨_, _, rfl, .inr ⟨L.sb, 0, rfl, trivial, fun i hi => by have := h.ss.cell (i := i) (by simpa using hi); simpa using this⟩⟩
theorem SpRep.below' {w w' : World} {L : SpL} {s : Sp} (h : SpRep w L s) (hb : Below w.heap.size w w') : SpRep w' L s := h.of_blocks fun k hk => hb.block k (h.lt hk)

set_option maxRecDepth 100000 in
set_option maxHeartbeats 2000000 in
theorem c_Copy1 (w : World) (L : SpL) (s : Sp) (h : SpRep w L s) :
    Calls Try.prog 75 #[.pointer (some ⟨L.b, 0, none⟩)] w fun e w' => ∃ L' : SpL, e = .returned (.pointer (some ⟨L'.b, 0, none⟩)) ∧ SpRep w' L' s ∧ (∀ k ∈ L'.fp, w.heap.size ≤ k) ∧ Below w.heap.size w w' := by
  have h0 : SpRep w.drew L s := h.of_blocks fun _ _ => rfl
  have hwne : s.words.map (Value.int .i64) ≠ [] := by have := h.pos; intro e; simp at e; rw [e] at this; simp at this
  have hsne : s.starts.map Value.bool ≠ [] := by have := h.pos; have h2 := h.len; intro e; simp at e; rw [e] at h2; simp at h2; omega
  have hI := h0.intsAt.clone h0.b1
  have c0 := h.c0
  have c1 := h.c1
  have c2 := h.c2
  have c3 := h.c3
  have hH := Lib.hid h
  have hneH := Lib.hid (And.intro hwne hsne)
  have h0H := Lib.hid h0
  clear h hwne hsne h0
  go_enter Try.func75, Try.ntmps75
  go_wp2_with (fail)
  go_region_held3 (fun w' => w'.cell? ⟨L.b, 0, none⟩ = some (.slice (some ⟨L.wb, 0, none⟩) s.words.length L.wc) ∧ w'.cell? ⟨L.b, 1, none⟩ = some (.int .i64 s.frm) ∧ w'.cell? ⟨L.b, 2, none⟩ = some (.int .i64 s.used) ∧ w'.cell? ⟨L.b, 3, none⟩ = some (.slice (some ⟨L.sb, 0, none⟩) s.starts.length L.sc)) (go_keep)
    (first
      | ((with_reducible refine hI.mono ?_); rintro e w1 ⟨v1, rfl, o1, b1⟩; have h1 := h0H.out.below' b1; have hB := h1.boolsAt.clone (by have := h1.len; have := h1.b1; omega); have c0 := h1.c0; have c1 := h1.c1; have c2 := h1.c2; have c3 := h1.c3; obtain ⟨g1, p1, rfl, z1, r1, y1⟩ := row_of_owns o1 hneH.out.1)
      | ((with_reducible refine hB.mono ?_); rintro e w2 ⟨v2, rfl, o2, b2⟩; have h2 := h1.below' b2; have c0 := h2.c0; have c1 := h2.c1; have c2 := h2.c2; have c3 := h2.c3; obtain ⟨g2, p2, rfl, z2, r2, y2⟩ := row_of_owns o2 hneH.out.2))
  all_goals
    have hb1 : Below w.heap.size w w1 := ⟨b1.os, b1.tape, b1.output, b1.size, b1.block⟩
    have hr1 := r1.of_block (b2.block g1 r1.lt)
    have hb2 := hb1.trans (b2.mono hb1.size)
    have l1 := r1.lt
    have l2 := r2.lt
    have hs0 := hH.out
    have z1' : w.heap.size ≤ g1 := z1
    clear c0 c1 c2 c3 hI hB
    go_wp2
    go_ret
    refine ⟨⟨w2.heap.size, g1, p1, g2, p2⟩, rfl, ⟨al_same _ _, hr1.of_block (al_old _ _ _ hr1.lt), r2.of_block (al_old _ _ _ l2), by simp [SpL.fp]; omega, hs0.pos, hs0.le, hs0.len, hs0.b1, hs0.b2, y1, y2⟩, fun k hk => ?_, hb2.alloc hb2.size _⟩
    simp only [SpL.fp, List.mem_cons, List.not_mem_nil, or_false] at hk
    have := hb1.size
    have := hb2.size
    rcases hk with rfl | rfl | rfl <;> omega
end Go.Proofs.Ytnedmmopkhmejaa

/- Three stores into a block of nine cells. -/
namespace Go.Proofs.Ytnedmmopkhmejaa
open Go.RowKit Go.Proofs.Hp
theorem set3 {w : World} {B : Nat} {T : TypeId} {v0 v1 v2 v3 v4 v5 v6 v7 v8 : Value} (a b d : Value) (h : w.heap[B]? = some (.cells #[v0, v1, v2, v3, v4, v5, v6, v7, v8] T (0, 0))) :
    (((w.setCell ⟨B, 1, none⟩ a).setCell ⟨B, 2, none⟩ b).setCell ⟨B, 3, none⟩ d).heap[B]? = some (.cells #[v0, a, b, d, v4, v5, v6, v7, v8] T (0, 0)) := by
  have h1 := heap_setCell_same (w := w) (b := B) (i := 1) a h
  have h2 := heap_setCell_same (i := 2) b h1
  have h3 := heap_setCell_same (i := 3) d h2
  exact h3

theorem store3 {w3 : World} {L : ML} {m : Mem} {L1 L2 L3 : SpL} {y1 y2 y3 : Sp} {B : Nat} {T : TypeId} {v0 v1 v2 v3 v4 v5 v6 v7 v8 : Value} (a b d : Value) (h3 : MemRep w3 L m) (hB : w3.heap[B]? = some (.cells #[v0, v1, v2, v3, v4, v5, v6, v7, v8] T (0, 0)))
    (t1 : SpRep w3 L1 y1) (t2 : SpRep w3 L2 y2) (t3 : SpRep w3 L3 y3) (n0 : ∀ k ∈ L.fp, k ≠ B) (nD : ∀ k, L.D k → k ≠ B) (n1 : ∀ k ∈ L1.fp, k ≠ B) (n2 : ∀ k ∈ L2.fp, k ≠ B) (n3 : ∀ k ∈ L3.fp, k ≠ B) :
    ∃ W5, ((w3.setCell ⟨B, 1, none⟩ a).setCell ⟨B, 2, none⟩ b).setCell ⟨B, 3, none⟩ d = W5 ∧ MemRep W5 L m ∧ W5.heap[B]? = some (.cells #[v0, a, b, d, v4, v5, v6, v7, v8] T (0, 0)) ∧ SpRep W5 L1 y1 ∧ SpRep W5 L2 y2 ∧ SpRep W5 L3 y3 ∧ Fr (fun k => k = B) w3 W5 := by
  have f1 : Fr (fun k => k = B) w3 (w3.setCell ⟨B, 1, none⟩ a) := (Fr.refl _ w3).setCell _ _ (.inl rfl)
  have f2 : Fr (fun k => k = B) w3 ((w3.setCell ⟨B, 1, none⟩ a).setCell ⟨B, 2, none⟩ b) := f1.setCell _ _ (.inl rfl)
  have f3 : Fr (fun k => k = B) w3 (((w3.setCell ⟨B, 1, none⟩ a).setCell ⟨B, 2, none⟩ b).setCell ⟨B, 3, none⟩ d) := f2.setCell _ _ (.inl rfl)
  exact ⟨_, rfl, h3.fr f3 n0 nD, set3 a b d hB, t1.of_blocks fun k hk => f3.block k (t1.lt hk) (n1 k hk), t2.of_blocks fun k hk => f3.block k (t2.lt hk) (n2 k hk), t3.of_blocks fun k hk => f3.block k (t3.lt hk) (n3 k hk), f3⟩
end Go.Proofs.Ytnedmmopkhmejaa

/- Ranging over a map of ints in an order that nobody knows: the iterator, its step. -/
namespace Go.Proofs.Ytnedmmopkhmejaa
open Go.RowKit Go.Proofs.Hp

/-- A range over a map under way: 'done' are the entries that have come, in the order in which they came. -/
structure ItRep (w : World) (b r : Nat) (l done : List (Int × Int)) : Prop where
  it : ∃ es clock seen c0, w.heap[b]? = some (.map es clock) ∧ entsOf es.toList = encs l ∧ Go.MapKept.Stamped es clock ∧ w.heap[r]? = some (.mapIter (some b) clock seen c0) ∧ clock ≤ c0 ∧
    (∀ x ∈ es.toList, seen.contains x.born = true ↔ (x.key, x.val) ∈ encs done) ∧ (leftOf es seen).size + done.length ≤ l.length
  sub : ∀ p ∈ done, p ∈ l
  nd : (done.map Prod.fst).Nodup

theorem entsOf_keys {es : List MapEntry} {l : List (Int × Int)} (he : entsOf es = encs l) : es.map (·.key) = l.map fun p => Value.int .i64 p.1 := by
  have := congrArg (List.map Prod.fst) he
  simpa [entsOf, encs, Function.comp_def] using this
theorem keys_nodup {es : Array MapEntry} {clock : Nat} {l : List (Int × Int)} (he : entsOf es.toList = encs l) (hst : Go.MapKept.Stamped es clock) : (l.map Prod.fst).Nodup := by
  have h := hst.2.2
  rw [entsOf_keys he] at h
  have e : (l.map fun p => Value.int .i64 p.1) = (l.map Prod.fst).map (Value.int .i64) := by simp [Function.comp_def]
  rw [e] at h
  unfold List.Nodup at h ⊢
  rw [List.pairwise_map] at h
  exact h.imp fun hne q => hne (by rw [q])
theorem lookup_mem_iff : ∀ {d : List (Int × Int)} {a v : Int}, (d.map Prod.fst).Nodup → (d.lookup a = some v ↔ (a, v) ∈ d)
  | [], a, v, _ => by simp
  | (pa, pv) :: d, a, v, hn => by
    simp only [List.map_cons, List.nodup_cons] at hn
    by_cases e : a = pa
    · subst e
      simp only [List.lookup_cons_self, Option.some.injEq, List.mem_cons, Prod.mk.injEq, true_and]
      refine ⟨fun q => .inl q.symm, fun q => ?_⟩
      rcases q with q | q
      · exact q.symm
      · exact absurd (List.mem_map.2 ⟨_, q, rfl⟩) hn.1
    · have hb : (a == pa) = false := by simpa using e
      simp only [List.lookup, hb, List.mem_cons, Prod.mk.injEq, e, false_and, false_or]
      exact lookup_mem_iff hn.2

theorem MapRep.nodup {w : World} {b : Nat} {l : List (Int × Int)} (h : MapRep w b l) : (l.map Prod.fst).Nodup := by
  obtain ⟨es, c, _, he, hst⟩ := h
  exact keys_nodup he hst

theorem ItRep.lt {w : World} {b r : Nat} {l done : List (Int × Int)} (h : ItRep w b r l done) : b < w.heap.size ∧ r < w.heap.size ∧ r ≠ b := by
  obtain ⟨es, clock, seen, c0, hb, _, _, hr, _⟩ := h.it
  refine ⟨lt_of_block hb, lt_of_block hr, fun e => ?_⟩
  rw [e, hb] at hr
  cases hr
theorem ItRep.map {w : World} {b r : Nat} {l done : List (Int × Int)} (h : ItRep w b r l done) : MapRep w b l := by
  obtain ⟨es, clock, seen, c0, hb, he, hst, _⟩ := h.it
  exact ⟨es, clock, hb, he, hst⟩
theorem ItRep.of_blocks {w w' : World} {b r : Nat} {l done : List (Int × Int)} (h : ItRep w b r l done) (e1 : w'.heap[b]? = w.heap[b]?) (e2 : w'.heap[r]? = w.heap[r]?) : ItRep w' b r l done := by
  obtain ⟨⟨es, clock, seen, c0, hb, he, hst, hr, rest⟩, s, n⟩ := h
  exact ⟨⟨es, clock, seen, c0, e1.trans hb, he, hst, e2.trans hr, rest⟩, s, n⟩

theorem rangeLeft_of {w w' : World} {b r : Nat} (e1 : w'.heap[b]? = w.heap[b]?) (e2 : w'.heap[r]? = w.heap[r]?) : w'.rangeLeft b r = w.rangeLeft b r := by simp only [World.rangeLeft, e1, e2]
/-- 'range m'. -/
theorem MapRep.range {P : Program} {w : World} {b : Nat} {l : List (Int × Int)} (h : MapRep w b l) {t k e : TypeId} (ht : P.underlying t = some (.map k e)) :
    ∃ w', (Instr.range t (.map (some b))).run P w = .ok (.pointer (some ⟨w.heap.size, 0, none⟩)) w' ∧ ItRep w' b w.heap.size l [] ∧ Fr (fun _ => False) w w' ∧ w'.heap.size = w.heap.size + 1 := by
  obtain ⟨es, clock, hb, he, hst⟩ := h
  have hlt := lt_of_block hb
  refine ⟨_, run_range_map w t k e b es clock ht hb, ⟨⟨es, clock, #[], clock, (al_old _ _ _ hlt).trans hb, he, hst, al_same _ _, Nat.le_refl _, fun x _ => by simp [encs], Nat.le_trans (Nat.add_le_add_right (Array.size_filter_le ..) _) (Nat.le_of_eq ?_)⟩, by simp, by simp⟩, (Fr.refl _ w).alloc _, by simp⟩
  have q := congrArg List.length he
  simp only [entsOf, encs, List.length_map, Array.length_toList] at q
  simpa using q

/-- The step. -/
theorem ItRep.next {P : Program} {w : World} {b r : Nat} {l done : List (Int × Int)} (h : ItRep w b r l done) (ty : TypeId) :
    ((∀ p ∈ l, p ∈ done) ∧ (Instr.next (.pointer (some ⟨r, 0, none⟩)) false ty).run P w = .ok (.tuple #[.bool false]) w) ∨
    ∃ (a v : Int) (w' : World), (a, v) ∈ l ∧ done.lookup a = none ∧ done.length < l.length ∧ (Instr.next (.pointer (some ⟨r, 0, none⟩)) false ty).run P w = .ok (.tuple #[.bool true, .int .i64 a, .int .i64 v]) w' ∧
      ItRep w' b r l (done ++ [(a, v)]) ∧ w'.rangeLeft b r < w.rangeLeft b r ∧ Fr (fun k => k = r) w w' ∧ w'.heap.size = w.heap.size ∧ (Instr.entry (.pointer (some ⟨r, 0, none⟩))).run P w' = .ok (.tuple #[.int .i64 a, .int .i64 v]) w' := by
  obtain ⟨⟨es, clock, seen, c0, hb, he, hst, hr, hsc, hsn, hcnt⟩, hsub, hnd⟩ := h
  have hlnd := keys_nodup he hst
  have hmem : ∀ {x : MapEntry}, x ∈ es.toList → ∃ p ∈ l, x.key = .int .i64 p.1 ∧ x.val = .int .i64 p.2 := fun {x} hx => by
    have hm : (x.key, x.val) ∈ encs l := by rw [← he]; exact List.mem_map.2 ⟨x, hx, rfl⟩
    obtain ⟨p, hp, e⟩ := List.mem_map.1 hm
    simp only [Prod.mk.injEq] at e
    exact ⟨p, hp, e.1.symm, e.2.symm⟩
  have hinj : ∀ {p : Int × Int} {d : List (Int × Int)}, (Value.int .i64 p.1, Value.int .i64 p.2) ∈ encs d → p ∈ d := fun {p d} hm => by
    obtain ⟨q, hq, e⟩ := List.mem_map.1 hm
    simp only [Prod.mk.injEq, Value.int.injEq, true_and] at e
    have : q = p := Prod.ext e.1 e.2
    exact this ▸ hq
  have huniq : ∀ {p q : Int × Int}, p ∈ l → q ∈ l → p.1 = q.1 → p = q := fun {p q} hp hq e => by
    have h1 := (lookup_mem_iff (a := p.1) (v := p.2) hlnd).2 hp
    have h2 := (lookup_mem_iff (a := q.1) (v := q.2) hlnd).2 hq
    rw [e, h2] at h1
    exact Prod.ext e (Option.some.inj h1).symm
  have hrne : r ≠ b := fun e => by rw [e, hb] at hr; cases hr
  rcases run_next_at (P := P) w ty r b clock c0 seen es clock hr hb hst.1 hsc with ⟨h0, hrun⟩ | ⟨e, hel, w1, hal, hrun⟩
  · refine .inl ⟨fun p hp => ?_, hrun⟩
    have hm : (Value.int .i64 p.1, Value.int .i64 p.2) ∈ entsOf es.toList := by rw [he]; exact List.mem_map.2 ⟨p, hp, rfl⟩
    obtain ⟨x, hx, ex⟩ := List.mem_map.1 hm
    have := (hsn x hx).1 (all_seen es seen h0 x hx)
    rw [ex] at this
    exact hinj this
  · obtain ⟨hee, hns⟩ := mem_left hel
    obtain ⟨⟨a, v⟩, hp, hk, hv⟩ := hmem hee
    have hnd' : (a, v) ∉ done := fun hd => by
      have := (hsn e hee).2 (by rw [hk, hv]; exact List.mem_map.2 ⟨_, hd, rfl⟩)
      rw [hns] at this; cases this
    have hlk : done.lookup a = none := by
      rw [List.lookup_eq_none_iff]
      intro q hq
      refine bne_iff_ne.2 fun e1 => ?_
      exact hnd' (huniq (hsub q hq) hp e1.symm ▸ hq)
    have hwr : w1.heap = w.heap := by rcases hal with rfl | rfl <;> rfl
    have hrlt := lt_of_block hr
    have hsz : (leftOf es (seen.push e.born)).size < (leftOf es seen).size := left_shrinks es seen e hel
    refine .inr ⟨a, v, _, hp, hlk, by omega, by rw [hk, hv] at hrun; exact hrun, ?_, ?_, ?_, by simp [Go.ChangeMaps.setBlock, hwr], ?_⟩
    · refine ⟨⟨es, clock, seen.push e.born, clock, ?_, he, hst, ?_, Nat.le_refl _, fun x hx => ?_, ?_⟩, fun q hq => ?_, ?_⟩
      · simp only [Go.ChangeMaps.setBlock, hwr]
        rw [Array.getElem?_setIfInBounds_ne (by exact hrne)]; exact hb
      · simp only [Go.ChangeMaps.setBlock, hwr]
        rw [Array.getElem?_setIfInBounds_self_of_lt hrlt]
      · simp only [Array.contains_push, Bool.or_eq_true, beq_iff_eq, encs, List.map_append, List.mem_append, List.map_cons, List.map_nil, List.mem_singleton]
        constructor
        · rintro (q | q)
          · exact .inl ((hsn x hx).1 q)
          · have := born_inj hst.2.1 hx hee q
            subst this
            exact .inr (by rw [hk, hv])
        · rintro (q | q)
          · exact .inl ((hsn x hx).2 q)
          · simp only [Prod.mk.injEq] at q
            refine .inr ?_
            have : x.key = e.key := by rw [hk]; exact q.1
            have := entry_eq_of_key ((Go.MapKept.stamped_iff es clock).1 hst).2.2 hx hee this
            rw [this]
      · rw [List.length_append]; simp only [List.length_cons, List.length_nil]; omega
      · rcases List.mem_append.1 hq with q | q
        · exact hsub _ q
        · simp only [List.mem_singleton] at q; rw [q]; exact hp
      · rw [List.map_append, List.nodup_append]
        refine ⟨hnd, by simp, fun x hx y hy => ?_⟩
        simp only [List.map_cons, List.map_nil, List.mem_singleton] at hy
        subst hy
        obtain ⟨q, hq, rfl⟩ := List.mem_map.1 hx
        have := bne_iff_ne.1 (List.lookup_eq_none_iff.1 hlk q hq)
        exact fun e1 => this e1.symm
    · have q1 : (Go.ChangeMaps.setBlock w1 r (.mapIter (some b) clock (seen.push e.born) clock)).heap[b]? = some (.map es clock) := by
        simp only [Go.ChangeMaps.setBlock, hwr]
        rw [Array.getElem?_setIfInBounds_ne (by exact hrne)]; exact hb
      have q2 : (Go.ChangeMaps.setBlock w1 r (.mapIter (some b) clock (seen.push e.born) clock)).heap[r]? = some (.mapIter (some b) clock (seen.push e.born) clock) := by
        simp only [Go.ChangeMaps.setBlock, hwr]
        rw [Array.getElem?_setIfInBounds_self_of_lt hrlt]
      simp only [World.rangeLeft, q1, q2, hb, hr]
      exact hsz
    · refine ⟨by rcases hal with rfl | rfl <;> rfl, ?_, by rcases hal with rfl | rfl <;> rfl, by simp [Go.ChangeMaps.setBlock, hwr], fun k hk hs => ?_⟩
      · rcases hal with rfl | rfl <;> rfl
      · simp only [Go.ChangeMaps.setBlock, hwr]
        rw [Array.getElem?_setIfInBounds_ne (by exact fun e => hs e.symm)]
    · have := run_entry_at (P := P) (Go.ChangeMaps.setBlock w1 r (.mapIter (some b) clock (seen.push e.born) clock)) r b clock seen es clock e
        (by simp only [Go.ChangeMaps.setBlock, hwr]; rw [Array.getElem?_setIfInBounds_self_of_lt hrlt])
        (by simp only [Go.ChangeMaps.setBlock, hwr]; rw [Array.getElem?_setIfInBounds_ne (by exact hrne)]; exact hb) hee hst.2.1
      rw [hk, hv] at this
      exact this

/-- Nothing is left: the entries that have come look up as all do. -/
theorem ItRep.same {w : World} {b r : Nat} {l done : List (Int × Int)} (h : ItRep w b r l done) (hd : ∀ p ∈ l, p ∈ done) : Mem.SameMv done l := by
  have hl := h.map.nodup
  have key := @lookup_mem_iff
  intro a
  cases h1 : done.lookup a with
  | none =>
    cases h2 : l.lookup a with
    | none => rfl
    | some v =>
      have := (key h.nd).2 (hd _ ((key hl).1 h2))
      rw [h1] at this; cases this
  | some v => exact ((key hl).2 (h.sub _ ((key h.nd).1 h1))).symm

section
variable {P : Program} (w : World) {ops : Array Oper} {rest : List Oper} {o : Oper} {a : Act} {Q : Exit → Act → World → Prop}
theorem wpList_range_ints (hg : o.guard = none) (m : Operand) (t : TypeId) (hop : o.op = Op.range t m) (k e : TypeId) (ht : P.underlying t = some (.map k e)) (b : Nat) (l : List (Int × Int)) (hm : a.eval m = .map (some b)) (h : MapRep w b l)
    (hK : ∀ w', ItRep w' b w.heap.size l [] → Fr (fun _ => False) w w' → w'.heap.size = w.heap.size + 1 → wpList P ops Q rest (a.put o.dst (.pointer (some ⟨w.heap.size, 0, none⟩))) w') :
    wpList P ops Q (o :: rest) a w := by
  refine wpList_plain hg fun K' hK' => ?_
  obtain ⟨w', hrun, r1, r2, r3⟩ := h.range ht
  unfold Oper.wp
  simp [execOp, hop, hm, hrun, Result.andThen]
  exact hK' _ _ (hK w' r1 r2 r3)
theorem wpList_next_ints (hg : o.guard = none) (it : Operand) (hop : o.op = Op.next it false) (b r : Nat) (l done : List (Int × Int)) (hit : a.eval it = .pointer (some ⟨r, 0, none⟩)) (h : ItRep w b r l done)
    (hDone : Hid (∀ p ∈ l, p ∈ done) → wpList P ops Q rest (a.put o.dst (.tuple #[.bool false])) w)
    (hMore : ∀ (x c : Int) (w' : World), Hid (done.lookup x = none) → done.length < l.length → ItRep w' b r l (done ++ [(x, c)]) → w'.rangeLeft b r < w.rangeLeft b r → Fr (fun k => k = r) w w' → w'.heap.size = w.heap.size → (Instr.entry (.pointer (some ⟨r, 0, none⟩))).run P w' = .ok (.tuple #[.int .i64 x, .int .i64 c]) w' →
      wpList P ops Q rest (a.put o.dst (.tuple #[.bool true, .int .i64 x, .int .i64 c])) w') :
    wpList P ops Q (o :: rest) a w := by
  refine wpList_plain hg fun K' hK' => ?_
  unfold Oper.wp
  rcases h.next (P := P) o.type with ⟨hl, hrun⟩ | ⟨x, c, w', _, hlk, hlt, hrun, hrg, hrl, hgr, hsz, hen⟩
  · simp [execOp, hop, hit, hrun, Result.andThen]
    exact hK' _ _ (hDone (Lib.hid hl))
  · simp [execOp, hop, hit, hrun, Result.andThen]
    exact hK' _ _ (hMore x c w' (Lib.hid hlk) hlt hrg hrl hgr hsz hen)
end
end Go.Proofs.Ytnedmmopkhmejaa

/- What Copy leaves. -/
namespace Go.Proofs.Ytnedmmopkhmejaa
open Go.RowKit Go.Proofs.Hp

theorem MapRep.block {w w' : World} {b : Nat} {l : List (Int × Int)} (h : MapRep w b l) (e : w'.heap[b]? = w.heap[b]?) : MapRep w' b l := let ⟨es, c, h1, h2⟩ := h; ⟨es, c, e.trans h1, h2⟩

theorem lt_of_map {w : World} {b : Nat} {l : List (Int × Int)} (h : MapRep w b l) : b < w.heap.size := let ⟨_, _, q, _⟩ := h; lt_of_block q
/-- The world behind the four clones and the new map. -/
structure CopyW (w W7 : World) (L : ML) (m : Mem) (L1 L2 L3 : SpL) (kv : Value) (B N : Nat) : Prop where
  h : MemRep w L m
  hB : B = w.heap.size
  bl : Below B w W7
  blk : W7.heap[B]? = some (.cells #[L.shv, ptrV L1.b, ptrV L2.b, ptrV L3.b, kv, .bool m.busy, .int .i64 m.scan, .map (some N), .int .i64 m.left] 100 (0, 0))
  t1 : SpRep W7 L1 m.young
  t2 : SpRep W7 L2 m.now
  t3 : SpRep W7 L3 m.other
  ko : W7.ownsRow 0 131 2 kv m.known.length (flatSlots m.known)
  rg : ∃ a1 a2 a3, B < a1 ∧ (∀ k ∈ L1.fp, B < k ∧ k < a1) ∧ (∀ k ∈ L2.fp, a1 ≤ k ∧ k < a2) ∧ (∀ k ∈ L3.fp, a2 ≤ k ∧ k < a3) ∧ (∀ k ∈ kvBlocks kv, a3 ≤ k ∧ k < N) ∧ a1 ≤ a2 ∧ a2 ≤ a3 ∧ a3 ≤ N
  mp : MapRep W7 N []
theorem copy_w7 {w W5 W6 : World} {L : ML} {m : Mem} {L1 L2 L3 : SpL} {kv : Value} {B a1 a2 a3 : Nat} {kp : Value} (h : MemRep w L m) (hB : B = w.heap.size) (hbw5 : Below B w W5) (t1 : SpRep W5 L1 m.young) (t2 : SpRep W5 L2 m.now) (t3 : SpRep W5 L3 m.other)
    (ho6 : W6.ownsRow W5.heap.size 131 2 kv m.known.length (flatSlots m.known)) (hb6 : Below W5.heap.size W5 W6) (hB6 : W6.heap[B]? = some (.cells #[L.shv, ptrV L1.b, ptrV L2.b, ptrV L3.b, kp, .bool m.busy, .int .i64 m.scan, .map (some L.mb), .int .i64 m.left] 100 (0, 0)))
    (r0 : B < a1) (r1 : ∀ k ∈ L1.fp, B < k ∧ k < a1) (r2 : ∀ k ∈ L2.fp, a1 ≤ k ∧ k < a2) (r3 : ∀ k ∈ L3.fp, a2 ≤ k ∧ k < a3) (r4 : a1 ≤ a2) (r5 : a2 ≤ a3) (r6 : a3 ≤ W5.heap.size) :
    CopyW w (((W6.setCell ⟨B, 4, none⟩ kv).setCell ⟨B, 7, none⟩ (.map (some W6.heap.size))).alloc (.map #[] 0)) L m L1 L2 L3 kv B W6.heap.size := by
  have hs6 : ((W6.setCell ⟨B, 4, none⟩ kv).setCell ⟨B, 7, none⟩ (.map (some W6.heap.size))).heap.size = W6.heap.size := by simp [World.setCell]
  have e1 := heap_setCell_same (i := 4) kv hB6
  have hBl := lt_of_block hB6
  have e2 := heap_setCell_same (i := 7) (.map (some W6.heap.size)) e1
  have e3 : ((W6.setCell ⟨B, 4, none⟩ kv).setCell ⟨B, 7, none⟩ (.map (some W6.heap.size)) |>.alloc (.map #[] 0)).heap[B]? = _ := (al_old _ _ _ (by rw [hs6]; exact hBl)).trans e2
  have f1 : Fr (fun k => k = B) W6 (((W6.setCell ⟨B, 4, none⟩ kv).setCell ⟨B, 7, none⟩ (.map (some W6.heap.size))).alloc (.map #[] 0)) := by
    have q1 : Fr (fun k => k = B) W6 (W6.setCell ⟨B, 4, none⟩ kv) := (Fr.refl _ W6).setCell _ _ (.inl rfl)
    have q2 : Fr (fun k => k = B) W6 ((W6.setCell ⟨B, 4, none⟩ kv).setCell ⟨B, 7, none⟩ (.map (some W6.heap.size))) := q1.setCell _ _ (.inl rfl)
    exact q2.alloc _
  have hm : (((W6.setCell ⟨B, 4, none⟩ kv).setCell ⟨B, 7, none⟩ (.map (some W6.heap.size))).alloc (.map #[] 0)).heap[W6.heap.size]? = some (.map #[] 0) := al_at _ _ _ hs6.symm
  have hs56 := hb6.size
  have b6 : ∀ k, k < W5.heap.size → k ≠ B → (((W6.setCell ⟨B, 4, none⟩ kv).setCell ⟨B, 7, none⟩ (.map (some W6.heap.size))).alloc (.map #[] 0)).heap[k]? = W5.heap[k]? := fun k hk hne =>
    (f1.block k (by omega) hne).trans (hb6.block k hk)
  have hwB : ∀ k, k < B → (((W6.setCell ⟨B, 4, none⟩ kv).setCell ⟨B, 7, none⟩ (.map (some W6.heap.size))).alloc (.map #[] 0)).heap[k]? = w.heap[k]? := fun k hk => (b6 k (by have := hbw5.size; omega) (by omega)).trans (hbw5.block k (by omega))
  refine ⟨h, hB, ⟨f1.os.trans (hb6.os.trans hbw5.os), f1.tape.trans (hb6.tape.trans hbw5.tape), f1.output.trans (hb6.output.trans hbw5.output), Nat.le_trans hbw5.size (Nat.le_trans hs56 f1.size), hwB⟩, e3, ?_, ?_, ?_, ?_, ⟨a1, a2, a3, r0, r1, r2, r3, ?_, r4, r5, by omega⟩, ⟨#[], 0, hm, rfl, Go.MapKept.stamped_empty 0⟩⟩
  · exact t1.of_blocks fun k hk => b6 k (by have := (r1 k hk).2; omega) (by have := (r1 k hk).1; omega)
  · exact t2.of_blocks fun k hk => b6 k (by have := (r2 k hk).2; omega) (by have := (r2 k hk).1; omega)
  · exact t3.of_blocks fun k hk => b6 k (by have := (r3 k hk).2; omega) (by have := (r3 k hk).1; omega)
  · have q := ownsRow_of_blocks ho6 fun k hk => f1.block k (ownsRow_lt ho6 hk) (by
      have e : kv.ownBlock = some k := by
        rcases ho6.2 with ⟨rfl, _⟩ | ⟨g, cap, cur, rfl, _⟩
        · simp [kvBlocks] at hk
        · simp [kvBlocks] at hk; subst hk; rfl
      have := (ho6.lt k e).1
      have := hbw5.size
      omega)
    obtain ⟨q1, q2⟩ := q
    refine ⟨q1, q2.imp id fun ⟨g, cap, cur, k1, k2, k3⟩ => ⟨g, cap, cur, k1, Nat.zero_le _, k3⟩⟩
  · intro k hk
    have e : kv.ownBlock = some k := by
      rcases ho6.2 with ⟨rfl, _⟩ | ⟨g, cap, cur, rfl, _⟩
      · simp [kvBlocks] at hk
      · simp [kvBlocks] at hk; subst hk; rfl
    have := ho6.lt k e
    omega
theorem CopyW.old {w W7 : World} {L : ML} {m : Mem} {L1 L2 L3 : SpL} {kv : Value} {B N : Nat} (c : CopyW w W7 L m L1 L2 L3 kv B N) : MapRep W7 L.mb m.moved ∧ L.b < B ∧ L.mb < B := by
  have h1 := c.h.lt (k := L.mb) (MemRep.mem_fp.2 (.inr (.inl rfl)))
  have h2 := c.h.lt (k := L.b) (MemRep.mem_fp.2 (.inl rfl))
  have hB := c.hB
  exact ⟨c.h.mv.block (c.bl.block _ (by omega)), by omega, by omega⟩
/-- The copy, behind the copying of its map. -/
theorem copy_end {w W7 wr : World} {L : ML} {m : Mem} {L1 L2 L3 : SpL} {kv : Value} {B N : Nat} {mv : List (Int × Int)} (c : CopyW w W7 L m L1 L2 L3 kv B N) (hf : Fr (fun k => N ≤ k) W7 wr) (hm : MapRep wr N mv) :
    ∃ L' : ML, L'.b = B ∧ L'.D = L.D ∧ MemRep wr L' (m.withMv mv) ∧ Below w.heap.size w wr ∧ ∀ k ∈ L'.fp, w.heap.size ≤ k := by
  obtain ⟨a1, a2, a3, r0, r1, r2, r3, r4, r5, r6, r7⟩ := c.rg
  have hB := c.hB
  have h := c.h
  have hN : N < W7.heap.size := by obtain ⟨es, cc, q, _⟩ := c.mp; exact lt_of_block q
  have hkv : kvBlocks kv = [] ∨ ∃ g, kvBlocks kv = [g] := by
    rcases c.ko.2 with ⟨rfl, _⟩ | ⟨g, cap, cur, rfl, _⟩
    · exact .inl rfl
    · exact .inr ⟨g, rfl⟩
  have hbl : Below w.heap.size w wr := by
    have b := c.bl
    exact ⟨hf.os.trans b.os, hf.tape.trans b.tape, hf.output.trans b.output, Nat.le_trans b.size hf.size, fun k hk => (hf.block k (by have := b.size; omega) (by omega)).trans (b.block k (by omega))⟩
  have hfp : ∀ k ∈ (⟨B, L1, L2, L3, L.shv, kv, N, L.D⟩ : ML).fp, B ≤ k := fun k hk => by
    rcases MemRep.mem_fp.1 hk with q | q | q | q | q | q
    · exact Nat.le_of_eq q.symm
    · simp only at q; omega
    · have := r1 k q; omega
    · have := r2 k q; omega
    · have := r3 k q; omega
    · have := r4 k q; omega
  refine ⟨⟨B, L1, L2, L3, L.shv, kv, N, L.D⟩, rfl, rfl, ⟨hf.blk c.blk (show ¬ N ≤ B by omega), c.t1.of_blocks fun k hk => hf.block k (c.t1.lt hk) (by have := r1 k hk; omega), c.t2.of_blocks fun k hk => hf.block k (c.t2.lt hk) (by have := r2 k hk; omega), c.t3.of_blocks fun k hk => hf.block k (c.t3.lt hk) (by have := r3 k hk; omega),
    ownsRow_of_blocks c.ko fun k hk => hf.block k (ownsRow_lt c.ko hk) (by have := r4 k hk; omega), hm, h.sh.of_blocks fun k hk => (hbl.block k (h.Dlt k hk)), ?_, fun k hk hD => by have := hfp k hk; have := h.Dlt k hD; omega, fun k hk => Nat.lt_of_lt_of_le (h.Dlt k hk) hbl.size, h.sl, h.sll, h.sc0, h.sc1, h.lf0, h.lf1, h.kb, h.kl⟩, hbl, fun k hk => by rw [← hB]; exact hfp k hk⟩
  have n1 := c.t1.nd
  have n2 := c.t2.nd
  have n3 := c.t3.nd
  simp only [ML.fp, List.nodup_cons, List.mem_cons, List.mem_append, not_or, List.nodup_append]
  refine ⟨⟨by omega, fun q => by have := r1 _ q; omega, fun q => by have := r2 _ q; omega, fun q => by have := r3 _ q; omega, fun q => by have := r4 _ q; omega⟩,
    ⟨fun q => by have := r1 _ q; omega, fun q => by have := r2 _ q; omega, fun q => by have := r3 _ q; omega, fun q => by have := r4 _ q; omega⟩, n1, ⟨n2, ⟨n3, ?_, fun a ha b hb => ?_⟩, fun a ha b hb => ?_⟩, fun a ha b hb => ?_⟩
  · rcases hkv with e | ⟨g, e⟩ <;> rw [e] <;> simp
  · have := r3 a ha; have := r4 b hb; omega
  · have := r2 a ha
    rcases hb with hb | hb
    · have := r3 b hb; omega
    · have := r4 b hb; omega
  · have := r1 a ha
    rcases hb with hb | hb | hb
    · have := r2 b hb; omega
    · have := r3 b hb; omega
    · have := r4 b hb; omega
end Go.Proofs.Ytnedmmopkhmejaa
