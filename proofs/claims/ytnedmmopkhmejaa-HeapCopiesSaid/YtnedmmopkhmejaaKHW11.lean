/- Walk: needed. -/
import Derived.Laws.EntriesVeiled
import Derived.Test.YtnedmmopkhmejaaKHW10
set_option linter.unusedVariables false
set_option linter.unusedSimpArgs false
namespace Go.Proofs.Ytnedmmopkhmejaa
open Go.RowKit Go.Proofs.Hp
attribute [local go_sem] Oper.semAt_some

theorem arr91 (ts : Array Value) (h : ts.size = 91) : ∃ us : Nat → Value, ts = #[us 0, us 1, us 2, us 3, us 4, us 5, us 6, us 7, us 8, us 9, us 10, us 11, us 12, us 13, us 14, us 15, us 16, us 17, us 18, us 19, us 20, us 21, us 22, us 23, us 24, us 25, us 26, us 27, us 28, us 29, us 30, us 31, us 32, us 33, us 34, us 35, us 36, us 37, us 38, us 39, us 40, us 41, us 42, us 43, us 44, us 45, us 46, us 47, us 48, us 49, us 50, us 51, us 52, us 53, us 54, us 55, us 56, us 57, us 58, us 59, us 60, us 61, us 62, us 63, us 64, us 65, us 66, us 67, us 68, us 69, us 70, us 71, us 72, us 73, us 74, us 75, us 76, us 77, us 78, us 79, us 80, us 81, us 82, us 83, us 84, us 85, us 86, us 87, us 88, us 89, us 90] := by
  refine ⟨fun k => ts.getD k undef, ?_⟩
  have e : ts = ((List.range 91).map fun k => ts.getD k undef).toArray := by
    refine Array.ext (by simp [h]) fun i h1 h2 => ?_
    simp [Array.getD, h1]
  exact e

theorem al5 (w : World) (a b c d e : Obj) : let w' := ((((w.alloc a).alloc b).alloc c).alloc d).alloc e
    w'.heap[w.heap.size]? = some a ∧ w'.heap[w.heap.size + 1]? = some b ∧ w'.heap[w.heap.size + 2]? = some c ∧ w'.heap[w.heap.size + 3]? = some d ∧ w'.heap[w.heap.size + 4]? = some e ∧ w'.heap.size = w.heap.size + 5 := by
  refine ⟨?_, ?_, ?_, ?_, ?_, ?_⟩
  · rw [al_old _ _ _ (by simp only [al_size]; omega), al_old _ _ _ (by simp only [al_size]; omega), al_old _ _ _ (by simp only [al_size]; omega), al_old _ _ _ (by simp only [al_size]; omega)]; exact al_same w a
  · rw [al_old _ _ _ (by simp only [al_size]; omega), al_old _ _ _ (by simp only [al_size]; omega), al_old _ _ _ (by simp only [al_size]; omega)]; exact al_at _ _ _ (by simp only [al_size])
  · rw [al_old _ _ _ (by simp only [al_size]; omega), al_old _ _ _ (by simp only [al_size]; omega)]; exact al_at _ _ _ (by simp only [al_size])
  · rw [al_old _ _ _ (by simp only [al_size]; omega)]; exact al_at _ _ _ (by simp only [al_size])
  · exact al_at _ _ _ (by simp)
  · simp

theorem NR.start {w : World} {L : ML} {m : Mem} (h : MemRep w L m) :
    NR (((((w.alloc (box (ptrV L.b) 27)).alloc (.map #[] 0)).alloc (box (.map (some (w.heap.size + 1))) 174)).alloc (box (.slice none 0 0) 34)).alloc
      (box (.func (.func 116) #[] #[ptrV w.heap.size, ptrV (w.heap.size + 2), ptrV (w.heap.size + 3)]) 175)) L m w.heap.size (fun _ => False) [] := by
  obtain ⟨e0, e1, e2, e3, e4, _⟩ := al5 w (box (ptrV L.b) 27) (.map #[] 0) (box (.map (some (w.heap.size + 1))) 174) (box (.slice none 0 0) 34)
    (box (.func (.func 116) #[] #[ptrV w.heap.size, ptrV (w.heap.size + 2), ptrV (w.heap.size + 3)]) 175)
  exact ⟨((((h.alloc _).alloc _).alloc _).alloc _).alloc _, fun k hk => h.lt hk, fun k hk => h.Dlt k hk, e0, ⟨#[], 0, e1, rfl⟩, e2, ⟨_, e3, World.ownsRow_nil _ _ _ _, fun k hk => by cases hk⟩, e4, List.nodup_nil, by simp, fun _ q => q.elim⟩

theorem flat_get : ∀ (l : List (Int × Int)) (k : Nat) (h : k < l.length), (flatSlots l)[k * 2]? = some (.int .i64 l[k].1) ∧ (flatSlots l)[k * 2 + 1]? = some (.int .i64 l[k].2)
  | [], k, h => by simp at h
  | x :: l, 0, h => by simp [flatSlots]
  | x :: l, k + 1, h => by
    have := flat_get l k (by simpa using h)
    have e1 : (k + 1) * 2 = k * 2 + 2 := by omega
    rw [e1]
    simpa [flatSlots] using this

theorem MemRep.knownAt {w : World} {L : ML} {m : Mem} (h : MemRep w L m) {k : Nat} (hk : k < m.known.length) :
    ∃ g cap, L.kv = .slice (some ⟨g, 0, none⟩) m.known.length cap ∧ w.cell? ⟨g, k * 2, none⟩ = some (.int .i64 m.known[k].1) ∧ w.cell? ⟨g, k * 2 + 1, none⟩ = some (.int .i64 m.known[k].2) := by
  have hkn := h.kn
  rcases hkn.2 with ⟨_, h0⟩ | ⟨g, cap, cur, hv, hb, hg, r⟩
  · omega
  · obtain ⟨e1, e2⟩ := flat_get m.known k hk
    have q1 := hkn.cells (g := g) (by rw [hv]; rfl) _ _ e1
    have q2 := hkn.cells (g := g) (by rw [hv]; rfl) _ _ e2
    have ha : ∀ j, (⟨g, 0, none⟩ : Addr).add j = ⟨g, j, none⟩ := fun j => by unfold Addr.add; split <;> simp_all
    rw [ha] at q1 q2
    exact ⟨g, cap, hv, q1, q2⟩

theorem knownVals_get (s : Sp) : ∀ (ks : List (Int × Int)) (vs : List Int), Mem.knownVals s ks = some vs → vs.length = ks.length ∧ ∀ k (h : k < ks.length) (h' : k < vs.length), s.ok (ks[k].1 + 1 + ks[k].2) = true ∧ vs[k] = s.get (ks[k].1 + 1 + ks[k].2)
  | [], vs, h => by
    simp only [Mem.knownVals, Option.some.injEq] at h
    subst h; simp
  | x :: ks, vs, h => by
    unfold Mem.knownVals at h
    by_cases hx : s.ok (x.1 + 1 + x.2) = true
    · rw [if_pos hx] at h
      obtain ⟨l, h1, rfl⟩ := Option.map_eq_some_iff.1 h
      obtain ⟨q1, q2⟩ := knownVals_get s ks l h1
      refine ⟨by simp [q1], fun k hk hk' => ?_⟩
      cases k with
      | zero => exact ⟨hx, rfl⟩
      | succ k => exact q2 k (by simpa using hk) (by simpa using hk')
    · rw [if_neg hx] at h; cases h

theorem NR.prot {W : World} {L : ML} {m : Mem} {B : Nat} {X : Nat → Prop} {l : List Int} (h : NR W L m B X l) {X' : Nat → Prop} (hX : ∀ k, X' k → X k) : NR W L m B X' l :=
  h.fr (Fr.refl _ W) (fun k q => .inl (hX k q)) (fun k q => (h.X5 k (hX k q)).2)
theorem NR.al {W : World} {L : ML} {m : Mem} {B : Nat} {X : Nat → Prop} {l : List Int} (h : NR W L m B X l) (o : Obj) : NR (W.alloc o) L m B (fun j => X j ∨ j = W.heap.size) l :=
  h.fr ((Fr.refl _ W).alloc o) (fun k q => q.elim .inl (fun e => .inr (by omega))) (fun k q => q.elim (fun q => by have := (h.X5 k q).2; rw [al_size]; omega) (fun e => by rw [al_size]; omega))

/-- The list behind the fields of an object, in order. -/
def metL (m : Mem) (a : Int) : List Int → List Bool → Int → List Int
  | l, [], _ => l
  | l, b :: bs, i => metL m a (if b then m.meetY l (m.young.get (a + 1 + i)) else l) bs (i + 1)
theorem metL_append (m : Mem) (a : Int) (b : Bool) : ∀ (bs : List Bool) (l : List Int) (i : Int), metL m a l (bs ++ [b]) i = (if b then m.meetY (metL m a l bs i) (m.young.get (a + 1 + (i + (bs.length : Int)))) else metL m a l bs i)
  | [], l, i => by simp [metL]
  | c :: bs, l, i => by
    simp only [List.cons_append, metL]
    rw [metL_append m a b bs _ (i + 1)]
    simp only [List.length_cons, show i + 1 + (bs.length : Int) = i + ((bs.length + 1 : Nat) : Int) by omega]
theorem metL_refs (m : Mem) (a : Int) : ∀ (bs : List Bool) (l vs : List Int) (i : Int), Mem.refVals m.young a bs i = some vs → vs.foldl m.meetY l = metL m a l bs i ∧ ∀ k : Nat, bs[k]? = some true → m.young.ok (a + 1 + (i + (k : Int))) = true
  | [], l, vs, i, h => by
    simp only [Mem.refVals, Option.some.injEq] at h; subst h
    exact ⟨rfl, fun k hk => by simp at hk⟩
  | b :: bs, l, vs, i, h => by
    cases b with
    | false =>
      simp only [Mem.refVals, Bool.false_eq_true, if_false] at h
      obtain ⟨q1, q2⟩ := metL_refs m a bs l vs (i + 1) h
      refine ⟨by simpa [metL] using q1, fun k hk => ?_⟩
      cases k with
      | zero => simp at hk
      | succ k => have := q2 k (by simpa using hk); rw [show i + ((k + 1 : Nat) : Int) = i + 1 + (k : Int) by omega]; exact this
    | true =>
      simp only [Mem.refVals, if_true] at h
      split at h
      · rename_i hok
        obtain ⟨vs1, h1, rfl⟩ := Option.map_eq_some_iff.1 h
        obtain ⟨q1, q2⟩ := metL_refs m a bs (m.meetY l (m.young.get (a + 1 + i))) vs1 (i + 1) h1
        refine ⟨by simpa [metL] using q1, fun k hk => ?_⟩
        cases k with
        | zero => simpa using hok
        | succ k => have := q2 k (by simpa using hk); rw [show i + ((k + 1 : Nat) : Int) = i + 1 + (k : Int) by omega]; exact this
      · cases h

theorem neededLoop_round (m : Mem) (i : Nat) (acc : Int) (l : List Int) (n a : Int) (ha : l[i]? = some a) (h : ∃ f, Mem.neededLoop m f i acc l = some n) :
    ∃ sh, m.fieldsAt m.young a = some sh ∧ ∃ vs1, Mem.refVals m.young a sh 0 = some vs1 ∧ ∃ f, Mem.neededLoop m f (i + 1) (acc + ((sh.length + 1 : Nat) : Int)) (vs1.foldl m.meetY l) = some n := by
  obtain ⟨f, hf⟩ := h
  cases f with
  | zero => cases hf
  | succ f =>
    unfold Mem.neededLoop at hf
    rw [ha] at hf
    simp only at hf
    split at hf
    · cases hf
    · rename_i sh hq
      split at hf
      · cases hf
      · rename_i vs1 hq2
        exact ⟨sh, hq, vs1, hq2, f, hf⟩
theorem neededLoop_end (m : Mem) (i : Nat) (acc : Int) (l : List Int) (n : Int) (ha : l[i]? = none) (h : ∃ f, Mem.neededLoop m f i acc l = some n) : n = acc := by
  obtain ⟨f, hf⟩ := h
  cases f with
  | zero => cases hf
  | succ f =>
    unfold Mem.neededLoop at hf
    rw [ha] at hf
    simp only [Option.some.injEq] at hf
    exact hf.symm

theorem metL_len (m : Mem) (a : Int) : ∀ (bs : List Bool) (l : List Int) (i : Int), l.length ≤ (metL m a l bs i).length
  | [], l, i => by simp [metL]
  | b :: bs, l, i => by
    simp only [metL]
    refine Nat.le_trans ?_ (metL_len m a bs _ (i + 1))
    split
    · unfold Mem.meetY; split <;> simp
    · exact Nat.le_refl _

theorem MemRep.kvS {w : World} {L : ML} {m : Mem} (h : MemRep w L m) : ∃ p cap, L.kv = .slice p m.known.length cap := ownsRow_slice h.kn

set_option maxRecDepth 100000 in
set_option maxHeartbeats 8000000 in
theorem c_needed (w : World) (L : ML) (m : Mem) (h : MemRep w L m) (D : Nat → Prop) (v : Value) (roots : List Int) (hr : IntsAt w D v roots) (hl : roots.length ≤ 140737488355328) (n : Int) (hn : m.needed roots = some n) :
    Calls Try.prog 85 #[.pointer (some ⟨L.b, 0, none⟩), v] w fun e w' => e = .returned (.int .i64 n) ∧ Below w.heap.size w w' := by
  obtain ⟨p, cap, rfl, hc⟩ := hr
  have hcells : ∀ i (hi : i < roots.length), ∃ b o, p = some ⟨b, o, none⟩ ∧ w.cell? ⟨b, o + i, none⟩ = some (.int .i64 roots[i]) := by
    intro i hi
    rcases hc with rfl | ⟨b, o, hp, _, hc⟩
    · simp at hi
    · exact ⟨b, o, hp, hc i hi⟩
  have hcells' := Lib.hid hcells
  clear hcells hc
  refine (callsIn_wide (n := 9)).1 (callsIn_of_wp_marks Try.func85 rfl trivial (wpIn_wide.2 ?_) rfl)
  simp only [Try.ntmps85, List.size_toArray, List.length_cons, List.length_nil, Nat.reduceAdd, Nat.reduceSub, Array.replicate_succ, Array.replicate_zero, List.push_toArray, List.append_toArray, List.nil_append, List.cons_append]
  have hmk := @run_makeMap Try.prog
  go_wp2_with (fail)
  have hst := NR.start h
  have fst : Fr (fun j => w.heap.size ≤ j) w (((((w.alloc (box (ptrV L.b) 27)).alloc (.map #[] 0)).alloc (box (.map (some (w.heap.size + 1))) 174)).alloc (box (.slice none 0 0) 34)).alloc
      (box (.func (.func 116) #[] #[ptrV w.heap.size, ptrV (w.heap.size + 2), ptrV (w.heap.size + 3)]) 175)) := (((((Fr.refl _ w).alloc _).alloc _).alloc _).alloc _).alloc _
  simp only [box, ptrV] at hst fst
  simp only [Nat.add_assoc, Nat.reduceAdd]
  obtain ⟨B, hB⟩ : ∃ B, B = w.heap.size := ⟨_, rfl⟩
  rw [← hB] at hst fst ⊢
  generalize (((((w.alloc (.cells #[.pointer (some ⟨L.b, 0, none⟩)] 27)).alloc (.map #[] 0)).alloc (.cells #[.map (some (B + 1))] 174)).alloc (.cells #[.slice none 0 0] 34)).alloc
      (.cells #[.func (.func 116) #[] #[.pointer (some ⟨B, 0, none⟩), .pointer (some ⟨B + 2, 0, none⟩), .pointer (some ⟨B + 3, 0, none⟩)]] 175)) = W0 at *
  have hB' := Lib.hid hB
  clear hB hmk
  go_loopw [20] (fun i wr => ∃ k : Nat, i = .int .i64 k ∧ k ≤ roots.length ∧ NR wr L m B (fun _ => False) ((roots.take k).foldl m.meetY []) ∧ Fr (fun j => B ≤ j) w wr) (fun i _ => roots.length - (intOf i).toNat)
  case atStart => exact ⟨0, rfl, by omega, by simpa using hst, fst⟩
  case round =>
    obtain ⟨k, rfl, hk, hN, hF⟩ := hrel
    by_cases hlt : k < roots.length
    · obtain ⟨b, o, rfl, hcell⟩ := hcells'.out k hlt
      have hcl := hF.cell hcell (by have := lt_of_cell hcell; have := hB'.out; omega)
      have e4 : wr.cell? ⟨B + 4, 0, none⟩ = some (.func (.func 116) #[] #[.pointer (some ⟨B, 0, none⟩), .pointer (some ⟨B + 2, 0, none⟩), .pointer (some ⟨B + 3, 0, none⟩)]) := by rw [cell_of hN.b4]; rfl
      clear hcell
      generalize hrk : roots[k] = rk at *
      have hrk' := Lib.hid hrk
      clear hrk
      go_wp2_with (fail)
      refine (c_meet wr L m B (fun _ => False) _ hN rk).mono ?_
      rintro e w1 ⟨rfl, h1, f1⟩
      clear hcl e4
      go_wp2
      go_roundw
      case rel => exact ⟨k + 1, by go_num, by omega, by rw [List.take_succ_eq_append_getElem hlt, List.foldl_append, hrk'.out]; exact h1, hF.trans (f1.mono fun j _ q => q.ge)⟩
      case measure => simp [intOf]; omega
    · obtain rfl : k = roots.length := by omega
      rw [List.take_length] at hN
      clear hlt hk hst fst
      obtain ⟨kp, kcap, hkv⟩ := hN.rep.kvS
      have x0 : wr.cell? ⟨B, 0, none⟩ = some (.pointer (some ⟨L.b, 0, none⟩)) := by rw [cell_of hN.b0]; rfl
      have x4 := hN.rep.c4
      rw [hkv] at x4
      have hkv' := Lib.hid hkv
      clear hkv
      go_wp2_with (fail)
      clear x0 x4
      obtain ⟨vs, hvs⟩ : ∃ vs, Mem.knownVals m.now m.known = some vs := by
        unfold Mem.needed at hn
        cases hv : Mem.knownVals m.now m.known with
        | none => rw [hv] at hn; cases hn
        | some vs => exact ⟨vs, rfl⟩
      have hnl : Mem.neededLoop m (m.young.words.length + 1) 0 0 (vs.foldl m.meetY (roots.foldl m.meetY [])) = some n := by
        unfold Mem.needed at hn; rw [hvs] at hn; exact hn
      obtain ⟨hvl, hvg⟩ := knownVals_get _ _ _ hvs
      have hvg' := Lib.hid hvg
      have hvl' := Lib.hid hvl
      have hnl' := Lib.hid hnl
      have hkl := hN.rep.kl
      clear hn hvs hvg hvl hnl
      generalize hl0 : roots.foldl m.meetY [] = l0 at *
      clear hl0
      go_loopw [33] (fun i wr => ∃ k : Nat, i = .int .i64 k ∧ k ≤ m.known.length ∧ NR wr L m B (fun _ => False) ((vs.take k).foldl m.meetY l0) ∧ Fr (fun j => B ≤ j) w wr) (fun i _ => m.known.length - (intOf i).toNat)
      case atStart => exact ⟨0, rfl, by omega, by simpa using hN, hF⟩
      case round =>
        clear hN hF
        obtain ⟨k, rfl, hk, hN, hF⟩ := hrel
        by_cases hlt : k < m.known.length
        · obtain ⟨g, gc, hg, g1, g2⟩ := hN.rep.knownAt hlt
          rw [hkv'.out] at hg
          simp only [Value.slice.injEq] at hg
          obtain ⟨rfl, _, rfl⟩ := hg
          have hvlt : k < vs.length := by have := hvl'.out; omega
          obtain ⟨hok, hval⟩ := hvg'.out k hlt hvlt
          have hkb := hN.rep.kb _ (List.getElem_mem hlt)
          generalize hkk : m.known[k] = kk at *
          clear hkk
          obtain ⟨ka, kf⟩ := kk
          simp only at hok hval hkb g1 g2
          have hfold : Hid ((vs.take (k + 1)).foldl m.meetY l0 = m.meetY ((vs.take k).foldl m.meetY l0) (m.now.get (ka + 1 + kf))) := by
            show _ = _
            rw [List.take_succ_eq_append_getElem hvlt, List.foldl_append, hval]; rfl
          clear hval
          have hN1 := hN.al (.cells #[.int .i64 ka, .int .i64 kf] 131)
          have hbx := al_same wr (.cells #[.int .i64 ka, .int .i64 kf] 131)
          have hF1 := hF.alloc (.cells #[.int .i64 ka, .int .i64 kf] 131)
          have w1 : IntKind.i64.wrap (ka + 1) = ka + 1 := IntWalk.i64_in _ (by omega)
          have w2 : IntKind.i64.wrap (ka + 1 + kf) = ka + 1 + kf := IntWalk.i64_in _ (by omega)
          clear hkb
          go_wp2_with (fail)
          have hX5 := hN1.X5 wr.heap.size (.inr rfl)
          have hltH := Lib.hid hlt
          generalize hbe : wr.heap.size = bx at *
          generalize wr.alloc (.cells #[.int .i64 ka, .int .i64 kf] 131) = W1 at *
          clear hbe hN hF g1 g2 hlt hvlt
          have hnb : ∀ j, j = B ∨ j = B + 4 ∨ j = bx ∨ j < B → ¬ MeetS B (fun j => False ∨ j = bx) j := by
            intro j hj q
            rcases q with q | q | ⟨q, q'⟩
            · omega
            · omega
            · exact q' (.inr (by omega))
          have hnw : L.n.wb < B := hN1.fpl _ (MemRep.spfp (wh := .n) (by simp [ML.spL, SpL.fp]))
          have x0 : W1.cell? ⟨B, 0, none⟩ = some (.pointer (some ⟨L.b, 0, none⟩)) := by rw [cell_of hN1.b0]; rfl
          have x2 := hN1.rep.c2
          have x4 : W1.cell? ⟨B + 4, 0, none⟩ = some (.func (.func 116) #[] #[.pointer (some ⟨B, 0, none⟩), .pointer (some ⟨B + 2, 0, none⟩), .pointer (some ⟨B + 3, 0, none⟩)]) := by rw [cell_of hN1.b4]; rfl
          have xa : W1.cell? ⟨bx, 0, none⟩ = some (.int .i64 ka) := by rw [cell_of hbx]; rfl
          have xb : W1.cell? ⟨bx, 1, none⟩ = some (.int .i64 kf) := by rw [cell_of hbx]; rfl
          have xw := hN1.rep.n.getw hok
          generalize m.now.get (ka + 1 + kf) = vk at *
          go_region_held3 (fun w' => w'.cell? ⟨B, 0, none⟩ = some (.pointer (some ⟨L.b, 0, none⟩)) ∧ w'.cell? ⟨L.b, 2, none⟩ = some (.pointer (some ⟨L.n.b, 0, none⟩)) ∧
              w'.cell? ⟨B + 4, 0, none⟩ = some (.func (.func 116) #[] #[.pointer (some ⟨B, 0, none⟩), .pointer (some ⟨B + 2, 0, none⟩), .pointer (some ⟨B + 3, 0, none⟩)]) ∧
              w'.cell? ⟨bx, 0, none⟩ = some (.int .i64 ka) ∧ w'.cell? ⟨bx, 1, none⟩ = some (.int .i64 kf) ∧ w'.cell? ⟨L.n.wb, m.now.idx (ka + 1 + kf), none⟩ = some (.int .i64 vk)) (go_keep)
            (first
              | ((with_reducible refine (c_word _ _ _ (hN1.rep.drew).n (ka + 1 + kf) hok).mono ?_); rintro e w3 ⟨rfl, n3, rfl⟩)
              | ((with_reducible refine (c_meet _ L m B _ _ (hN1.drewN (1 + n3)) vk).mono ?_); rintro e w4 ⟨rfl, h4, f4⟩; have k2 := h4.rep.c2
                 have k0 := f4.cell (w := W1.drewN (1 + n3)) x0 (hnb _ (.inl rfl)); have k4 := f4.cell (w := W1.drewN (1 + n3)) x4 (hnb _ (.inr (.inl rfl))); have ka := f4.cell (w := W1.drewN (1 + n3)) xa (hnb _ (.inr (.inr (.inl rfl)))); have kb := f4.cell (w := W1.drewN (1 + n3)) xb (hnb _ (.inr (.inr (.inl rfl)))); have kw := f4.cell (w := W1.drewN (1 + n3)) xw (hnb _ (.inr (.inr (.inr hnw))))))
          clear x0 x2 x4 xa xb xw k0 k2 k4 ka kb kw hnb
          go_wp2
          go_roundw
          case rel => exact ⟨k + 1, by go_num, (by have := hltH.out; omega), by rw [hfold.out]; exact h4.prot (fun _ q => q.elim), (hF1.drewN (1 + n3)).trans (f4.mono fun j _ q => q.ge)⟩
          case measure => have := hltH.out; simp [intOf]; omega
        · obtain rfl : k = m.known.length := by omega
          have hvt : vs.take m.known.length = vs := by rw [← hvl'.out]; exact List.take_length
          rw [hvt] at hN
          generalize hl1 : vs.foldl m.meetY l0 = l1 at *
          clear hlt hk hvt hl1 hvg' hkv' hkl hvl'
          go_wp2_with (fail)
          have hN0 := hN.len
          refine wp_loop (fun a' wr => ∃ (Ds : List Nat), a'.tmps.size = 91 ∧ a'.defers = Ds.map markOf ∧ a'.tmps.getD 2 undef = .pointer (some ⟨B, 0, none⟩) ∧ a'.tmps.getD 6 undef = .pointer (some ⟨B + 3, 0, none⟩) ∧ a'.tmps.getD 7 undef = .pointer (some ⟨B + 4, 0, none⟩) ∧ (∃ (i : Nat) (l : List Int) (acc : Int), (a'.tmps.getD 12 undef) = .int .i64 acc ∧ (a'.tmps.getD 13 undef) = .int .i64 i ∧ i ≤ l.length ∧ 0 ≤ acc ∧ acc ≤ 61 * (i : Int) ∧ NR wr L m B (fun k => k ∈ Ds) l ∧ Ds.Nodup ∧ (∀ D ∈ Ds, wr.heap[D]? = some (.deferred (some []))) ∧ Fr (fun j => B ≤ j) w wr ∧ Hid (∃ f, Mem.neededLoop m f i acc l = some n))) (fun a' wr => m.young.used + 1 - (intOf (a'.tmps.getD 13 undef)).toNat) ?_ ?_
          · skip
            refine ⟨[], rfl, rfl, rfl, rfl, rfl, ?_⟩
            exact ⟨0, l1, 0, rfl, rfl, by omega, by omega, by omega, by simpa using hN, List.nodup_nil, by simp, hF, _, hnl'.out⟩
          · skip
            rintro ⟨ts, ds⟩ wr ⟨Ds, hsz, hds, f2, f6, f7, hrel⟩
            simp only at hds
            subst hds
            obtain ⟨us, rfl⟩ := arr91 ts hsz
            replace f2 : us 2 = .pointer (some ⟨B, 0, none⟩) := f2
            replace f6 : us 6 = .pointer (some ⟨B + 3, 0, none⟩) := f6
            replace f7 : us 7 = .pointer (some ⟨B + 4, 0, none⟩) := f7
            rw [f2]
            rw [f6]
            rw [f7]
            clear hsz f2 f6 f7
            clear hN hF hnl'
            obtain ⟨i, l, acc, h12, h13, hil, hac0, hac1, hN, hnd, hop, hF, hfu⟩ := hrel
            replace h12 : us 12 = .int .i64 acc := h12
            replace h13 : us 13 = .int .i64 i := h13
            rw [h12, h13]
            clear h12 h13
            have x0 : wr.cell? ⟨B, 0, none⟩ = some (.pointer (some ⟨L.b, 0, none⟩)) := by rw [cell_of hN.b0]; rfl
            have x1 := hN.rep.c1
            have y1 := hN.rep.y.b1
            have yle := hN.rep.y.le
            have hlen := hN.len
            obtain ⟨v, g3, o3, x3⟩ := hN.b3
            obtain ⟨vp, vcap, rfl⟩ := ownsRow_slice o3
            have e3 : wr.cell? ⟨B + 3, 0, none⟩ = some (.slice vp l.length vcap) := by rw [cell_of g3]; rfl
            by_cases hlt : i < l.length
            · have hltH := Lib.hid hlt
              obtain ⟨g, rfl, hcl⟩ : ∃ g, vp = some ⟨g, 0, none⟩ ∧ wr.cell? ⟨g, i, none⟩ = some (.int .i64 l[i]) := by
                rcases o3.2 with ⟨_, h0⟩ | ⟨g, cap, cur, hv, _⟩
                · omega
                · simp only [Value.slice.injEq] at hv
                  obtain ⟨rfl, _, rfl⟩ := hv
                  refine ⟨g, rfl, ?_⟩
                  have := o3.cells (g := g) rfl i (.int .i64 l[i]) (by rw [List.getElem?_map, List.getElem?_eq_getElem hlt]; rfl)
                  rw [show (⟨g, 0, none⟩ : Addr).add i = ⟨g, i, none⟩ from by unfold Addr.add; split <;> simp_all] at this
                  exact this
              -- the model's round
              obtain ⟨sh, hsh, vs1, hvs1, f, hf⟩ := neededLoop_round m i acc l n _ (List.getElem?_eq_getElem hlt) hfu.out
              obtain ⟨hm1, hm2⟩ := metL_refs m l[i] sh l vs1 0 hvs1
              rw [hm1] at hf
              clear hm1 hvs1 hfu
              have hyi := hN.yg _ (List.getElem_mem hlt)
              generalize l[i] = a at *
              obtain ⟨hoka, hs60, _⟩ := hN.rep.fields (s := m.young) hsh
              have hsz : ∀ q, Calls Try.prog 112 #[.pointer (some ⟨L.b, 0, none⟩), .pointer (some ⟨L.y.b, 0, none⟩), .int .i64 a] (wr.drewN q) fun e w' => e = .returned (.int .i64 ((sh.length : Int) + 1)) ∧ ∃ k, w' = wr.drewN k :=
                fun q => Calls.quiet_of (c_size (wr.drewN q) L m (hN.rep.drewN q) .y a (sh.length + 1) (by unfold Mem.size; rw [show m.sp .y = m.young from rfl, hsh]; rfl))
              have wc1 : IntKind.i64.wrap (acc + ((sh.length : Int) + 1)) = acc + ((sh.length : Int) + 1) := IntWalk.i64_in _ (by omega)
              have wc2 : IntKind.i64.wrap ((i : Int) + 1) = (i : Int) + 1 := IntWalk.i64_in _ (by omega)
              have hfH := Lib.hid hf
              have hm2H := Lib.hid hm2
              have hshH := Lib.hid hsh
              have hokaH := Lib.hid hoka
              clear hf hm2 hsh hoka hyi
              go_wp2_with (fail)
              go_quiet ((go_at_call 112; exact hsz _))
              go_wp2_with (fail)
              have hN2 := hN.drewN nq
              have hF2 := hF.drewN nq
              have hop2 : ∀ D ∈ Ds, (wr.drewN nq).heap[D]? = some (.deferred (some [])) := hop
              have hcl2 : (wr.drewN nq).cell? ⟨g, i, none⟩ = some (.int .i64 a) := hcl
              have e32 : (wr.drewN nq).cell? ⟨B + 3, 0, none⟩ = some (.slice (some ⟨g, 0, none⟩) l.length vcap) := e3
              have x02 : (wr.drewN nq).cell? ⟨B, 0, none⟩ = some (.pointer (some ⟨L.b, 0, none⟩)) := x0
              have x12 : (wr.drewN nq).cell? ⟨L.b, 1, none⟩ = some (.pointer (some ⟨L.y.b, 0, none⟩)) := x1
              clear hN hF hop hcl e3 x0 x1 hsz g3 o3 x3
              generalize wr.drewN nq = W at *
              refine wp_region_still_tail 9 (by kernel_rfl) (by kernel_rfl) ?_
              show wpStill _ _ (W.drewN 1) (fun a' => wpList _ _ _ _ a' (W.drewN 1)) _ _
              simp only [List.take_succ_cons, List.take_zero, List.drop_succ_cons, List.drop_zero]
              repeat still_step
              refine wpStill_nil ?_
              go_wp2_with (fail)
              refine (c_refs _ L.b L.y.b a).mono ?_
              rintro e wE ⟨rfl, rfl⟩
              go_wp2_with (fail)
              have hsz1 : (W.drewN 1).heap.size = W.heap.size := rfl
              obtain ⟨k1, k2, k3⟩ := al3 (W.drewN 1) (box (ptrV L.b) 27) (box (ptrV L.y.b) 95) (box (.int .i64 a) 3)
              have fE : Fr (fun _ => False) W ((((W.drewN 1).alloc (box (ptrV L.b) 27)).alloc (box (ptrV L.y.b) 95)).alloc (box (.int .i64 a) 3)) := ((((Fr.refl _ W).drewN 1).alloc _).alloc _).alloc _
              have sE : ((((W.drewN 1).alloc (box (ptrV L.b) 27)).alloc (box (ptrV L.y.b) 95)).alloc (box (.int .i64 a) 3)).heap.size = W.heap.size + 3 := by simp only [al_size, hsz1]
              rw [hsz1] at k1 k2 k3
              generalize ((((W.drewN 1).alloc (box (ptrV L.b) 27)).alloc (box (ptrV L.y.b) 95)).alloc (box (.int .i64 a) 3)) = WE at *
              clear hsz1
              have hshA : m.shapeAt (m.young.get a) = some sh := by
                have := hshH.out; unfold Mem.fieldsAt at this; rw [if_pos hokaH.out] at this; exact this
              have hv0 : 0 ≤ m.young.get a := by
                unfold Mem.shapeAt at hshA; split at hshA; assumption; cases hshA
              have hv1 : m.shapes[(m.young.get a).toNat]? = some sh := by
                unfold Mem.shapeAt at hshA; rw [if_pos hv0] at hshA; exact hshA
              have hoka := hokaH.out
              have hm2 := hm2H.out
              simp only [Sp.ok, Bool.and_eq_true, decide_eq_true_eq] at hoka hm2
              have hseq := c_refs1 8 L .y a (m.young.get a) W.heap.size (W.heap.size + 1) (W.heap.size + 1 + 1) m.young.frm m.young.words.length m.shapes sh w hv0 hv1 hoka
              refine (wpIn_wide (n := 9)).1 (wpIn_rangeFunc_ord (n := 9) (gf := 108) rfl (enters Try.func108 (by kernel_rfl) rfl) hseq ?hps
                (fun k A => NR A L m B (fun j => j ∈ Ds ∨ (W.heap.size ≤ j ∧ j ≤ W.heap.size + 4)) (metL m a l (sh.take k) 0) ∧ A.heap[W.heap.size]? = some (box (ptrV L.b) 27) ∧
                  A.heap[W.heap.size + 1]? = some (box (ptrV L.y.b) 95) ∧ A.heap[W.heap.size + 1 + 1]? = some (box (.int .i64 a) 3) ∧ (∀ D ∈ Ds, A.heap[D]? = some (.deferred (some []))) ∧ Fr (fun j => B ≤ j) w A)
                (fun _ _ _ => False) ?hI (fun _ _ _ _ _ h => h) ?h0 ?hR ?hskip ?hbody ?hdone (fun _ _ _ _ h => h.elim))
              case hps =>
                intro k vs hk
                unfold refArgs at hk
                split at hk
                · cases hk; rfl
                · cases hk
              case hI =>
                rintro k A C hf ⟨q1, q2, q3, q4, q5, q6⟩
                rw [sE] at hf
                have hlt2 : ∀ D ∈ Ds, D < W.heap.size := fun D hD => (hN2.X5 D hD).2
                have hBW : B + 5 ≤ W.heap.size := by have := lt_of_block hN2.b4; omega
                refine ⟨q1.fr (hf.mono fun j _ hj => .inr (by omega)) (fun j hj => .inl hj) (fun j hj => Nat.lt_of_lt_of_le (q1.X5 j hj).2 hf.size), hf.blk q2 (by omega), hf.blk q3 (by omega), hf.blk q4 (by omega), fun D hD => hf.blk (q5 D hD) (by have := hlt2 D hD; omega), q6.trans (hf.mono fun j _ hj => by omega)⟩
              case h0 =>
                intro C hf hsC
                rw [sE] at hsC
                have hlt2 : ∀ D ∈ Ds, D < W.heap.size := fun D hD => (hN2.X5 D hD).2
                have hf2 := fE.trans hf
                refine ⟨?_, hf.blk k1 id, hf.blk k2 id, hf.blk k3 id, fun D hD => hf2.blk (hop2 D hD) id, hF2.trans (hf2.mono fun _ _ h => h.elim)⟩
                exact hN2.fr (hf2.mono fun _ _ h => h.elim) (fun j hj => hj.elim .inl (fun q => .inr q.1)) (fun j hj => hj.elim (fun q => by have := hlt2 j q; omega) (fun q => by omega))
              case hR =>
                rintro k A ⟨q1, q2, q3, q4, q5, q6⟩
                exact ⟨q2, q3, q4, fun j hj => q6.block j (by have := q1.Dl j hj; have := hB'.out; omega) (by have := q1.Dl j hj; omega), m, q1.rep, rfl, rfl, rfl, fun _ => rfl, fun hk => by have := hm2H.out k hk; rw [show (0 : Int) + (k : Int) = k by omega] at this; exact this⟩
              case hskip =>
                rintro k A hk hk2 ⟨q1, q2⟩
                refine ⟨?_, q2⟩
                rw [List.take_succ_eq_append_getElem hk, metL_append]
                have : sh[k] = false := by
                  unfold refArgs at hk2
                  split at hk2
                  · cases hk2
                  · rename_i hne
                    rw [List.getElem?_eq_getElem hk] at hne
                    cases hq : sh[k] with
                    | false => rfl
                    | true => rw [hq] at hne; exact absurd rfl hne
                rw [this]; exact q1
              case hbody =>
                intro l' k vs W3 hk hvs hI3 hsz3
                have hsk : sh[k]? = some true := by unfold refArgs at hvs; split at hvs; assumption; cases hvs
                obtain rfl : vs = #[.int .i64 k, .pointer (some ⟨L.y.wb, (a + 1 + (k : Int)).toNat - m.young.frm, none⟩)] := by
                  unfold refArgs at hvs; rw [if_pos hsk] at hvs; cases hvs; rfl
                clear hvs
                gi_wp2
                refine ⟨trivial, ?_⟩
                rintro W2 ⟨q1, q2, q3, q4, q5, q6⟩ hs2
                rw [sE] at hs2 ⊢
                have q1d : NR W2.drew L m B (fun j => j ∈ Ds ∨ W.heap.size ≤ j ∧ j ≤ W.heap.size + 4) (metL m a l (sh.take k) 0) := q1.fr ((Fr.refl _ W2).drew) (fun _ q => .inl q) (fun j q => (q1.X5 j q).2)
                have e4 : W2.cell? ⟨B + 4, 0, none⟩ = some (.func (.func 116) #[] #[.pointer (some ⟨B, 0, none⟩), .pointer (some ⟨B + 2, 0, none⟩), .pointer (some ⟨B + 3, 0, none⟩)]) := by rw [cell_of q1.b4]; rfl
                have okk : m.young.ok (a + 1 + (k : Int)) = true := by have := hm2H.out k hsk; simpa using this
                have ew := q1.rep.y.getw okk
                unfold Sp.idx at ew
                have hmix : Try.prog.follows .mixedOrders = true := by kernel_rfl
                have hmk : metL m a l (sh.take (k + 1)) 0 = m.meetY (metL m a l (sh.take k) 0) (m.young.get (a + 1 + (k : Int))) := by
                  rw [List.take_succ_eq_append_getElem hk, metL_append]
                  have : sh[k] = true := by rw [List.getElem?_eq_getElem hk] at hsk; simpa using hsk
                  rw [this, if_pos rfl, List.length_take, Nat.min_eq_left (by omega)]
                  simp
                have hmkH := Lib.hid hmk
                clear hmk okk hsk hm2 hoka hv1 hv0 hshA
                generalize m.young.get (a + 1 + (k : Int)) = vk at *
                gi_wp2_with (fail)
                gi_region_with_o (refine ⟨trivial, ?_⟩; gi_at_call 116; refine (CallsIn.inRound l' (callsIn_wide.2 (c_meet _ L m B _ _ q1d vk))).mono ?_; rintro e w4 ⟨rfl, h4, f4⟩)
                all_goals (
                  have f4' : Fr (MeetS B (fun j => j ∈ Ds ∨ W.heap.size ≤ j ∧ j ≤ W.heap.size + 4)) W2 w4 := Fr.of_drewN (w := W2) 1 f4
                  have hpr : ∀ j, (j ∈ Ds ∨ W.heap.size ≤ j ∧ j ≤ W.heap.size + 4) → ¬ MeetS B (fun j => j ∈ Ds ∨ W.heap.size ≤ j ∧ j ≤ W.heap.size + 4) j := fun j hj q => by
                    have := (q1.X5 j hj).1
                    rcases q with q | q | q
                    · omega
                    · omega
                    · exact q.2 hj
                  show (∀ j, (j = W.heap.size + 3 ∨ j = W.heap.size + 3 + 1) → w4.heap[j]? = W2.heap[j]?) ∧ _
                  refine ⟨fun j hj => f4'.block j (by omega) (hpr j (.inr (by omega))), ?_, f4'.blk q2 (hpr _ (.inr (by omega))), f4'.blk q3 (hpr _ (.inr (by omega))), f4'.blk q4 (hpr _ (.inr (by omega))), fun D hD => f4'.blk (q5 D hD) (hpr D (.inl hD)), q6.trans (f4'.mono fun j _ q => q.ge)⟩
                  rw [hmkH.out]; exact h4)
              case hdone =>
                rintro A ⟨q1, q2, q3, q4, q5, q6⟩ hD
                rw [List.take_length] at q1
                have hDn : WE.heap.size ∉ Ds := fun q => by have := (hN2.X5 _ q).2; omega
                have hil1 : i + 1 ≤ (metL m a l sh 0).length := by have := metL_len m a sh l 0; have := hltH.out; omega
                have hDl := lt_of_block hD
                have hprot : NR A L m B (fun j => j ∈ WE.heap.size :: Ds) (metL m a l sh 0) := q1.prot (fun j hj => by
                  rcases List.mem_cons.1 hj with e | e
                  · exact .inr (by omega)
                  · exact .inl e)
                have hopn : ∀ D ∈ WE.heap.size :: Ds, A.heap[D]? = some (.deferred (some [])) := fun D hD' => by
                  rcases List.mem_cons.1 hD' with e | e
                  · rw [e]; exact hD
                  · exact q5 D e
                have hlenA := q1.len
                go_wp2
                refine ⟨⟨(WE.heap.size :: Ds), rfl, rfl, rfl, rfl, rfl, ?_⟩, ?_⟩
                · exact ⟨i + 1, metL m a l sh 0, acc + ((sh.length : Int) + 1), rfl, by show Value.int .i64 _ = _; go_num, hil1, by omega, by omega, hprot, List.nodup_cons.2 ⟨hDn, hnd⟩, hopn, q6, Lib.hid ⟨f, hfH.out⟩⟩
                · show m.young.used + 1 - (intOf (.int .i64 ((i : Int) + 1))).toNat < m.young.used + 1 - (intOf (.int .i64 (i : Int))).toNat
                  simp [intOf]; omega
            · have hend := neededLoop_end m i acc l n (by rw [List.getElem?_eq_none_iff]; omega) hfu.out
              have hendH := Lib.hid hend
              clear hend
              go_wp2
              refine leaves_marks Ds wr hnd hop (fun w' hw' => ⟨_, results_tmp rfl _ _ _, by show _ = Ending.returned (Value.int .i64 n); rw [hendH.out]; rfl, ?_⟩)
              have := hB'.out
              exact ((hF.trans (hw'.mono fun j _ hj => by have := (hN.X5 j hj).1; omega)).mono (T := fun _ => False) fun j hj q => by omega).below
end Go.Proofs.Ytnedmmopkhmejaa
