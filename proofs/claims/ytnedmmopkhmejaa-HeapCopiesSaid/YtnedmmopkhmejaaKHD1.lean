/- Walks: seen, in; what Picture works on, and its closure. -/
import Derived.Test.YtnedmmopkhmejaaKHW10
import Derived.Test.YtnedmmopkhmejaaKHPure
import Derived.Test.YtnedmmopkhmejaaKHW26
import Derived.Deep.AppendLies
set_option linter.unusedVariables false
set_option linter.unusedSimpArgs false
namespace Go.Proofs.Ytnedmmopkhmejaa
open Go.RowKit Go.Proofs.Hp
attribute [local go_sem] Oper.semAt_some

/-- 'm[k]'. -/
theorem run_lookup_ints1 {P : Program} (w : World) (t kt et : TypeId) (ht : P.underlying t = some (.map kt et)) (hk : P.underlying kt = some (.int .i64)) (hz : ∀ w, (zeroValue et).run P w = .ok (.int .i64 0) w)
    (b : Nat) (l : List (Int × Int)) (h : MapRep w b l) (a : Int) :
    (Instr.lookup t (.map (some b)) (.int .i64 a) false).run P w = .ok (.int .i64 ((l.lookup a).getD 0)) w := by
  obtain ⟨es, clock, hb, he, _⟩ := h
  obtain ⟨r, h1, h2⟩ := findNow_int a es.toList l 0 he
  have hf : ∀ w, (Instr.findKey kt (.int .i64 a) es.toList).run P w = .ok r w := by
    intro w; simp [Instr.findKey, run_underlying hk, h1]
  have hck : ∀ (w : World) (e : Bool), (Instr.checkKey e 10000 kt (.int .i64 a)).run P w = .ok () w := fun w e => run_checkKey_int w kt hk 9999 e a
  cases r with
  | none =>
    cases hl : l.lookup a with
    | none => simp [Instr.lookup, run_underlying ht, getObj, Sem.run, hb, hck, hf, hz]
    | some v => rw [hl] at h2; simp at h2
  | some p =>
    cases hl : l.lookup a with
    | none => rw [hl] at h2; simp at h2
    | some v =>
      rw [hl] at h2
      simp only [Option.map_some, Option.some.injEq] at h2
      simp [Instr.lookup, run_underlying ht, getObj, Sem.run, hb, hck, hf, h2]

theorem c_seen (w : World) (L : ML) (m : Mem) (h : MemRep w L m) (a : Int) :
    Calls Try.prog 59 #[.pointer (some ⟨L.b, 0, none⟩), .int .i64 a] w fun e w' => e = .returned (.int .i64 (m.seen a)) ∧ ∃ n, w' = w.drewN n := by
  have c3 := h.c3
  have c5 := h.c5
  have c7 := h.c7
  have hcb := c_begins w _ _ h.o a
  have hlk := run_lookup_ints (P := Try.prog) w 97 3 3 Try.underlying97 Try.underlying3 Try.zeroInt L.mb m.moved h.mv a
  obtain ⟨r, hr⟩ : ∃ r, r = m.seen a := ⟨_, rfl⟩
  rw [← hr]
  unfold Mem.seen Mem.look at hr
  cases hl : m.moved.lookup a with
  | none =>
    rw [hl] at hr hlk
    have hrH := Lib.hid hr
    clear hr hl
    simp only [Option.getD_none, Option.isSome_none] at hlk
    go_enter Try.func59, Try.ntmps59
    go_wp2
    go_ret
    exact ⟨by rw [hrH.out]; rfl, 0, rfl⟩
  | some t =>
    rw [hl] at hr hlk
    simp only [Option.getD_some, Option.isSome_some] at hlk
    cases hb : m.busy with
    | false =>
      rw [hb] at c5 hr
      have hrH := Lib.hid hr
      clear hr hl hb
      go_enter Try.func59, Try.ntmps59
      go_wp2
      go_ret
      exact ⟨by rw [hrH.out]; rfl, 0, rfl⟩
    | true =>
      rw [hb] at c5 hr
      cases ho : m.other.begins a with
      | false =>
        rw [ho] at hcb hr
        have hrH := Lib.hid hr
        clear hr hl hb ho
        go_enter Try.func59, Try.ntmps59
        go_wp2_with (fail)
        refine hcb.mono ?_
        rintro e w1 ⟨rfl, n, rfl⟩
        clear hcb
        go_wp2
        go_ret
        exact ⟨by rw [hrH.out]; rfl, n, rfl⟩
      | true =>
        rw [ho] at hcb hr
        have hrH := Lib.hid hr
        clear hr hl hb ho
        go_enter Try.func59, Try.ntmps59
        go_wp2_with (fail)
        refine hcb.mono ?_
        rintro e w1 ⟨rfl, n, rfl⟩
        clear hcb
        go_wp2
        go_ret
        exact ⟨by rw [hrH.out]; rfl, n, rfl⟩


theorem c_find_in (w : World) (L : ML) (m : Mem) (h : MemRep w L m) (a : Int) (wh : Wh) (hwh : m.inSp a = some wh) (B G : Nat) (T : TypeId) (hB' : w.heap[B]? = some (.cells #[.int .i64 a] 3 (0, 0)))
    (hG : w.heap[G]? = some (.cells #[.pointer (some ⟨L.y.b, 0, none⟩), .pointer (some ⟨L.n.b, 0, none⟩), .pointer (some ⟨L.o.b, 0, none⟩)] T (0, 0))) :
    Calls Try.prog 105 #[.func (.func 106) #[] #[.pointer (some ⟨B, 0, none⟩)], .slice (some ⟨G, 0, none⟩) 3 3] w fun e w' =>
      e = .returned (.tuple #[.pointer (some ⟨(L.spL wh).b, 0, none⟩), .bool true]) ∧ ∃ n, w' = w.drewN n := by
  have hB : w.cell? ⟨B, 0, none⟩ = some (.int .i64 a) := by rw [cell_of hB']; rfl
  obtain ⟨_, _, _, _, _, _, _, _, _, q1, q2, _⟩ := h.apart
  have n1 : L.y.b ≠ L.n.b := fun e => (q1 L.y.b (by simp [SpL.fp])).1 (by rw [e]; simp [SpL.fp])
  have n2 : L.y.b ≠ L.o.b := fun e => (q1 L.y.b (by simp [SpL.fp])).2.1 (by rw [e]; simp [SpL.fp])
  have n3 : L.n.b ≠ L.o.b := fun e => (q2 L.n.b (by simp [SpL.fp])).1 (by rw [e]; simp [SpL.fp])
  have hf := c_find w 106 #[.pointer (some ⟨B, 0, none⟩)] G [L.y.b, L.n.b, L.o.b] (fun p => if p = L.y.b then m.young.begins a else if p = L.n.b then m.now.begins a else m.other.begins a) (by simp) (enters Try.func106 (by kernel_rfl) rfl)
    (by
      intro i hi
      rw [cell_of hG]
      match i, hi with
      | 0, _ => rfl
      | 1, _ => rfl
      | 2, _ => rfl)
    (by
      intro p hp n
      simp only [List.mem_cons, List.not_mem_nil, or_false] at hp
      rcases hp with rfl | rfl | rfl
      · exact Calls.quiet_of (by simpa using c_in1 (w.drewN n) L.y m.young (h.drewN n).y B a hB)
      · exact Calls.quiet_of (by simpa [Ne.symm n1] using c_in1 (w.drewN n) L.n m.now (h.drewN n).n B a hB)
      · exact Calls.quiet_of (by simpa [Ne.symm n2, Ne.symm n3] using c_in1 (w.drewN n) L.o m.other (h.drewN n).o B a hB))
  refine hf.mono ?_
  rintro e w' ⟨rfl, hw⟩
  refine ⟨?_, hw⟩
  unfold Mem.inSp at hwh
  by_cases h1 : m.young.begins a = true
  · rw [if_pos h1] at hwh; cases hwh
    simp [h1, optPtr, ML.spL]
  · rw [if_neg h1] at hwh
    have h1' : m.young.begins a = false := by simpa using h1
    by_cases h2 : m.now.begins a = true
    · rw [if_pos h2] at hwh; cases hwh
      simp [h1', h2, Ne.symm n1, optPtr, ML.spL]
    · rw [if_neg h2] at hwh
      have h2' : m.now.begins a = false := by simpa using h2
      by_cases h3 : m.other.begins a = true
      · rw [if_pos h3] at hwh; cases hwh
        simp [h1', h2', h3, Ne.symm n1, Ne.symm n2, Ne.symm n3, optPtr, ML.spL]
      · rw [if_neg h3] at hwh; cases hwh

set_option maxRecDepth 100000 in
theorem c_in (w : World) (L : ML) (m : Mem) (h : MemRep w L m) (a : Int) (wh : Wh) (hwh : m.inSp a = some wh) :
    Calls Try.prog 60 #[.pointer (some ⟨L.b, 0, none⟩), .int .i64 a] w fun e w' => e = .returned (.pointer (some ⟨(L.spL wh).b, 0, none⟩)) ∧ Below w.heap.size w w' := by
  have c1 := h.c1
  have c2 := h.c2
  have c3 := h.c3
  have hwH := Lib.hid hwh
  clear hwh
  go_enter Try.func60, Try.ntmps60
  go_wp2_with (fail)
  go_region_held3 (fun w' => w'.cell? ⟨L.b, 1, none⟩ = some (.pointer (some ⟨L.y.b, 0, none⟩)) ∧ w'.cell? ⟨L.b, 2, none⟩ = some (.pointer (some ⟨L.n.b, 0, none⟩)) ∧ w'.cell? ⟨L.b, 3, none⟩ = some (.pointer (some ⟨L.o.b, 0, none⟩))) (go_keep)
    (((with_reducible refine (c_find_in _ L m (((h.alloc _).alloc _).drew) a wh hwH.out _ _ _ (al2 w _ _).1 (al2 w _ _).2).mono ?_); rintro e w' ⟨rfl, n, rfl⟩))
  all_goals
    go_wp2
    go_ret
    exact ⟨rfl, ((((Fr.refl _ w).alloc _).alloc _).drewN _).below⟩

/-- What Picture works on. -/
structure PR (W : World) (L : ML) (m : Mem) (A B : Nat) (X : Nat → Prop) (l : List Int) : Prop where
  rep : MemRep W L m
  fpl : ∀ k ∈ L.fp, k < A
  Dl : ∀ k, L.D k → k < A
  ab : A < B
  b0 : W.heap[A]? = some (box (ptrV L.b) 27)
  b2 : MapRep W (B) (Mem.nums l)
  b3 : W.heap[B + 1]? = some (box (.map (some (B))) 97)
  b4 : ∃ v, W.heap[B + 2]? = some (box v 34) ∧ W.ownsRow (B + 4) 3 1 v l.length (l.map (.int .i64)) ∧ ∀ k, v.ownBlock = some k → ¬ X k
  pl : Mem.PL m l
  inv : ∃ Y H, m.Inv Y H
  sz : B + 3 < W.heap.size
  X6 : ∀ k, X k → B + 4 ≤ k ∧ k < W.heap.size

theorem PR.len {W : World} {L : ML} {m : Mem} {A B : Nat} {X : Nat → Prop} {l : List Int} (h : PR W L m A B X l) : l.length ≤ 9216 := by
  obtain ⟨Y, H, hI⟩ := h.inv
  have := h.pl.len hI
  have := hI.geo.Yb
  have := hI.geo.Hb
  omega
/-- What is done elsewhere. -/
theorem PR.fr {W W' : World} {L : ML} {m : Mem} {A B : Nat} {X X' : Nat → Prop} {l : List Int} (h : PR W L m A B X l) (hf : Fr X' W W') (hX : ∀ k, X' k → X k ∨ k = B + 3 ∨ W.heap.size ≤ k) {X2 : Nat → Prop} (h2 : ∀ k, X2 k → X k ∨ W.heap.size ≤ k) (h2' : ∀ k, X2 k → k < W'.heap.size) : PR W' L m A B X2 l := by
  have hs := h.sz
  have n : ∀ k, k < B + 3 → ¬ X' k := fun k hk q => by
    rcases hX k q with q | q
    · have := (h.X6 k q).1; omega
    · omega
  obtain ⟨v, h1, h3, h4⟩ := h.b4
  have hv : ∀ k, v.ownBlock = some k → ¬ X' k := fun k hk q => by
    rcases hX k q with q | q | q
    · exact h4 k hk q
    · have := (h3.lt k hk).1; omega
    · have := (h3.lt k hk).2; omega
  refine ⟨h.rep.fr hf (fun k hk => n k (by have := h.fpl k hk; have := h.ab; omega)) (fun k hk => n k (by have := h.Dl k hk; have := h.ab; omega)), h.fpl, h.Dl, h.ab, hf.blk h.b0 (n _ (by have := h.ab; omega)),
    (let ⟨es, c, q1, q2⟩ := h.b2; ⟨es, c, (hf.block _ (by omega) (n _ (by omega))).trans q1, q2⟩), hf.blk h.b3 (n _ (by omega)), ⟨v, hf.blk h1 (n _ (by omega)), ?_, fun k hk q => ?_⟩, h.pl, h.inv, Nat.lt_of_lt_of_le h.sz hf.size, fun k hk => ⟨?_, h2' k hk⟩⟩
  · refine ownsRow_of_blocks h3 fun k hk => ?_
    have hk' : v.ownBlock = some k := by
      rcases h3.2 with ⟨rfl, _⟩ | ⟨g, cap, cur, rfl, _⟩
      · simp [kvBlocks] at hk
      · simp [kvBlocks] at hk; subst hk; rfl
    exact hf.block k (h3.lt k hk').2 (hv k hk')
  · rcases h2 k q with q | q
    · exact h4 k hk q
    · have := (h3.lt k hk).2; omega
  · rcases h2 k hk with q | q
    · exact (h.X6 k q).1
    · omega
/-- What 'meet' turns. -/
def MeetP (B : Nat) (X : Nat → Prop) (k : Nat) : Prop := k = B ∨ k = B + 2 ∨ (B + 4 ≤ k ∧ ¬ X k)
theorem MeetP.ge {B : Nat} {X : Nat → Prop} {k : Nat} (h : MeetP B X k) : B ≤ k := by rcases h with h | h | h <;> omega
theorem PR.drewN {W : World} {L : ML} {m : Mem} {A B : Nat} {X : Nat → Prop} {l : List Int} (h : PR W L m A B X l) (n : Nat) : PR (W.drewN n) L m A B X l :=
  h.fr (X' := fun _ => False) ((Fr.refl _ W).drewN n) (fun _ q => q.elim) (fun _ q => .inl q) (fun k q => (h.X6 k q).2)


set_option maxRecDepth 100000 in
set_option maxHeartbeats 2000000 in
theorem c_meetP (W : World) (L : ML) (m : Mem) (A B : Nat) (X : Nat → Prop) (l : List Int) (h : PR W L m A B X l) (a : Int) (ha : m.isRef a) :
    Calls Try.prog 58 #[.int .i64 a, .pointer (some ⟨A, 0, none⟩), .pointer (some ⟨B + 1, 0, none⟩), .pointer (some ⟨B + 2, 0, none⟩)] W fun e W' => e = .returned (.int .i64 (m.numP (m.meetP l a) a)) ∧ PR W' L m A B X (m.meetP l a) ∧ Fr (MeetP B X) W W' := by
  obtain ⟨Y, H, hI⟩ := h.inv
  by_cases h0 : a = 0
  · subst h0
    have e1 : m.meetP l 0 = l := by unfold Mem.meetP; rw [if_pos rfl]
    have e2 : m.numP l 0 = 0 := by unfold Mem.numP; rw [if_pos rfl]
    rw [e1, e2]
    clear e1 e2 ha
    have hH := Lib.hid h
    clear h
    go_enter Try.func58, Try.ntmps58
    go_wp2
    go_ret
    exact ⟨rfl, hH.out, Fr.refl _ _⟩
  · have hm0 : m.meetP l a = if l.contains (m.seen a) then l else l ++ [m.seen a] := by unfold Mem.meetP; rw [if_neg h0]
    have hn0 : ∀ l', m.numP l' a = (l'.idxOf (m.seen a) : Int) + 1 := fun l' => by unfold Mem.numP; rw [if_neg h0]
    rw [hn0]
    have hpl' := h.pl.meet hI ha
    rw [hm0] at hpl' ⊢
    have hz : ((a : Int) == 0) = false := by simpa using h0
    have hcs := c_seen W _ _ h.rep a
    have x0 : W.cell? ⟨A, 0, none⟩ = some (.pointer (some ⟨L.b, 0, none⟩)) := by rw [cell_of h.b0]; rfl
    obtain ⟨b, hb⟩ : ∃ b, b = m.seen a := ⟨_, rfl⟩
    rw [← hb] at hcs hpl' ⊢
    clear ha hm0 hn0 h0 hb
    cases hl : l.contains b with
    | true =>
      rw [hl, if_pos rfl] at hpl'
      rw [if_pos rfl]
      obtain ⟨r, hr⟩ : ∃ r, r = (l.idxOf b : Int) + 1 := ⟨_, rfl⟩
      rw [← hr]
      have hrH := Lib.hid hr
      clear hr
      go_enter Try.func58, Try.ntmps58
      go_wp2_with (fail)
      refine hcs.mono ?_
      rintro e w1 ⟨rfl, n, rfl⟩
      clear hcs x0
      have h1 := h.drewN n
      have f1 : Fr (MeetP B X) W (W.drewN n) := (Fr.refl _ W).drewN n
      generalize W.drewN n = W1 at *
      have e3 : W1.cell? ⟨B + 1, 0, none⟩ = some (.map (some (B))) := by rw [cell_of h1.b3]; rfl
      have hlk := run_lookup_ints (P := Try.prog) W1 97 3 3 Try.underlying97 Try.underlying3 Try.zeroInt (B) _ h1.b2 b
      rw [Mem.nums_lookup] at hlk
      have hlk1 := run_lookup_ints1 (P := Try.prog) W1 97 3 3 Try.underlying97 Try.underlying3 Try.zeroInt (B) _ h1.b2 b
      rw [Mem.nums_lookup] at hlk1
      rw [hl] at hlk hlk1
      simp only [if_true, Option.getD_some, Option.isSome_some] at hlk hlk1
      rw [← hrH.out] at hlk hlk1
      clear hrH
      have h1H := Lib.hid h1
      have f1H := Lib.hid f1
      clear hl h1 f1 h hI hpl'
      go_wp2
      go_ret
      exact ⟨rfl, h1H.out, f1H.out⟩
    | false =>
      rw [hl, if_neg Bool.false_ne_true] at hpl'
      rw [if_neg Bool.false_ne_true]
      have hidx : (l ++ [b]).idxOf b = l.length := by
        have hnm : b ∉ l := by simpa using hl
        rw [List.idxOf_append, if_neg hnm]
        simp [List.idxOf_cons]
      rw [hidx]
      go_enter Try.func58, Try.ntmps58
      go_wp2_with (fail)
      refine hcs.mono ?_
      rintro e w1 ⟨rfl, n, rfl⟩
      clear hcs x0
      have h1 := h.drewN n
      have f1 : Fr (MeetP B X) W (W.drewN n) := (Fr.refl _ W).drewN n
      generalize W.drewN n = W1 at *
      have e3 : W1.cell? ⟨B + 1, 0, none⟩ = some (.map (some (B))) := by rw [cell_of h1.b3]; rfl
      have hlk := run_lookup_ints (P := Try.prog) W1 97 3 3 Try.underlying97 Try.underlying3 Try.zeroInt (B) _ h1.b2 b
      rw [Mem.nums_lookup] at hlk
      rw [hl] at hlk
      simp only [Bool.false_eq_true, if_false, Option.getD_none, Option.isSome_none] at hlk
      have hH1 := Lib.hid h1
      obtain ⟨v, g4, o4, x4⟩ := h1.b4
      have hsz := h1.sz
      obtain ⟨vp, vcap, hvs⟩ := ownsRow_slice o4
      have e4 : W1.cell? ⟨B + 2, 0, none⟩ = some v := by rw [cell_of g4]; rfl
      have z4 : W1.frozen? ⟨B + 2, 0, none⟩ = false := free_of g4 0
      have hvb : ∀ k, v.ownBlock = some k → B + 4 ≤ k := fun k hk => (o4.lt k hk).1
      obtain ⟨i0, hi, hz0, hz1, hz2⟩ := info_parts Try.infoInt
      have hlen := h1.len
      obtain ⟨v', W4, hap, o5, g5, _, at5⟩ := run_append_own_at (P := Try.prog) (W1.alloc (.cells #[.int .i64 b] 3)) (B + 4) 34 34 3 i0 (.int .i64 0) 1 8 Try.underlying34 hi hz0 hz1 hz2 rfl (by decide) v l.length _ (o4.alloc _)
        ⟨W1.heap.size, 0, none⟩ 1 1 [.int .i64 b] rfl (cell_one_new _ _ _) (by simp [Value.oneCell']) (by simp only [maxLen]; omega) (by omega) (by simp; omega)
      obtain ⟨g', cap', rfl⟩ := ownsRow_succ o5
      have hgb : ∀ k, k < W1.heap.size → v.ownBlock ≠ some k → W4.heap[k]? = W1.heap[k]? := fun k hk hne =>
        (g5.block k (by simp; omega) (fun e => hne e.symm)).trans (al_old _ _ _ hk)
      have hb4 : W4.heap[B + 2]? = some (box v 34) := (hgb _ (by omega) (fun e => by have := hvb _ e; omega)).trans g4
      have e5 : W4.cell? ⟨B + 2, 0, none⟩ = some v := by rw [cell_of hb4]; rfl
      have z5 : W4.frozen? ⟨B + 2, 0, none⟩ = false := free_of hb4 0
      have hs14 : W1.heap.size ≤ W4.heap.size := by have := g5.size; simp at this; omega
      have f5 : Fr (fun k => k = B + 2 ∨ v.ownBlock = some k) W1 (W4.setCell ⟨B + 2, 0, none⟩ (.slice (some ⟨g', 0, none⟩) (l.length + 1) cap')) := by
        have q : Fr (fun k => k = B + 2 ∨ v.ownBlock = some k) W1 W4 :=
          ⟨g5.os, g5.tape, g5.output, by omega, fun k hk hne => hgb k (by omega) (fun e => hne (.inr e))⟩
        exact q.setCell _ _ (.inl (.inl rfl))
      have hb5 : (W4.setCell ⟨B + 2, 0, none⟩ (.slice (some ⟨g', 0, none⟩) (l.length + 1) cap')).heap[B + 2]? = some (box (.slice (some ⟨g', 0, none⟩) (l.length + 1) cap') 34) := by
        rw [heap_setCell_same _ hb4]; rfl
      have o6 : (W4.setCell ⟨B + 2, 0, none⟩ (.slice (some ⟨g', 0, none⟩) (l.length + 1) cap')).ownsRow (B + 4) 3 1 (.slice (some ⟨g', 0, none⟩) (l.length + 1) cap') (l.length + 1) (l.map (.int .i64) ++ [.int .i64 b]) :=
        ownsRow_of_blocks o5 fun k hk => by
          have : k = g' := by simpa [kvBlocks] using hk
          have h5 := (o5.lt g' rfl).1
          exact (Fr.setCell (Fr.refl (fun q => q = B + 2) W4) ⟨B + 2, 0, none⟩ _ (.inl rfl)).block k (by subst this; exact (o5.lt _ rfl).2) (by omega)
      obtain ⟨W5, hW5⟩ : ∃ W5, W5 = W4.setCell ⟨B + 2, 0, none⟩ (.slice (some ⟨g', 0, none⟩) (l.length + 1) cap') := ⟨_, rfl⟩
      rw [← hW5] at f5 hb5 o6
      have hnot : ∀ k, k < B + 2 → ¬ (k = B + 2 ∨ v.ownBlock = some k) := fun k hk q => by
        rcases q with q | q
        · omega
        · have := hvb _ q; omega
      have m5 : MapRep W5 (B) (Mem.nums l) := let ⟨es, c, q1, q2⟩ := h1.b2; ⟨es, c, (f5.block _ (by omega) (hnot _ (by omega))).trans q1, q2⟩
      have hnone : (Mem.nums l).lookup b = none := by rw [Mem.nums_lookup, hl]; rfl
      obtain ⟨W6, hmu, m6, f6⟩ := run_mapUpdate_ints (P := Try.prog) W5 97 3 3 Try.underlying97 Try.underlying3 (B) _ m5 b ((l.length : Int) + 1) hnone
      have hb6 := f6.blk hb5 (by omega)
      have hb3 := f5.blk h1.b3 (hnot _ (by omega))
      have e3' : W4.cell? ⟨B + 1, 0, none⟩ = some (.map (some (B))) := by rw [cell_of ((hgb _ (by omega) (fun e => by have := hvb _ e; omega)).trans h1.b3)]; rfl
      rw [hW5] at hmu
      have hb36 := f6.blk hb3 (by omega)
      have e36 : W6.cell? ⟨B + 1, 0, none⟩ = some (.map (some (B))) := by rw [cell_of hb36]; rfl
      rw [← Mem.nums_snoc] at m6
      have hlk6 := run_lookup_ints1 (P := Try.prog) W6 97 3 3 Try.underlying97 Try.underlying3 Try.zeroInt (B) _ m6 b
      rw [Mem.nums_lookup, hidx] at hlk6
      simp only [List.contains_append, List.contains_cons, beq_self_eq_true, Bool.true_or, Bool.or_true, if_true, Option.getD_some] at hlk6
      have f16 : Fr (MeetP B X) W1 W6 := (f5.mono (T := MeetP B X) fun k hk q => by
        rcases q with q | q
        · exact .inr (.inl q)
        · exact .inr (.inr ⟨hvb _ q, x4 k q⟩)).trans (f6.mono fun k hk q => .inl q)
      have hab := h1.ab
      have hnotm : ∀ k, k < B ∨ k = B + 1 → ¬ MeetP B X k := fun k hk q => by
        rcases q with q | q | q <;> omega
      have hxx : ∀ k, (Value.slice (some ⟨g', 0, none⟩) (l.length + 1) cap').ownBlock = some k → ¬ X k := fun k hk q => by
        rcases at5 with e | e
        · exact x4 k (by rw [← e]; exact hk) q
        · rw [hk] at e
          have := (h1.X6 k q).2
          simp at e
          omega
      have o7 : W6.ownsRow (B + 4) 3 1 (.slice (some ⟨g', 0, none⟩) (l.length + 1) cap') (l ++ [b]).length ((l ++ [b]).map (.int .i64)) := by
        rw [List.length_append, List.map_append]
        exact ownsRow_of_blocks o6 fun k hk => by
          have : k = g' := by simpa [kvBlocks] using hk
          have h5 := (o6.lt g' rfl).1
          exact f6.block k (by subst this; exact (o6.lt _ rfl).2) (by omega)
      have hfin : PR W6 L m A B X (l ++ [b]) :=
        ⟨h1.rep.fr f16 (fun k hk => hnotm k (.inl (by have := h1.fpl k hk; omega))) (fun k hk => hnotm k (.inl (by have := h1.Dl k hk; omega))), h1.fpl, h1.Dl, h1.ab, f16.blk h1.b0 (hnotm _ (by omega)), m6, hb36,
          ⟨_, hb6, o7, hxx⟩, hpl', h1.inv, Nat.lt_of_lt_of_le h1.sz f16.size, fun k hk => ⟨(h1.X6 k hk).1, Nat.lt_of_lt_of_le (h1.X6 k hk).2 f16.size⟩⟩
      have hfinH := Lib.hid (And.intro hfin (f1.trans f16))
      clear hab hfin f16 f1 hxx hnotm o7 hlen hnone m5 m6 f6 hb6 hb36 hb3 o6 o5 hb5 f5 hnot hgb hb4 at5 g5 hvb x4 o4 g4 h1 h hI hpl' hidx hl hW5
      subst hvs
      go_wp2_with (first
        | (at_builtin; refine wpList_append_run rfl _ _ 34 rfl _ _ rfl rfl _ _ hap ?_))
      go_wp2
      go_ret
      exact ⟨rfl, hfinH.out.1, hfinH.out.2⟩
end Go.Proofs.Ytnedmmopkhmejaa

/- What Picture has put out so far: three slices, and those of the rows. -/
namespace Go.Proofs.Ytnedmmopkhmejaa
open Go.RowKit Go.Proofs.Hp

theorem own_kv {W : World} {base : Nat} {e : TypeId} {size : Nat} {v : Value} {n : Nat} {xs : List Value} (h : W.ownsRow base e size v n xs) {k : Nat} (hk : k ∈ kvBlocks v) : v.ownBlock = some k := by
  rcases h.2 with ⟨rfl, _⟩ | ⟨g, cap, cur, rfl, _⟩
  · simp [kvBlocks] at hk
  · simp [kvBlocks] at hk; subst hk; rfl
theorem own_fr {S : Nat → Prop} {W W' : World} {base : Nat} {e : TypeId} {size : Nat} {v : Value} {n : Nat} {xs : List Value} (h : W.ownsRow base e size v n xs) (hf : Fr S W W') (hS : ∀ k, v.ownBlock = some k → ¬ S k) : W'.ownsRow base e size v n xs :=
  ownsRow_of_blocks h fun k hk => hf.block k (h.lt k (own_kv h hk)).2 (hS k (own_kv h hk))

structure PO (W : World) (B : Nat) (X : Nat → Prop) (v1 v2 v3 : Value) (rv : List Value) (ss : List Int) (fs : List (List Int)) (rs : List Int) : Prop where
  o1 : W.ownsRow (B + 4) 3 1 v1 ss.length (ss.map (.int .i64))
  o2 : W.ownsRow (B + 4) 34 1 v2 rv.length rv
  o3 : W.ownsRow (B + 4) 3 1 v3 rs.length (rs.map (.int .i64))
  rl : rv.length = fs.length
  rw : ∀ (j : Nat) u f, rv[j]? = some u → fs[j]? = some f → W.ownsRow (B + 4) 3 1 u f.length (f.map (.int .i64))
  x1 : ∀ k, v1.ownBlock = some k → X k
  x2 : ∀ k, v2.ownBlock = some k → X k
  x3 : ∀ k, v3.ownBlock = some k → X k
  xr : ∀ u ∈ rv, ∀ k, u.ownBlock = some k → X k
  a12 : ∀ k, v1.ownBlock = some k → v2.ownBlock ≠ some k ∧ v3.ownBlock ≠ some k
  a23 : ∀ k, v2.ownBlock = some k → v3.ownBlock ≠ some k
  ar : ∀ u ∈ rv, ∀ k, u.ownBlock = some k → v1.ownBlock ≠ some k ∧ v2.ownBlock ≠ some k ∧ v3.ownBlock ≠ some k
  Xs : ∀ k, X k → k < W.heap.size

theorem PO.start (W : World) (B : Nat) : PO W B (fun _ => False) (.slice none 0 0) (.slice none 0 0) (.slice none 0 0) [] [] [] [] :=
  ⟨World.ownsRow_nil _ _ _ _, World.ownsRow_nil _ _ _ _, World.ownsRow_nil _ _ _ _, rfl, (fun j u f h => by simp at h), (fun k h => by cases h), (fun k h => by cases h), (fun k h => by cases h), (fun u h => by simp at h), (fun k h => by cases h), (fun k h => by cases h), (fun u h => by simp at h), fun k h => h.elim⟩
section
variable {W W' : World} {B : Nat} {X S : Nat → Prop} {v1 v2 v3 v' : Value} {rv : List Value} {ss : List Int} {fs : List (List Int)} {rs : List Int}

theorem PO.fr (h : PO W B X v1 v2 v3 rv ss fs rs) (hf : Fr S W W') (hS : ∀ k, S k → ¬ X k) : PO W' B X v1 v2 v3 rv ss fs rs :=
  ⟨own_fr h.o1 hf fun k q z => hS k z (h.x1 k q), own_fr h.o2 hf fun k q z => hS k z (h.x2 k q), own_fr h.o3 hf fun k q z => hS k z (h.x3 k q), h.rl,
    fun j u f q1 q2 => own_fr (h.rw j u f q1 q2) hf fun k q z => hS k z (h.xr u (List.mem_of_getElem? q1) k q), h.x1, h.x2, h.x3, h.xr, h.a12, h.a23, h.ar, fun k q => Nat.lt_of_lt_of_le (h.Xs k q) hf.size⟩
theorem PO.mono (h : PO W B X v1 v2 v3 rv ss fs rs) {X' : Nat → Prop} (hX : ∀ k, X k → X' k) (hX' : ∀ k, X' k → k < W.heap.size) : PO W B X' v1 v2 v3 rv ss fs rs :=
  ⟨h.o1, h.o2, h.o3, h.rl, h.rw, fun k q => hX k (h.x1 k q), fun k q => hX k (h.x2 k q), fun k q => hX k (h.x3 k q), fun u q k z => hX k (h.xr u q k z), h.a12, h.a23, h.ar, hX'⟩

/-- The roots' slice has grown. -/
theorem PO.ap3 (h : PO W B X v1 v2 v3 rv ss fs rs) {n : Int} (hown : W'.ownsRow (B + 4) 3 1 v' (rs.length + 1) (rs.map (.int .i64) ++ [.int .i64 n])) (hf : Fr (fun k => v3.ownBlock = some k) W W')
    (hat : ∀ k, v'.ownBlock = some k → v3.ownBlock = some k ∨ W.heap.size ≤ k) : PO W' B (fun k => X k ∨ v'.ownBlock = some k) v1 v2 v' rv ss fs (rs ++ [n]) := by
  have hx : ∀ k, X k → k < W.heap.size := h.Xs
  refine ⟨own_fr h.o1 hf fun k q z => (h.a12 k q).2 z, own_fr h.o2 hf fun k q z => h.a23 k q z, by rw [List.length_append, List.map_append]; exact hown, h.rl,
    fun j u f q1 q2 => own_fr (h.rw j u f q1 q2) hf fun k q z => (h.ar u (List.mem_of_getElem? q1) k q).2.2 z, fun k q => .inl (h.x1 k q), fun k q => .inl (h.x2 k q), fun k q => .inr q, fun u q k z => .inl (h.xr u q k z),
    fun k q => ⟨(h.a12 k q).1, fun z => ?_⟩, fun k q z => ?_, fun u hu k q => ⟨(h.ar u hu k q).1, (h.ar u hu k q).2.1, fun z => ?_⟩, fun k q => ?_⟩
  · rcases hat k z with y | y
    · exact (h.a12 k q).2 y
    · have := hx k (h.x1 k q); omega
  · rcases hat k z with y | y
    · exact h.a23 k q y
    · have := hx k (h.x2 k q); omega
  · rcases hat k z with y | y
    · exact (h.ar u hu k q).2.2 y
    · have := hx k (h.xr u hu k q); omega
  · rcases q with q | q
    · exact Nat.lt_of_lt_of_le (hx k q) hf.size
    · exact (hown.lt k q).2
/-- The shapes' slice has grown. -/
theorem PO.ap1 (h : PO W B X v1 v2 v3 rv ss fs rs) {n : Int} (hown : W'.ownsRow (B + 4) 3 1 v' (ss.length + 1) (ss.map (.int .i64) ++ [.int .i64 n])) (hf : Fr (fun k => v1.ownBlock = some k) W W')
    (hat : ∀ k, v'.ownBlock = some k → v1.ownBlock = some k ∨ W.heap.size ≤ k) : PO W' B (fun k => X k ∨ v'.ownBlock = some k) v' v2 v3 rv (ss ++ [n]) fs rs := by
  have hx : ∀ k, X k → k < W.heap.size := h.Xs
  refine ⟨by rw [List.length_append, List.map_append]; exact hown, own_fr h.o2 hf fun k q z => (h.a12 k z).1 q, own_fr h.o3 hf fun k q z => (h.a12 k z).2 q, h.rl,
    fun j u f q1 q2 => own_fr (h.rw j u f q1 q2) hf fun k q z => (h.ar u (List.mem_of_getElem? q1) k q).1 z, fun k q => .inr q, fun k q => .inl (h.x2 k q), fun k q => .inl (h.x3 k q), fun u q k z => .inl (h.xr u q k z),
    fun k z => ⟨fun q => ?_, fun q => ?_⟩, h.a23, fun u hu k q => ⟨fun z => ?_, (h.ar u hu k q).2⟩, fun k q => ?_⟩
  · rcases hat k z with y | y
    · exact (h.a12 k y).1 q
    · have := hx k (h.x2 k q); omega
  · rcases hat k z with y | y
    · exact (h.a12 k y).2 q
    · have := hx k (h.x3 k q); omega
  · rcases hat k z with y | y
    · exact (h.ar u hu k q).1 y
    · have := hx k (h.xr u hu k q); omega
  · rcases q with q | q
    · exact Nat.lt_of_lt_of_le (hx k q) hf.size
    · exact (hown.lt k q).2
/-- The rows' slice has grown by a row. -/
theorem PO.ap2 (h : PO W B X v1 v2 v3 rv ss fs rs) {u : Value} {f : List Int} (hu : W.ownsRow (B + 4) 3 1 u f.length (f.map (.int .i64))) (hux : ∀ k, u.ownBlock = some k → v1.ownBlock ≠ some k ∧ v2.ownBlock ≠ some k ∧ v3.ownBlock ≠ some k)
    (hown : W'.ownsRow (B + 4) 34 1 v' (rv.length + 1) (rv ++ [u])) (hf : Fr (fun k => v2.ownBlock = some k) W W')
    (hat : ∀ k, v'.ownBlock = some k → v2.ownBlock = some k ∨ W.heap.size ≤ k) : PO W' B (fun k => X k ∨ u.ownBlock = some k ∨ v'.ownBlock = some k) v1 v' v3 (rv ++ [u]) ss (fs ++ [f]) rs := by
  have hx : ∀ k, X k → k < W.heap.size := h.Xs
  have hrl := h.rl
  refine ⟨own_fr h.o1 hf fun k q z => (h.a12 k q).1 z, by rw [List.length_append]; exact hown, own_fr h.o3 hf fun k q z => h.a23 k z q, by simp [hrl],
    fun j w g q1 q2 => ?_, fun k q => .inl (h.x1 k q), fun k q => .inr (.inr q), fun k q => .inl (h.x3 k q), fun w q k z => ?_,
    fun k q => ⟨fun z => ?_, (h.a12 k q).2⟩, fun k z q => ?_, fun w hw k q => ?_, fun k q => ?_⟩
  · by_cases e : j < rv.length
    · rw [List.getElem?_append_left e] at q1
      rw [List.getElem?_append_left (by omega)] at q2
      exact own_fr (h.rw j w g q1 q2) hf fun k q z => (h.ar w (List.mem_of_getElem? q1) k q).2.1 z
    · rw [List.getElem?_append_right (by omega)] at q1
      rw [List.getElem?_append_right (by omega)] at q2
      have hj : j = rv.length := by
        have := (List.getElem?_eq_some_iff.1 q1).1
        simp at this; omega
      subst hj
      rw [← hrl] at q2
      simp only [Nat.sub_self, List.getElem?_cons_zero, Option.some.injEq] at q1 q2
      subst q1 q2
      exact own_fr hu hf fun k q z => (hux k q).2.1 z
  · rcases List.mem_append.1 q with q | q
    · exact .inl (h.xr w q k z)
    · simp only [List.mem_singleton] at q; subst q; exact .inr (.inl z)
  · rcases hat k z with y | y
    · exact (h.a12 k q).1 y
    · have := hx k (h.x1 k q); omega
  · rcases hat k z with y | y
    · exact h.a23 k y q
    · have := hx k (h.x3 k q); omega
  · rcases List.mem_append.1 hw with g | g
    · refine ⟨(h.ar w g k q).1, fun z => ?_, (h.ar w g k q).2.2⟩
      rcases hat k z with y | y
      · exact (h.ar w g k q).2.1 y
      · have := hx k (h.xr w g k q); omega
    · simp only [List.mem_singleton] at g
      subst g
      refine ⟨(hux k q).1, fun z => ?_, (hux k q).2.2⟩
      rcases hat k z with y | y
      · exact (hux k q).2.1 y
      · have := (hu.lt k q).2; omega
  · rcases q with q | q | q
    · exact Nat.lt_of_lt_of_le (hx k q) hf.size
    · exact Nat.lt_of_lt_of_le (hu.lt k q).2 hf.size
    · exact (hown.lt k q).2
end

theorem owns_ints {W : World} {base : Nat} {v : Value} {xs : List Int} (h : W.ownsRow base 3 1 v xs.length (xs.map (.int .i64))) : IntsAt W (fun k => base ≤ k ∧ k < W.heap.size) v xs := by
  obtain ⟨p, cap, hv⟩ := ownsRow_slice h
  refine ⟨p, cap, hv, ?_⟩
  by_cases hx : xs = []
  · exact .inl hx
  · right
    rcases h.2 with ⟨rfl, h0⟩ | ⟨g, cap', cur, rfl, hb, hg, hn, _, hs, ht⟩
    · exact absurd (List.eq_nil_of_length_eq_zero h0) hx
    · simp only [Value.slice.injEq] at hv
      refine ⟨g, 0, hv.1.symm, ⟨hb, lt_of_block hg⟩, fun i hi => ?_⟩
      rw [Nat.zero_add, cell_of hg]
      have e : (xs.map (Value.int .i64))[i]? = some (.int .i64 xs[i]) := by rw [List.getElem?_map, List.getElem?_eq_getElem hi]; rfl
      rw [← ht, List.getElem?_take] at e
      split at e
      · simpa using e
      · cases e
/-- All is there: a picture. -/
theorem PO.pic {W : World} {B : Nat} {X : Nat → Prop} {v1 v2 v3 : Value} {rv : List Value} {ss : List Int} {fs : List (List Int)} {rs : List Int} (h : PO W B X v1 v2 v3 rv ss fs rs) (h1 : ss.length ≤ 1048576) (h2 : fs.length ≤ 1048576) (h3 : rs.length ≤ 1048576) (h4 : ∀ f ∈ fs, f.length ≤ 1048576) :
    PicAt W (fun k => B + 4 ≤ k ∧ k < W.heap.size) v1 v2 v3 ⟨ss, fs, rs⟩ := by
  refine ⟨owns_ints h.o1, ?_, owns_ints h.o3, h1, h2, h3, h4⟩
  obtain ⟨p, cap, hv⟩ := ownsRow_slice h.o2
  refine ⟨p, cap, by rw [hv, h.rl], ?_⟩
  by_cases hx : fs = []
  · exact .inl hx
  · right
    have ho2 := h.o2
    rcases ho2.2 with ⟨rfl, h0⟩ | ⟨g, cap', cur, rfl, hb, hg, hn, _, hs, ht⟩
    · exfalso
      have := h.rl
      exact hx (List.eq_nil_of_length_eq_zero (by omega))
    · simp only [Value.slice.injEq] at hv
      refine ⟨g, 0, hv.1.symm, ⟨hb, lt_of_block hg⟩, fun i hi => ?_⟩
      have hir : i < rv.length := by have := h.rl; simp only at hi; omega
      obtain ⟨u, e⟩ : ∃ u, rv[i]? = some u := ⟨rv[i], List.getElem?_eq_getElem hir⟩
      have hro := h.rw i u fs[i] e (List.getElem?_eq_getElem hi)
      refine ⟨u, ?_, owns_ints hro⟩
      rw [Nat.zero_add, cell_of hg]
      rw [← ht, List.getElem?_take] at e
      split at e
      · simpa using e
      · cases e
theorem IntsAt.monoD {w : World} {D D' : Nat → Prop} {v : Value} {xs : List Int} (h : IntsAt w D v xs) (hD : ∀ k, D k → D' k) : IntsAt w D' v xs := by
  obtain ⟨p, cap, hv, q⟩ := h
  exact ⟨p, cap, hv, q.imp id fun ⟨b, o, h1, h2, h3⟩ => ⟨b, o, h1, hD b h2, h3⟩⟩
theorem PicAt.monoD {w : World} {D D' : Nat → Prop} {v1 v2 v3 : Value} {p : Pic} (h : PicAt w D v1 v2 v3 p) (hD : ∀ k, D k → D' k) : PicAt w D' v1 v2 v3 p := by
  obtain ⟨h1, ⟨q, cap, hv, h2⟩, h3, h4⟩ := h
  refine ⟨h1.monoD hD, ⟨q, cap, hv, h2.imp id fun ⟨b, o, g1, g2, g3⟩ => ⟨b, o, g1, hD b g2, fun i hi => ?_⟩⟩, h3.monoD hD, h4⟩
  obtain ⟨u, k1, k2⟩ := g3 i hi
  exact ⟨u, k1, k2.monoD hD⟩
end Go.Proofs.Ytnedmmopkhmejaa

/- How Picture's slices grow. -/
namespace Go.Proofs.Ytnedmmopkhmejaa
open Go.RowKit Go.Proofs.Hp

theorem Try.infoInts : (Try.prog.info? 34).map (fun i => (i.zero, i.size, i.bytes)) = some (some (.slice none 0 0), 1, 24) := by kernel_rfl
def picBlock (c1 c2 c3 : Value) : Obj := .cells #[c1, c2, c3] 42 (0, 0)

theorem PR.start {W1 : World} {L : ML} {m : Mem} {A : Nat} {Y H : Nat} (h : MemRep W1 L m) (hI : m.Inv Y H) (hA : W1.heap[A]? = some (box (ptrV L.b) 27)) (h1 : ∀ k ∈ L.fp, k < A) (h2 : ∀ k, L.D k → k < A) (c : Obj) (hc : c = picBlock (.slice none 0 0) (.slice none 0 0) (.slice none 0 0)) :
    PR ((((W1.alloc (.map #[] 0)).alloc (box (.map (some W1.heap.size)) 97)).alloc (box (.slice none 0 0) 34)).alloc c) L m A W1.heap.size (fun _ => False) [] := by
  have hAl := lt_of_block hA
  refine ⟨(((h.alloc _).alloc _).alloc _).alloc _, h1, h2, hAl, ?_, ⟨#[], 0, ?_, rfl, Go.MapKept.stamped_empty 0⟩, ?_, ⟨_, ?_, World.ownsRow_nil _ _ _ _, fun k hk => by cases hk⟩, Mem.PL.nil m, ⟨Y, H, hI⟩, by simp only [al_size]; omega, fun k q => q.elim⟩
  · rw [al_old _ _ _ (by simp only [al_size]; omega), al_old _ _ _ (by simp only [al_size]; omega), al_old _ _ _ (by simp only [al_size]; omega), al_old _ _ _ hAl]; exact hA
  · rw [al_old _ _ _ (by simp only [al_size]; omega), al_old _ _ _ (by simp only [al_size]; omega), al_old _ _ _ (by simp only [al_size]; omega), al_same]
  · rw [al_old _ _ _ (by simp only [al_size]; omega), al_old _ _ _ (by simp only [al_size]; omega)]; exact al_at _ _ _ (by simp only [al_size])
  · rw [al_old _ _ _ (by simp only [al_size]; omega)]; exact al_at _ _ _ (by simp only [al_size])

section
variable {W w6 : World} {L : ML} {m : Mem} {A B g cap : Nat} {X : Nat → Prop} {l : List Int} {v1 v2 v3 c1 c2 c3 : Value} {rv : List Value} {ss : List Int} {fs : List (List Int)} {rs : List Int} {o : Obj}

theorem fr_grown {v : Value} (hgrow : (W.alloc o).grownBy w6 v.ownBlock) : Fr (fun k => v.ownBlock = some k) W w6 :=
  ⟨hgrow.os, hgrow.tape, hgrow.output, by have := hgrow.size; simp at this; omega, fun k hk hne => (hgrow.block k (by simp; omega) (fun e => hne e.symm)).trans (al_old _ _ _ hk)⟩
theorem own_slice (a : Nat) (n c : Nat) : (Value.slice (some ⟨a, 0, none⟩) n c).ownBlock = some a := rfl

/-- The block of out, behind an append to one of its slices. -/
theorem out_grown {v : Value} (hb : W.heap[B + 3]? = some (picBlock c1 c2 c3)) (hv : ∀ k, v.ownBlock = some k → B + 4 ≤ k) (hgrow : (W.alloc o).grownBy w6 v.ownBlock) : w6.heap[B + 3]? = some (picBlock c1 c2 c3) :=
  (fr_grown hgrow).blk hb fun e => by have := hv _ e; omega

theorem PR.grow (hN : PR W L m A B X l) {v : Value} (hv : ∀ k, v.ownBlock = some k → X k) (hgrow : (W.alloc o).grownBy w6 v.ownBlock) {X2 : Nat → Prop} (h2 : ∀ k, X2 k → X k ∨ W.heap.size ≤ k) (h2' : ∀ k, X2 k → k < w6.heap.size) : PR w6 L m A B X2 l :=
  hN.fr (fr_grown hgrow) (fun k q => .inl (hv k q)) h2 h2'
/-- A cell of out is set. -/
theorem PR.setOut (hN : PR W L m A B X l) (i : Nat) (v : Value) : PR (W.setCell ⟨B + 3, i, none⟩ v) L m A B X l :=
  hN.fr (X' := fun k => k = B + 3) ((Fr.refl _ W).setCell _ _ (.inl rfl)) (fun k q => .inr (.inl q)) (fun k q => .inl q) (fun k q => Nat.lt_of_lt_of_le (hN.X6 k q).2 (((Fr.refl (fun k => k = B + 3) W).setCell ⟨B + 3, i, none⟩ v (.inl rfl)).size))
theorem PO.setOut (hO : PO W B X v1 v2 v3 rv ss fs rs) (hX : ∀ k, X k → B + 4 ≤ k) (i : Nat) (v : Value) : PO (W.setCell ⟨B + 3, i, none⟩ v) B X v1 v2 v3 rv ss fs rs :=
  hO.fr (S := fun k => k = B + 3) ((Fr.refl _ W).setCell _ _ (.inl rfl)) fun k e q => by have := hX k q; omega
theorem set_out0 (h : W.heap[B + 3]? = some (picBlock c1 c2 c3)) (v : Value) : (W.setCell ⟨B + 3, 0, none⟩ v).heap[B + 3]? = some (picBlock v c2 c3) := heap_setCell_same (i := 0) v h
theorem set_out1 (h : W.heap[B + 3]? = some (picBlock c1 c2 c3)) (v : Value) : (W.setCell ⟨B + 3, 1, none⟩ v).heap[B + 3]? = some (picBlock c1 v c3) := heap_setCell_same (i := 1) v h
theorem set_out2 (h : W.heap[B + 3]? = some (picBlock c1 c2 c3)) (v : Value) : (W.setCell ⟨B + 3, 2, none⟩ v).heap[B + 3]? = some (picBlock c1 c2 v) := heap_setCell_same (i := 2) v h

theorem PR.drew (hN : PR W L m A B X l) : PR W.drew L m A B X l := hN.drewN 1

/-- A root has come. -/
theorem pic_app3 (hN : PR W L m A B X l) (hO : PO W B X v1 v2 v3 rv ss fs rs) (hb : W.heap[B + 3]? = some (picBlock c1 c2 c3)) {n : Int}
    (hown : w6.ownsRow (B + 4) 3 1 (.slice (some ⟨g, 0, none⟩) (rs.length + 1) cap) (rs.length + 1) (rs.map (.int .i64) ++ [.int .i64 n])) (hgrow : (W.alloc o).grownBy w6 v3.ownBlock) (hat : v3.ownBlock = some g ∨ g = W.heap.size + 1) :
    w6.heap[B + 3]? = some (picBlock c1 c2 c3) ∧ ∃ X', PR (w6.setCell ⟨B + 3, 2, none⟩ (.slice (some ⟨g, 0, none⟩) (rs.length + 1) cap)) L m A B X' l ∧
      PO (w6.setCell ⟨B + 3, 2, none⟩ (.slice (some ⟨g, 0, none⟩) (rs.length + 1) cap)) B X' v1 v2 (.slice (some ⟨g, 0, none⟩) (rs.length + 1) cap) rv ss fs (rs ++ [n]) ∧
      (w6.setCell ⟨B + 3, 2, none⟩ (.slice (some ⟨g, 0, none⟩) (rs.length + 1) cap)).heap[B + 3]? = some (picBlock c1 c2 (.slice (some ⟨g, 0, none⟩) (rs.length + 1) cap)) ∧
      Fr (fun j => B ≤ j) W (w6.setCell ⟨B + 3, 2, none⟩ (.slice (some ⟨g, 0, none⟩) (rs.length + 1) cap)) := by
  have h6 := out_grown hb (fun k q => (hO.o3.lt k q).1) hgrow
  have hat' : ∀ k, (Value.slice (some ⟨g, 0, none⟩) (rs.length + 1) cap).ownBlock = some k → v3.ownBlock = some k ∨ W.heap.size ≤ k := fun k q => by
    rw [own_slice] at q
    simp only [Option.some.injEq] at q
    subst q
    exact hat.imp id (fun e => by omega)
  have hO6 := hO.ap3 hown (fr_grown hgrow) hat'
  have hN6 := hN.grow (fun k q => hO.x3 k q) hgrow (X2 := fun k => X k ∨ (Value.slice (some ⟨g, 0, none⟩) (rs.length + 1) cap).ownBlock = some k)
    (fun k q => q.elim .inl fun z => (hat' k z).imp (hO.x3 k) id) hO6.Xs
  refine ⟨h6, _, hN6.setOut 2 _, hO6.setOut (fun k q => (hN6.X6 k q).1) 2 _, set_out2 h6 _, ?_⟩
  exact ((fr_grown hgrow).mono fun k _ q => by have := (hO.o3.lt k q).1; omega).setCell _ _ (.inl (show B ≤ B + 3 by omega))

/-- 'meet' beside what has been put out. -/
theorem c_meetQ {W0 : World} {blk : Obj} {X1 : Nat → Prop} (hN : PR W L m A B X l) (hO : PO W B X1 v1 v2 v3 rv ss fs rs) (hX : ∀ k, X1 k → X k) (hb : W.heap[B + 3]? = some blk) (hF : Fr (fun j => B ≤ j) W0 W) (a : Int) (ha : m.isRef a) (nv : Int) (l1 : List Int) (hnv : Hid (nv = m.numP (m.meetP l a) a)) (hl1 : Hid (l1 = m.meetP l a)) :
    Calls Try.prog 58 #[.int .i64 a, .pointer (some ⟨A, 0, none⟩), .pointer (some ⟨B + 1, 0, none⟩), .pointer (some ⟨B + 2, 0, none⟩)] W fun e W' =>
      e = .returned (.int .i64 nv) ∧ PR W' L m A B X l1 ∧ PO W' B X1 v1 v2 v3 rv ss fs rs ∧ W'.heap[B + 3]? = some blk ∧ Fr (fun j => B ≤ j) W0 W' ∧ ∀ (v : Value) (n : Nat) (xs : List Value), (∀ k, v.ownBlock = some k → X k) → W.ownsRow (B + 4) 3 1 v n xs → W'.ownsRow (B + 4) 3 1 v n xs := by
  refine (c_meetP W L m A B X l hN a ha).mono ?_
  rintro e W' ⟨rfl, h1, h2⟩
  have hXm : ∀ k, MeetP B X k → ¬ X k := fun k q x => by
    rcases q with q | q | q
    · have := (hN.X6 k x).1; omega
    · have := (hN.X6 k x).1; omega
    · exact q.2 x
  exact ⟨by rw [hnv.out], by rw [hl1.out]; exact h1, hO.fr h2 fun k q x => hXm k q (hX k x), h2.blk hb (fun q => by rcases q with q | q | q <;> omega), hF.trans (h2.mono fun k _ q => q.ge), fun v n xs hv ho => own_fr ho h2 fun k q z => hXm k z (hv k q)⟩
theorem PO.drew (hO : PO W B X v1 v2 v3 rv ss fs rs) : PO W.drew B X v1 v2 v3 rv ss fs rs := hO.fr (S := fun _ => False) ((Fr.refl _ W).drewN 1) (fun _ q => q.elim)
theorem own_alloc {base : Nat} {e : TypeId} {size : Nat} {v : Value} {n : Nat} {xs : List Value} (h : W.ownsRow base e size v n xs) (o : Obj) : (W.alloc o).ownsRow base e size v n xs := own_fr (S := fun _ => False) h ((Fr.refl _ W).alloc o) (fun _ _ => id)
/-- A row has grown. -/
theorem row_app {X1 : Nat → Prop} {blk : Obj} {q : Option Addr} {z : Nat} {row : List Int} (hN : PR W L m A B (fun j => X1 j ∨ (Value.slice q row.length z).ownBlock = some j) l) (hO : PO W B X1 v1 v2 v3 rv ss fs rs) (hx : ∀ k, (Value.slice q row.length z).ownBlock = some k → ¬ X1 k) (hb : W.heap[B + 3]? = some blk) {n : Int}
    (hgrow : (W.alloc o).grownBy w6 (Value.slice q row.length z).ownBlock) (hown : w6.ownsRow (B + 4) 3 1 (.slice (some ⟨g, 0, none⟩) (row.length + 1) cap) (row.length + 1) (row.map (.int .i64) ++ [.int .i64 n])) (hat : (Value.slice q row.length z).ownBlock = some g ∨ g = W.heap.size + 1) :
    PR w6 L m A B (fun j => X1 j ∨ (Value.slice (some ⟨g, 0, none⟩) (row ++ [n]).length cap).ownBlock = some j) l ∧ PO w6 B X1 v1 v2 v3 rv ss fs rs ∧ (∀ k, (Value.slice (some ⟨g, 0, none⟩) (row ++ [n]).length cap).ownBlock = some k → ¬ X1 k) ∧ w6.heap[B + 3]? = some blk ∧
      w6.ownsRow (B + 4) 3 1 (.slice (some ⟨g, 0, none⟩) (row ++ [n]).length cap) (row ++ [n]).length ((row ++ [n]).map (.int .i64)) ∧ Fr (fun j => B ≤ j) W w6 := by
  have hf := fr_grown hgrow
  have hge : ∀ k, (Value.slice q row.length z).ownBlock = some k → B + 4 ≤ k := fun k e => (hN.X6 k (.inr e)).1
  have hgx : ¬ X1 g := fun x => by
    rcases hat with e | e
    · exact hx g e x
    · have := hO.Xs g x; omega
  refine ⟨hN.fr hf (fun k e => .inl (.inr e)) (fun k e => ?_) (fun k e => ?_), hO.fr hf fun k e x => hx k e x, fun k e => ?_, hf.blk hb (fun e => by have := hge _ e; omega), by rw [List.length_append, List.map_append]; exact hown, hf.mono fun k _ e => by have := hge k e; omega⟩
  · rcases e with e | e
    · exact .inl (.inl e)
    · rw [own_slice] at e
      simp only [Option.some.injEq] at e
      subst e
      rcases hat with y | y
      · exact .inl (.inr y)
      · exact .inr (by omega)
  · rcases e with e | e
    · exact Nat.lt_of_lt_of_le (hO.Xs k e) hf.size
    · rw [own_slice] at e
      simp only [Option.some.injEq] at e
      subst e
      exact (hown.lt g rfl).2
  · rw [own_slice] at e
    simp only [Option.some.injEq] at e
    subst e; exact hgx
/-- The shape of an object: its cells, as they were ahead of it all. -/
theorem shape_cells {W4 : World} {sh : List Bool} {v : Int} (h : MemRep W4 L m) (hD : ∀ k, L.D k → k < A) (hAB : A < B) (hv : m.shapeAt v = some sh) :
    ∃ b o c p c', L.shv = .slice (some ⟨b, o, none⟩) m.shapes.length c ∧ 0 ≤ v ∧ v < (m.shapes.length : Int) ∧ b < B ∧ W4.cell? ⟨b, o + v.toNat, none⟩ = some (.slice p sh.length c') ∧ sh.length ≤ 60 ∧
      ∀ i, i < sh.length → ∃ b' o', p = some ⟨b', o', none⟩ ∧ b' < B ∧ W4.cell? ⟨b', o' + i, none⟩ = some (.bool (sh.getD i false)) := by
  unfold Mem.shapeAt at hv
  split at hv
  · rename_i h0
    obtain ⟨p0, cap, hs, h1 | ⟨b, o, hp, hb, hc⟩⟩ := h.sh
    · rw [h1] at hv; simp at hv
    · obtain ⟨hi, he⟩ := List.getElem?_eq_some_iff.1 hv
      obtain ⟨u, q1, p, c', q2, q3⟩ := hc _ hi
      refine ⟨b, o, cap, p, c', by rw [hs, hp], h0, by omega, by have := hD b hb; omega, by rw [q1, q2, he], h.sll sh (List.mem_of_getElem? hv), fun i hi' => ?_⟩
      rw [he] at q3
      rcases q3 with q3 | ⟨b', o', r1, r2, r3⟩
      · rw [q3] at hi'; simp at hi'
      · exact ⟨b', o', r1, by have := hD b' r2; omega, by rw [r3 i hi']; simp [hi']⟩
  · cases hv
theorem PR.size (hN : PR W L m A B X l) : B + 3 < W.heap.size := hN.sz
theorem fr_ad (W : World) (o : Obj) : Fr (fun _ => False) W (W.alloc o).drew := ((Fr.refl _ W).alloc o).drewN 1
theorem fr_aad (W : World) (o o' : Obj) : Fr (fun _ => False) W ((W.alloc o).alloc o').drew := (((Fr.refl _ W).alloc o).alloc o').drewN 1
theorem fr_gd1 {W : World} {o : Obj} {v : Value} (h : (W.alloc o).drew.grownBy w6 v.ownBlock) : Fr (fun k => v.ownBlock = some k) W w6 :=
  ((fr_ad W o).mono fun _ _ q => q.elim).trans ⟨h.os, h.tape, h.output, h.size, fun k hk hne => h.block k hk (fun e => hne e.symm)⟩
theorem fr_gd2 {W : World} {o o' : Obj} {v : Value} (h : ((W.alloc o).alloc o').drew.grownBy w6 v.ownBlock) : Fr (fun k => v.ownBlock = some k) W w6 :=
  ((fr_aad W o o').mono fun _ _ q => q.elim).trans ⟨h.os, h.tape, h.output, h.size, fun k hk hne => h.block k hk (fun e => hne e.symm)⟩
theorem fr_g0 {W : World} {v : Value} (h : W.grownBy w6 v.ownBlock) : Fr (fun k => v.ownBlock = some k) W w6 :=
  ⟨h.os, h.tape, h.output, h.size, fun k hk hne => h.block k hk (fun e => hne e.symm)⟩
theorem own_frG {base : Nat} {e : TypeId} {size : Nat} {u v : Value} {n : Nat} {xs : List Value} (h : W.ownsRow base e size u n xs) (hf : Fr (fun k => v.ownBlock = some k) W w6) (ha : ∀ k, u.ownBlock = some k → v.ownBlock ≠ some k) : w6.ownsRow base e size u n xs := own_fr h hf ha
theorem own_ad {base : Nat} {e : TypeId} {size : Nat} {u : Value} {n : Nat} {xs : List Value} (h : W.ownsRow base e size u n xs) (o : Obj) : (W.alloc o).drew.ownsRow base e size u n xs := own_fr h (fr_ad W o) (fun _ _ => id)
theorem own_aad {base : Nat} {e : TypeId} {size : Nat} {u : Value} {n : Nat} {xs : List Value} (h : W.ownsRow base e size u n xs) (o o' : Obj) : ((W.alloc o).alloc o').drew.ownsRow base e size u n xs := own_fr h (fr_aad W o o') (fun _ _ => id)
theorem news_a (W : World) (c : Value) (t : TypeId) : ∀ j u, [c][j]? = some u → (W.alloc (.cells #[c] t)).cell? ((⟨W.heap.size, 0, none⟩ : Addr).add j) = some u := World.news_of_block (al_same W (.cells #[c] t))
theorem news_ad (W : World) (c : Value) (t : TypeId) : ∀ j u, [c][j]? = some u → (W.alloc (.cells #[c] t)).drew.cell? ((⟨W.heap.size, 0, none⟩ : Addr).add j) = some u := World.news_of_block (w := (W.alloc (.cells #[c] t)).drew) (al_same W (.cells #[c] t))
theorem news_aad1 (W : World) (o : Obj) (c : Value) (t : TypeId) : ∀ j u, [c][j]? = some u → ((W.alloc (.cells #[c] t)).alloc o).drew.cell? ((⟨W.heap.size, 0, none⟩ : Addr).add j) = some u :=
  World.news_of_block (w := ((W.alloc (.cells #[c] t)).alloc o).drew) ((al_old (W.alloc (.cells #[c] t)) o W.heap.size (by simp only [al_size]; omega)).trans (al_same W (.cells #[c] t)))
theorem news_aad2 (W : World) (o : Obj) (c : Value) (t : TypeId) : ∀ j u, [c][j]? = some u → ((W.alloc o).alloc (.cells #[c] t)).drew.cell? ((⟨W.heap.size + 1, 0, none⟩ : Addr).add j) = some u :=
  World.news_of_block (w := ((W.alloc o).alloc (.cells #[c] t)).drew) (al_at (W.alloc o) (.cells #[c] t) (W.heap.size + 1) (by simp only [al_size]))
theorem news_g1 {W : World} {o : Obj} {c : Value} {t : TypeId} {v : Value} (hg : ((W.alloc o).alloc (.cells #[c] t)).drew.grownBy w6 v.ownBlock) (hv : ∀ k, v.ownBlock = some k → k < W.heap.size) : ∀ j u, [c][j]? = some u → w6.cell? ((⟨W.heap.size + 1, 0, none⟩ : Addr).add j) = some u :=
  World.news_of_block ((hg.block (W.heap.size + 1) (by show W.heap.size + 1 < ((W.alloc o).alloc (.cells #[c] t)).heap.size; simp only [al_size]; omega) (fun e => by have := hv _ e.symm; omega)).trans (show ((W.alloc o).alloc (.cells #[c] t)).heap[W.heap.size + 1]? = _ from al_at (W.alloc o) (.cells #[c] t) (W.heap.size + 1) (by simp only [al_size])))
theorem news_g2 {W : World} {o : Obj} {c : Value} {t : TypeId} {v : Value} (hg : ((W.alloc (.cells #[c] t)).alloc o).drew.grownBy w6 v.ownBlock) (hv : ∀ k, v.ownBlock = some k → k < W.heap.size) : ∀ j u, [c][j]? = some u → w6.cell? ((⟨W.heap.size, 0, none⟩ : Addr).add j) = some u :=
  World.news_of_block ((hg.block W.heap.size (by show W.heap.size < ((W.alloc (.cells #[c] t)).alloc o).heap.size; simp only [al_size]; omega) (fun e => by have := hv _ e.symm; omega)).trans (show ((W.alloc (.cells #[c] t)).alloc o).heap[W.heap.size]? = _ from (al_old (W.alloc (.cells #[c] t)) o W.heap.size (by simp only [al_size]; omega)).trans (al_same W (.cells #[c] t))))
/-- An object has come: its shape and its row. -/
theorem pic_app12 {W4 w8 : World} {X1 : Nat → Prop} {q : Option Addr} {z g1 k1 g2 k2 : Nat} {row : List Int} {v0 : Int} {lk : List Int} (hN : PR W L m A B (fun j => X1 j ∨ (Value.slice q row.length z).ownBlock = some j) lk) (hO : PO W B X1 v1 v2 v3 rv ss fs rs)
    (hoR : W.ownsRow (B + 4) 3 1 (.slice q row.length z) row.length (row.map (.int .i64))) (hx : ∀ k, (Value.slice q row.length z).ownBlock = some k → ¬ X1 k) (hb : W.heap[B + 3]? = some (picBlock v1 v2 v3)) (hF : Fr (fun j => B ≤ j) W4 W)
    (hown1 : w6.ownsRow (B + 4) 3 1 (.slice (some ⟨g1, 0, none⟩) (ss.length + 1) k1) (ss.length + 1) (ss.map (.int .i64) ++ [.int .i64 v0])) (f6 : Fr (fun k => v1.ownBlock = some k) W w6) (hat1 : v1.ownBlock = some g1 ∨ W.heap.size ≤ g1)
    (hown2 : w8.ownsRow (B + 4) 34 1 (.slice (some ⟨g2, 0, none⟩) (rv.length + 1) k2) (rv.length + 1) (rv ++ [.slice q row.length z])) (f8 : Fr (fun k => v2.ownBlock = some k) w6 w8) (hat2 : v2.ownBlock = some g2 ∨ w6.heap.size ≤ g2) :
    ∃ X', PR ((w8.setCell ⟨B + 3, 0, none⟩ (.slice (some ⟨g1, 0, none⟩) (ss.length + 1) k1)).setCell ⟨B + 3, 1, none⟩ (.slice (some ⟨g2, 0, none⟩) (rv.length + 1) k2)) L m A B X' lk ∧
      PO ((w8.setCell ⟨B + 3, 0, none⟩ (.slice (some ⟨g1, 0, none⟩) (ss.length + 1) k1)).setCell ⟨B + 3, 1, none⟩ (.slice (some ⟨g2, 0, none⟩) (rv.length + 1) k2)) B X' (.slice (some ⟨g1, 0, none⟩) (ss.length + 1) k1) (.slice (some ⟨g2, 0, none⟩) (rv.length + 1) k2) v3 (rv ++ [.slice q row.length z]) (ss ++ [v0]) (fs ++ [row]) rs ∧
      ((w8.setCell ⟨B + 3, 0, none⟩ (.slice (some ⟨g1, 0, none⟩) (ss.length + 1) k1)).setCell ⟨B + 3, 1, none⟩ (.slice (some ⟨g2, 0, none⟩) (rv.length + 1) k2)).heap[B + 3]? = some (picBlock (.slice (some ⟨g1, 0, none⟩) (ss.length + 1) k1) (.slice (some ⟨g2, 0, none⟩) (rv.length + 1) k2) v3) ∧
      Fr (fun j => B ≤ j) W4 ((w8.setCell ⟨B + 3, 0, none⟩ (.slice (some ⟨g1, 0, none⟩) (ss.length + 1) k1)).setCell ⟨B + 3, 1, none⟩ (.slice (some ⟨g2, 0, none⟩) (rv.length + 1) k2)) := by
  have hat1' : ∀ k, (Value.slice (some ⟨g1, 0, none⟩) (ss.length + 1) k1).ownBlock = some k → v1.ownBlock = some k ∨ W.heap.size ≤ k := fun k q => by
    rw [own_slice] at q; simp only [Option.some.injEq] at q; subst q; exact hat1
  have hat2' : ∀ k, (Value.slice (some ⟨g2, 0, none⟩) (rv.length + 1) k2).ownBlock = some k → v2.ownBlock = some k ∨ w6.heap.size ≤ k := fun k q => by
    rw [own_slice] at q; simp only [Option.some.injEq] at q; subst q; exact hat2
  have hrB : ∀ k, (Value.slice q row.length z).ownBlock = some k → B + 4 ≤ k ∧ k < W.heap.size := fun k e => hoR.lt k e
  have hO6 := hO.ap1 hown1 f6 hat1'
  have hoR6 := own_fr hoR f6 fun k e y => hx k e (hO.x1 k y)
  have hO8 := hO6.ap2 hoR6 (fun k e => ⟨fun y => ?_, fun y => hx k e (hO.x2 k y), fun y => hx k e (hO.x3 k y)⟩) hown2 f8 hat2'
  · have hge1 : ∀ k, v1.ownBlock = some k → B + 4 ≤ k := fun k e => (hO.o1.lt k e).1
    have hge2 : ∀ k, v2.ownBlock = some k → B + 4 ≤ k := fun k e => (hO.o2.lt k e).1
    have hb8 : w8.heap[B + 3]? = some (picBlock v1 v2 v3) := f8.blk (f6.blk hb (fun e => by have := hge1 _ e; omega)) (fun e => by have := hge2 _ e; omega)
    have f68 : Fr (fun k => v1.ownBlock = some k ∨ v2.ownBlock = some k) W w8 := (f6.mono fun k _ e => .inl e).trans (f8.mono fun k _ e => .inr e)
    have hN8 := hN.fr f68 (fun k e => .inl (.inl (e.elim (hO.x1 k) (hO.x2 k)))) (X2 := fun k => (X1 k ∨ (Value.slice (some ⟨g1, 0, none⟩) (ss.length + 1) k1).ownBlock = some k) ∨ (Value.slice q row.length z).ownBlock = some k ∨ (Value.slice (some ⟨g2, 0, none⟩) (rv.length + 1) k2).ownBlock = some k) (fun k e => by
      rcases e with (e | e) | e | e
      · exact .inl (.inl e)
      · exact (hat1' k e).imp (fun y => .inl (hO.x1 k y)) id
      · exact .inl (.inr e)
      · exact (hat2' k e).imp (fun y => .inl (hO.x2 k y)) (fun y => Nat.le_trans f6.size y)) hO8.Xs
    have hX8 : ∀ k, ((X1 k ∨ (Value.slice (some ⟨g1, 0, none⟩) (ss.length + 1) k1).ownBlock = some k) ∨ (Value.slice q row.length z).ownBlock = some k ∨ (Value.slice (some ⟨g2, 0, none⟩) (rv.length + 1) k2).ownBlock = some k) → B + 4 ≤ k := fun k e => (hN8.X6 k e).1
    refine ⟨_, (hN8.setOut 0 _).setOut 1 _, (hO8.setOut hX8 0 _).setOut hX8 1 _, set_out1 (set_out0 hb8 _) _, ?_⟩
    refine (hF.trans (f68.mono fun k _ e => ?_)).trans (((Fr.refl (fun k => k = B + 3) w8).setCell _ _ (.inl rfl)).setCell _ _ (.inl rfl) |>.mono fun k _ e => by omega)
    rcases e with e | e
    · have := hge1 k e; omega
    · have := hge2 k e; omega
  · rcases hat1' k y with e2 | e2
    · exact hx k e (hO.x1 k e2)
    · have := (hrB k e).2; omega
theorem pic_end {w W4 wr : World} {p1 p2 p3 : Option Addr} {n1 n2 n3 : Nat} {ss : List Int} {fs : List (List Int)} {rs : List Int} {Y H : Nat} (hAB : A + 1 < B) (hA : A = w.heap.size) (hN : PR wr L m A B X l)
    (hO : PO wr B X (.slice p1 ss.length n1) (.slice p2 rv.length n2) (.slice p3 rs.length n3) rv ss fs rs) (hF0 : Fr (fun _ => False) w W4) (hF : Fr (fun j => B ≤ j) W4 wr) (hb9 : wr.heap[A + 1]? = some (picBlock (.slice none 0 0) (.slice none 0 0) (.slice none 0 0)))
    (hbd : ss.length ≤ Y + H + H ∧ fs.length ≤ Y + H + H ∧ (∀ f ∈ fs, f.length ≤ 60) ∧ rs.length ≤ 200 ∧ Y ≤ 1024 ∧ H ≤ 4096) :
    ∃ W9, W9 = ((wr.setCell ⟨A + 1, 0, none⟩ (.slice p1 ss.length n1)).setCell ⟨A + 1, 1, none⟩ (.slice p2 rv.length n2)).setCell ⟨A + 1, 2, none⟩ (.slice p3 rs.length n3) ∧
      W9.cell? ⟨A + 1, 0, none⟩ = some (.slice p1 ss.length n1) ∧ W9.cell? ⟨A + 1, 1, none⟩ = some (.slice p2 rv.length n2) ∧ W9.cell? ⟨A + 1, 2, none⟩ = some (.slice p3 rs.length n3) ∧
      PicAt W9 (fun k => w.heap.size ≤ k ∧ k < W9.heap.size) (.slice p1 ss.length n1) (.slice p2 rv.length n2) (.slice p3 rs.length n3) ⟨ss, fs, rs⟩ ∧ Below w.heap.size w W9 := by
  have hz9 : (((wr.setCell ⟨A + 1, 0, none⟩ (.slice p1 ss.length n1)).setCell ⟨A + 1, 1, none⟩ (.slice p2 rv.length n2)).setCell ⟨A + 1, 2, none⟩ (.slice p3 rs.length n3)).heap[A + 1]? = some (picBlock (.slice p1 ss.length n1) (.slice p2 rv.length n2) (.slice p3 rs.length n3)) :=
    heap_setCell_same (i := 2) _ (heap_setCell_same (i := 1) _ (heap_setCell_same (i := 0) _ hb9))
  have e1 : Fr (fun k => k = A + 1) wr (wr.setCell ⟨A + 1, 0, none⟩ (.slice p1 ss.length n1)) := (Fr.refl _ wr).setCell _ _ (.inl rfl)
  have e2 : Fr (fun k => k = A + 1) wr ((wr.setCell ⟨A + 1, 0, none⟩ (.slice p1 ss.length n1)).setCell ⟨A + 1, 1, none⟩ (.slice p2 rv.length n2)) := e1.setCell _ _ (.inl rfl)
  have f9 : Fr (fun k => k = A + 1) wr (((wr.setCell ⟨A + 1, 0, none⟩ (.slice p1 ss.length n1)).setCell ⟨A + 1, 1, none⟩ (.slice p2 rv.length n2)).setCell ⟨A + 1, 2, none⟩ (.slice p3 rs.length n3)) := e2.setCell _ _ (.inl rfl)
  refine ⟨_, rfl, ?_⟩
  generalize (((wr.setCell ⟨A + 1, 0, none⟩ (.slice p1 ss.length n1)).setCell ⟨A + 1, 1, none⟩ (.slice p2 rv.length n2)).setCell ⟨A + 1, 2, none⟩ (.slice p3 rs.length n3)) = W9 at *
  have hO9 := hO.fr f9 fun k e q => by have := (hN.X6 k q).1; omega
  have hpic := (hO9.pic (by omega) (by omega) (by omega) (fun f hf => by have := hbd.2.2.1 f hf; omega)).monoD (D' := fun k => w.heap.size ≤ k ∧ k < W9.heap.size) fun k q => ⟨by omega, q.2⟩
  have fall : Fr (fun k => A ≤ k) w W9 := ((hF0.mono fun k _ q => q.elim).trans (hF.mono fun k _ q => by omega)).trans (f9.mono fun k _ q => by omega)
  exact ⟨by rw [cell_of hz9]; rfl, by rw [cell_of hz9]; rfl, by rw [cell_of hz9]; rfl, hpic, ⟨fall.os, fall.tape, fall.output, fall.size, fun k hk => fall.block k hk (by omega)⟩⟩
end
end Go.Proofs.Ytnedmmopkhmejaa
