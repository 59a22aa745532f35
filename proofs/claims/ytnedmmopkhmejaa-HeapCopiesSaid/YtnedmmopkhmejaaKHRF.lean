/- A range over a function whose rounds come in an order that is known: the law. -/
import Derived.RangeFuncNested
import Derived.RangeFuncBound
import Derived.RangeFuncCalls
import Derived.RangeFuncLeaves
import Derived.Shelf.Abstract
import Derived.Shelf.RegionOpen
import Derived.WalkKit
import Derived.OwnWalkIn
import Derived.TacticsInMore
import Derived.LoopNIn
import Derived.LoopIn
import Derived.Test.YtnedmmopkhmejaaKHW5
set_option linter.unusedVariables false
set_option linter.unusedSimpArgs false
namespace Go.Proofs.Ytnedmmopkhmejaa
open Go.RowKit Go.Proofs.Hp

/-- An iterator whose k-th step yields 'args k', or passes. -/
def SeqOrd (n : Nat) (P : Program) (g : Nat) (lb : Array Value) (N : Nat) (args : Nat → Option (Array Value)) (R : Nat → World → Prop) : Prop :=
  ∀ (l : Nat) (J Jx : Nat → World → Prop) (W : World), (∀ k A, J k A → R k A) → (∀ k A m, J k A → J k (A.drewN m)) → (∀ k A m, Jx k A → Jx k (A.drewN m)) →
    (∀ k A, k < N → args k = none → J k A → J (k + 1) A) →
    (∀ k vs A, k < N → args k = some vs → J k A → YieldAt Fence.wide (n - 1) P l vs A fun e W' => (e = .returned (.bool true) ∧ J (k + 1) W') ∨ (e = .returned (.bool false) ∧ Jx k W')) →
    J 0 W → CallsIn Fence.wide n P g (#[.func (.yield l) #[] #[]] ++ lb) W fun e W' => (∃ v, e = .returned v) ∧ (J N W' ∨ ∃ k, k < N ∧ Jx k W')

/-- How a round's body is left: the two blocks of book-keeping (at B, B + 1) stay. -/
def ordPost (B : Nat) (I : Nat → World → Prop) (Ix : Code → Nat → World → Prop) (k : Nat) (W : World) : Exit → Act → World → Prop
  | .normal, _, W' => (∀ j, (j = B ∨ j = B + 1) → W'.heap[j]? = W.heap[j]?) ∧ I (k + 1) W'
  | .ret, _, W' => (∀ j, (j = B ∨ j = B + 1) → W'.heap[j]? = W.heap[j]?) ∧ Ix .ret k W'
  | .exit id, _, W' => (∀ j, (j = B ∨ j = B + 1) → W'.heap[j]? = W.heap[j]?) ∧ Ix (.exit id) k W'
  | .goto t, _, W' => (∀ j, (j = B ∨ j = B + 1) → W'.heap[j]? = W.heap[j]?) ∧ Ix (.goto t) k W'
  | .panic _, _, _ => False
  | .outgrown, _, _ => False

theorem fr_putObj {S : Nat → Prop} (w : World) (l : Nat) (o : Obj) (h : S l) : Fr S w (w.putObj l o) :=
  ⟨rfl, rfl, rfl, by simp, fun k _ hk => World.putObj_heap_other (fun e => hk (by rw [e]; exact h))⟩

def markOf (D : Nat) : Deferred := { target := .collected D, args := #[] }

theorem wpIn_rangeFunc_ord {n : Nat} {P : Program} {g : Operand} {ps : Array Tmp} {assign body : Code} {Q : Exit → Act → World → Prop} {a : Act} {w : World}
    {gf : Nat} {lb : Array Value} (hg : a.eval g = .func (.func gf) #[] lb) (eg : ∀ args w, (callFunc gf args).run P w = .ok (.enter gf args) w)
    {N : Nat} {args : Nat → Option (Array Value)} {R : Nat → World → Prop} (hseq : SeqOrd (n - 1) P gf lb N args R) (hps : ∀ k vs, args k = some vs → vs.size = ps.size)
    (I : Nat → World → Prop) (Ix : Code → Nat → World → Prop)
    (hI : ∀ k A C, Fr (fun j => j = w.heap.size ∨ j = w.heap.size + 1) A C → I k A → I k C) (hIx : ∀ c k A C, Fr (fun j => j = w.heap.size ∨ j = w.heap.size + 1) A C → Ix c k A → Ix c k C)
    (h0 : ∀ C, Fr (fun _ => False) w C → w.heap.size + 1 < C.heap.size → I 0 C) (hR : ∀ k A, I k A → R k A) (hskip : ∀ k A, k < N → args k = none → I k A → I (k + 1) A)
    (hbody : ∀ (l k : Nat) (vs : Array Value) (W : World), k < N → args k = some vs → I k W → w.heap.size + 1 < W.heap.size →
      assign.wpIn (Fence.wide.inRound l) (n - 1 - 1) P (Exit.then (fun a' W' => W' = W ∧ ∀ W2, I k W2 → w.heap.size + 1 < W2.heap.size → body.wpIn (Fence.wide.inRound l) (n - 1 - 1) P (ordPost w.heap.size I Ix k W2) a' W2) (fun _ _ _ => False))
        { tmps := (ps.zip vs).foldl (fun t (p, v) => t.setIfInBounds p v) a.tmps, defers := [] } W)
    (hdone : ∀ W, I N W → W.heap[w.heap.size]? = some (.deferred (some [])) → Q .normal { a with defers := markOf w.heap.size :: a.defers } W)
    (hstop : ∀ c k W, k < N → Ix c k W → W.heap[w.heap.size]? = some (.deferred (some [])) → c.wpIn Fence.wide n P Q { a with defers := markOf w.heap.size :: a.defers } W) :
    (Code.rangeFunc g ps assign body).wpIn Fence.wide n P Q a w := by
  refine wpIn_rangeFunc ?_
  intro fn hfn
  rw [show Fence.wide.round = none from rfl]
  obtain ⟨rec, hrec⟩ : ∃ rec : LoopState → Option Code → Loop, rec = fun st pe => { state := st, pending := pe, fn, tmps := a.tmps, params := ps, assign, body, defers := w.heap.size } := ⟨_, rfl⟩
  obtain ⟨W1, hW1⟩ : ∃ W1, (w.alloc (.deferred (some []))).alloc (.loop (rec .ready none)) = W1 := ⟨_, rfl⟩
  have hL1 : W1.heap[w.heap.size + 1]? = some (.loop (rec .ready none)) := by
    rw [← hW1]; have := World.alloc_heap_new (w.alloc (.deferred (some []))) (.loop (rec .ready none)); rwa [World.size_alloc] at this
  have hK1 : W1.heap[w.heap.size]? = some (.deferred (some [])) := by
    rw [← hW1]; exact (Below.heap_alloc _ _ _ (by simp)).trans (World.alloc_heap_new w _)
  have hI1 : I 0 W1 := by rw [← hW1]; exact h0 _ (((Fr.refl _ w).alloc _).alloc _) (by simp only [al_size]; omega)
  refine ⟨w.heap.size + 1, [{ target := .collected w.heap.size, args := #[] }], W1, { target := .fn (.func gf) lb, args := #[.func (.yield (w.heap.size + 1)) #[] #[]] }, W1, gf,
    #[.func (.yield (w.heap.size + 1)) #[] #[]] ++ lb, W1, ?_, ?_, ?_, ?_, ?_, ?_⟩
  · rw [← hW1, hrec]; exact run_enterLoop_outer _ _ _ _ _
  · simp only [resolve, hg]
    simp [go_sem]
  · intro f' hf'; trivial
  · simp [invoke, go_sem, eg]
  · intro h; simp [Fence.wide] at h
  · refine (hseq (w.heap.size + 1)
      (fun k W => I k W ∧ W.heap[w.heap.size + 1]? = some (.loop (rec .ready none)) ∧ W.heap[w.heap.size]? = some (.deferred (some [])))
      (fun k W => ∃ c, Ix c k W ∧ W.heap[w.heap.size + 1]? = some (.loop (rec .done (some c))) ∧ W.heap[w.heap.size]? = some (.deferred (some [])))
      W1 (fun k A h => hR k A h.1)
      (fun k A m h => ⟨hI k A _ ((Fr.refl _ A).drewN m) h.1, h.2.1, h.2.2⟩)
      (fun k A m h => let ⟨c, h1, h2, h3⟩ := h; ⟨c, hIx c k A _ ((Fr.refl _ A).drewN m) h1, h2, h3⟩)
      (fun k A hk ha h => ⟨hskip k A hk ha h.1, h.2⟩)
      ?_ ⟨hI1, hL1, hK1⟩).mono ?_
    · rintro k vs W hk has ⟨hi, hl, hd⟩
      have hlt : w.heap.size + 1 < W.heap.size := (Array.getElem?_eq_some_iff.1 hl).1
      have hy := run_yield (P := P) (args := vs) hl (by rw [hrec]; exact hps k vs has)
      rw [hrec] at hy
      refine ⟨fn, _, assign, body, hy, roundIn_of_wpIn hfn (wpIn_mono (hbody (w.heap.size + 1) k vs W hk has hi hlt) ?_)⟩
      rintro e a' W' hp
      cases e with
      | normal =>
        obtain ⟨rfl, hbd⟩ := hp
        refine ⟨_, run_beginRound hl (by rw [hrec]), ?_⟩
        have hl2 : (W'.putObj (w.heap.size + 1) (.loop { rec .ready none with state := .busy })).heap[w.heap.size + 1]? = some (.loop { rec .ready none with state := .busy }) := World.putObj_heap_same hlt
        have hk2 : (W'.putObj (w.heap.size + 1) (.loop { rec .ready none with state := .busy })).heap[w.heap.size]? = some (.deferred (some [])) := (World.putObj_heap_other (by omega)).trans hd
        refine wpIn_mono (hbd _ (hI k _ _ (fr_putObj _ _ _ (.inr rfl)) hi) (by simpa using hlt)) ?_
        have fin : ∀ (jump : Option Code) (W3 : World), (∀ j, (j = w.heap.size ∨ j = w.heap.size + 1) → W3.heap[j]? = (W'.putObj (w.heap.size + 1) (.loop { rec .ready none with state := .busy })).heap[j]?) →
            (Instr.endRound (w.heap.size + 1) jump).run P W3 = .ok (.bool jump.isNone) (W3.putObj (w.heap.size + 1) (.loop (rec (if jump.isNone then .ready else .done) jump))) ∧
            (W3.putObj (w.heap.size + 1) (.loop (rec (if jump.isNone then .ready else .done) jump))).heap[w.heap.size + 1]? = some (.loop (rec (if jump.isNone then .ready else .done) jump)) ∧
            (W3.putObj (w.heap.size + 1) (.loop (rec (if jump.isNone then .ready else .done) jump))).heap[w.heap.size]? = some (.deferred (some [])) := fun jump W3 hk3 => by
          have hl3 := (hk3 _ (.inr rfl)).trans hl2
          have hlt3 : w.heap.size + 1 < W3.heap.size := (Array.getElem?_eq_some_iff.1 hl3).1
          have := run_endRound (P := P) jump hl3
          rw [hrec] at this ⊢
          exact ⟨this, World.putObj_heap_same hlt3, (World.putObj_heap_other (by omega)).trans ((hk3 _ (.inl rfl)).trans hk2)⟩
        rintro e a3 W3 hp
        cases e with
        | normal =>
          obtain ⟨hk3, hi3⟩ := hp
          obtain ⟨hr, hl4, hk4⟩ := fin none W3 hk3
          exact ⟨_, _, hr, .inl ⟨rfl, hI _ _ _ (fr_putObj _ _ _ (.inr rfl)) hi3, hl4, hk4⟩⟩
        | ret =>
          obtain ⟨hk3, hi3⟩ := hp
          obtain ⟨hr, hl4, hk4⟩ := fin (some .ret) W3 hk3
          exact ⟨_, _, hr, .inr ⟨rfl, .ret, hIx _ _ _ _ (fr_putObj _ _ _ (.inr rfl)) hi3, hl4, hk4⟩⟩
        | exit id =>
          obtain ⟨hk3, hi3⟩ := hp
          obtain ⟨hr, hl4, hk4⟩ := fin (some (.exit id)) W3 hk3
          exact ⟨_, _, hr, .inr ⟨rfl, .exit id, hIx _ _ _ _ (fr_putObj _ _ _ (.inr rfl)) hi3, hl4, hk4⟩⟩
        | goto t =>
          obtain ⟨hk3, hi3⟩ := hp
          obtain ⟨hr, hl4, hk4⟩ := fin (some (.goto t)) W3 hk3
          exact ⟨_, _, hr, .inr ⟨rfl, .goto t, hIx _ _ _ _ (fr_putObj _ _ _ (.inr rfl)) hi3, hl4, hk4⟩⟩
        | panic ch => exact hp.elim
        | outgrown => exact hp.elim
      | ret => exact hp.elim
      | exit id => exact hp.elim
      | goto t => exact hp.elim
      | panic ch => exact hp.elim
      | outgrown => exact hp.elim
    · rintro e W2 ⟨⟨v, rfl⟩, (⟨hi, hl, hk⟩ | ⟨k, hkN, c, hi, hl, hk⟩)⟩
      · exact ⟨none, _, by have := run_endLoop (P := P) hl (by rw [hrec]; simp); rw [hrec] at this; exact this, hdone _ (hI _ _ _ (fr_putObj _ _ _ (.inr rfl)) hi) ((World.putObj_heap_other (by omega)).trans hk)⟩
      · exact ⟨some c, _, by have := run_endLoop (P := P) hl (by rw [hrec]; simp); rw [hrec] at this; exact this, hstop c k _ hkN (hIx _ _ _ _ (fr_putObj _ _ _ (.inr rfl)) hi) ((World.putObj_heap_other (by omega)).trans hk)⟩

/-- The marks of a frame that leaves: each is taken, and its block is shut. -/
theorem leaves_marks {n : Nat} {P : Program} {fn : Func} {tmps : Array Value} {R : Ending → World → Prop} : ∀ (Ds : List Nat) (w : World), Ds.Nodup → (∀ D ∈ Ds, w.heap[D]? = some (.deferred (some []))) →
    (∀ w', Fr (fun k => k ∈ Ds) w w' → LeavesInM Fence.wide n P fn tmps R [] .returning w') → LeavesInM Fence.wide n P fn tmps R (Ds.map markOf) .returning w
  | [], w, _, _, h => h w (Fr.refl _ _)
  | D :: Ds, w, hn, ho, h => by
    obtain ⟨hnd, hn'⟩ := List.nodup_cons.1 hn
    refine ⟨by simp, .inl ⟨D, _, rfl, run_takeDeferred (ho D (by simp)), ?_⟩⟩
    refine leaves_marks Ds _ hn' (fun E hE => (World.putObj_heap_other (fun e => hnd (by subst e; exact hE))).trans (ho E (by simp [hE]))) fun w' hw' => h w' ?_
    exact Fr.trans' (fr_putObj w D _ (by simp)) hw' (fun k hk => .inl (by simp [hk]))
end Go.Proofs.Ytnedmmopkhmejaa
