/- Walks: slices.Clone. -/
import Derived.Lib.LazyBuf
import Derived.Test.YtnedmmopkhmejaaKHW11
set_option linter.unusedVariables false
set_option linter.unusedSimpArgs false
namespace Go.Proofs.Ytnedmmopkhmejaa
open Go.RowKit Go.Proofs.Hp

theorem below_grown {w w' : World} {row : Option Nat} (h : w.grownBy w' row) (hr : ∀ k, row = some k → w.heap.size ≤ k) : Below w.heap.size w w' :=
  ⟨h.os, h.tape, h.output, h.size, fun k hk => h.block k hk (fun e => by have := hr k e.symm; omega)⟩

theorem addr_add (b o j : Nat) : (⟨b, o, none⟩ : Addr).add j = ⟨b, o + j, none⟩ := by unfold Addr.add; split <;> simp_all

set_option maxRecDepth 100000 in
theorem c_CloneInts (w : World) (p : Option Addr) (n cap : Nat) (xs : List Value) (hp : p = none → n = 0) (hx : xs.length = n * 1) (hc : ∀ a, p = some a → ∀ j u, xs[j]? = some u → w.cell? (a.add j) = some u) (h1 : ∀ u ∈ xs, u.oneCell' = true) (hl : n ≤ 1048576) :
    Calls Try.prog 76 #[.slice p n cap] w fun e w' => ∃ v', e = .returned v' ∧ w'.ownsRow w.heap.size 3 1 v' n xs ∧ Below w.heap.size w w' := by
  have heq := run_eql_slice_nil (P := Try.prog) w 34 3 p n cap Try.underlying34
  cases p with
  | none =>
    obtain rfl : n = 0 := hp rfl
    obtain rfl : xs = [] := List.eq_nil_of_length_eq_zero (by omega)
    simp only [Option.isNone] at heq
    go_enter Try.func76, Try.ntmps76
    go_wp2
    go_ret
    exact ⟨_, rfl, World.ownsRow_nil _ _ _ _, Below.refl _ _⟩
  | some a =>
    simp only [Option.isNone] at heq
    obtain ⟨i0, hi, hz0, hz1, hz2⟩ := info_parts Try.infoInt
    have hal : ∀ j u, xs[j]? = some u → (w.alloc (.cells #[] 3)).cell? (a.add j) = some u := fun j u hu => by
      have := hc a rfl j u hu
      rw [← this]
      exact World.cell?_of_block (al_old _ _ _ (World.block_lt_of_cell? w _ this))
    obtain ⟨v', W4, hap, o4, g4, _, at4⟩ := run_append_own_at (P := Try.prog) (w.alloc (.cells #[] 3)) w.heap.size 34 34 3 i0 _ 1 _ Try.underlying34 hi hz0 hz1 hz2 rfl (by decide) _ 0 [] (World.ownsRow_made w #[] 0 (Nat.le_refl _) (by simp [maxLen]) (by simp))
      a n cap xs hx hal h1 (by simp only [maxLen]; omega) (by omega) (by simp)
    have hb : Below w.heap.size w W4 := by
      have q : Below w.heap.size w (w.alloc (.cells #[] 3)) := (Below.refl _ w).alloc (Nat.le_refl _) _
      refine ⟨g4.os, g4.tape, g4.output, Nat.le_trans q.size g4.size, fun k hk => (g4.block k (by simp; omega) (fun e => ?_)).trans (q.block k hk)⟩
      simp [Value.ownBlock] at e
      omega
    rw [Nat.zero_add, List.nil_append] at o4
    clear at4 g4 hal hc h1
    go_enter Try.func76, Try.ntmps76
    obtain ⟨vp, vcap, rfl⟩ := ownsRow_slice o4
    go_wp2_with (at_builtin; refine wpList_append_run rfl _ _ 34 rfl _ _ rfl rfl _ _ hap ?_)
    go_ret
    exact ⟨_, rfl, o4, hb⟩

theorem IntsAt.clone {w : World} {D : Nat → Prop} {v : Value} {xs : List Int} (h : IntsAt w D v xs) (hl : xs.length ≤ 1048576) :
    Calls Try.prog 76 #[v] w fun e w' => ∃ v', e = .returned v' ∧ w'.ownsRow w.heap.size 3 1 v' xs.length (xs.map (.int .i64)) ∧ Below w.heap.size w w' := by
  obtain ⟨p, cap, rfl, hc⟩ := h
  refine c_CloneInts w p xs.length cap (xs.map (.int .i64)) (fun e => ?_) (by simp) (fun a e j u hu => ?_) (fun u hu => ?_) hl
  · rcases hc with rfl | ⟨_, _, hp, _⟩
    · rfl
    · rw [e] at hp; cases hp
  · rcases hc with rfl | ⟨b, o, hp, _, hc⟩
    · simp at hu
    · rw [hp] at e
      cases e
      rw [addr_add]
      rw [List.getElem?_map] at hu
      obtain ⟨x, hx, rfl⟩ := Option.map_eq_some_iff.1 hu
      obtain ⟨hj, rfl⟩ := List.getElem?_eq_some_iff.1 hx
      exact hc j hj
  · obtain ⟨x, _, rfl⟩ := List.mem_map.1 hu; rfl
end Go.Proofs.Ytnedmmopkhmejaa
