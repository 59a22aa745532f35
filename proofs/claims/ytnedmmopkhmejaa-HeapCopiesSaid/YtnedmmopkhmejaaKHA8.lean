/- Walks: act, played, New at its limit. -/
import Derived.Test.YtnedmmopkhmejaaKHA7
set_option linter.unusedVariables false
set_option linter.unusedSimpArgs false
namespace Go.Proofs.Hp
namespace Pl
theorem actE_cases {p p' : Pl} {k : Nat} {a b c er : Int} (h1 : 1 ≤ k) (h9 : k ≤ 9) (hl : p.actE (k : Int) a b c = some (p', er)) :
    ((rA k = true → p.inB a) → (rB k = true → p.inB b) → p.doE k a b c = some (p', er)) ∧ (¬ ((rA k = true → p.inB a) ∧ (rB k = true → p.inB b)) → er = 1 ∧ p' = p) := by
  unfold actE at hl
  rw [if_neg (by omega)] at hl
  simp only [Int.toNat_natCast] at hl
  refine ⟨fun q1 q2 => ?_, fun q => ?_⟩
  · rw [if_pos ⟨q1, q2⟩] at hl; exact hl
  · rw [if_neg q] at hl; cases hl; exact ⟨rfl, rfl⟩
def playedE (roots : Int) (n : Nat) : Int := if roots > 200 ∨ n > 2000 then 3 else if roots < 0 then 1 else 0
end Pl
end Go.Proofs.Hp
namespace Go.Proofs.Ytnedmmopkhmejaa
open Go.RowKit Go.Proofs.Hp
attribute [local go_sem] Oper.semAt_some

set_option maxRecDepth 100000 in
set_option maxHeartbeats 4000000 in
theorem c_pact0 (w : World) (pb : Nat) (L : ML) (rv : Value) (p : Pl) (h : PRep w pb L rv p) (k a b c : Int) (hk : k < 1 ∨ 9 < k) :
    Calls Try.prog 79 #[.pointer (some ⟨pb, 0, none⟩), .agg #[.int .i64 k, .int .i64 a, .int .i64 b, .int .i64 c]] w
      fun e w' => e = .returned (.int .i64 1) ∧ PRep w' pb L rv p ∧ PEv pb L L rv rv p.roots.length w w' := by
  have h0 := h.alloc (.cells #[.int .i64 k, .int .i64 a, .int .i64 b, .int .i64 c] 78)
  have f0 : Fr (fun _ => False) w (w.alloc (.cells #[.int .i64 k, .int .i64 a, .int .i64 b, .int .i64 c] 78)) := (Fr.refl _ w).alloc _
  have hblk := al_same w (.cells #[.int .i64 k, .int .i64 a, .int .i64 b, .int .i64 c] 78)
  have hkH := Lib.hid hk
  clear h hk
  go_enter Try.func79, Try.ntmps79
  go_wp2_with (fail)
  generalize hB : w.heap.size = B at *
  generalize w.alloc (.cells #[.int .i64 k, .int .i64 a, .int .i64 b, .int .i64 c] 78) = W at *
  refine (c_deeds W).mono ?_
  rintro e W1 ⟨rfl, hW1⟩
  have hb1 : Below W.heap.size W W1 := by rw [hW1]; exact (Below.refl _ _).alloc (Nat.le_refl _) _
  clear hW1
  have hx : (W1.alloc (.cells deedZero 172)).setRow W1.heap.size deedCells = W1.alloc (.cells deedCells 172) := World.setRow_alloc_new _ _ _ _
  have h2 := (h0.below hb1).alloc (.cells deedCells 172)
  have fW := (f0.trans (Fr.of_below hb1)).alloc (.cells deedCells 172)
  have hlt1 := lt_of_block hblk
  have hblk2 : (W1.alloc (.cells deedCells 172)).heap[B]? = some (.cells #[.int .i64 k, .int .i64 a, .int .i64 b, .int .i64 c] 78) := (al_old _ _ _ (Nat.lt_of_lt_of_le hlt1 hb1.size)).trans ((hb1.block _ hlt1).trans hblk)
  generalize W1.alloc (.cells deedCells 172) = W2 at hx h2 fW hblk2
  have b0 : W2.cell? ⟨B, 0, none⟩ = some (.int .i64 k) := by rw [cell_of hblk2]; rfl
  have hxH := Lib.hid hx
  clear hx h0 f0 hblk hb1 hlt1 hblk2
  have hHH := Lib.hid (And.intro h2 fW)
  clear h2 fW
  by_cases hk1 : k < 1
  · go_wp2_with (first
      | (refine wpList_store_row rfl 172 (.tmp 5) (.tmp 7) rfl W1.heap.size deedCells rfl rfl 172 deedZero (heap_alloc_last _ _) (by kernel_rfl) rfl (by kernel_rfl) ?_; change wpList _ _ _ _ _ ((W1.alloc (.cells deedZero 172)).setRow W1.heap.size deedCells); rw [hxH.out]))
    go_ret
    exact ⟨rfl, hHH.out.1, PEv.of_fr (hHH.out.2.mono fun _ _ q => q.elim)⟩
  · have hk9 : 9 < k := hkH.out.resolve_left hk1
    go_wp2_with (first
      | (refine wpList_store_row rfl 172 (.tmp 5) (.tmp 7) rfl W1.heap.size deedCells rfl rfl 172 deedZero (heap_alloc_last _ _) (by kernel_rfl) rfl (by kernel_rfl) ?_; change wpList _ _ _ _ _ ((W1.alloc (.cells deedZero 172)).setRow W1.heap.size deedCells); rw [hxH.out]))
    go_ret
    exact ⟨rfl, hHH.out.1, PEv.of_fr (hHH.out.2.mono fun _ _ q => q.elim)⟩

theorem nat_of {x : Int} {n : Nat} (h : 0 ≤ x ∧ x < (n : Int)) : ∃ i : Nat, x = (i : Int) ∧ i < n := ⟨x.toNat, by omega, by omega⟩

theorem c_pact (w : World) (pb : Nat) (L : ML) (rv : Value) (p p' : Pl) (h : PRep w pb L rv p) (hlr : p.roots.length ≤ 1048576) (k a b c er : Int) (ha : a ≤ 9223372036854775807) (hl : p.actE k a b c = some (p', er)) :
    Calls Try.prog 79 #[.pointer (some ⟨pb, 0, none⟩), .agg #[.int .i64 k, .int .i64 a, .int .i64 b, .int .i64 c]] w
      fun e w' => e = .returned (.int .i64 er) ∧ ∃ L' rv', PRep w' pb L' rv' p' ∧ PEv pb L L' rv rv' p.roots.length w w' := by
  by_cases hk : k < 1 ∨ 9 < k
  · unfold Pl.actE at hl
    rw [if_pos hk] at hl
    cases hl
    exact (c_pact0 w pb L rv p h k a b c hk).mono fun e w' ⟨q1, q2, q3⟩ => ⟨q1, L, rv, q2, q3⟩
  · obtain ⟨n, rfl⟩ : ∃ n : Nat, k = (n : Int) := ⟨k.toNat, by omega⟩
    have h1 : 1 ≤ n := by omega
    have h9 : n ≤ 9 := by omega
    obtain ⟨hg, hb⟩ := Pl.actE_cases h1 h9 hl
    match n, h1, h9, hg, hb with
    | 1, h1, h9, hg, hb =>
      refine c_pact1 w pb L rv p p' h 1 121 true false h1 h9 a b c er rfl rfl rfl (enters (P := Try.prog) Try.func121 (by kernel_rfl) rfl) (fun qa qb W hW => ?_) hb
      have hd := hg qa qb
      obtain ⟨i, rfl, hi⟩ := nat_of (qa rfl)
      exact c_pfresh W pb L rv p p' hW hlr 1 b c er i hi hd
    | 2, h1, h9, hg, hb =>
      refine c_pact1 w pb L rv p p' h 2 122 true true h1 h9 a b c er rfl rfl rfl (enters (P := Try.prog) Try.func122 (by kernel_rfl) rfl) (fun qa qb W hW => ?_) hb
      have hd := hg qa qb
      obtain ⟨i, rfl, hi⟩ := nat_of (qa rfl)
      obtain ⟨j, rfl, hj⟩ := nat_of (qb rfl)
      exact (c_pget W pb L rv p p' hW 2 c er i j hi hj hd).mono fun e w' ⟨q1, q2, q3⟩ => ⟨q1, L, rv, q2, q3⟩
    | 3, h1, h9, hg, hb =>
      refine c_pact1 w pb L rv p p' h 3 123 true true h1 h9 a b c er rfl rfl rfl (enters (P := Try.prog) Try.func123 (by kernel_rfl) rfl) (fun qa qb W hW => ?_) hb
      have hd := hg qa qb
      obtain ⟨i, rfl, hi⟩ := nat_of (qa rfl)
      obtain ⟨j, rfl, hj⟩ := nat_of (qb rfl)
      exact (c_pset W pb L rv p p' hW 3 c er i j hi hj hd).mono fun e w' ⟨q1, L', q2, q3⟩ => ⟨q1, L', rv, q2, q3⟩
    | 4, h1, h9, hg, hb =>
      refine c_pact1 w pb L rv p p' h 4 124 true false h1 h9 a b c er rfl rfl rfl (enters (P := Try.prog) Try.func124 (by kernel_rfl) rfl) (fun qa qb W hW => ?_) hb
      have hd := hg qa qb
      obtain ⟨i, rfl, hi⟩ := nat_of (qa rfl)
      exact (c_pput W pb L rv p p' hW 4 c er i b hi hd).mono fun e w' ⟨q1, L', q2, q3⟩ => ⟨q1, L', rv, q2, q3⟩
    | 5, h1, h9, hg, hb =>
      refine c_pact1 w pb L rv p p' h 5 125 true false h1 h9 a b c er rfl rfl rfl (enters (P := Try.prog) Try.func125 (by kernel_rfl) rfl) (fun qa qb W hW => ?_) hb
      have hd := hg qa qb
      obtain ⟨i, rfl, hi⟩ := nat_of (qa rfl)
      simp only [Pl.doE, Int.toNat_natCast, Option.some.injEq, Prod.mk.injEq] at hd
      obtain ⟨rfl, rfl⟩ := hd
      exact (c_pdrop W pb L rv p hW 5 b c i hi).mono fun e w' ⟨q1, q2, q3⟩ => ⟨q1, L, rv, q2, q3⟩
    | 6, h1, h9, hg, hb =>
      refine c_pact1 w pb L rv p p' h 6 126 true true h1 h9 a b c er rfl rfl rfl (enters (P := Try.prog) Try.func126 (by kernel_rfl) rfl) (fun qa qb W hW => ?_) hb
      have hd := hg qa qb
      obtain ⟨i, rfl, hi⟩ := nat_of (qa rfl)
      obtain ⟨j, rfl, hj⟩ := nat_of (qb rfl)
      simp only [Pl.doE, Int.toNat_natCast, Option.some.injEq, Prod.mk.injEq] at hd
      obtain ⟨rfl, rfl⟩ := hd
      exact (c_pcopied W pb L rv p hW 6 c i j hi hj).mono fun e w' ⟨q1, q2, q3⟩ => ⟨q1, L, rv, q2, q3⟩
    | 7, h1, h9, hg, hb =>
      refine c_pact1 w pb L rv p p' h 7 127 false false h1 h9 a b c er rfl rfl rfl (enters (P := Try.prog) Try.func127 (by kernel_rfl) rfl) (fun qa qb W hW => ?_) hb
      exact c_pclear W pb L rv p p' hW hlr 7 a b c er (hg qa qb)
    | 8, h1, h9, hg, hb =>
      refine c_pact1 w pb L rv p p' h 8 128 false false h1 h9 a b c er rfl rfl rfl (enters (P := Try.prog) Try.func128 (by kernel_rfl) rfl) (fun qa qb W hW => ?_) hb
      exact c_pflip W pb L rv p p' hW hlr 8 a b c er (hg qa qb)
    | 9, h1, h9, hg, hb =>
      refine c_pact1 w pb L rv p p' h 9 129 false false h1 h9 a b c er rfl rfl rfl (enters (P := Try.prog) Try.func129 (by kernel_rfl) rfl) (fun qa qb W hW => ?_) hb
      exact (c_plook W pb L rv p p' hW 9 a b c er ha (hg qa qb)).mono fun e w' ⟨q1, L', q2, q3⟩ => ⟨q1, L', rv, q2, q3⟩

set_option maxRecDepth 100000 in
theorem c_played (w : World) (roots : Int) (q : Option Addr) (n cap : Nat) :
    Calls Try.prog 78 #[.int .i64 roots, .slice q n cap] w fun e w' => e = .returned (.int .i64 (Pl.playedE roots n)) ∧ w' = w := by
  unfold Pl.playedE
  by_cases h1 : roots > 200
  · rw [if_pos (.inl h1)]
    go_enter Try.func78, Try.ntmps78
    go_wp2
    go_ret
    exact ⟨rfl, rfl⟩
  · by_cases h2 : n > 2000
    · rw [if_pos (.inr h2)]
      have h2' : (2000 : Int) < (n : Int) := by omega
      go_enter Try.func78, Try.ntmps78
      go_wp2
      go_ret
      exact ⟨rfl, rfl⟩
    · rw [if_neg (by omega)]
      have h2' : ¬ (2000 : Int) < (n : Int) := by omega
      clear h2
      by_cases h3 : roots < 0
      · rw [if_pos h3]
        go_enter Try.func78, Try.ntmps78
        go_wp2
        go_ret
        exact ⟨rfl, rfl⟩
      · rw [if_neg h3]
        go_enter Try.func78, Try.ntmps78
        go_wp2
        go_ret
        exact ⟨rfl, rfl⟩

set_option maxRecDepth 100000 in
theorem c_New_limit (w : World) (D : Nat → Prop) (v : Value) (ss : List (List Bool)) (h : ShRep w D v ss) (hl : ss.length ≤ 1048576) (hll : ∀ l ∈ ss, l.length ≤ 9223372036854775807) (Y H : Int) (hsz : Mem.sizedE ss ≠ 0) :
    Calls Try.prog 15 #[v, .int .i64 H, .int .i64 Y] w fun e w' => e = .returned (.tuple #[.pointer none, .int .i64 3]) ∧ w' = w := by
  have hsd := c_sized w D v ss h hl hll
  obtain ⟨p, cap, rfl, -⟩ := h
  have h3 : ((Mem.sizedE ss : Int) != 0) = true := by simpa using hsz
  go_enter Try.func15, Try.ntmps15
  go_wp2_with (fail)
  refine hsd.mono ?_
  rintro e W1 ⟨rfl, hb⟩
  go_wp2
  go_ret2
  exact ⟨rfl, rfl⟩
end Go.Proofs.Ytnedmmopkhmejaa
