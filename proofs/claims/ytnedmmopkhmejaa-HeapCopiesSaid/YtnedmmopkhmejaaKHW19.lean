/- Walks: sized, New. -/
import Derived.Test.YtnedmmopkhmejaaKHW18
set_option linter.unusedVariables false
set_option linter.unusedSimpArgs false
namespace Go.Proofs.Ytnedmmopkhmejaa
open Go.RowKit Go.Proofs.Hp
attribute [local go_sem] Oper.semAt_some

theorem Try.infoBool : (Try.prog.info? 4).map (fun i => (i.zero, i.size, i.bytes)) = some (some (.bool false), 1, 1) := by kernel_rfl
theorem Try.infoBools : (Try.prog.info? 73).map (fun i => (i.zero, i.size, i.bytes)) = some (some (.slice none 0 0), 1, 24) := by kernel_rfl
set_option maxRecDepth 100000 in
theorem c_CloneBools (w : World) (p : Option Addr) (n cap : Nat) (xs : List Value) (hp : p = none → n = 0) (hx : xs.length = n * 1) (hc : ∀ a, p = some a → ∀ j u, xs[j]? = some u → w.cell? (a.add j) = some u) (h1 : ∀ u ∈ xs, u.oneCell' = true) (hl : n ≤ 1048576) :
    Calls Try.prog 46 #[.slice p n cap] w fun e w' => ∃ v', e = .returned v' ∧ w'.ownsRow w.heap.size 4 1 v' n xs ∧ Below w.heap.size w w' := by
  have heq := run_eql_slice_nil (P := Try.prog) w 73 4 p n cap Try.underlying73
  cases p with
  | none =>
    obtain rfl : n = 0 := hp rfl
    obtain rfl : xs = [] := List.eq_nil_of_length_eq_zero (by omega)
    simp only [Option.isNone] at heq
    go_enter Try.func46, Try.ntmps46
    go_wp2
    go_ret
    exact ⟨_, rfl, World.ownsRow_nil _ _ _ _, Below.refl _ _⟩
  | some a =>
    simp only [Option.isNone] at heq
    obtain ⟨i0, hi, hz0, hz1, hz2⟩ := info_parts Try.infoBool
    have hal : ∀ j u, xs[j]? = some u → (w.alloc (.cells #[] 4)).cell? (a.add j) = some u := fun j u hu => by
      have := hc a rfl j u hu
      rw [← this]
      exact World.cell?_of_block (al_old _ _ _ (World.block_lt_of_cell? w _ this))
    obtain ⟨v', W4, hap, o4, g4, _, at4⟩ := run_append_own_at (P := Try.prog) (w.alloc (.cells #[] 4)) w.heap.size 73 73 4 i0 _ 1 _ Try.underlying73 hi hz0 hz1 hz2 rfl (by decide) _ 0 [] (World.ownsRow_made w #[] 0 (Nat.le_refl _) (by simp [maxLen]) (by simp))
      a n cap xs hx hal h1 (by simp only [maxLen]; omega) (by omega) (by simp)
    have hb : Below w.heap.size w W4 := by
      have q : Below w.heap.size w (w.alloc (.cells #[] 4)) := (Below.refl _ w).alloc (Nat.le_refl _) _
      refine ⟨g4.os, g4.tape, g4.output, Nat.le_trans q.size g4.size, fun k hk => (g4.block k (by simp; omega) (fun e => ?_)).trans (q.block k hk)⟩
      simp [Value.ownBlock] at e
      omega
    rw [Nat.zero_add, List.nil_append] at o4
    clear at4 g4 hal hc h1
    go_enter Try.func46, Try.ntmps46
    obtain ⟨vp, vcap, rfl⟩ := ownsRow_slice o4
    go_wp2_with (at_builtin; refine wpList_append_run rfl _ _ 73 rfl _ _ rfl rfl _ _ hap ?_)
    go_ret
    exact ⟨_, rfl, o4, hb⟩
set_option maxRecDepth 100000 in
theorem c_CloneSlots (w : World) (p : Option Addr) (n cap : Nat) (xs : List Value) (hp : p = none → n = 0) (hx : xs.length = n * 2) (hc : ∀ a, p = some a → ∀ j u, xs[j]? = some u → w.cell? (a.add j) = some u) (h1 : ∀ u ∈ xs, u.oneCell' = true) (hl : n ≤ 1048576) :
    Calls Try.prog 77 #[.slice p n cap] w fun e w' => ∃ v', e = .returned v' ∧ w'.ownsRow w.heap.size 131 2 v' n xs ∧ Below w.heap.size w w' := by
  have heq := run_eql_slice_nil (P := Try.prog) w 98 131 p n cap Try.underlying98
  cases p with
  | none =>
    obtain rfl : n = 0 := hp rfl
    obtain rfl : xs = [] := List.eq_nil_of_length_eq_zero (by omega)
    simp only [Option.isNone] at heq
    go_enter Try.func77, Try.ntmps77
    go_wp2
    go_ret
    exact ⟨_, rfl, World.ownsRow_nil _ _ _ _, Below.refl _ _⟩
  | some a =>
    simp only [Option.isNone] at heq
    obtain ⟨i0, hi, hz0, hz1, hz2⟩ := info_parts Try.infoSlot
    have hal : ∀ j u, xs[j]? = some u → (w.alloc (.cells #[] 131)).cell? (a.add j) = some u := fun j u hu => by
      have := hc a rfl j u hu
      rw [← this]
      exact World.cell?_of_block (al_old _ _ _ (World.block_lt_of_cell? w _ this))
    obtain ⟨v', W4, hap, o4, g4, _, at4⟩ := run_append_own_at (P := Try.prog) (w.alloc (.cells #[] 131)) w.heap.size 98 98 131 i0 _ 2 _ Try.underlying98 hi hz0 hz1 hz2 rfl (by decide) _ 0 [] (World.ownsRow_made w #[] 0 (Nat.le_refl _) (by simp [maxLen]) (by simp))
      a n cap xs hx hal h1 (by simp only [maxLen]; omega) (by omega) (by simp)
    have hb : Below w.heap.size w W4 := by
      have q : Below w.heap.size w (w.alloc (.cells #[] 131)) := (Below.refl _ w).alloc (Nat.le_refl _) _
      refine ⟨g4.os, g4.tape, g4.output, Nat.le_trans q.size g4.size, fun k hk => (g4.block k (by simp; omega) (fun e => ?_)).trans (q.block k hk)⟩
      simp [Value.ownBlock] at e
      omega
    rw [Nat.zero_add, List.nil_append] at o4
    clear at4 g4 hal hc h1
    go_enter Try.func77, Try.ntmps77
    obtain ⟨vp, vcap, rfl⟩ := ownsRow_slice o4
    go_wp2_with (at_builtin; refine wpList_append_run rfl _ _ 98 rfl _ _ rfl rfl _ _ hap ?_)
    go_ret
    exact ⟨_, rfl, o4, hb⟩

theorem BoolsAt.of_owns {w : World} {base n : Nat} {v : Value} {xs : List Bool} (h : w.ownsRow base 4 1 v n (xs.map .bool)) : BoolsAt w (fun k => v.ownBlock = some k) v xs := by
  have hl := h.1
  simp at hl
  rcases h.2 with ⟨rfl, h0⟩ | ⟨g, cap, cur, rfl, hb, hg, hn, _, hs, ht⟩
  · have : xs = [] := List.eq_nil_of_length_eq_zero (by omega)
    subst this
    exact ⟨none, 0, rfl, .inl rfl⟩
  · refine ⟨_, cap, by rw [hl], .inr ⟨g, 0, rfl, rfl, fun i hi => ?_⟩⟩
    rw [cell_of hg]
    have e : (cur.toList.take (n * 1))[0 + i]? = some (.bool xs[i]) := by rw [ht]; simp [hi]
    rw [List.getElem?_take_of_lt (by omega)] at e
    simpa using e
theorem BoolsAt.mono {w : World} {D D' : Nat → Prop} {v : Value} {xs : List Bool} (h : BoolsAt w D v xs) (e : ∀ k, D k → D' k) : BoolsAt w D' v xs := by
  obtain ⟨p, cap, hv, h | ⟨b, o, hp, hD, hc⟩⟩ := h
  · exact ⟨p, cap, hv, .inl h⟩
  · exact ⟨p, cap, hv, .inr ⟨b, o, hp, e b hD, hc⟩⟩
theorem BoolsAt.clone {w : World} {D : Nat → Prop} {v : Value} {xs : List Bool} (h : BoolsAt w D v xs) (hl : xs.length ≤ 1048576) :
    Calls Try.prog 46 #[v] w fun e w' => ∃ v', e = .returned v' ∧ w'.ownsRow w.heap.size 4 1 v' xs.length (xs.map .bool) ∧ Below w.heap.size w w' := by
  obtain ⟨p, cap, rfl, hc⟩ := h
  refine c_CloneBools w p xs.length cap (xs.map .bool) (fun e => ?_) (by simp) (fun a e j u hu => ?_) (fun u hu => ?_) hl
  · rcases hc with rfl | ⟨_, _, hp, _⟩
    · rfl
    · rw [e] at hp; cases hp
  · rcases hc with rfl | ⟨b, o, hp, _, hc⟩
    · simp at hu
    · rw [hp] at e
      cases e
      rw [addr_add]
      rw [List.getElem?_map] at hu
      obtain ⟨x, hx, rfl⟩ := Option.map_eq_some_iff.1 hu
      obtain ⟨hj, rfl⟩ := List.getElem?_eq_some_iff.1 hx
      exact hc j hj
  · obtain ⟨x, _, rfl⟩ := List.mem_map.1 hu; rfl

theorem c_sized1 (w : World) (p : Option Addr) (n cap : Nat) (hn : n ≤ 9223372036854775807) : Calls Try.prog 94 #[.slice p n cap] w fun e w' => e = .returned (.bool (decide ((n : Int) > 60))) ∧ w = w' := by
  go_enter Try.func94, Try.ntmps94
  go_wp2
  go_ret
  exact ⟨rfl, rfl⟩

/-- What IndexFunc answers. -/
def IdxQ (b : Bool) (w : World) (e : Ending) (w' : World) : Prop := ∃ n : Int, e = .returned (.int .i64 n) ∧ decide (n ≥ 0) = b ∧ w' = w

set_option maxRecDepth 100000 in
set_option maxHeartbeats 1000000 in
theorem c_IndexFunc (w : World) (D : Nat → Prop) (v : Value) (ss : List (List Bool)) (h : ShRep w D v ss) (hl : ss.length ≤ 1048576) (hll : ∀ l ∈ ss, l.length ≤ 9223372036854775807) :
    Calls Try.prog 117 #[v, .func (.func 94) #[] #[]] w (IdxQ (ss.any fun l => decide (l.length > 60)) w) := by
  obtain ⟨p, cap, rfl, hc⟩ := h
  have hc' := Lib.hid hc
  have hll' := Lib.hid hll
  clear hc hll
  go_enter Try.func117, Try.ntmps117
  go_wp2_with (fail)
  go_loop [8] (fun i => ∃ (k : Nat), i = .int .i64 k ∧ k ≤ ss.length ∧ Hid ((ss.take k).any (fun l => decide (l.length > 60)) = false)) (fun i => ss.length - (intOf i).toNat)
  case atStart => exact ⟨0, rfl, by omega, Lib.hid (by simp)⟩
  case round =>
    obtain ⟨k, rfl, hk, hst⟩ := hrel
    by_cases hlt : k < ss.length
    · obtain ⟨b, o, rfl, hcc⟩ : ∃ b o, p = some ⟨b, o, none⟩ ∧ ∃ u, w.cell? ⟨b, o + k, none⟩ = some u ∧ BoolsAt w D u ss[k] := by
        rcases hc'.out with e | ⟨b, o, hp, _, hcc⟩
        · rw [e] at hlt; simp at hlt
        · exact ⟨b, o, hp, hcc k hlt⟩
      obtain ⟨u, hu, hb⟩ := hcc
      obtain ⟨p', cap', rfl, -⟩ := hb
      have hlen : ss[k].length ≤ 9223372036854775807 := hll'.out _ (List.getElem_mem hlt)
      have hnext : (ss.take (k + 1)).any (fun l => decide (l.length > 60)) = decide (ss[k].length > 60) := by
        rw [List.take_succ_eq_append_getElem hlt, List.any_append, hst.out]; simp
      have hall : decide (ss[k].length > 60) = true → (ss.any fun l => decide (l.length > 60)) = true := fun e => List.any_eq_true.2 ⟨_, List.getElem_mem hlt, e⟩
      have hs1 := c_sized1 w p' ss[k].length cap' hlen
      have hbe : decide (((ss[k].length : Nat) : Int) > 60) = decide (ss[k].length > 60) := by
        rw [Bool.eq_iff_iff]; simp only [decide_eq_true_eq]; omega
      rw [hbe] at hs1
      clear hbe hlen
      have hnextH := Lib.hid hnext
      have hallH := Lib.hid hall
      clear hnext hall
      generalize ss[k].length = sl at *
      obtain ⟨bb, hbb⟩ : ∃ bb, bb = decide (sl > 60) := ⟨_, rfl⟩
      rw [← hbb] at hs1 hnextH hallH
      clear hbb
      cases bb with
      | true =>
        go_wp2_with (fail)
        refine hs1.mono ?_
        rintro e w1 ⟨rfl, rfl⟩
        go_wp2
        go_ret
        exact ⟨(k : Int), rfl, by have e := hallH.out trivial; rw [e]; simp, rfl⟩
      | false =>
        go_wp2_with (fail)
        refine hs1.mono ?_
        rintro e w1 ⟨rfl, rfl⟩
        go_wp2
        go_round
        case rel => exact ⟨k + 1, by go_num, by omega, hnextH⟩
        case measure => simp [intOf]; omega
    · obtain rfl : k = ss.length := by omega
      rw [List.take_length] at hst
      go_wp2
      go_ret
      exact ⟨-1, rfl, by rw [hst.out]; rfl, rfl⟩

set_option maxRecDepth 100000 in
theorem c_ContainsFunc (w : World) (D : Nat → Prop) (v : Value) (ss : List (List Bool)) (h : ShRep w D v ss) (hl : ss.length ≤ 1048576) (hll : ∀ l ∈ ss, l.length ≤ 9223372036854775807) :
    Calls Try.prog 93 #[v, .func (.func 94) #[] #[]] w fun e w' => e = .returned (.bool (ss.any fun l => decide (l.length > 60))) ∧ w' = w := by
  have hci := c_IndexFunc w D v ss h hl hll
  generalize (ss.any fun l => decide (l.length > 60)) = bb at hci ⊢
  obtain ⟨p, cap, rfl, _⟩ := h
  go_enter Try.func93, Try.ntmps93
  go_wp2_with (fail)
  refine hci.mono ?_
  rintro e w1 ⟨n, rfl, hn, rfl⟩
  clear hci
  go_wp2
  go_ret
  exact ⟨rfl, rfl⟩

set_option maxRecDepth 100000 in
theorem c_sized (w : World) (D : Nat → Prop) (v : Value) (ss : List (List Bool)) (h : ShRep w D v ss) (hl : ss.length ≤ 1048576) (hll : ∀ l ∈ ss, l.length ≤ 9223372036854775807) :
    Calls Try.prog 44 #[v] w fun e w' => e = .returned (.int .i64 (Mem.sizedE ss)) ∧ w' = w := by
  have hcf := c_ContainsFunc w D v ss h hl hll
  unfold Mem.sizedE
  generalize (ss.any fun l => decide (l.length > 60)) = bb at hcf ⊢
  obtain ⟨p, cap, rfl, _⟩ := h
  by_cases hlen : ss.length > 60
  · rw [if_pos hlen]
    have hd : decide ((ss.length : Int) > 60) = true := by simp; omega
    clear hcf
    have hlt : (60 : Int) < (ss.length : Int) := by omega
    go_enter Try.func44, Try.ntmps44
    go_wp2
    go_ret
    exact ⟨rfl, rfl⟩
  · rw [if_neg hlen]
    have hlt : ¬ (60 : Int) < (ss.length : Int) := by omega
    clear hlen
    cases bb with
    | true =>
      go_enter Try.func44, Try.ntmps44
      go_wp2_with (fail)
      refine hcf.mono ?_
      rintro e w1 ⟨rfl, rfl⟩
      go_wp2
      go_ret
      exact ⟨rfl, rfl⟩
    | false =>
      go_enter Try.func44, Try.ntmps44
      go_wp2_with (fail)
      refine hcf.mono ?_
      rintro e w1 ⟨rfl, rfl⟩
      go_wp2
      go_ret
      exact ⟨rfl, rfl⟩
end Go.Proofs.Ytnedmmopkhmejaa
