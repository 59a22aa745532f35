/- slices.Contains at error numbers; rows of acts. -/
import Derived.Test.YtnedmmopkhmejaaKHE1
import Derived.Test.YtnedmmopkhmejaaKHQ6
import Derived.Deep.AppendLies
set_option linter.unusedVariables false
set_option linter.unusedSimpArgs false
namespace Go.Proofs.Ytnedmmopkhmejaa
open Go.RowKit Go.Proofs.Hp
attribute [local go_sem] Oper.semAt_some

theorem owns_intsT {W : World} {base : Nat} {T : TypeId} {v : Value} {xs : List Int} (h : W.ownsRow base T 1 v xs.length (xs.map (.int .i64))) : IntsAt W (fun k => base ≤ k ∧ k < W.heap.size) v xs := by
  obtain ⟨p, cap, hv⟩ := ownsRow_slice h
  refine ⟨p, cap, hv, ?_⟩
  by_cases hx : xs = []
  · exact .inl hx
  · right
    rcases h.2 with ⟨rfl, h0⟩ | ⟨g, cap', cur, rfl, hb, hg, hn, _, hs, ht⟩
    · exact absurd (List.eq_nil_of_length_eq_zero h0) hx
    · simp only [Value.slice.injEq] at hv
      refine ⟨g, 0, hv.1.symm, ⟨hb, lt_of_block hg⟩, fun i hi => ?_⟩
      rw [Nat.zero_add, cell_of hg]
      have e : (xs.map (Value.int .i64))[i]? = some (.int .i64 xs[i]) := by rw [List.getElem?_map, List.getElem?_eq_getElem hi]; rfl
      rw [← ht, List.getElem?_take] at e
      split at e
      · simpa using e
      · cases e

/-- What Index of numbers answers, behind draws: whether it is there. -/
def IdxN (b : Bool) (w : World) (e : Ending) (w' : World) : Prop := ∃ n : Int, e = .returned (.int .i64 n) ∧ decide (0 ≤ n) = b ∧ ∃ q, w' = w.drewN q

set_option maxRecDepth 100000 in
set_option maxHeartbeats 1000000 in
theorem c_IndexErr (w : World) (D : Nat → Prop) (v : Value) (l : List Int) (h : IntsAt w D v l) (hl : l.length ≤ 1048576) (a : Int) :
    Calls Try.prog 87 #[v, .int .i64 a] w (IdxN (l.contains a) w) := by
  obtain ⟨p, cap, rfl, hcx⟩ := h
  have hcxH := Lib.hid hcx
  clear hcx
  go_enter Try.func87, Try.ntmps87
  go_wp2_with (fail)
  go_loopw [8] (fun i wr => ∃ (k : Nat), i = .int .i64 k ∧ k ≤ l.length ∧ (∃ q, wr = w.drewN q) ∧ Hid ((l.take k).contains a = false)) (fun i _ => l.length - (intOf i).toNat)
  case atStart => exact ⟨0, rfl, by omega, ⟨0, rfl⟩, Lib.hid (by simp)⟩
  case round =>
    obtain ⟨k, rfl, hk, ⟨q, rfl⟩, hst⟩ := hrel
    by_cases hlt : k < l.length
    · obtain ⟨b, o, rfl, hu⟩ : ∃ b o, p = some ⟨b, o, none⟩ ∧ w.cell? ⟨b, o + k, none⟩ = some (.int .i64 l[k]) := by
        rcases hcxH.out with e | ⟨b, o, hp, _, hcc⟩
        · rw [e] at hlt; simp at hlt
        · exact ⟨b, o, hp, hcc k hlt⟩
      obtain ⟨x, hx⟩ : ∃ x, x = l[k] := ⟨_, rfl⟩
      rw [← hx] at hu
      have hxH := Lib.hid hx
      clear hx
      by_cases e1 : a = x
      · subst e1
        have hres : Hid (l.contains a = true) := Lib.hid (contains_of_getElem l _ k hlt hxH.out.symm)
        go_wp2
        go_ret
        exact ⟨(k : Int), rfl, by rw [hres.out]; simp, q, rfl⟩
      · have hnext : Hid ((l.take (k + 1)).contains a = false) := Lib.hid (contains_take_succ l _ k hlt hst.out (by
          rw [← hxH.out, beq_eq_false_iff_ne]
          exact fun e => e1 e.symm))
        have hB : (a == x) = false := by rw [beq_eq_false_iff_ne]; exact e1
        clear e1
        go_wp2
        go_roundw
        case rel => exact ⟨k + 1, by go_num, by omega, ⟨q, rfl⟩, hnext⟩
        case measure => simp [intOf]; omega
    · obtain rfl : k = l.length := by omega
      have hstH := Lib.hid hst.out
      clear hst
      go_wp2
      go_ret
      exact ⟨-1, rfl, by have := hstH.out; rw [List.take_length] at this; rw [this]; rfl, q, rfl⟩

def ConN (b : Bool) (w : World) (e : Ending) (w' : World) : Prop := e = .returned (.bool b) ∧ ∃ q, w' = w.drewN q
set_option maxRecDepth 100000 in
theorem c_ContainsErr (w : World) (D : Nat → Prop) (v : Value) (l : List Int) (h : IntsAt w D v l) (hl : l.length ≤ 1048576) (a : Int) :
    Calls Try.prog 35 #[v, .int .i64 a] w (ConN (l.contains a) w) := by
  have hci := c_IndexErr _ D v l h hl a
  generalize l.contains a = bb at hci ⊢
  obtain ⟨p, cap, rfl, _⟩ := h
  go_enter Try.func35, Try.ntmps35
  go_wp2_with (fail)
  refine hci.mono ?_
  rintro e w1 ⟨n, rfl, hn, q, rfl⟩
  clear hci
  have hn' : decide (n ≥ 0) = bb := hn
  clear hn
  go_wp2
  go_ret
  exact ⟨rfl, q, rfl⟩

/-! Rows of acts. -/
theorem Try.infoAct : (Try.prog.info? 78).map (fun i => (i.zero, i.size, i.bytes)) = some (some (.agg #[.int .i64 0, .int .i64 0, .int .i64 0, .int .i64 0]), 4, 32) := by kernel_rfl
abbrev Act4 := Int × Int × Int × Int
def actCells (x : Act4) : List Value := [.int .i64 x.1, .int .i64 x.2.1, .int .i64 x.2.2.1, .int .i64 x.2.2.2]
def flatActs (xs : List Act4) : List Value := xs.flatMap actCells
theorem flatActs_len : ∀ xs : List Act4, (flatActs xs).length = xs.length * 4
  | [] => rfl
  | x :: xs => by
    show (actCells x ++ flatActs xs).length = _
    rw [List.length_append, flatActs_len xs]; simp [actCells]; omega
theorem flatActs_app (xs ys : List Act4) : flatActs (xs ++ ys) = flatActs xs ++ flatActs ys := List.flatMap_append
theorem flatActs_at : ∀ (xs : List Act4) (i : Nat) (x : Act4), xs[i]? = some x → (flatActs xs)[i * 4]? = some (.int .i64 x.1) ∧ (flatActs xs)[i * 4 + 1]? = some (.int .i64 x.2.1) ∧ (flatActs xs)[i * 4 + 2]? = some (.int .i64 x.2.2.1) ∧ (flatActs xs)[i * 4 + 3]? = some (.int .i64 x.2.2.2)
  | [], _, _, h => by cases h
  | y :: ys, 0, x, h => by
    simp only [List.getElem?_cons_zero, Option.some.injEq] at h
    subst h
    exact ⟨rfl, rfl, rfl, rfl⟩
  | y :: ys, i + 1, x, h => by
    rw [List.getElem?_cons_succ] at h
    have := flatActs_at ys i x h
    have e : flatActs (y :: ys) = actCells y ++ flatActs ys := rfl
    have hl : (actCells y).length = 4 := rfl
    rw [e]
    refine ⟨?_, ?_, ?_, ?_⟩ <;> rw [List.getElem?_append_right (by rw [hl]; omega), hl]
    · rw [show (i + 1) * 4 - 4 = i * 4 by omega]; exact this.1
    · rw [show (i + 1) * 4 + 1 - 4 = i * 4 + 1 by omega]; exact this.2.1
    · rw [show (i + 1) * 4 + 2 - 4 = i * 4 + 2 by omega]; exact this.2.2.1
    · rw [show (i + 1) * 4 + 3 - 4 = i * 4 + 3 by omega]; exact this.2.2.2

theorem owns_acts {W : World} {base : Nat} {v : Value} {xs : List Act4} (h : W.ownsRow base 78 4 v xs.length (flatActs xs)) : ActsAt W (fun k => base ≤ k ∧ k < W.heap.size) v xs := by
  obtain ⟨p, cap, hv⟩ := ownsRow_slice h
  refine ⟨p, cap, hv, ?_⟩
  by_cases hx : xs = []
  · exact .inl hx
  · right
    rcases h.2 with ⟨rfl, h0⟩ | ⟨g, cap', cur, rfl, hb, hg, hn, _, hs, ht⟩
    · exact absurd (List.eq_nil_of_length_eq_zero h0) hx
    · simp only [Value.slice.injEq] at hv
      refine ⟨g, 0, hv.1.symm, ⟨hb, lt_of_block hg⟩, fun i x hi => ?_⟩
      have := flatActs_at xs i x hi
      rw [← ht] at this
      simp only [List.getElem?_take] at this
      obtain ⟨q0, q1, q2, q3⟩ := this
      refine ⟨?_, ?_, ?_, ?_⟩ <;> rw [Nat.zero_add, cell_of hg]
      · split at q0
        · simpa using q0
        · cases q0
      · split at q1
        · simpa using q1
        · cases q1
      · split at q2
        · simpa using q2
        · cases q2
      · split at q3
        · simpa using q3
        · cases q3
theorem ActsAt.fr {S : Nat → Prop} {w w' : World} {D : Nat → Prop} {v : Value} {xs : List Act4} (h : ActsAt w D v xs) (hf : Fr S w w') (hD : ∀ k, D k → ¬ S k) : ActsAt w' D v xs := by
  obtain ⟨p, cap, hv, hq | ⟨b, o, hp, hb, hc⟩⟩ := h
  · exact ⟨p, cap, hv, .inl hq⟩
  · refine ⟨p, cap, hv, .inr ⟨b, o, hp, hb, fun i x hi => ?_⟩⟩
    obtain ⟨q0, q1, q2, q3⟩ := hc i x hi
    exact ⟨hf.cell q0 (hD b hb), hf.cell q1 (hD b hb), hf.cell q2 (hD b hb), hf.cell q3 (hD b hb)⟩
theorem ActsAt.below {w w' : World} {D : Nat → Prop} {v : Value} {xs : List Act4} (h : ActsAt w D v xs) (hb : Below w.heap.size w w') : ActsAt w' D v xs := h.fr (Fr.of_below (S := fun _ => False) hb) fun _ _ => id

/-- Two rows of acts that grow apart. -/
structure AR (B : Nat) (w : World) (v1 v2 : Value) (x1 x2 : List Act4) : Prop where
  o1 : w.ownsRow B 78 4 v1 x1.length (flatActs x1)
  o2 : w.ownsRow B 78 4 v2 x2.length (flatActs x2)
  ne : ∀ k, v1.ownBlock = some k → v2.ownBlock ≠ some k
theorem AR.nil (B : Nat) (w : World) : AR B w (.slice none 0 0) (.slice none 0 0) [] [] := ⟨⟨rfl, .inl ⟨rfl, rfl⟩⟩, ⟨rfl, .inl ⟨rfl, rfl⟩⟩, fun k q => by cases q⟩
theorem AR.fr {S : Nat → Prop} {B : Nat} {w w' : World} {v1 v2 : Value} {x1 x2 : List Act4} (h : AR B w v1 v2 x1 x2) (hf : Fr S w w') (hS : ∀ k, S k → w.heap.size ≤ k) : AR B w' v1 v2 x1 x2 :=
  ⟨own_fr h.o1 hf fun k q z => by have := (h.o1.lt k q).2; have := hS k z; omega, own_fr h.o2 hf fun k q z => by have := (h.o2.lt k q).2; have := hS k z; omega, h.ne⟩
/-- The first row has grown. -/
theorem AR.app1 {B : Nat} {w w' : World} {o : Obj} {v1 v2 v' : Value} {x1 x2 : List Act4} {g : Nat} (h : AR B w v1 v2 x1 x2) (x : Act4) (hv : v'.ownBlock = some g) (ho : w'.ownsRow B 78 4 v' (x1.length + 1) (flatActs x1 ++ actCells x)) (hg : (w.alloc o).grownBy w' v1.ownBlock) (hat : v1.ownBlock = some g ∨ w.heap.size ≤ g) :
    AR B w' v' v2 (x1 ++ [x]) x2 ∧ Fr (fun k => B ≤ k) w w' := by
  have hf := fr_grown hg
  refine ⟨⟨?_, own_fr h.o2 hf fun k q z => h.ne k z q, fun k q z => ?_⟩, hf.mono fun k _ q => (h.o1.lt k q).1⟩
  · rw [List.length_append, flatActs_app]
    rw [show flatActs [x] = actCells x from List.append_nil _]; exact ho
  · rw [hv] at q
    simp only [Option.some.injEq] at q
    subst q
    rcases hat with e | e
    · exact h.ne _ e z
    · have := (h.o2.lt _ z).2; omega
/-- The second row has grown. -/
theorem AR.app2 {B : Nat} {w w' : World} {o : Obj} {v1 v2 v' : Value} {x1 x2 : List Act4} {g : Nat} (h : AR B w v1 v2 x1 x2) (x y : Act4) (hv : v'.ownBlock = some g) (ho : w'.ownsRow B 78 4 v' (x2.length + 2) (flatActs x2 ++ (actCells x ++ actCells y))) (hg : (w.alloc o).grownBy w' v2.ownBlock) (hat : v2.ownBlock = some g ∨ w.heap.size ≤ g) :
    AR B w' v1 v' x1 (x2 ++ [x, y]) ∧ Fr (fun k => B ≤ k) w w' := by
  have hf := fr_grown hg
  refine ⟨⟨own_fr h.o1 hf fun k q z => h.ne k q z, ?_, fun k q z => ?_⟩, hf.mono fun k _ q => (h.o2.lt k q).1⟩
  · rw [List.length_append, flatActs_app]
    rw [show flatActs [x, y] = actCells x ++ actCells y by simp [flatActs]]; exact ho
  · rw [hv] at z
    simp only [Option.some.injEq] at z
    subst z
    rcases hat with e | e
    · exact h.ne _ q e
    · have := (h.o1.lt _ q).2; omega
end Go.Proofs.Ytnedmmopkhmejaa

/- HeapSameByAnySteps: the three plays, and what the loop over them keeps. -/
namespace Go.Proofs.Hp
namespace Pl
/-- The three lists of acts: as given, without those that move, with a step after each. -/
def anyActs (xs : List (Int × Int × Int × Int)) : Nat → List (Int × Int × Int × Int)
  | 0 => xs
  | 1 => xs.filter fun x => still x.1
  | _ => xs.flatMap fun x => [x, (9, 1, 0, 0)]
theorem slow_len : ∀ xs : List (Int × Int × Int × Int), (xs.flatMap fun x => [x, ((9 : Int), (1 : Int), (0 : Int), (0 : Int))]).length = 2 * xs.length
  | [] => rfl
  | x :: xs => by rw [List.flatMap_cons, List.length_append, slow_len xs]; simp; omega
theorem anyActs_len {xs : List (Int × Int × Int × Int)} (h : xs.length ≤ 300) : ∀ k, (anyActs xs k).length ≤ 600
  | 0 => by show xs.length ≤ _; omega
  | 1 => Nat.le_trans (List.length_filter_le _ _) (by omega)
  | _ + 2 => by show (xs.flatMap fun x => [x, ((9 : Int), (1 : Int), (0 : Int), (0 : Int))]).length ≤ _; rw [slow_len]; omega
theorem anyActs_wf {xs : List (Int × Int × Int × Int)} (h : ∀ x ∈ xs, x.2.1 ≤ 9223372036854775807) : ∀ k, ∀ x ∈ anyActs xs k, x.2.1 ≤ 9223372036854775807
  | 0 => h
  | 1 => fun x q => h x (List.mem_filter.1 q).1
  | _ + 2 => fun x q => by
    obtain ⟨y, hy, hx⟩ := List.mem_flatMap.1 q
    simp only [List.mem_cons, List.not_mem_nil, or_false] at hx
    rcases hx with rfl | rfl
    · exact h _ hy
    · decide
theorem any_run {p : Pl} {Y H : Nat} (hp : PInv p Y H) (hr : p.roots.length ≤ 200) (ys : List (Int × Int × Int × Int)) : ∃ p' es pc, p.runE ys = some (p', es) ∧ es.length = ys.length ∧ PInv p' Y H ∧ p'.roots.length = p.roots.length ∧ p'.mem.picE p'.roots = some (pc, 0) := by
  obtain ⟨p', es, h1, h2, h3⟩ := run_of ys hp
  obtain ⟨pc, h4, _⟩ := (Like.refl h2.inv (by rw [h2.len]; exact hr)).pic
  exact ⟨p', es, pc, h1, h3, h2.inv, h2.len, h4⟩
theorem any_same {p : Pl} {Y H : Nat} (hp : PInv p Y H) (hr : p.roots.length ≤ 200) {xs : List (Int × Int × Int × Int)} {p0 pk : Pl} {es0 esk : List Int} {pc0 pck : Pic} (h0 : p.runE xs = some (p0, es0)) (c0 : p0.mem.picE p0.roots = some (pc0, 0)) (n0 : es0.contains 14 = false) :
    ∀ k, p.runE (anyActs xs k) = some (pk, esk) → pk.mem.picE pk.roots = some (pck, 0) → esk.contains 14 = false → pck = pc0
  | 0, hk, ck, _ => by
    have : p.runE xs = some (pk, esk) := hk
    rw [h0] at this
    cases this
    rw [c0] at ck; cases ck; rfl
  | 1, hk, ck, nk => by
    obtain ⟨pc, g1, g2⟩ := (run_plain xs (Like.refl hp hr) h0 hk (by simpa using n0) (by simpa using nk)).pic
    rw [c0] at g1; rw [ck] at g2
    cases g1; cases g2; rfl
  | _ + 2, hk, ck, nk => by
    obtain ⟨pc, g1, g2⟩ := (run_slow xs (Like.refl hp hr) h0 hk (by simpa using n0) (by simpa using nk)).pic
    rw [c0] at g1; rw [ck] at g2
    cases g1; cases g2; rfl
theorem any_take1 {xs : List (Int × Int × Int × Int)} {k : Nat} {x : Int × Int × Int × Int} (h : xs[k]? = some x) : anyActs (xs.take (k + 1)) 1 = if still x.1 then anyActs (xs.take k) 1 ++ [x] else anyActs (xs.take k) 1 := by
  unfold anyActs
  rw [List.take_add_one, h, Option.toList_some, List.filter_append]
  cases hs : still x.1 <;> simp [hs]
theorem any_take2 {xs : List (Int × Int × Int × Int)} {k : Nat} {x : Int × Int × Int × Int} (h : xs[k]? = some x) : anyActs (xs.take (k + 1)) 2 = anyActs (xs.take k) 2 ++ [x, (9, 1, 0, 0)] := by
  unfold anyActs
  rw [List.take_add_one, h, Option.toList_some, List.flatMap_append]
  simp
theorem any_len1 (xs : List (Int × Int × Int × Int)) (k : Nat) : (anyActs (xs.take k) 1).length ≤ xs.length := Nat.le_trans (List.length_filter_le _ _) (by rw [List.length_take]; omega)
theorem any_len2 (xs : List (Int × Int × Int × Int)) (k : Nat) : (anyActs (xs.take k) 2).length ≤ 2 * xs.length := by
  show ((xs.take k).flatMap fun x => [x, ((9 : Int), (1 : Int), (0 : Int), (0 : Int))]).length ≤ _
  rw [slow_len, List.length_take]; omega
end Pl
end Go.Proofs.Hp
namespace Go.Proofs.Ytnedmmopkhmejaa
open Go.RowKit Go.Proofs.Hp

theorem PicAt.fr {S : Nat → Prop} {w w' : World} {D : Nat → Prop} {v1 v2 v3 : Value} {p : Pic} (h : PicAt w D v1 v2 v3 p) (hf : Fr S w w') (hD : ∀ k, D k → ¬ S k) : PicAt w' D v1 v2 v3 p :=
  have ints : ∀ {v : Value} {xs : List Int}, IntsAt w D v xs → IntsAt w' D v xs := fun ⟨q, cap, hv, q3⟩ => ⟨q, cap, hv, q3.imp id fun ⟨b, o, r1, r2, r3⟩ => ⟨b, o, r1, r2, fun j hj => hf.cell (r3 j hj) (hD b r2)⟩⟩
  ⟨ints h.1, h.2.1.of_blocks fun k hk hl => hf.block k hl (hD k hk), ints h.2.2.1, h.2.2.2⟩

/-- What the loop over the three plays keeps: the first one's picture in its block. -/
structure AnyS (W0 wr : World) (B : Nat) (pc : Pic) (no : Prop) (k : Nat) (f1 f2 f3 : Value) : Prop where
  fr : Fr (fun j => j = B) W0 wr
  blk : wr.heap[B]? = some (.cells #[f1, f2, f3] 42 (0, 0))
  pic : k ≠ 0 → PicAt wr (fun j => j ≠ B) f1 f2 f3 pc ∧ no
theorem AnyS.below {W0 W W' : World} {B : Nat} {pc : Pic} {no : Prop} {k : Nat} {f1 f2 f3 : Value} (h : AnyS W0 W B pc no k f1 f2 f3) (hb : Below W.heap.size W W') : AnyS W0 W' B pc no k f1 f2 f3 :=
  have f : Fr (fun _ => False) W W' := Fr.of_below hb
  ⟨h.fr.trans (f.mono fun _ _ q => q.elim), f.blk h.blk id, fun q => ⟨(h.pic q).1.fr f fun _ _ => id, (h.pic q).2⟩⟩
theorem AnyS.next {W0 W : World} {B : Nat} {pc : Pic} {no : Prop} {k : Nat} {f1 f2 f3 : Value} (h : AnyS W0 W B pc no k f1 f2 f3) (hk : k ≠ 0) (k' : Nat) : AnyS W0 W B pc no k' f1 f2 f3 := ⟨h.fr, h.blk, fun _ => h.pic hk⟩
/-- The first picture is kept. -/
theorem AnyS.store {W0 W : World} {B : Nat} {pc : Pic} {no : Prop} {k : Nat} {f1 f2 f3 v1 v2 v3 : Value} (h : AnyS W0 W B pc no k f1 f2 f3) (hp : PicAt W (fun j => j ≠ B) v1 v2 v3 pc) (hn : no) (k' : Nat) :
    AnyS W0 (((W.setCell ⟨B, 0, none⟩ v1).setCell ⟨B, 1, none⟩ v2).setCell ⟨B, 2, none⟩ v3) B pc no k' v1 v2 v3 ∧ Fr (fun j => j = B) W (((W.setCell ⟨B, 0, none⟩ v1).setCell ⟨B, 1, none⟩ v2).setCell ⟨B, 2, none⟩ v3) := by
  have h1 := heap_setCell_same (w := W) (b := B) (i := 0) v1 h.blk
  have h2 := heap_setCell_same (i := 1) v2 h1
  have h3 := heap_setCell_same (i := 2) v3 h2
  have f1 : Fr (fun j => j = B) W (((W.setCell ⟨B, 0, none⟩ v1).setCell ⟨B, 1, none⟩ v2).setCell ⟨B, 2, none⟩ v3) := Fr.three
  exact ⟨⟨h.fr.trans f1, h3, fun _ => ⟨hp.fr f1 fun _ q => q, hn⟩⟩, f1⟩
/-- The three slices of acts, in the array that the loop ranges over. -/
theorem any_start {B : Nat} {W : World} {E : Nat → Prop} {q0 q1 q2 : Option Addr} {c0 c1 c2 : Nat} {xs x1 x2 : List Act4} (ha : ActsAt W E (.slice q0 xs.length c0) xs) (hE : ∀ k, E k → k < W.heap.size) (hA : AR B W (.slice q1 x1.length c1) (.slice q2 x2.length c2) x1 x2) (h1 : x1 = Pl.anyActs xs 1) (h2 : x2 = Pl.anyActs xs 2) (o : Obj) :
    ∀ k, k < 3 → ∃ q c, ((W.alloc o).alloc (.cells #[.slice q0 xs.length c0, .slice q1 x1.length c1, .slice q2 x2.length c2] 62)).cell? ⟨W.heap.size + 1, k, none⟩ = some (.slice q (Pl.anyActs xs k).length c) ∧
      ActsAt ((W.alloc o).alloc (.cells #[.slice q0 xs.length c0, .slice q1 x1.length c1, .slice q2 x2.length c2] 62)) (fun j => j < W.heap.size) (.slice q (Pl.anyActs xs k).length c) (Pl.anyActs xs k) := by
  have hb := al_at (W.alloc o) (.cells #[.slice q0 xs.length c0, .slice q1 x1.length c1, .slice q2 x2.length c2] 62) (W.heap.size + 1) (by simp only [al_size])
  have hf : Fr (fun _ => False) W ((W.alloc o).alloc (.cells #[.slice q0 xs.length c0, .slice q1 x1.length c1, .slice q2 x2.length c2] 62)) := ((Fr.refl _ W).alloc _).alloc _
  have mono : ∀ {w : World} {D D' : Nat → Prop} {v : Value} {ys : List Act4}, ActsAt w D v ys → (∀ k, D k → D' k) → ActsAt w D' v ys := fun ⟨p, cap, hv, q⟩ g => ⟨p, cap, hv, q.imp id fun ⟨b, o, r1, r2, r3⟩ => ⟨b, o, r1, g b r2, r3⟩⟩
  intro k hk
  obtain rfl | rfl | rfl : k = 0 ∨ k = 1 ∨ k = 2 := by omega
  · exact ⟨q0, c0, by rw [cell_of hb]; rfl, (mono ha hE).fr hf fun _ _ => id⟩
  · refine ⟨q1, c1, by rw [cell_of hb, ← h1]; rfl, ?_⟩
    rw [← h1]
    exact (mono (owns_acts hA.o1) fun k q => q.2).fr hf fun _ _ => id
  · refine ⟨q2, c2, by rw [cell_of hb, ← h2]; rfl, ?_⟩
    rw [← h2]
    exact (mono (owns_acts hA.o2) fun k q => q.2).fr hf fun _ _ => id
/-- The shapes behind the loop's stores. -/
theorem any_shapes {W0 W : World} {B n : Nat} {D : Nat → Prop} {v : Value} {ss : List (List Bool)} (h : ShRep W0 D v ss) (hn : n ≤ B) (hB : B < W0.heap.size) (f : Fr (fun j => j = B) W0 W) (hD : ∀ k, D k → k < n) : ShRep W D v ss ∧ ∀ k, D k → k < W.heap.size :=
  ⟨h.of_blocks fun k q => f.block k (by have := hD k q; omega) (by have := hD k q; show ¬ k = B; omega), fun k q => by have := hD k q; have := f.size; omega⟩
theorem any_con {W0 W2 : World} {B k : Nat} {pc pck : Pic} {no : Prop} {f1 f2 f3 v1 v2 v3 ev : Value} {esk : List Int} (hP : PicAt W2 (fun j => j ≠ B) v1 v2 v3 pck) (hev : IntsAt W2 (fun _ => True) ev esk) (hl : esk.length ≤ 600) (hA : AnyS W0 W2 B pc no k f1 f2 f3) :
    Calls Try.prog 35 #[ev, .int .i64 14] (W2.alloc (.cells #[v1, v2, v3] 42)) fun e w' => e = .returned (.bool (esk.contains 14)) ∧ AnyS W0 w' B pc no k f1 f2 f3 ∧ PicAt w' (fun j => j ≠ B) v1 v2 v3 pck ∧ w'.heap[W2.heap.size]? = some (.cells #[v1, v2, v3] 42 (0, 0)) := by
  have hb : Below W2.heap.size W2 (W2.alloc (.cells #[v1, v2, v3] 42)) := (Below.refl _ _).alloc (Nat.le_refl _) _
  refine (c_ContainsErr _ _ ev esk (hev.bl hb) (by omega) 14).mono ?_
  rintro e w' ⟨rfl, q, rfl⟩
  have hd : Below W2.heap.size W2 ((W2.alloc (.cells #[v1, v2, v3] 42)).drewN q) := Fr.below (((Fr.refl _ W2).alloc _).drewN q)
  exact ⟨rfl, hA.below hd, hP.bl hd, al_same W2 _⟩
theorem any_below {w W0 W W' : World} {B k : Nat} {pc : Pic} {no : Prop} {f1 f2 f3 : Value} (hw : Below w.heap.size w W0) (hB : w.heap.size ≤ B) (hA : AnyS W0 W B pc no k f1 f2 f3) (hb : Below W.heap.size W W') : Below w.heap.size w W' :=
  (Fr.to_below hw hw.size hA.fr fun j q => by have : j = B := q; omega).trans (hb.mono (Fr.to_below hw hw.size hA.fr fun j q => by have : j = B := q; omega).size)
theorem any_cells {W : World} {G : Nat} {v1 v2 v3 : Value} (h : W.heap[G]? = some (.cells #[v1, v2, v3] 42 (0, 0))) : W.cell? ⟨G, 0, none⟩ = some v1 ∧ W.cell? ⟨G, 1, none⟩ = some v2 ∧ W.cell? ⟨G, 2, none⟩ = some v3 := ⟨by rw [cell_of h]; rfl, by rw [cell_of h]; rfl, by rw [cell_of h]; rfl⟩
/-- Behind the store of the first picture. -/
theorem any_store {W0 W : World} {B k G : Nat} {pc pck : Pic} {no : Prop} {f1 f2 f3 v1 v2 v3 : Value} (hA : AnyS W0 W B pc no k f1 f2 f3) (hp : PicAt W (fun j => j ≠ B) v1 v2 v3 pck) (he : pck = pc) (hn : no) (hG : W.heap[G]? = some (.cells #[v1, v2, v3] 42 (0, 0))) (hGB : G ≠ B) :
    ∃ W5, ((W.setCell ⟨B, 0, none⟩ v1).setCell ⟨B, 1, none⟩ v2).setCell ⟨B, 2, none⟩ v3 = W5 ∧ (W5.cell? ⟨G, 0, none⟩ = some v1 ∧ W5.cell? ⟨G, 1, none⟩ = some v2 ∧ W5.cell? ⟨G, 2, none⟩ = some v3) ∧ (W5.cell? ⟨B, 0, none⟩ = some v1 ∧ W5.cell? ⟨B, 1, none⟩ = some v2 ∧ W5.cell? ⟨B, 2, none⟩ = some v3) ∧
      Calls Try.prog 22 #[.agg #[v1, v2, v3], .agg #[v1, v2, v3]] W5 fun e w' => e = .returned (.bool true) ∧ AnyS W0 w' B pc no (k + 1) v1 v2 v3 := by
  subst he
  obtain ⟨h5, f5⟩ := hA.store hp hn (k + 1)
  have hq := (h5.pic (by omega)).1
  exact ⟨_, rfl, any_cells (f5.blk hG hGB), any_cells h5.blk, (c_SamePictures _ _ _ v1 v2 v3 v1 v2 v3 pck pck hq hq).mono fun e w' q => ⟨by rw [q.1, Pic.same_refl], h5.below q.2⟩⟩
theorem any_again {W0 W : World} {B k : Nat} {pc pck : Pic} {no : Prop} {f1 f2 f3 v1 v2 v3 : Value} (hA : AnyS W0 W B pc no k f1 f2 f3) (hp : PicAt W (fun j => j ≠ B) v1 v2 v3 pck) (he : pck = pc) (hk : k ≠ 0) :
    Calls Try.prog 22 #[.agg #[v1, v2, v3], .agg #[f1, f2, f3]] W fun e w' => e = .returned (.bool true) ∧ AnyS W0 w' B pc no (k + 1) f1 f2 f3 := by
  subst he
  exact (c_SamePictures _ _ _ v1 v2 v3 f1 f2 f3 pck pck hp (hA.pic hk).1).mono fun e w' q => ⟨by rw [q.1, Pic.same_refl], (hA.next hk (k + 1)).below q.2⟩
end Go.Proofs.Ytnedmmopkhmejaa
