/- Walk: whole. -/
import Derived.Test.YtnedmmopkhmejaaHB1
namespace Go.Proofs.Hp
namespace Mem
variable {m m' : Mem} {Y H : Nat}
/-- A memory whose young space is empty, with roots in it. -/
structure Wh1 (m : Mem) (Y H : Nat) (roots : List Int) : Prop where
  inv : Inv m Y H
  cur : ∀ r ∈ roots, r = 0 ∨ m.isCur r
  yu : m.young.used = 0
  kn : m.known = []
theorem Ext.yk (e : Ext m m') : m'.young = m.young ∧ m'.known = m.known := ⟨e.young, e.known⟩
theorem Inv.fwdIn_yk (h : Inv m Y H) {a : Int} {i : Nat} (hr : m.rf .n a i) (hf : m.fwdIn false .n (a + 1 + (i : Int)) = some m') : m'.young = m.young ∧ m'.known = m.known := by
  obtain ⟨m1, t, m2, _, hE, hS, h4, _⟩ := h.fwdIn (wh := .n) (by simp) hr
  rw [hf] at h4; cases h4
  have e := hS.sp .y
  simp only [sp] at e
  rw [if_neg (by simp)] at e
  exact ⟨e.trans hE.young, hS.rest.2.1.trans hE.known⟩
theorem Inv.step1_yk (h : Inv m Y H) (hs : Step1 m m') : m'.young = m.young ∧ m'.known = m.known := by
  cases hs with
  | plain _ => exact ⟨rfl, rfl⟩
  | refers a i m1 hr _ hf =>
    have q := h.fwdIn_yk hr hf
    exact ⟨q.1, q.2⟩
theorem Inv.steps_yk : ∀ (k : Nat) {m m' : Mem}, Inv m Y H → m.busy = true → stepLoop k m = some m' → m'.young = m.young ∧ m'.known = m.known
  | 0, m, m', _, _, e => by cases e; exact ⟨rfl, rfl⟩
  | k + 1, m, m', h, hb, e => by
    rw [stepLoop_succ] at e
    by_cases q : m.scan = m.now.top
    · rw [if_pos q] at e; cases e; exact ⟨rfl, rfl⟩
    · rw [if_neg q] at e
      have hsc := h.sc hb
      obtain ⟨m1, h1, hs1, h2, h3, _⟩ := h.step1 hb (by omega)
      rw [h1] at e
      have a1 := h.step1_yk hs1
      have a2 := Inv.steps_yk k h2 h3 e
      exact ⟨a2.1.trans a1.1, a2.2.trans a1.2⟩
theorem Inv.stepE_yk (h : Inv m Y H) {n v e : Int} (hs : m.stepE n = some (m', v, e)) : m'.young = m.young ∧ m'.known = m.known := by
  unfold Mem.stepE at hs
  split at hs
  · cases hs; exact ⟨rfl, rfl⟩
  · split at hs
    · cases hs; exact ⟨rfl, rfl⟩
    · rename_i hb
      split at hs
      · cases hs
      · rename_i m1 h1
        have hc := h.steps_yk n.toNat (by simpa using hb) h1
        split at hs <;> cases hs <;> exact hc
theorem Wh1.step {roots : List Int} (h : Wh1 m Y H roots) {n v e : Int} (hs : m.stepE n = some (m', v, e)) : Wh1 m' Y H roots ∧ m'.shapes = m.shapes := by
  obtain ⟨m2, v2, e2, g1, g2, g3⟩ := h.inv.stepE n
  rw [hs] at g1; cases g1
  have q := h.inv.stepE_yk hs
  exact ⟨⟨g2, fun r hr => (h.cur r hr).imp id fun x => h.inv.stepE_cur hs x, by rw [q.1]; exact h.yu, by rw [q.2]; exact h.kn⟩, g3⟩
theorem FlipR.wh {roots out : List Int} (h : Inv m Y H) (r : FlipR m Y H roots m' out 0) : Wh1 m' Y H out := by
  have hc := r.cur h
  have hi := r.inv h
  generalize he : (0 : Int) = e at r
  cases r with
  | busy => simp at he
  | err _ _ _ _ _ h0 => exact absurd he.symm h0
  | ok m1 m2 out1 out lk hb r1 r3 r4 r5 r6 r7 r8 r9 r10 r11 =>
    refine ⟨hi, hc, ?_, ?_⟩
    · rw [r9.young]
      show m1.young.used = 0
      rw [r4.young]; rfl
    · rw [r9.known]; exact r4.known
end Mem
end Go.Proofs.Hp
namespace Go.Proofs.Ytnedmmopkhmejaa
open Go.RowKit Go.Proofs.Hp
attribute [local go_sem] Oper.semAt_some

theorem room_old (a b c : Int) (w : World) : (Instr.field 54 (.agg #[.int .i64 a, .int .i64 b, .int .i64 c]) 1).run Try.prog w = .ok (.int .i64 b) w := by kernel_rfl

/-- What whole leaves, if it says true. -/
structure WhR (w w' : World) (L L' : ML) (n : Nat) (m m' : Mem) (Y H : Nat) (v : Value) (ok : Bool) (out : List Int) : Prop where
  rep : MemRep w' L' m'
  ev : Ev L L' w w'
  inv : m'.Inv Y H
  sh : m'.shapes = m.shapes
  yes : ok = true → out.length = n ∧ m'.Wh1 Y H out ∧ m'.busy = false ∧ OutAt w' (fun k => w.heap.size ≤ k ∧ k ∉ L'.fp) v out

set_option maxRecDepth 100000 in
set_option maxHeartbeats 4000000 in
theorem c_whole (w : World) (L : ML) (m : Mem) (h : MemRep w L m) {Y H : Nat} (hI : m.Inv Y H) (D : Nat → Prop) (v : Value) (roots : List Int) (hr : IntsAt w D v roots) (hl : roots.length ≤ 1048576) (by' : Int) (hby : 0 ≤ by' ∧ by' ≤ 1048576) :
    Calls Try.prog 32 #[.pointer (some ⟨L.b, 0, none⟩), v, .int .i64 by'] w
      fun e w' => ∃ v' seen ok L' m' out, e = .returned (.tuple #[v', .int .i64 seen, .bool ok]) ∧ WhR w w' L L' roots.length m m' Y H v' ok out := by
  obtain ⟨m1, out, e0, hf, hR⟩ := hI.flipE roots
  have hfl := c_FlipE w L m m1 h D v roots out e0 hr hl hf
  obtain ⟨p, cap, rfl, -⟩ := hr
  have hflH := Lib.hid hf
  have hRH := Lib.hid hR
  have hIH := Lib.hid hI
  clear hf hR hI h
  by_cases he : e0 = 0
  · subst he
    go_enter Try.func32, Try.ntmps32
    go_wp2_with (fail)
    refine hfl.mono ?_
    rintro e w1 ⟨v1, L1, rfl, h1, e1, o1⟩
    have hlen := Mem.flipE_len hflH.out
    have hW1 := hRH.out.wh hIH.out
    have hs1 := hRH.out.shapes
    have hAll := Lib.hid (And.intro h1 (And.intro e1 (And.intro hW1 hs1)))
    have hoH := Lib.hid o1
    obtain ⟨vp, vc, hvs, -⟩ := o1
    have hlH := Lib.hid hlen
    clear h1 e1 hW1 hs1 hlen hfl
    subst hvs
    go_wp2_with (fail)
    go_loopw [11, 12] (fun sv i wr => ∃ (k : Nat) (sn : Int) (L' : ML) (m' : Mem), sv = .int .i64 sn ∧ i = .int .i64 k ∧ k ≤ 10000 ∧ MemRep wr L' m' ∧ Ev L L' w wr ∧ m'.Wh1 Y H out ∧ m'.shapes = m.shapes ∧ OutAt wr (fun k => w.heap.size ≤ k ∧ k ∉ L'.fp) (.slice vp out.length vc) out) (fun _ i _ => 10000 - (intOf i).toNat)
    case atStart => exact ⟨0, 0, L1, m1, rfl, rfl, by omega, hAll.out.1, hAll.out.2.1, hAll.out.2.2.1, hAll.out.2.2.2, hoH.out⟩
    case round =>
      have hfd := room_old
      obtain ⟨k, sn, L2, m2, rfl, rfl, hk, h2, e2, hw2, hsh2, ho2⟩ := hrel
      have hb2 : L2.b = L.b := e2.b
      have hb2H := Lib.hid hb2
      clear hb2
      have hbz := c_Busy wr L2 m2 h2
      rw [hb2H.out] at hbz
      have hA2 := Lib.hid (And.intro h2 (And.intro e2 (And.intro hw2 (And.intro hsh2 ho2))))
      clear h2 e2 hw2 hsh2 ho2
      by_cases hlt : (k : Int) < 10000
      · cases hb : m2.busy with
        | false =>
          have hbb := Lib.hid hb
          rw [hb] at hbz
          clear hb
          go_wp2_with (fail)
          refine hbz.mono ?_
          rintro e wy ⟨rfl, hwy⟩
          subst hwy
          go_wp2_with (fail)
          refine hbz.mono ?_
          rintro e wx ⟨rfl, hwx⟩
          go_wp2
          refine bodyPost_ret (v := .tuple #[.slice vp out.length vc, .int .i64 sn, .bool (!false)]) (by simp [results, Try.results32, go_sem]) rfl ?_
          subst hwx
          exact ⟨_, _, _, L2, m2, out, rfl, hA2.out.1, hA2.out.2.1, hA2.out.2.2.1.inv, hA2.out.2.2.2.1, fun q => ⟨hlH.out, hA2.out.2.2.1, by first | exact hbb.out | (simp at q), hA2.out.2.2.2.2⟩⟩
        | true =>
          rw [hb] at hbz
          clear hb
          obtain ⟨m3, lv, e3, hs3, -⟩ := hA2.out.2.2.1.inv.stepE by'
          obtain ⟨hw3, hsh3⟩ := hA2.out.2.2.1.step hs3
          have hrm := c_Room wr L2 m2 hA2.out.1
          rw [hb2H.out] at hrm
          replace hrm := hrm.mono (R' := fun e w' => e = .returned (.agg #[.int .i64 m2.young.used, .int .i64 m2.now.used, .int .i64 m2.left]) ∧ MemRep w' L2 m2 ∧ Fr (fun _ => False) wr w') fun e w' ⟨q1, q2⟩ => ⟨q1, hA2.out.1.below q2, Fr.of_below q2⟩
          have hA3 := Lib.hid (And.intro hw3 (And.intro hsh3 hs3))
          clear hw3 hsh3 hs3
          go_wp2_with (fail)
          refine hbz.mono ?_
          rintro e wy ⟨rfl, hwy⟩
          subst hwy
          go_wp2_with (fail)
          refine hrm.mono ?_
          rintro e w3 ⟨rfl, g2, f3⟩
          have hst := c_Step w3 L2 m2 m3 g2 by' lv e3 (by omega) hA3.out.2.2
          rw [hb2H.out] at hst
          have hB3 := Lib.hid (And.intro g2 f3)
          clear hrm hbz g2 f3
          go_wp2_with (fail)
          refine hst.mono ?_
          rintro e w4 ⟨L4, rfl, g4, e4⟩
          have eAll : Ev L L4 w w4 := hA2.out.2.1.trans ((Ev.of_fr (hB3.out.2.mono fun _ _ q => q.elim)).trans e4)
          have ho4 : OutAt w4 (fun k => w.heap.size ≤ k ∧ k ∉ L4.fp) (.slice vp out.length vc) out :=
            (hA2.out.2.2.2.2.ev (Ev.of_fr (hB3.out.2.mono fun _ _ q => q.elim))).ev e4
          have hC := Lib.hid (And.intro g4 (And.intro eAll ho4))
          have hb4 : L4.b = L.b := eAll.b
          have hb4H := Lib.hid hb4
          clear hst g4 e4 eAll ho4 hb4
          by_cases q1 : e3 = 0
          · subst q1
            by_cases q2 : lv < 0
            · skip
              go_wp2
              refine bodyPost_ret (v := .tuple #[.slice none 0 0, .int .i64 0, .bool false]) (by simp [results, Try.results32, go_sem]) rfl ?_
              exact ⟨_, _, false, L4, m3, [], rfl, hC.out.1, hC.out.2.1, hA3.out.1.inv, hA3.out.2.1.trans hA2.out.2.2.2.1, fun q => by cases q⟩
            · by_cases q3 : (m3.now.used : Int) < lv
              · skip
                have hrm := c_Room w4 L4 m3 hC.out.1
                rw [hb4H.out] at hrm
                replace hrm := hrm.mono (R' := fun e w' => e = .returned (.agg #[.int .i64 m3.young.used, .int .i64 m3.now.used, .int .i64 m3.left]) ∧ MemRep w' L4 m3 ∧ Ev L L4 w w' ∧ OutAt w' (fun k => w.heap.size ≤ k ∧ k ∉ L4.fp) (.slice vp out.length vc) out)
                  fun e w' ⟨q1, q2⟩ => ⟨q1, hC.out.1.below q2, hC.out.2.1.trans (Ev.of_fr (Fr.of_below q2)), hC.out.2.2.ev (Ev.of_fr (Fr.of_below q2))⟩
                go_wp2_with (fail)
                refine hrm.mono ?_
                rintro e w5 ⟨rfl, g4, e4, o4⟩
                clear hC hrm
                have hC := Lib.hid (And.intro g4 (And.intro e4 o4))
                clear g4 e4 o4
                go_wp2
                refine bodyPost_ret (v := .tuple #[.slice none 0 0, .int .i64 0, .bool false]) (by simp [results, Try.results32, go_sem]) rfl ?_
                exact ⟨_, _, false, L4, m3, [], rfl, hC.out.1, hC.out.2.1, hA3.out.1.inv, hA3.out.2.1.trans hA2.out.2.2.2.1, fun q => by cases q⟩
              · skip
                have hrm := c_Room w4 L4 m3 hC.out.1
                rw [hb4H.out] at hrm
                replace hrm := hrm.mono (R' := fun e w' => e = .returned (.agg #[.int .i64 m3.young.used, .int .i64 m3.now.used, .int .i64 m3.left]) ∧ MemRep w' L4 m3 ∧ Ev L L4 w w' ∧ OutAt w' (fun k => w.heap.size ≤ k ∧ k ∉ L4.fp) (.slice vp out.length vc) out)
                  fun e w' ⟨q1, q2⟩ => ⟨q1, hC.out.1.below q2, hC.out.2.1.trans (Ev.of_fr (Fr.of_below q2)), hC.out.2.2.ev (Ev.of_fr (Fr.of_below q2))⟩
                go_wp2_with (fail)
                refine hrm.mono ?_
                rintro e w5 ⟨rfl, g4, e4, o4⟩
                clear hC hrm
                have hC := Lib.hid (And.intro g4 (And.intro e4 o4))
                clear g4 e4 o4
                by_cases q4 : (m3.now.used : Int) < (m2.now.used : Int)
                · skip
                  have hrm := c_Room w5 L4 m3 hC.out.1
                  rw [hb4H.out] at hrm
                  replace hrm := hrm.mono (R' := fun e w' => e = .returned (.agg #[.int .i64 m3.young.used, .int .i64 m3.now.used, .int .i64 m3.left]) ∧ MemRep w' L4 m3 ∧ Ev L L4 w w' ∧ OutAt w' (fun k => w.heap.size ≤ k ∧ k ∉ L4.fp) (.slice vp out.length vc) out)
                    fun e w' ⟨q1, q2⟩ => ⟨q1, hC.out.1.below q2, hC.out.2.1.trans (Ev.of_fr (Fr.of_below q2)), hC.out.2.2.ev (Ev.of_fr (Fr.of_below q2))⟩
                  go_wp2_with (fail)
                  refine hrm.mono ?_
                  rintro e w6 ⟨rfl, g4, e4, o4⟩
                  clear hC hrm
                  have hC := Lib.hid (And.intro g4 (And.intro e4 o4))
                  clear g4 e4 o4
                  go_wp2
                  refine bodyPost_ret (v := .tuple #[.slice none 0 0, .int .i64 0, .bool false]) (by simp [results, Try.results32, go_sem]) rfl ?_
                  exact ⟨_, _, false, L4, m3, [], rfl, hC.out.1, hC.out.2.1, hA3.out.1.inv, hA3.out.2.1.trans hA2.out.2.2.2.1, fun q => by cases q⟩
                · skip
                  have hrm := c_Room w5 L4 m3 hC.out.1
                  rw [hb4H.out] at hrm
                  replace hrm := hrm.mono (R' := fun e w' => e = .returned (.agg #[.int .i64 m3.young.used, .int .i64 m3.now.used, .int .i64 m3.left]) ∧ MemRep w' L4 m3 ∧ Ev L L4 w w' ∧ OutAt w' (fun k => w.heap.size ≤ k ∧ k ∉ L4.fp) (.slice vp out.length vc) out)
                    fun e w' ⟨q1, q2⟩ => ⟨q1, hC.out.1.below q2, hC.out.2.1.trans (Ev.of_fr (Fr.of_below q2)), hC.out.2.2.ev (Ev.of_fr (Fr.of_below q2))⟩
                  go_wp2_with (fail)
                  refine hrm.mono ?_
                  rintro e w6 ⟨rfl, g4, e4, o4⟩
                  clear hC hrm
                  have hC := Lib.hid (And.intro g4 (And.intro e4 o4))
                  clear g4 e4 o4
                  have hrm := c_Room w6 L4 m3 hC.out.1
                  rw [hb4H.out] at hrm
                  replace hrm := hrm.mono (R' := fun e w' => e = .returned (.agg #[.int .i64 m3.young.used, .int .i64 m3.now.used, .int .i64 m3.left]) ∧ MemRep w' L4 m3 ∧ Ev L L4 w w' ∧ OutAt w' (fun k => w.heap.size ≤ k ∧ k ∉ L4.fp) (.slice vp out.length vc) out)
                    fun e w' ⟨q1, q2⟩ => ⟨q1, hC.out.1.below q2, hC.out.2.1.trans (Ev.of_fr (Fr.of_below q2)), hC.out.2.2.ev (Ev.of_fr (Fr.of_below q2))⟩
                  go_wp2_with (fail)
                  refine hrm.mono ?_
                  rintro e w7 ⟨rfl, g4, e4, o4⟩
                  clear hC hrm
                  have hC := Lib.hid (And.intro g4 (And.intro e4 o4))
                  clear g4 e4 o4
                  go_wp2
                  go_roundw
                  case rel => exact ⟨k + 1, _, L4, m3, rfl, by go_num, by omega, hC.out.1, hC.out.2.1, hA3.out.1, hA3.out.2.1.trans hA2.out.2.2.2.1, hC.out.2.2⟩
                  case measure => simp [intOf]; omega
          · have q1' : ((e3 : Int) != 0) = true := by simpa using q1
            go_wp2
            refine bodyPost_ret (v := .tuple #[.slice none 0 0, .int .i64 0, .bool false]) (by simp [results, Try.results32, go_sem]) rfl ?_
            exact ⟨_, _, false, L4, m3, [], rfl, hC.out.1, hC.out.2.1, hA3.out.1.inv, hA3.out.2.1.trans hA2.out.2.2.2.1, fun q => by cases q⟩
      · have hkk : k = 10000 := by omega
        subst hkk
        cases hb : m2.busy with
        | false =>
          have hbb := Lib.hid hb
          rw [hb] at hbz
          clear hb
          go_wp2_with (fail)
          refine hbz.mono ?_
          rintro e wx ⟨rfl, hwx⟩
          go_wp2
          refine bodyPost_ret (v := .tuple #[.slice vp out.length vc, .int .i64 sn, .bool (!false)]) (by simp [results, Try.results32, go_sem]) rfl ?_
          subst hwx
          exact ⟨_, _, _, L2, m2, out, rfl, hA2.out.1, hA2.out.2.1, hA2.out.2.2.1.inv, hA2.out.2.2.2.1, fun q => ⟨hlH.out, hA2.out.2.2.1, by first | exact hbb.out | (simp at q), hA2.out.2.2.2.2⟩⟩
        | true =>
          have hbb := Lib.hid hb
          rw [hb] at hbz
          clear hb
          go_wp2_with (fail)
          refine hbz.mono ?_
          rintro e wx ⟨rfl, hwx⟩
          go_wp2
          refine bodyPost_ret (v := .tuple #[.slice vp out.length vc, .int .i64 sn, .bool (!true)]) (by simp [results, Try.results32, go_sem]) rfl ?_
          subst hwx
          exact ⟨_, _, _, L2, m2, out, rfl, hA2.out.1, hA2.out.2.1, hA2.out.2.2.1.inv, hA2.out.2.2.2.1, fun q => ⟨hlH.out, hA2.out.2.2.1, by first | exact hbb.out | (simp at q), hA2.out.2.2.2.2⟩⟩
  · have he' : ((e0 : Int) != 0) = true := by simpa using he
    go_enter Try.func32, Try.ntmps32
    go_wp2_with (fail)
    refine hfl.mono ?_
    rintro e w1 ⟨v1, L1, rfl, h1, e1, o1⟩
    clear hfl
    go_wp2
    refine bodyPost_ret (v := .tuple #[.slice none 0 0, .int .i64 0, .bool false]) (by simp [results, Try.results32, go_sem]) rfl ?_
    exact ⟨_, _, false, L1, m1, [], rfl, h1, e1, hRH.out.inv hIH.out, hRH.out.shapes, fun q => by cases q⟩
end Go.Proofs.Ytnedmmopkhmejaa
