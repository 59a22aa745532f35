/- Walks: fit, light, spaces. -/
import Derived.Test.YtnedmmopkhmejaaKHA9
set_option linter.unusedVariables false
set_option linter.unusedSimpArgs false
namespace Go.Proofs.Hp
def fitRow (l : List Bool) : Bool := !((decide (l.length > 8) && decide (l.length ≤ 60)) || decide (l.length > 70))
def fitE (ss : List (List Bool)) : Bool := ss.all fitRow && (decide (ss.length ≤ 8) || (decide (ss.length > 60) && decide (ss.length ≤ 70)))
end Go.Proofs.Hp
namespace Go.Proofs.Ytnedmmopkhmejaa
open Go.RowKit Go.Proofs.Hp
attribute [local go_sem] Oper.semAt_some

theorem ShRep.row {w : World} {D : Nat → Prop} {v : Value} {ss : List (List Bool)} (h : ShRep w D v ss) {k : Nat} (hk : k < ss.length) :
    ∃ b o cap u n c, v = .slice (some ⟨b, o, none⟩) ss.length cap ∧ w.cell? ⟨b, o + k, none⟩ = some (.slice u n c) ∧ n = ss[k].length := by
  obtain ⟨b, o, cap, u, h1, h2, h3, p, c, h4, _⟩ := h.at (List.getElem?_eq_getElem hk)
  exact ⟨b, o, cap, p, _, c, h1, by rw [h3, h4], rfl⟩

set_option maxRecDepth 100000 in
set_option maxHeartbeats 2000000 in
theorem c_fit (w : World) (D : Nat → Prop) (v : Value) (ss : List (List Bool)) (h : ShRep w D v ss) (hl : ss.length ≤ 1048576) :
    Calls Try.prog 12 #[v] w fun e w' => e = .returned (.bool (fitE ss)) ∧ w' = w := by
  have h' := Lib.hid h
  obtain ⟨p, cap, rfl, -⟩ := h
  go_enter Try.func12, Try.ntmps12
  go_wp2
  go_loopw [3] (fun i wr => ∃ k : Nat, k ≤ ss.length ∧ i = .int .i64 k ∧ wr = w ∧ (ss.take k).all fitRow = true) (fun i _ => ss.length - (intOf i).toNat)
  case atStart => exact ⟨0, by omega, rfl, rfl, rfl⟩
  case round =>
    obtain ⟨k, hk, rfl, rfl, hall⟩ := hrel
    have hallH := Lib.hid hall
    clear hall
    by_cases hlt : k < ss.length
    · obtain ⟨b, o, cap', u, n, c, h1, h2, h3⟩ := h'.out.row hlt
      simp only [Value.slice.injEq, true_and] at h1
      obtain ⟨rfl, rfl⟩ := h1
      have hltI : (k : Int) < (ss.length : Int) := by omega
      have hfr : fitRow ss[k] = !((decide (n > 8) && decide (n ≤ 60)) || decide (n > 70)) := by rw [h3]; rfl
      have hfrH := Lib.hid hfr
      clear hfr h3
      by_cases n8 : (8 : Int) < (n : Int)
      · by_cases n60 : (n : Int) ≤ 60
        · skip
          go_wp2
          go_ret
          refine ⟨?_, rfl⟩
          have : fitE ss = false := by
            unfold fitE
            rw [Bool.and_eq_false_iff]
            left
            rw [List.all_eq_false]
            exact ⟨ss[k], List.getElem_mem hlt, by rw [hfrH.out]; simp <;> omega⟩
          rw [this]
          rfl
        · by_cases n70 : (70 : Int) < (n : Int)
          · skip
            go_wp2
            go_ret
            refine ⟨?_, rfl⟩
            have : fitE ss = false := by
              unfold fitE
              rw [Bool.and_eq_false_iff]
              left
              rw [List.all_eq_false]
              exact ⟨ss[k], List.getElem_mem hlt, by rw [hfrH.out]; simp <;> omega⟩
            rw [this]
            rfl
          · skip
            go_wp2
            go_roundw
            case rel =>
              refine ⟨k + 1, by omega, by go_num, by first | rfl | trivial, ?_⟩
              rw [List.take_succ_eq_append_getElem hlt, List.all_append, hallH.out]
              simp only [List.all_cons, List.all_nil, Bool.and_true, Bool.true_and]
              rw [hfrH.out]; simp <;> omega
            case measure => simp [intOf]; omega
      · have n70 : ¬ (70 : Int) < (n : Int) := by omega
        go_wp2
        go_roundw
        case rel =>
          refine ⟨k + 1, by omega, by go_num, by first | rfl | trivial, ?_⟩
          rw [List.take_succ_eq_append_getElem hlt, List.all_append, hallH.out]
          simp only [List.all_cons, List.all_nil, Bool.and_true, Bool.true_and]
          rw [hfrH.out]; simp <;> omega
        case measure => simp [intOf]; omega
    · obtain rfl : k = ss.length := by omega
      have ha := hallH.out
      rw [List.take_length] at ha
      have hfe : fitE ss = (decide (ss.length ≤ 8) || (decide (ss.length > 60) && decide (ss.length ≤ 70))) := by unfold fitE; rw [ha]; simp
      have hge : ¬ (ss.length : Int) < (ss.length : Int) := by omega
      clear ha
      by_cases s8 : (ss.length : Int) ≤ 8
      · skip
        have hres : fitE ss = true := by rw [hfe]; simp; omega
        have hresH := Lib.hid hres
        clear hfe hres
        go_wp2
        go_ret
        exact ⟨by rw [hresH.out]; rfl, rfl⟩
      · by_cases s60 : (60 : Int) < (ss.length : Int)
        · by_cases s70 : (ss.length : Int) ≤ 70
          · skip
            have hres : fitE ss = true := by rw [hfe]; simp; omega
            have hresH := Lib.hid hres
            clear hfe hres
            go_wp2
            go_ret
            exact ⟨by rw [hresH.out]; rfl, rfl⟩
          · skip
            have hres : fitE ss = false := by rw [hfe]; simp; omega
            have hresH := Lib.hid hres
            clear hfe hres
            go_wp2
            go_ret
            exact ⟨by rw [hresH.out]; rfl, rfl⟩
        · skip
          have hres : fitE ss = false := by rw [hfe]; simp; omega
          have hresH := Lib.hid hres
          clear hfe hres
          go_wp2
          go_ret
          exact ⟨by rw [hresH.out]; rfl, rfl⟩

def lightE (ss : List (List Bool)) (n : Nat) : Bool := decide (ss.length ≤ 8) && fitE ss && decide (n ≤ 300)
set_option maxRecDepth 100000 in
set_option maxHeartbeats 2000000 in
theorem c_light (w : World) (D : Nat → Prop) (v : Value) (ss : List (List Bool)) (h : ShRep w D v ss) (q : Option Addr) (n cap : Nat) :
    Calls Try.prog 28 #[v, .slice q n cap] w fun e w' => e = .returned (.bool (lightE ss n)) ∧ w' = w := by
  have hH := Lib.hid h
  obtain ⟨p, cap', rfl, -⟩ := h
  by_cases s8 : (ss.length : Int) ≤ 8
  · have hf := c_fit w D _ ss hH.out (by omega)
    cases hfe : fitE ss with
    | false =>
      rw [hfe] at hf
      have hres : lightE ss n = false := by unfold lightE; rw [hfe]; simp
      rw [hres]
      clear hres hfe
      go_enter Try.func28, Try.ntmps28
      go_wp2_with (fail)
      refine hf.mono ?_
      rintro e w1 ⟨rfl, rfl⟩
      go_wp2
      go_ret
      exact ⟨rfl, rfl⟩
    | true =>
      rw [hfe] at hf
      by_cases n3 : (n : Int) ≤ 300
      · have hres : lightE ss n = true := by unfold lightE; rw [hfe]; simp; omega
        rw [hres]
        clear hres hfe
        go_enter Try.func28, Try.ntmps28
        go_wp2_with (fail)
        refine hf.mono ?_
        rintro e w1 ⟨rfl, rfl⟩
        go_wp2
        go_ret
        exact ⟨rfl, rfl⟩
      · have hres : lightE ss n = false := by unfold lightE; rw [hfe]; simp; omega
        rw [hres]
        clear hres hfe
        go_enter Try.func28, Try.ntmps28
        go_wp2_with (fail)
        refine hf.mono ?_
        rintro e w1 ⟨rfl, rfl⟩
        go_wp2
        go_ret
        exact ⟨by show Ending.returned (.bool (decide ((n : Int) ≤ 300))) = _; rw [decide_eq_false (by omega)], rfl⟩
  · have hres : lightE ss n = false := by unfold lightE; simp; omega
    rw [hres]
    clear hres
    go_enter Try.func28, Try.ntmps28
    go_wp2
    go_ret
    exact ⟨rfl, rfl⟩

set_option maxRecDepth 100000 in
theorem c_spaces (w : World) (a b : Int) (ha : 0 ≤ a ∧ a ≤ 65535) (hb : 0 ≤ b ∧ b ≤ 65535) :
    Calls Try.prog 29 #[.int .u16 a, .int .u16 b] w fun e w' => e = .returned (.tuple #[.int .i64 (((1 + (a.toNat % 600 : Nat) : Nat)) : Int), .int .i64 (((1 + (b.toNat % 100 : Nat) : Nat)) : Int)]) ∧ w' = w := by
  obtain ⟨x, rfl⟩ : ∃ x : Nat, a = (x : Int) := ⟨a.toNat, by omega⟩
  obtain ⟨y, rfl⟩ : ∃ y : Nat, b = (y : Int) := ⟨b.toNat, by omega⟩
  go_enter Try.func29, Try.ntmps29
  go_wp2
  go_ret2
  exact ⟨by simp, rfl⟩
end Go.Proofs.Ytnedmmopkhmejaa

/- Walk: whole. -/
namespace Go.Proofs.Hp
namespace Mem
variable {m m' : Mem} {Y H : Nat}
/-- A memory whose young space is empty, with roots in it. -/
structure Wh1 (m : Mem) (Y H : Nat) (roots : List Int) : Prop where
  inv : Inv m Y H
  cur : ∀ r ∈ roots, r = 0 ∨ m.isCur r
  yu : m.young.used = 0
  kn : m.known = []
theorem Ext.yk (e : Ext m m') : m'.young = m.young ∧ m'.known = m.known := ⟨e.young, e.known⟩
theorem Inv.fwdIn_yk (h : Inv m Y H) {a : Int} {i : Nat} (hr : m.rf .n a i) (hf : m.fwdIn false .n (a + 1 + (i : Int)) = some m') : m'.young = m.young ∧ m'.known = m.known := by
  obtain ⟨m1, t, m2, _, hE, hS, h4, _⟩ := h.fwdIn (wh := .n) (by simp) hr
  rw [hf] at h4; cases h4
  have e := hS.sp .y
  simp only [sp] at e
  rw [if_neg (by simp)] at e
  exact ⟨e.trans hE.young, hS.rest.2.1.trans hE.known⟩
theorem Inv.step1_yk (h : Inv m Y H) (hs : Step1 m m') : m'.young = m.young ∧ m'.known = m.known := by
  cases hs with
  | plain _ => exact ⟨rfl, rfl⟩
  | refers a i m1 hr _ hf =>
    have q := h.fwdIn_yk hr hf
    exact ⟨q.1, q.2⟩
theorem Inv.steps_yk : ∀ (k : Nat) {m m' : Mem}, Inv m Y H → m.busy = true → stepLoop k m = some m' → m'.young = m.young ∧ m'.known = m.known
  | 0, m, m', _, _, e => by cases e; exact ⟨rfl, rfl⟩
  | k + 1, m, m', h, hb, e => by
    rw [stepLoop_succ] at e
    by_cases q : m.scan = m.now.top
    · rw [if_pos q] at e; cases e; exact ⟨rfl, rfl⟩
    · rw [if_neg q] at e
      have hsc := h.sc hb
      obtain ⟨m1, h1, hs1, h2, h3, _⟩ := h.step1 hb (by omega)
      rw [h1] at e
      have a1 := h.step1_yk hs1
      have a2 := Inv.steps_yk k h2 h3 e
      exact ⟨a2.1.trans a1.1, a2.2.trans a1.2⟩
theorem Inv.stepE_yk (h : Inv m Y H) {n v e : Int} (hs : m.stepE n = some (m', v, e)) : m'.young = m.young ∧ m'.known = m.known := by
  unfold Mem.stepE at hs
  split at hs
  · cases hs; exact ⟨rfl, rfl⟩
  · split at hs
    · cases hs; exact ⟨rfl, rfl⟩
    · rename_i hb
      split at hs
      · cases hs
      · rename_i m1 h1
        have hc := h.steps_yk n.toNat (by simpa using hb) h1
        split at hs <;> cases hs <;> exact hc
theorem Wh1.step {roots : List Int} (h : Wh1 m Y H roots) {n v e : Int} (hs : m.stepE n = some (m', v, e)) : Wh1 m' Y H roots ∧ m'.shapes = m.shapes := by
  obtain ⟨m2, v2, e2, g1, g2, g3⟩ := h.inv.stepE n
  rw [hs] at g1; cases g1
  have q := h.inv.stepE_yk hs
  exact ⟨⟨g2, fun r hr => (h.cur r hr).imp id fun x => h.inv.stepE_cur hs x, by rw [q.1]; exact h.yu, by rw [q.2]; exact h.kn⟩, g3⟩
theorem FlipR.wh {roots out : List Int} (h : Inv m Y H) (r : FlipR m Y H roots m' out 0) : Wh1 m' Y H out := by
  have hc := r.cur h
  have hi := r.inv h
  generalize he : (0 : Int) = e at r
  cases r with
  | busy => simp at he
  | err _ _ _ _ _ h0 => exact absurd he.symm h0
  | ok m1 m2 out1 out lk hb r1 r3 r4 r5 r6 r7 r8 r9 r10 r11 =>
    refine ⟨hi, hc, ?_, ?_⟩
    · rw [r9.young]
      show m1.young.used = 0
      rw [r4.young]; rfl
    · rw [r9.known]; exact r4.known
end Mem
end Go.Proofs.Hp
namespace Go.Proofs.Ytnedmmopkhmejaa
open Go.RowKit Go.Proofs.Hp
attribute [local go_sem] Oper.semAt_some

theorem room_old (a b c : Int) (w : World) : (Instr.field 54 (.agg #[.int .i64 a, .int .i64 b, .int .i64 c]) 1).run Try.prog w = .ok (.int .i64 b) w := by kernel_rfl

/-- What whole leaves, if it says true. -/
structure WhR (w w' : World) (L L' : ML) (n : Nat) (m m' : Mem) (Y H : Nat) (v : Value) (ok : Bool) (out : List Int) : Prop where
  rep : MemRep w' L' m'
  ev : Ev L L' w w'
  inv : m'.Inv Y H
  sh : m'.shapes = m.shapes
  yes : ok = true → out.length = n ∧ m'.Wh1 Y H out ∧ m'.busy = false ∧ OutAt w' (fun k => w.heap.size ≤ k ∧ k ∉ L'.fp) v out

set_option maxRecDepth 100000 in
set_option maxHeartbeats 4000000 in
theorem c_whole (w : World) (L : ML) (m : Mem) (h : MemRep w L m) {Y H : Nat} (hI : m.Inv Y H) (D : Nat → Prop) (v : Value) (roots : List Int) (hr : IntsAt w D v roots) (hl : roots.length ≤ 1048576) (by' : Int) (hby : 0 ≤ by' ∧ by' ≤ 1048576) :
    Calls Try.prog 32 #[.pointer (some ⟨L.b, 0, none⟩), v, .int .i64 by'] w
      fun e w' => ∃ v' seen ok L' m' out, e = .returned (.tuple #[v', .int .i64 seen, .bool ok]) ∧ WhR w w' L L' roots.length m m' Y H v' ok out := by
  obtain ⟨m1, out, e0, hf, hR⟩ := hI.flipE roots
  have hfl := c_FlipE w L m m1 h D v roots out e0 hr hl hf
  obtain ⟨p, cap, rfl, -⟩ := hr
  have hflH := Lib.hid hf
  have hRH := Lib.hid hR
  have hIH := Lib.hid hI
  clear hf hR hI h
  by_cases he : e0 = 0
  · subst he
    go_enter Try.func32, Try.ntmps32
    go_wp2_with (fail)
    refine hfl.mono ?_
    rintro e w1 ⟨v1, L1, rfl, h1, e1, o1⟩
    have hlen := Mem.flipE_len hflH.out
    have hW1 := hRH.out.wh hIH.out
    have hs1 := hRH.out.shapes
    have hAll := Lib.hid (And.intro h1 (And.intro e1 (And.intro hW1 hs1)))
    have hoH := Lib.hid o1
    obtain ⟨vp, vc, hvs, -⟩ := o1
    have hlH := Lib.hid hlen
    clear h1 e1 hW1 hs1 hlen hfl
    subst hvs
    go_wp2_with (fail)
    go_loopw [11, 12] (fun sv i wr => ∃ (k : Nat) (sn : Int) (L' : ML) (m' : Mem), sv = .int .i64 sn ∧ i = .int .i64 k ∧ k ≤ 10000 ∧ MemRep wr L' m' ∧ Ev L L' w wr ∧ m'.Wh1 Y H out ∧ m'.shapes = m.shapes ∧ OutAt wr (fun k => w.heap.size ≤ k ∧ k ∉ L'.fp) (.slice vp out.length vc) out) (fun _ i _ => 10000 - (intOf i).toNat)
    case atStart => exact ⟨0, 0, L1, m1, rfl, rfl, by omega, hAll.out.1, hAll.out.2.1, hAll.out.2.2.1, hAll.out.2.2.2, hoH.out⟩
    case round =>
      have hfd := room_old
      obtain ⟨k, sn, L2, m2, rfl, rfl, hk, h2, e2, hw2, hsh2, ho2⟩ := hrel
      have hb2 : L2.b = L.b := e2.b
      have hb2H := Lib.hid hb2
      clear hb2
      have hbz := c_Busy wr L2 m2 h2
      rw [hb2H.out] at hbz
      have hA2 := Lib.hid (And.intro h2 (And.intro e2 (And.intro hw2 (And.intro hsh2 ho2))))
      clear h2 e2 hw2 hsh2 ho2
      by_cases hlt : (k : Int) < 10000
      · cases hb : m2.busy with
        | false =>
          have hbb := Lib.hid hb
          rw [hb] at hbz
          clear hb
          go_wp2_with (fail)
          refine hbz.mono ?_
          rintro e wy ⟨rfl, hwy⟩
          subst hwy
          go_wp2_with (fail)
          refine hbz.mono ?_
          rintro e wx ⟨rfl, hwx⟩
          go_wp2
          refine bodyPost_ret (v := .tuple #[.slice vp out.length vc, .int .i64 sn, .bool (!false)]) (by simp [results, Try.results32, go_sem]) rfl ?_
          subst hwx
          exact ⟨_, _, _, L2, m2, out, rfl, hA2.out.1, hA2.out.2.1, hA2.out.2.2.1.inv, hA2.out.2.2.2.1, fun q => ⟨hlH.out, hA2.out.2.2.1, by first | exact hbb.out | (simp at q), hA2.out.2.2.2.2⟩⟩
        | true =>
          rw [hb] at hbz
          clear hb
          obtain ⟨m3, lv, e3, hs3, -⟩ := hA2.out.2.2.1.inv.stepE by'
          obtain ⟨hw3, hsh3⟩ := hA2.out.2.2.1.step hs3
          have hrm := c_Room wr L2 m2 hA2.out.1
          rw [hb2H.out] at hrm
          replace hrm := hrm.mono (R' := fun e w' => e = .returned (.agg #[.int .i64 m2.young.used, .int .i64 m2.now.used, .int .i64 m2.left]) ∧ MemRep w' L2 m2 ∧ Fr (fun _ => False) wr w') fun e w' ⟨q1, q2⟩ => ⟨q1, hA2.out.1.below q2, Fr.of_below q2⟩
          have hA3 := Lib.hid (And.intro hw3 (And.intro hsh3 hs3))
          clear hw3 hsh3 hs3
          go_wp2_with (fail)
          refine hbz.mono ?_
          rintro e wy ⟨rfl, hwy⟩
          subst hwy
          go_wp2_with (fail)
          refine hrm.mono ?_
          rintro e w3 ⟨rfl, g2, f3⟩
          have hst := c_Step w3 L2 m2 m3 g2 by' lv e3 (by omega) hA3.out.2.2
          rw [hb2H.out] at hst
          have hB3 := Lib.hid (And.intro g2 f3)
          clear hrm hbz g2 f3
          go_wp2_with (fail)
          refine hst.mono ?_
          rintro e w4 ⟨L4, rfl, g4, e4⟩
          have eAll : Ev L L4 w w4 := hA2.out.2.1.trans ((Ev.of_fr (hB3.out.2.mono fun _ _ q => q.elim)).trans e4)
          have ho4 : OutAt w4 (fun k => w.heap.size ≤ k ∧ k ∉ L4.fp) (.slice vp out.length vc) out :=
            (hA2.out.2.2.2.2.ev (Ev.of_fr (hB3.out.2.mono fun _ _ q => q.elim))).ev e4
          have hC := Lib.hid (And.intro g4 (And.intro eAll ho4))
          have hb4 : L4.b = L.b := eAll.b
          have hb4H := Lib.hid hb4
          clear hst g4 e4 eAll ho4 hb4
          by_cases q1 : e3 = 0
          · subst q1
            by_cases q2 : lv < 0
            · skip
              go_wp2
              refine bodyPost_ret (v := .tuple #[.slice none 0 0, .int .i64 0, .bool false]) (by simp [results, Try.results32, go_sem]) rfl ?_
              exact ⟨_, _, false, L4, m3, [], rfl, hC.out.1, hC.out.2.1, hA3.out.1.inv, hA3.out.2.1.trans hA2.out.2.2.2.1, fun q => by cases q⟩
            · by_cases q3 : (m3.now.used : Int) < lv
              · skip
                have hrm := c_Room w4 L4 m3 hC.out.1
                rw [hb4H.out] at hrm
                replace hrm := hrm.mono (R' := fun e w' => e = .returned (.agg #[.int .i64 m3.young.used, .int .i64 m3.now.used, .int .i64 m3.left]) ∧ MemRep w' L4 m3 ∧ Ev L L4 w w' ∧ OutAt w' (fun k => w.heap.size ≤ k ∧ k ∉ L4.fp) (.slice vp out.length vc) out)
                  fun e w' ⟨q1, q2⟩ => ⟨q1, hC.out.1.below q2, hC.out.2.1.trans (Ev.of_fr (Fr.of_below q2)), hC.out.2.2.ev (Ev.of_fr (Fr.of_below q2))⟩
                go_wp2_with (fail)
                refine hrm.mono ?_
                rintro e w5 ⟨rfl, g4, e4, o4⟩
                clear hC hrm
                have hC := Lib.hid (And.intro g4 (And.intro e4 o4))
                clear g4 e4 o4
                go_wp2
                refine bodyPost_ret (v := .tuple #[.slice none 0 0, .int .i64 0, .bool false]) (by simp [results, Try.results32, go_sem]) rfl ?_
                exact ⟨_, _, false, L4, m3, [], rfl, hC.out.1, hC.out.2.1, hA3.out.1.inv, hA3.out.2.1.trans hA2.out.2.2.2.1, fun q => by cases q⟩
              · skip
                have hrm := c_Room w4 L4 m3 hC.out.1
                rw [hb4H.out] at hrm
                replace hrm := hrm.mono (R' := fun e w' => e = .returned (.agg #[.int .i64 m3.young.used, .int .i64 m3.now.used, .int .i64 m3.left]) ∧ MemRep w' L4 m3 ∧ Ev L L4 w w' ∧ OutAt w' (fun k => w.heap.size ≤ k ∧ k ∉ L4.fp) (.slice vp out.length vc) out)
                  fun e w' ⟨q1, q2⟩ => ⟨q1, hC.out.1.below q2, hC.out.2.1.trans (Ev.of_fr (Fr.of_below q2)), hC.out.2.2.ev (Ev.of_fr (Fr.of_below q2))⟩
                go_wp2_with (fail)
                refine hrm.mono ?_
                rintro e w5 ⟨rfl, g4, e4, o4⟩
                clear hC hrm
                have hC := Lib.hid (And.intro g4 (And.intro e4 o4))
                clear g4 e4 o4
                by_cases q4 : (m3.now.used : Int) < (m2.now.used : Int)
                · skip
                  have hrm := c_Room w5 L4 m3 hC.out.1
                  rw [hb4H.out] at hrm
                  replace hrm := hrm.mono (R' := fun e w' => e = .returned (.agg #[.int .i64 m3.young.used, .int .i64 m3.now.used, .int .i64 m3.left]) ∧ MemRep w' L4 m3 ∧ Ev L L4 w w' ∧ OutAt w' (fun k => w.heap.size ≤ k ∧ k ∉ L4.fp) (.slice vp out.length vc) out)
                    fun e w' ⟨q1, q2⟩ => ⟨q1, hC.out.1.below q2, hC.out.2.1.trans (Ev.of_fr (Fr.of_below q2)), hC.out.2.2.ev (Ev.of_fr (Fr.of_below q2))⟩
                  go_wp2_with (fail)
                  refine hrm.mono ?_
                  rintro e w6 ⟨rfl, g4, e4, o4⟩
                  clear hC hrm
                  have hC := Lib.hid (And.intro g4 (And.intro e4 o4))
                  clear g4 e4 o4
                  go_wp2
                  refine bodyPost_ret (v := .tuple #[.slice none 0 0, .int .i64 0, .bool false]) (by simp [results, Try.results32, go_sem]) rfl ?_
                  exact ⟨_, _, false, L4, m3, [], rfl, hC.out.1, hC.out.2.1, hA3.out.1.inv, hA3.out.2.1.trans hA2.out.2.2.2.1, fun q => by cases q⟩
                · skip
                  have hrm := c_Room w5 L4 m3 hC.out.1
                  rw [hb4H.out] at hrm
                  replace hrm := hrm.mono (R' := fun e w' => e = .returned (.agg #[.int .i64 m3.young.used, .int .i64 m3.now.used, .int .i64 m3.left]) ∧ MemRep w' L4 m3 ∧ Ev L L4 w w' ∧ OutAt w' (fun k => w.heap.size ≤ k ∧ k ∉ L4.fp) (.slice vp out.length vc) out)
                    fun e w' ⟨q1, q2⟩ => ⟨q1, hC.out.1.below q2, hC.out.2.1.trans (Ev.of_fr (Fr.of_below q2)), hC.out.2.2.ev (Ev.of_fr (Fr.of_below q2))⟩
                  go_wp2_with (fail)
                  refine hrm.mono ?_
                  rintro e w6 ⟨rfl, g4, e4, o4⟩
                  clear hC hrm
                  have hC := Lib.hid (And.intro g4 (And.intro e4 o4))
                  clear g4 e4 o4
                  have hrm := c_Room w6 L4 m3 hC.out.1
                  rw [hb4H.out] at hrm
                  replace hrm := hrm.mono (R' := fun e w' => e = .returned (.agg #[.int .i64 m3.young.used, .int .i64 m3.now.used, .int .i64 m3.left]) ∧ MemRep w' L4 m3 ∧ Ev L L4 w w' ∧ OutAt w' (fun k => w.heap.size ≤ k ∧ k ∉ L4.fp) (.slice vp out.length vc) out)
                    fun e w' ⟨q1, q2⟩ => ⟨q1, hC.out.1.below q2, hC.out.2.1.trans (Ev.of_fr (Fr.of_below q2)), hC.out.2.2.ev (Ev.of_fr (Fr.of_below q2))⟩
                  go_wp2_with (fail)
                  refine hrm.mono ?_
                  rintro e w7 ⟨rfl, g4, e4, o4⟩
                  clear hC hrm
                  have hC := Lib.hid (And.intro g4 (And.intro e4 o4))
                  clear g4 e4 o4
                  go_wp2
                  go_roundw
                  case rel => exact ⟨k + 1, _, L4, m3, rfl, by go_num, by omega, hC.out.1, hC.out.2.1, hA3.out.1, hA3.out.2.1.trans hA2.out.2.2.2.1, hC.out.2.2⟩
                  case measure => simp [intOf]; omega
          · have q1' : ((e3 : Int) != 0) = true := by simpa using q1
            go_wp2
            refine bodyPost_ret (v := .tuple #[.slice none 0 0, .int .i64 0, .bool false]) (by simp [results, Try.results32, go_sem]) rfl ?_
            exact ⟨_, _, false, L4, m3, [], rfl, hC.out.1, hC.out.2.1, hA3.out.1.inv, hA3.out.2.1.trans hA2.out.2.2.2.1, fun q => by cases q⟩
      · have hkk : k = 10000 := by omega
        subst hkk
        cases hb : m2.busy with
        | false =>
          have hbb := Lib.hid hb
          rw [hb] at hbz
          clear hb
          go_wp2_with (fail)
          refine hbz.mono ?_
          rintro e wx ⟨rfl, hwx⟩
          go_wp2
          refine bodyPost_ret (v := .tuple #[.slice vp out.length vc, .int .i64 sn, .bool (!false)]) (by simp [results, Try.results32, go_sem]) rfl ?_
          subst hwx
          exact ⟨_, _, _, L2, m2, out, rfl, hA2.out.1, hA2.out.2.1, hA2.out.2.2.1.inv, hA2.out.2.2.2.1, fun q => ⟨hlH.out, hA2.out.2.2.1, by first | exact hbb.out | (simp at q), hA2.out.2.2.2.2⟩⟩
        | true =>
          have hbb := Lib.hid hb
          rw [hb] at hbz
          clear hb
          go_wp2_with (fail)
          refine hbz.mono ?_
          rintro e wx ⟨rfl, hwx⟩
          go_wp2
          refine bodyPost_ret (v := .tuple #[.slice vp out.length vc, .int .i64 sn, .bool (!true)]) (by simp [results, Try.results32, go_sem]) rfl ?_
          subst hwx
          exact ⟨_, _, _, L2, m2, out, rfl, hA2.out.1, hA2.out.2.1, hA2.out.2.2.1.inv, hA2.out.2.2.2.1, fun q => ⟨hlH.out, hA2.out.2.2.1, by first | exact hbb.out | (simp at q), hA2.out.2.2.2.2⟩⟩
  · have he' : ((e0 : Int) != 0) = true := by simpa using he
    go_enter Try.func32, Try.ntmps32
    go_wp2_with (fail)
    refine hfl.mono ?_
    rintro e w1 ⟨v1, L1, rfl, h1, e1, o1⟩
    clear hfl
    go_wp2
    refine bodyPost_ret (v := .tuple #[.slice none 0 0, .int .i64 0, .bool false]) (by simp [results, Try.results32, go_sem]) rfl ?_
    exact ⟨_, _, false, L1, m1, [], rfl, h1, e1, hRH.out.inv hIH.out, hRH.out.shapes, fun q => by cases q⟩
end Go.Proofs.Ytnedmmopkhmejaa

/- Plain: an object made behind a whole moving; walk: Play at its limit. -/
namespace Go.Proofs.Hp
namespace Mem
variable {m m' : Mem} {Y H : Nat}
theorem Wh1.full {roots : List Int} (h : Wh1 m Y H roots) {s : Int} {l : List Bool} (hs : m.shapeAt s = some l) (hr : (Y : Int) < ((l.length + 1 : Nat) : Int)) : m.allocE s = (m, 0, 14) := by
  unfold allocE
  rw [hs]
  simp only
  rw [if_pos]
  unfold Sp.room
  rw [h.inv.geo.yl, h.yu]
  push_cast at hr ⊢
  omega
theorem Wh1.alloc {roots : List Int} (h : Wh1 m Y H roots) {s : Int} {l : List Bool} (hs : m.shapeAt s = some l) (hr : ((l.length + 1 : Nat) : Int) ≤ (Y : Int)) :
    ∃ m2 at', m.allocE s = (m2, at', 0) ∧ Inv m2 Y H ∧ m2.young.begins at' = true ∧ (∀ x, m.isCur x → m2.isCur x) ∧ m2.now = m.now ∧ m2.left = m.left ∧ m2.busy = m.busy ∧
      ∀ rs n, m2.needed rs = some n → n ≤ ((l.length + 1 : Nat) : Int) := by
  obtain ⟨g1, g2, g3, g4⟩ := h.inv.allocE s
  have hroom : ¬ m.young.room < ((l.length + 1 : Nat) : Int) := by
    unfold Sp.room
    rw [h.inv.geo.yl, h.yu]
    push_cast at hr ⊢
    omega
  have hall : m.allocE s = ({ m with young := m.young.lay (l.length + 1) s }, m.young.top, 0) := by
    unfold allocE
    rw [hs]
    simp only
    rw [if_neg hroom]
  rw [hall] at g1 g2 g3 g4
  have hu : m.young.used + (l.length + 1) ≤ m.young.words.length := by rw [h.inv.geo.yl, h.yu]; omega
  have hlay := Sp.lay_eq m.young l.length s hu
  have hxl : (s :: List.replicate l.length (0 : Int)).length = l.length + 1 := by simp
  refine ⟨_, _, hall, g1, g3 rfl, g4, rfl, rfl, rfl, fun rs n hn => ?_⟩
  obtain ⟨C, c1, c2, _⟩ := g1.needed rs
  rw [hn] at c1
  simp only [Option.some.injEq] at c1
  have hbg := Sp.app_begins h.inv.ty (xs := s :: List.replicate l.length (0 : Int)) (by simp) (by rw [hxl]; exact hu)
  have hsub : ∀ x ∈ C, x ∈ [m.young.top] := fun x hx => by
    have hb := c2.yl.bg x hx
    have hb' : (m.young.app (s :: List.replicate l.length 0)).begins x = true := by rw [← hlay]; exact hb
    rcases (hbg x).1 hb' with q | q
    · obtain ⟨i, _, hi, _⟩ := Sp.begins_iff.1 q
      rw [h.yu] at hi; omega
    · simp [q]
  have hle := sumOf_le (({ m with young := m.young.lay (l.length + 1) s } : Mem).szY) C [m.young.top] c2.yl.nd hsub
  have hz : ({ m with young := m.young.lay (l.length + 1) s } : Mem).szY m.young.top = l.length + 1 := by
    unfold szY
    have e : (m.young.lay (l.length + 1) s).get m.young.top = s := by
      rw [hlay]
      have := Sp.app_get_new (s := m.young) (xs := s :: List.replicate l.length (0 : Int)) (by rw [hxl]; exact hu) (j := 0) (by simp)
      simpa using this
    show (match shapeOf m.shapes ((m.young.lay (l.length + 1) s).get m.young.top) with | some l => l.length + 1 | none => 0) = _
    rw [e]
    have : shapeOf m.shapes s = some l := hs
    rw [this]
  simp only [sumOf, List.map_cons, List.map_nil, List.sum_cons, List.sum_nil] at hle
  rw [hz] at hle
  rw [c1]
  simp only [sumOf]
  omega
end Mem
end Go.Proofs.Hp
namespace Go.Proofs.Ytnedmmopkhmejaa
open Go.RowKit Go.Proofs.Hp
attribute [local go_sem] Oper.semAt_some

set_option maxRecDepth 100000 in
set_option maxHeartbeats 1000000 in
theorem c_Play_limit (w : World) (D : Nat → Prop) (v : Value) (ss : List (List Bool)) (h : ShRep w D v ss) (hl : ss.length ≤ 1048576) (hll : ∀ l ∈ ss, l.length ≤ 9223372036854775807) (Y H n : Int) (hsz : Mem.sizedE ss ≠ 0) (q : Option Addr) (an acap : Nat) :
    Calls Try.prog 30 #[v, .int .i64 H, .int .i64 Y, .int .i64 n, .slice q an acap] w fun e w' => e = .returned (.tuple #[.pointer none, .slice none 0 0, .slice none 0 0, .int .i64 3]) ∧ w' = w := by
  have hnw := c_New_limit w D v ss h hl hll Y H hsz
  obtain ⟨p, cap, rfl, -⟩ := h
  clear hl hll hsz
  go_enter Try.func30, Try.ntmps30
  go_wp2_with (fail)
  refine hnw.mono ?_
  rintro e W1 ⟨rfl, rfl⟩
  clear hnw
  go_wp2
  exact bodyPost_ret (v := .tuple #[.pointer none, .slice none 0 0, .slice none 0 0, .int .i64 3]) (by simp [results, Try.results30, go_sem]) rfl ⟨rfl, rfl⟩
end Go.Proofs.Ytnedmmopkhmejaa

/- Walk: HeapRoom. -/
namespace Go.Proofs.Ytnedmmopkhmejaa
open Go.RowKit Go.Proofs.Hp
attribute [local go_sem] Oper.semAt_some

theorem step_zero {m m' : Mem} {n v e : Int} (hn : 0 ≤ n) (h : m.stepE n = some (m', v, e)) : e = 0 := by
  unfold Mem.stepE at h
  rw [if_neg (by omega)] at h
  split at h
  · cases h; rfl
  · split at h
    · cases h
    · split at h <;> cases h <;> rfl
theorem inv_new {ss : List (List Bool)} {Y H : Nat} (n : Nat) (hsz : Mem.sizedE ss = 0) (hY0 : 0 < Y) (hH0 : 0 < H) (hY : Y ≤ 1024) (hH : H ≤ 4096) : PInv ⟨Mem.newM ss H Y, List.replicate n 0⟩ Y H := by
  have q : ss.length ≤ 60 ∧ ∀ l ∈ ss, l.length ≤ 60 := by
    unfold Mem.sizedE at hsz
    split at hsz
    · cases hsz
    · split at hsz
      · cases hsz
      · rename_i g1 g2
        simp only [List.any_eq_true, decide_eq_true_eq, not_exists, not_and] at g2
        exact ⟨by omega, fun l hl => by have := g2 l hl; omega⟩
  exact ⟨Mem.Inv.new q.1 q.2 hY0 hH0 hY hH, fun r hr => .inl (List.eq_of_mem_replicate hr)⟩
theorem inv_room {m : Mem} {Y H : Nat} (h : m.Inv Y H) : (m.young.used : Int) ≤ Y ∧ 0 ≤ m.left ∧ (m.now.used : Int) + m.left ≤ H := by
  have h1 := h.ty.le
  have h2 := h.geo.yl
  have h3 := h.rm
  have h4 := h.lf
  omega

theorem light_of {ss : List (List Bool)} {n : Nat} (h : lightE ss n = true) : ss.length ≤ 8 ∧ n ≤ 300 ∧ ∀ l ∈ ss, l.length ≤ 70 := by
  unfold lightE fitE at h
  simp only [Bool.and_eq_true, decide_eq_true_eq, List.all_eq_true] at h
  refine ⟨h.1.1, h.2, fun l hl => ?_⟩
  have := h.1.2.1 l hl
  unfold fitRow at this
  simp only [Bool.not_eq_true', Bool.or_eq_false_iff, decide_eq_false_iff_not] at this
  omega

set_option maxRecDepth 100000 in
set_option maxHeartbeats 8000000 in
theorem c_HeapRoom (w : World) (D : Nat → Prop) (v : Value) (ss : List (List Bool)) (h : ShRep w D v ss) (hD : ∀ k, D k → k < w.heap.size) (half young : Int) (hh : 0 ≤ half ∧ half ≤ 65535) (hy : 0 ≤ young ∧ young ≤ 65535)
    (rt : Int) (hrt : 0 ≤ rt ∧ rt ≤ 255) (E : Nat → Prop) (av : Value) (xs : List (Int × Int × Int × Int)) (hx : ActsAt w E av xs) (hE : ∀ k, E k → k < w.heap.size) (hwf : ∀ x ∈ xs, x.2.1 ≤ 9223372036854775807) (sp : Int) (hsp : 0 ≤ sp ∧ sp ≤ 255) :
    Calls Try.prog 5 #[v, .int .u16 half, .int .u16 young, .int .u8 rt, av, .int .u8 sp] w fun e w' => e = .returned (.bool true) ∧ Below w.heap.size w w' := by
  have hshH := Lib.hid h
  have hxH := Lib.hid hx
  have hwfH := Lib.hid hwf
  obtain ⟨p, cap, rfl, -⟩ := h
  obtain ⟨ap, acap, rfl, -⟩ := hx
  have hlg := c_light w D _ ss hshH.out ap xs.length acap
  clear hwf
  cases hle : lightE ss xs.length with
  | false =>
    rw [hle] at hlg
    clear hle
    go_enter Try.func5, Try.ntmps5
    go_wp2_with (fail)
    refine hlg.mono ?_
    rintro e w1 ⟨rfl, rfl⟩
    go_wp2_with (fail)
    refine (c_sanity _).mono ?_
    rintro e w2 ⟨rfl, hb⟩
    go_wp2
    go_ret
    exact ⟨rfl, hb⟩
  | true =>
    rw [hle] at hlg
    obtain ⟨l8, l300, l70⟩ := light_of hle
    clear hle
    by_cases hz : ss.length = 0
    · have hzI : ((ss.length : Nat) : Int) = 0 := by omega
      have hzB : (((ss.length : Nat) : Int) == 0) = true := by simp [hzI]
      clear hzI hz l8 l70
      go_enter Try.func5, Try.ntmps5
      go_wp2_with (fail)
      refine hlg.mono ?_
      rintro e w1 ⟨rfl, rfl⟩
      go_wp2_with (fail)
      refine (c_sanity _).mono ?_
      rintro e w2 ⟨rfl, hb⟩
      go_wp2
      go_ret
      exact ⟨rfl, hb⟩
    · have hzB : (((ss.length : Nat) : Int) == 0) = false := by rw [beq_eq_false_iff_ne]; omega
      have hsc := c_spaces w half young hh hy
      generalize hH' : 1 + half.toNat % 600 = H at hsc
      generalize hY' : 1 + young.toNat % 100 = Y at hsc
      have hH0 : 0 < H ∧ H ≤ 600 := by omega
      have hY0 : 0 < Y ∧ Y ≤ 100 := by omega
      obtain ⟨n, hn⟩ : ∃ n : Nat, (n : Int) = 1 + rt % 20 := ⟨(1 + rt % 20).toNat, by omega⟩
      have hn0 : 0 < n ∧ n ≤ 20 := by omega
      clear hH' hY' hh hy
      by_cases hsz : Mem.sizedE ss = 0
      · obtain ⟨p', es, hrun, hok, -⟩ := Pl.run_of xs (inv_new n hsz hY0.1 hH0.1 (by omega) (by omega))
        have hpl := (c_Play w D _ ss hshH.out hD Y H hsz hY0.1 hH0.1 (by omega) (by omega) n (by omega) E _ xs hxH.out hE (by omega) hwfH.out p' es hrun).mono
          (R' := fun e w' => ∃ L rv ev, e = .returned (.tuple #[.pointer (some ⟨L.b, 0, none⟩), rv, ev, .int .i64 0]) ∧ OwnR w w' L p'.mem ∧ OutAt w' (fun k => 0 ≤ k ∧ k ∉ L.fp) rv p'.roots)
          fun e w' ⟨L, pb, rv, ev, q1, q2, _, q4, q5, _⟩ => ⟨L, rv, ev, q1, ⟨q2.rep, fun k hk => q5 k (.inl hk), q4⟩, q2.out.mono fun k hk _ => ⟨Nat.zero_le _, hk.1⟩⟩
        have hI := hok.inv.inv
        have hmsh : p'.mem.shapes = ss := hok.shapes
        have hrl : p'.roots.length = n := by have := hok.len; simpa using this
        generalize p'.mem = m at *
        generalize p'.roots = rs at *
        clear hok hrun
        rw [hn] at hpl
        obtain ⟨sN, hsN⟩ : ∃ sN : Nat, (sp % (ss.length : Int)).toNat = sN := ⟨_, rfl⟩
        have hs0 : 0 ≤ sp % (ss.length : Int) := Int.emod_nonneg _ (by omega)
        have hs1 : sp % (ss.length : Int) < (ss.length : Int) := Int.emod_lt_of_pos _ (by omega)
        have hsl : sN < ss.length := by omega
        obtain ⟨b, o, cap', u, nl, c, hv, hcell, hnl⟩ := hshH.out.row hsl
        simp only [Value.slice.injEq, true_and] at hv
        obtain ⟨rfl, rfl⟩ := hv
        have hnl70 : nl ≤ 70 := by rw [hnl]; exact l70 _ (List.getElem_mem hsl)
        have hIH := Lib.hid hI
        have hrm1 := inv_room hI
        have hmshH := Lib.hid hmsh
        have hrlH := Lib.hid hrl
        have hcellH := Lib.hid hcell
        have hnlH := Lib.hid hnl
        have hsNH := Lib.hid hsN
        have hbl := lt_of_cell hcell
        clear hI hmsh hrl hcell hnl hsN hn hsz l70 hE hD
        go_enter Try.func5, Try.ntmps5
        go_wp2_with (fail)
        refine hlg.mono ?_
        rintro e w1 ⟨rfl, rfl⟩
        go_wp2_with (fail)
        refine hsc.mono ?_
        rintro e w2 ⟨rfl, rfl⟩
        go_wp2_with (fail)
        refine hpl.mono ?_
        rintro e W3 ⟨L, rv, ev, rfl, hO, ho⟩
        clear hpl hlg hsc
        have hroom := (c_Room W3 L m hO.rep).mono (R' := fun e w' => e = .returned (.agg #[.int .i64 m.young.used, .int .i64 m.now.used, .int .i64 m.left]) ∧ OwnR w2 w' L m ∧ OutAt w' (fun k => 0 ≤ k ∧ k ∉ L.fp) rv rs)
          fun e w' ⟨q1, q2⟩ => ⟨q1, hO.below q2, ho.ev (Ev.of_fr (Fr.of_below q2))⟩
        clear hO ho
        go_wp2_with (fail)
        refine hroom.mono ?_
        rintro e W4 ⟨rfl, hO4, ho4⟩
        clear hroom
        have hO5 := hO4.below (W' := W4.alloc (.cells #[.int .i64 m.young.used, .int .i64 m.now.used, .int .i64 m.left] 54)) ((Below.refl _ _).alloc (Nat.le_refl _) _)
        have ho5 := ho4.ev (W' := W4.alloc (.cells #[.int .i64 m.young.used, .int .i64 m.now.used, .int .i64 m.left] 54)) (Ev.of_fr ((Fr.refl _ W4).alloc _))
        have hz5 := al_same W4 (.cells #[.int .i64 m.young.used, .int .i64 m.now.used, .int .i64 m.left] 54)
        have r0 : (W4.alloc (.cells #[.int .i64 m.young.used, .int .i64 m.now.used, .int .i64 m.left] 54)).cell? ⟨W4.heap.size, 0, none⟩ = some (.int .i64 m.young.used) := by rw [cell_of hz5]; rfl
        have r1 : (W4.alloc (.cells #[.int .i64 m.young.used, .int .i64 m.now.used, .int .i64 m.left] 54)).cell? ⟨W4.heap.size, 1, none⟩ = some (.int .i64 m.now.used) := by rw [cell_of hz5]; rfl
        have r2 : (W4.alloc (.cells #[.int .i64 m.young.used, .int .i64 m.now.used, .int .i64 m.left] 54)).cell? ⟨W4.heap.size, 2, none⟩ = some (.int .i64 m.left) := by rw [cell_of hz5]; rfl
        obtain ⟨m1, lv, e1, hs1', hI1, hsh1⟩ := hIH.out.stepE (2 * (H : Int))
        obtain rfl := step_zero (by omega) hs1'
        have hst := (c_Step _ L m m1 hO5.rep (2 * (H : Int)) lv 0 (by omega) hs1').mono (R' := fun e w' => ∃ L', e = .returned (.tuple #[.int .i64 lv, .int .i64 0]) ∧ OwnR w2 w' L' m1 ∧ OutAt w' (fun k => 0 ≤ k ∧ k ∉ L'.fp) rv rs ∧ L'.b = L.b)
          fun e w' ⟨L', q1, q2, q3⟩ => ⟨L', q1, hO5.ev q2 q3, ho5.ev q3, q3.b⟩
        have hM1 := Lib.hid (And.intro hI1 (hsh1.trans hmshH.out))
        clear hO4 ho4 hO5 ho5 hz5 hs1' hI1 hsh1
        have q1 : ¬ (m.young.used : Int) < 0 := by omega
        have q2 : ¬ (Y : Int) < (m.young.used : Int) := by omega
        have q3 : ¬ (m.now.used : Int) < 0 := by omega
        have q4 : ¬ m.left < 0 := by omega
        have q5 : ¬ (H : Int) - m.left < (m.now.used : Int) := by omega
        go_wp2_with (fail)
        refine hst.mono ?_
        rintro e W6 ⟨L1, rfl, hO6, ho6, hb6⟩
        have hwh := (c_whole W6 L1 m1 hO6.rep hM1.out.1 _ rv rs ho6.ints (by rw [hrlH.out]; omega) 7 (by omega)).mono (R' := fun e w' => ∃ v' seen ok L' m' out, e = .returned (.tuple #[v', .int .i64 seen, .bool ok]) ∧ OwnR w2 w' L' m' ∧ L'.b = L.b ∧ L'.D = L1.D ∧ WhR W6 w' L1 L' rs.length m1 m' Y H v' ok out)
          fun e w' ⟨v', seen, ok, L', m', out, q1, q2⟩ => ⟨v', seen, ok, L', m', out, q1, hO6.ev q2.rep q2.ev, q2.ev.b.trans hb6, q2.ev.D, q2⟩
        rw [hb6] at hwh
        have hD6 := Lib.hid hO6.rep.Dlt
        have hW6 := Lib.hid hO6.bl.size
        clear hst r0 r1 r2 q1 q2 q3 q4 q5 hO6 hb6
        obtain ⟨rvp, rvc, hrvs, -⟩ := ho6
        subst hrvs
        go_wp2_with (fail)
        refine hwh.mono ?_
        rintro e W7 ⟨v7, seen, ok, L7, m7, out, rfl, hO7, hb7, hD7, hR7⟩
        clear hwh
        cases ok with
        | false =>
          go_wp2_with (fail)
          refine (c_sanity _).mono ?_
          rintro e W8 ⟨rfl, hb⟩
          have hfin := (hO7.below hb).bl
          clear hR7 hO7
          go_wp2
          go_ret
          exact ⟨rfl, hfin⟩
        | true =>
          obtain ⟨y1, y2, y3, y4⟩ := hR7.yes rfl
          have hsh7 : m7.shapes = ss := hR7.sh.trans hM1.out.2
          have hlen7 : out.length = n := y1.trans hrlH.out
          have hsa : m7.shapeAt (sp % (ss.length : Int)) = some ss[sN] := by
            unfold Mem.shapeAt
            rw [if_pos hs0, hsh7, hsNH.out]
            exact List.getElem?_eq_getElem hsl
          have hcell7 : W7.cell? ⟨b, o + (sp % (ss.length : Int)).toNat, none⟩ = some (.slice u nl c) := by
            rw [hsNH.out, hO7.bl.cell hbl]; exact hcellH.out
          obtain ⟨ag, acp, hvs, hag⟩ : ∃ g cap, v7 = .slice (some ⟨g, 0, none⟩) out.length cap ∧ (W6.heap.size ≤ g ∧ g ∉ L7.fp) ∧ Row W7 g 3 (out.map (.int .i64)) := by
            obtain ⟨p0, c0, e0, e1 | ⟨g, e1, e2, e3⟩⟩ := y4
            · rw [e1] at hlen7; simp at hlen7; omega
            · exact ⟨g, c0, by rw [e0, e1], e2, e3⟩
          subst hvs
          have hal := c_Alloc W7 L7 m7 hO7.rep (sp % (ss.length : Int))
          rw [hb7] at hal
          have hO7H := Lib.hid hO7
          have hy2H := Lib.hid y2
          have hy3H := Lib.hid y3
          have hy4H := Lib.hid y4
          have hagH := Lib.hid hag
          have hb7H := Lib.hid hb7
          have hD7H := Lib.hid hD7
          have hsaH := Lib.hid hsa
          have hlen7H := Lib.hid hlen7
          clear hR7 hO7 y1 y2 y3 y4 hsh7 hag hb7 hD7 hsa hlen7 hcellH
          by_cases hbig : (Y : Int) < 1 + (nl : Int)
          · have hfull := hy2H.out.full hsaH.out (by have := hnlH.out; push_cast; omega)
            rw [hfull] at hal
            replace hal := hal.mono (R' := fun e w' => e = .returned (.tuple #[.int .i64 0, .int .i64 14]) ∧ OwnR w2 w' L7 m7) fun e w' ⟨q1, q2, q3⟩ => ⟨q1, hO7H.out.fr q2 q3⟩
            clear hfull
            go_wp2_with (fail)
            refine hal.mono ?_
            rintro e W8 ⟨rfl, hO8⟩
            clear hal hcell7
            go_wp2_with (fail)
            refine (c_sanity _).mono ?_
            rintro e W9 ⟨rfl, hb⟩
            have hfin := (hO8.below hb).bl
            clear hO8
            go_wp2
            go_ret
            exact ⟨rfl, hfin⟩
          · obtain ⟨m8, at', z1, z2, z3, z4, z5, z6, z7, z8⟩ := hy2H.out.alloc hsaH.out (by have := hnlH.out; push_cast; omega)
            rw [z1] at hal
            have hout0 : 0 < out.length := by rw [hlen7H.out]; omega
            replace hal := hal.mono (R' := fun e w' => e = .returned (.tuple #[.int .i64 at', .int .i64 0]) ∧ OwnR w2 w' L7 m8 ∧ Row w' ag 3 (out.map (.int .i64)) ∧ W7.heap.size ≤ w'.heap.size) fun e w' ⟨q1, q2, q3⟩ =>
              ⟨q1, hO7H.out.fr q2 q3, hagH.out.2.of_block (q3.block ag hagH.out.2.lt hagH.out.1.2), q3.size⟩
            have hzz := Lib.hid (And.intro z2 (And.intro z3 (And.intro z4 (And.intro z5 (And.intro z6 (And.intro z7 z8))))))
            clear z1 z2 z3 z4 z5 z6 z7 z8
            go_wp2_with (fail)
            refine hal.mono ?_
            rintro e W8 ⟨rfl, hO8, hrow8, hsz8⟩
            have hlm : (out.map (Value.int .i64)).length = out.length := by simp
            obtain ⟨c8, hc8⟩ : ∃ c8, W8.cell? ⟨ag, 0, none⟩ = some c8 := ⟨_, hrow8.cell (i := 0) (by rw [hlm]; exact hout0)⟩
            have hz8 := hrow8.free 0
            have f9 : Fr (fun k => k = ag) W8 (W8.setCell ⟨ag, 0, none⟩ (.int .i64 at')) := (Fr.refl _ _).setCell _ _ (.inl rfl)
            have hrow9 := hrow8.set (i := 0) (by rw [hlm]; exact hout0) (.int .i64 at')
            have hO9 : OwnR w2 (W8.setCell ⟨ag, 0, none⟩ (.int .i64 at')) L7 m8 :=
              ⟨hO8.rep.fr f9 (fun k hk e => hagH.out.1.2 (by subst e; exact hk)) (fun k hk e => by rw [hD7H.out] at hk; have := hD6.out k hk; have := hagH.out.1.1; omega), hO8.fpB,
                Fr.to_below hO8.bl hO8.bl.size f9 fun k e => by rw [e]; exact Nat.le_trans hW6.out hagH.out.1.1⟩
            obtain ⟨m9, out2, e9, hmE, hMR⟩ := hzz.out.1.minorE (out.set 0 at')
            have hints : IntsAt (W8.setCell ⟨ag, 0, none⟩ (.int .i64 at')) (fun _ => True) (.slice (some ⟨ag, 0, none⟩) out.length acp) (out.set 0 at') :=
              OutAt.ints ⟨some ⟨ag, 0, none⟩, acp, by simp, .inr ⟨ag, rfl, trivial, by rw [List.map_set]; exact hrow9⟩⟩
            have hmn := (c_Minor _ L7 m8 m9 hO9.rep (fun _ => True) _ (out.set 0 at') out2 e9 hints (by rw [List.length_set, hlen7H.out]; omega) hmE).mono (R' := fun e w' => ∃ v' L', e = .returned (.tuple #[v', .int .i64 e9]) ∧ OwnR w2 w' L' m9 ∧ L'.b = L.b)
              fun e w' ⟨v', L', q1, q2, q3, _⟩ => ⟨v', L', q1, hO9.ev q2 q3, q3.b.trans hb7H.out⟩
            rw [hb7H.out] at hmn
            have hres : e9 = 0 ∨ (e9 = 14 ∧ (H : Int) < (m9.now.used : Int) + (1 + (nl : Int))) := by
              have hr0 : m8.rooted (out.set 0 at') = 0 := Mem.rooted_of (by rw [List.length_set, hlen7H.out]; omega) fun r hr => by
                rcases List.mem_or_eq_of_mem_set hr with q | q
                · exact (hy2H.out.cur r q).imp id (hzz.out.2.2.1 r)
                · rw [q]; exact .inr (.inl hzz.out.2.1)
              cases hMR with
              | rooted _ q1 q2 => exact absurd (q1.symm.trans hr0) q2
              | ok => exact .inl rfl
              | full n0 q1 q2 q3 =>
                refine .inr ⟨rfl, ?_⟩
                have k1 := hzz.out.2.2.2.2.2.2 _ _ q2
                have k2 := hzz.out.2.2.2.1
                have k3 := hzz.out.2.2.2.2.1
                have k4 := (hy2H.out.inv.idle hy3H.out).2.1
                have k5 := hzz.out.1.geo.nl
                have k6 := hnlH.out
                unfold Sp.room at q3
                rw [k5, k3, k4] at q3
                push_cast at k1
                omega
            have hu9 : (m9.now.used : Int) ≤ 4096 ∧ 0 ≤ (m9.now.used : Int) := by
              have k1 := hMR.inv hzz.out.1
              have k2 := k1.tn.le
              have k3 := k1.geo.nl
              omega
            have hne8 : (((out.length : Nat) : Int) == 0) = false := by rw [beq_eq_false_iff_ne]; omega
            have hlt8 : (0 : Int) < (out.length : Int) := by omega
            have hresH := Lib.hid hres
            clear hal hrow8 hsz8 hlm f9 hrow9 hO8 hO9 hmE hMR hints hres hcell7 hout0
            go_wp2_with (fail)
            refine hmn.mono ?_
            rintro e W10 ⟨v10, L10, rfl, hO10, hb10⟩
            have hO10H := Lib.hid hO10
            have hb10H := Lib.hid hb10
            clear hmn hO10 hb10 hc8 hz8 hne8 hlt8
            go_wp2_with (fail)
            refine (c_sanity _).mono ?_
            rintro e W11 ⟨rfl, hb11⟩
            have hO11 := hO10H.out.below hb11
            by_cases he0 : e9 = 0
            · subst he0
              have hfin := hO11.bl
              clear hO11 hb11
              go_wp2
              go_ret
              exact ⟨rfl, hfin⟩
            · obtain ⟨h14, hgt⟩ := hresH.out.resolve_left he0
              subst h14
              have hrm := (c_Room W11 L10 m9 hO11.rep).mono (R' := fun e w' => e = .returned (.agg #[.int .i64 m9.young.used, .int .i64 m9.now.used, .int .i64 m9.left]) ∧ Below w2.heap.size w2 w') fun e w' ⟨q1, q2⟩ => ⟨q1, (hO11.below q2).bl⟩
              rw [hb10H.out] at hrm
              clear hO11 hb11 he0
              have hfd := room_old
              go_wp2_with (fail)
              refine hrm.mono ?_
              rintro e W12 ⟨rfl, hfin⟩
              clear hrm
              go_wp2
              go_ret
              exact ⟨rfl, hfin⟩
      · have hpl := c_Play_limit w D _ ss hshH.out (by omega) (fun l hl => by have := l70 l hl; omega) (Y : Int) (H : Int) (n : Int) hsz ap xs.length acap
        rw [hn] at hpl
        clear hn hsz l70
        go_enter Try.func5, Try.ntmps5
        go_wp2_with (fail)
        refine hlg.mono ?_
        rintro e w1 ⟨rfl, rfl⟩
        go_wp2_with (fail)
        refine hsc.mono ?_
        rintro e w2 ⟨rfl, rfl⟩
        go_wp2_with (fail)
        refine hpl.mono ?_
        rintro e w3 ⟨rfl, rfl⟩
        go_wp2_with (fail)
        refine (c_sanity _).mono ?_
        rintro e w2 ⟨rfl, hb⟩
        go_wp2
        go_ret
        exact ⟨rfl, hb⟩
end Go.Proofs.Ytnedmmopkhmejaa
