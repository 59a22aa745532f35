/- Walks: fit, light, spaces. -/
import Derived.Test.YtnedmmopkhmejaaHA9
namespace Go.Proofs.Hp
def fitRow (l : List Bool) : Bool := !((decide (l.length > 8) && decide (l.length ≤ 60)) || decide (l.length > 70))
def fitE (ss : List (List Bool)) : Bool := ss.all fitRow && (decide (ss.length ≤ 8) || (decide (ss.length > 60) && decide (ss.length ≤ 70)))
end Go.Proofs.Hp
namespace Go.Proofs.Ytnedmmopkhmejaa
open Go.RowKit Go.Proofs.Hp
attribute [local go_sem] Oper.semAt_some

theorem ShRep.row {w : World} {D : Nat → Prop} {v : Value} {ss : List (List Bool)} (h : ShRep w D v ss) {k : Nat} (hk : k < ss.length) :
    ∃ b o cap u n c, v = .slice (some ⟨b, o, none⟩) ss.length cap ∧ w.cell? ⟨b, o + k, none⟩ = some (.slice u n c) ∧ n = ss[k].length := by
  obtain ⟨b, o, cap, u, h1, h2, h3, p, c, h4, _⟩ := h.at (List.getElem?_eq_getElem hk)
  exact ⟨b, o, cap, p, _, c, h1, by rw [h3, h4], rfl⟩

set_option maxRecDepth 100000 in
set_option maxHeartbeats 2000000 in
theorem c_fit (w : World) (D : Nat → Prop) (v : Value) (ss : List (List Bool)) (h : ShRep w D v ss) (hl : ss.length ≤ 1048576) :
    Calls Try.prog 12 #[v] w fun e w' => e = .returned (.bool (fitE ss)) ∧ w' = w := by
  have h' := Lib.hid h
  obtain ⟨p, cap, rfl, -⟩ := h
  go_enter Try.func12, Try.ntmps12
  go_wp2
  go_loopw [3] (fun i wr => ∃ k : Nat, k ≤ ss.length ∧ i = .int .i64 k ∧ wr = w ∧ (ss.take k).all fitRow = true) (fun i _ => ss.length - (intOf i).toNat)
  case atStart => exact ⟨0, by omega, rfl, rfl, rfl⟩
  case round =>
    obtain ⟨k, hk, rfl, rfl, hall⟩ := hrel
    have hallH := Lib.hid hall
    clear hall
    by_cases hlt : k < ss.length
    · obtain ⟨b, o, cap', u, n, c, h1, h2, h3⟩ := h'.out.row hlt
      simp only [Value.slice.injEq, true_and] at h1
      obtain ⟨rfl, rfl⟩ := h1
      have hltI : (k : Int) < (ss.length : Int) := by omega
      have hfr : fitRow ss[k] = !((decide (n > 8) && decide (n ≤ 60)) || decide (n > 70)) := by rw [h3]; rfl
      have hfrH := Lib.hid hfr
      clear hfr h3
      by_cases n8 : (8 : Int) < (n : Int)
      · by_cases n60 : (n : Int) ≤ 60
        · skip
          go_wp2
          go_ret
          refine ⟨?_, rfl⟩
          have : fitE ss = false := by
            unfold fitE
            rw [Bool.and_eq_false_iff]
            left
            rw [List.all_eq_false]
            exact ⟨ss[k], List.getElem_mem hlt, by rw [hfrH.out]; simp <;> omega⟩
          rw [this]
          rfl
        · by_cases n70 : (70 : Int) < (n : Int)
          · skip
            go_wp2
            go_ret
            refine ⟨?_, rfl⟩
            have : fitE ss = false := by
              unfold fitE
              rw [Bool.and_eq_false_iff]
              left
              rw [List.all_eq_false]
              exact ⟨ss[k], List.getElem_mem hlt, by rw [hfrH.out]; simp <;> omega⟩
            rw [this]
            rfl
          · skip
            go_wp2
            go_roundw
            case rel =>
              refine ⟨k + 1, by omega, by go_num, by first | rfl | trivial, ?_⟩
              rw [List.take_succ_eq_append_getElem hlt, List.all_append, hallH.out]
              simp only [List.all_cons, List.all_nil, Bool.and_true, Bool.true_and]
              rw [hfrH.out]; simp <;> omega
            case measure => simp [intOf]; omega
      · have n70 : ¬ (70 : Int) < (n : Int) := by omega
        go_wp2
        go_roundw
        case rel =>
          refine ⟨k + 1, by omega, by go_num, by first | rfl | trivial, ?_⟩
          rw [List.take_succ_eq_append_getElem hlt, List.all_append, hallH.out]
          simp only [List.all_cons, List.all_nil, Bool.and_true, Bool.true_and]
          rw [hfrH.out]; simp <;> omega
        case measure => simp [intOf]; omega
    · obtain rfl : k = ss.length := by omega
      have ha := hallH.out
      rw [List.take_length] at ha
      have hfe : fitE ss = (decide (ss.length ≤ 8) || (decide (ss.length > 60) && decide (ss.length ≤ 70))) := by unfold fitE; rw [ha]; simp
      have hge : ¬ (ss.length : Int) < (ss.length : Int) := by omega
      clear ha
      by_cases s8 : (ss.length : Int) ≤ 8
      · skip
        have hres : fitE ss = true := by rw [hfe]; simp; omega
        have hresH := Lib.hid hres
        clear hfe hres
        go_wp2
        go_ret
        exact ⟨by rw [hresH.out]; rfl, rfl⟩
      · by_cases s60 : (60 : Int) < (ss.length : Int)
        · by_cases s70 : (ss.length : Int) ≤ 70
          · skip
            have hres : fitE ss = true := by rw [hfe]; simp; omega
            have hresH := Lib.hid hres
            clear hfe hres
            go_wp2
            go_ret
            exact ⟨by rw [hresH.out]; rfl, rfl⟩
          · skip
            have hres : fitE ss = false := by rw [hfe]; simp; omega
            have hresH := Lib.hid hres
            clear hfe hres
            go_wp2
            go_ret
            exact ⟨by rw [hresH.out]; rfl, rfl⟩
        · skip
          have hres : fitE ss = false := by rw [hfe]; simp; omega
          have hresH := Lib.hid hres
          clear hfe hres
          go_wp2
          go_ret
          exact ⟨by rw [hresH.out]; rfl, rfl⟩

def lightE (ss : List (List Bool)) (n : Nat) : Bool := decide (ss.length ≤ 8) && fitE ss && decide (n ≤ 300)
set_option maxRecDepth 100000 in
set_option maxHeartbeats 2000000 in
theorem c_light (w : World) (D : Nat → Prop) (v : Value) (ss : List (List Bool)) (h : ShRep w D v ss) (q : Option Addr) (n cap : Nat) :
    Calls Try.prog 28 #[v, .slice q n cap] w fun e w' => e = .returned (.bool (lightE ss n)) ∧ w' = w := by
  have hH := Lib.hid h
  obtain ⟨p, cap', rfl, -⟩ := h
  by_cases s8 : (ss.length : Int) ≤ 8
  · have hf := c_fit w D _ ss hH.out (by omega)
    cases hfe : fitE ss with
    | false =>
      rw [hfe] at hf
      have hres : lightE ss n = false := by unfold lightE; rw [hfe]; simp
      rw [hres]
      clear hres hfe
      go_enter Try.func28, Try.ntmps28
      go_wp2_with (fail)
      refine hf.mono ?_
      rintro e w1 ⟨rfl, rfl⟩
      go_wp2
      go_ret
      exact ⟨rfl, rfl⟩
    | true =>
      rw [hfe] at hf
      by_cases n3 : (n : Int) ≤ 300
      · have hres : lightE ss n = true := by unfold lightE; rw [hfe]; simp; omega
        rw [hres]
        clear hres hfe
        go_enter Try.func28, Try.ntmps28
        go_wp2_with (fail)
        refine hf.mono ?_
        rintro e w1 ⟨rfl, rfl⟩
        go_wp2
        go_ret
        exact ⟨rfl, rfl⟩
      · have hres : lightE ss n = false := by unfold lightE; rw [hfe]; simp; omega
        rw [hres]
        clear hres hfe
        go_enter Try.func28, Try.ntmps28
        go_wp2_with (fail)
        refine hf.mono ?_
        rintro e w1 ⟨rfl, rfl⟩
        go_wp2
        go_ret
        exact ⟨by show Ending.returned (.bool (decide ((n : Int) ≤ 300))) = _; rw [decide_eq_false (by omega)], rfl⟩
  · have hres : lightE ss n = false := by unfold lightE; simp; omega
    rw [hres]
    clear hres
    go_enter Try.func28, Try.ntmps28
    go_wp2
    go_ret
    exact ⟨rfl, rfl⟩

set_option maxRecDepth 100000 in
theorem c_spaces (w : World) (a b : Int) (ha : 0 ≤ a ∧ a ≤ 65535) (hb : 0 ≤ b ∧ b ≤ 65535) :
    Calls Try.prog 29 #[.int .u16 a, .int .u16 b] w fun e w' => e = .returned (.tuple #[.int .i64 (((1 + (a.toNat % 600 : Nat) : Nat)) : Int), .int .i64 (((1 + (b.toNat % 100 : Nat) : Nat)) : Int)]) ∧ w' = w := by
  obtain ⟨x, rfl⟩ : ∃ x : Nat, a = (x : Int) := ⟨a.toNat, by omega⟩
  obtain ⟨y, rfl⟩ : ∃ y : Nat, b = (y : Int) := ⟨b.toNat, by omega⟩
  go_enter Try.func29, Try.ntmps29
  go_wp2
  go_ret2
  exact ⟨by simp, rfl⟩
end Go.Proofs.Ytnedmmopkhmejaa
