/- Walk: short; rows of calls, rows of what they gave. -/
import Derived.Test.YtnedmmopkhmejaaKHF1
import Derived.Laws.StructEq
set_option linter.unusedVariables false
set_option linter.unusedSimpArgs false
namespace Go.Proofs.Ytnedmmopkhmejaa
open Go.RowKit Go.Proofs.Hp
attribute [local go_sem] Oper.semAt_some

/-- A slice of calls that may be read. -/
def CallsAt (w : World) (D : Nat → Prop) (v : Value) (cs : List Call5) : Prop :=
  ∃ p cap, v = .slice p cs.length cap ∧ (cs = [] ∨ ∃ b o, p = some ⟨b, o, none⟩ ∧ D b ∧ ∀ i c, cs[i]? = some c → w.cell? ⟨b, o + i * 5, none⟩ = some (.int .i64 c.1.1) ∧ w.cell? ⟨b, o + i * 5 + 1, none⟩ = some (.int .i64 c.1.2.1) ∧
    w.cell? ⟨b, o + i * 5 + 2, none⟩ = some (.int .i64 c.1.2.2.1) ∧ w.cell? ⟨b, o + i * 5 + 3, none⟩ = some (.int .i64 c.1.2.2.2) ∧ ∃ rv, w.cell? ⟨b, o + i * 5 + 4, none⟩ = some rv ∧ IntsAt w D rv c.2)
theorem CallsAt.fr {S : Nat → Prop} {w w' : World} {D : Nat → Prop} {v : Value} {cs : List Call5} (h : CallsAt w D v cs) (hf : Fr S w w') (hD : ∀ k, D k → ¬ S k) : CallsAt w' D v cs := by
  obtain ⟨p, cap, hv, hq | ⟨b, o, hp, hb, hc⟩⟩ := h
  · exact ⟨p, cap, hv, .inl hq⟩
  · refine ⟨p, cap, hv, .inr ⟨b, o, hp, hb, fun i c hi => ?_⟩⟩
    obtain ⟨q0, q1, q2, q3, rv, q4, q5⟩ := hc i c hi
    exact ⟨hf.cell q0 (hD b hb), hf.cell q1 (hD b hb), hf.cell q2 (hD b hb), hf.cell q3 (hD b hb), rv, hf.cell q4 (hD b hb), q5.fr hf hD⟩
/-- One of them. -/
theorem CallsAt.at {w : World} {D : Nat → Prop} {p : Option Addr} {n cap : Nat} {cs : List Call5} (h : CallsAt w D (.slice p n cap) cs) {i : Nat} {c : Call5} (hi : cs[i]? = some c) :
    ∃ b o rp rz, p = some ⟨b, o, none⟩ ∧ w.cell? ⟨b, o + i * 5, none⟩ = some (.int .i64 c.1.1) ∧ w.cell? ⟨b, o + i * 5 + 1, none⟩ = some (.int .i64 c.1.2.1) ∧ w.cell? ⟨b, o + i * 5 + 2, none⟩ = some (.int .i64 c.1.2.2.1) ∧ w.cell? ⟨b, o + i * 5 + 3, none⟩ = some (.int .i64 c.1.2.2.2) ∧
      w.cell? ⟨b, o + i * 5 + 4, none⟩ = some (.slice rp c.2.length rz) ∧ IntsAt w D (.slice rp c.2.length rz) c.2 := by
  obtain ⟨q, cap', hv, hq | ⟨b, o, hp, hb, hc⟩⟩ := h
  · rw [hq] at hi; cases hi
  · obtain ⟨q0, q1, q2, q3, rv, q4, q5⟩ := hc i c hi
    simp only [Value.slice.injEq] at hv
    obtain ⟨rp, rz, hr, hr2⟩ := q5
    subst hr
    exact ⟨b, o, rp, rz, hv.1.trans hp, q0, q1, q2, q3, q4, rp, rz, rfl, hr2⟩

def shortRow (c : Call5) : Bool := !((decide (c.2.length > 20) && decide (c.2.length ≤ 200)) || decide (c.2.length > 210))
def shortE (cs : List Call5) : Bool := cs.all shortRow && decide (cs.length ≤ 60)
set_option maxRecDepth 100000 in
set_option maxHeartbeats 2000000 in
theorem c_short (w : World) (D : Nat → Prop) (v : Value) (cs : List Call5) (h : CallsAt w D v cs) (hl : cs.length ≤ 9223372036854775807) :
    Calls Try.prog 13 #[v] w fun e w' => e = .returned (.bool (shortE cs)) ∧ w' = w := by
  have h' := Lib.hid h
  obtain ⟨p, cap, rfl, -⟩ := h
  go_enter Try.func13, Try.ntmps13
  go_wp2
  go_loopw [3] (fun i wr => ∃ k : Nat, k ≤ cs.length ∧ i = .int .i64 k ∧ wr = w ∧ (cs.take k).all shortRow = true) (fun i _ => cs.length - (intOf i).toNat)
  case atStart => exact ⟨0, by omega, rfl, rfl, rfl⟩
  case round =>
    obtain ⟨k, hk, rfl, rfl, hall⟩ := hrel
    have hallH := Lib.hid hall
    clear hall
    by_cases hlt : k < cs.length
    · obtain ⟨b, o, rp, rz, rfl, -, -, -, -, y4, -⟩ := h'.out.at (List.getElem?_eq_getElem hlt)
      have hltI : (k : Int) < (cs.length : Int) := by omega
      obtain ⟨n, hn⟩ : ∃ n, cs[k].2.length = n := ⟨_, rfl⟩
      have hfr : shortRow cs[k] = !((decide (n > 20) && decide (n ≤ 200)) || decide (n > 210)) := by rw [← hn]; rfl
      have hfrH := Lib.hid hfr
      rw [hn] at y4
      clear hfr hn
      by_cases n8 : (20 : Int) < (n : Int)
      · by_cases n60 : (n : Int) ≤ 200
        · skip
          go_wp2
          go_ret
          refine ⟨?_, rfl⟩
          have : shortE cs = false := by
            unfold shortE
            rw [Bool.and_eq_false_iff]
            left
            rw [List.all_eq_false]
            exact ⟨cs[k], List.getElem_mem hlt, by rw [hfrH.out]; simp <;> omega⟩
          rw [this]
          rfl
        · by_cases n70 : (210 : Int) < (n : Int)
          · skip
            go_wp2
            go_ret
            refine ⟨?_, rfl⟩
            have : shortE cs = false := by
              unfold shortE
              rw [Bool.and_eq_false_iff]
              left
              rw [List.all_eq_false]
              exact ⟨cs[k], List.getElem_mem hlt, by rw [hfrH.out]; simp <;> omega⟩
            rw [this]
            rfl
          · skip
            go_wp2
            go_roundw
            case rel =>
              refine ⟨k + 1, by omega, by go_num, by first | rfl | trivial, ?_⟩
              rw [List.take_succ_eq_append_getElem hlt, List.all_append, hallH.out]
              simp only [List.all_cons, List.all_nil, Bool.and_true, Bool.true_and]
              rw [hfrH.out]; simp <;> omega
            case measure => simp [intOf]; omega
      · have n70 : ¬ (210 : Int) < (n : Int) := by omega
        go_wp2
        go_roundw
        case rel =>
          refine ⟨k + 1, by omega, by go_num, by first | rfl | trivial, ?_⟩
          rw [List.take_succ_eq_append_getElem hlt, List.all_append, hallH.out]
          simp only [List.all_cons, List.all_nil, Bool.and_true, Bool.true_and]
          rw [hfrH.out]; simp <;> omega
        case measure => simp [intOf]; omega
    · obtain rfl : k = cs.length := by omega
      have ha := hallH.out
      rw [List.take_length] at ha
      have hfe : shortE cs = decide (cs.length ≤ 60) := by unfold shortE; rw [ha]; simp
      have hge : ¬ (cs.length : Int) < (cs.length : Int) := by omega
      clear ha
      by_cases s8 : (cs.length : Int) ≤ 60
      · skip
        have hres : shortE cs = true := by rw [hfe]; simp; omega
        have hresH := Lib.hid hres
        clear hfe hres
        go_wp2
        go_ret
        exact ⟨by rw [hresH.out]; rfl, rfl⟩
      · skip
        have hres : shortE cs = false := by rw [hfe]; simp; omega
        have hresH := Lib.hid hres
        clear hfe hres
        go_wp2
        go_ret
        exact ⟨by rw [hresH.out]; rfl, rfl⟩
theorem short_of {cs : List Call5} (h : shortE cs = true) : cs.length ≤ 60 ∧ ∀ c ∈ cs, c.2.length ≤ 210 := by
  unfold shortE at h
  simp only [Bool.and_eq_true, decide_eq_true_eq, List.all_eq_true] at h
  refine ⟨h.2, fun c hc => ?_⟩
  have := h.1 c hc
  unfold shortRow at this
  simp at this
  omega

/-! What a call gave: two cells. -/
theorem Try.infoGot : (Try.prog.info? 89).map (fun i => (i.zero, i.size, i.bytes)) = some (some (.agg #[.int .i64 0, .int .i64 0]), 2, 16) := by kernel_rfl
theorem gotEql (a b c d : Int) (w : World) : (Op.equalIn 10000 89 (.agg #[.int .i64 a, .int .i64 b]) (.agg #[.int .i64 c, .int .i64 d])).run Try.prog w = .ok (a == c && b == d) w := by
  have u3 := Try.underlying3
  have a3 := Try.isAgg3
  have z3 := Try.sizeOf3
  have u28 := Try.underlying28
  have a28 := Try.isAgg28
  have z28 := Try.sizeOf28
  have hS : Try.prog.underlying 89 = some (.struct (Try.prog.fieldsOf 89)) := by kernel_rfl
  have hp : Try.prog.stoodInHeld 89 = false := by kernel_rfl
  rw [show (10000 : Nat) = 9999 + 1 from rfl, run_equalIn_agg w 9999 89 _ _ hS hp]
  simp only [Program.fieldsOf, Try.underlying89]
  go_simp
  by_cases h1 : a = c <;> by_cases h2 : b = d <;> simp [h1, h2]
theorem gotGuard (k : BinOp) (hk : k = .neq) (x y : Operand) (a b c d : Int) (w : World) : (eqGuard k 89 x y (.agg #[.int .i64 a, .int .i64 b]) (.agg #[.int .i64 c, .int .i64 d])).run Try.prog w = .ok () w := by
  subst hk
  exact run_eqGuard_agg w _ _ x y _ _ (by kernel_rfl)
def gotCells (g : Int × Int) : List Value := [.int .i64 g.1, .int .i64 g.2]
def flatGot (gs : List (Int × Int)) : List Value := gs.flatMap gotCells
theorem flatGot_app (xs ys : List (Int × Int)) : flatGot (xs ++ ys) = flatGot xs ++ flatGot ys := List.flatMap_append
theorem flatGot_at : ∀ (xs : List (Int × Int)) (i : Nat) (x : Int × Int), xs[i]? = some x → (flatGot xs)[i * 2]? = some (.int .i64 x.1) ∧ (flatGot xs)[i * 2 + 1]? = some (.int .i64 x.2)
  | [], _, _, h => by cases h
  | y :: ys, 0, x, h => by
    simp only [List.getElem?_cons_zero, Option.some.injEq] at h
    subst h
    exact ⟨rfl, rfl⟩
  | y :: ys, i + 1, x, h => by
    rw [List.getElem?_cons_succ] at h
    have := flatGot_at ys i x h
    have e : flatGot (y :: ys) = gotCells y ++ flatGot ys := rfl
    have hl : (gotCells y).length = 2 := rfl
    rw [e]
    refine ⟨?_, ?_⟩ <;> rw [List.getElem?_append_right (by rw [hl]; omega), hl]
    · rw [show (i + 1) * 2 - 2 = i * 2 by omega]; exact this.1
    · rw [show (i + 1) * 2 + 1 - 2 = i * 2 + 1 by omega]; exact this.2
theorem owns_got {W : World} {base : Nat} {p : Option Addr} {n cap : Nat} {gs : List (Int × Int)} (h : W.ownsRow base 89 2 (.slice p n cap) gs.length (flatGot gs)) {i : Nat} {x : Int × Int} (hi : gs[i]? = some x) :
    ∃ g, p = some ⟨g, 0, none⟩ ∧ W.cell? ⟨g, i * 2, none⟩ = some (.int .i64 x.1) ∧ W.cell? ⟨g, i * 2 + 1, none⟩ = some (.int .i64 x.2) := by
  rcases h.2 with ⟨hv, h0⟩ | ⟨g, cap', cur, hv, hb, hg, hn, _, hs, ht⟩
  · have := List.eq_nil_of_length_eq_zero h0
    rw [this] at hi; cases hi
  · simp only [Value.slice.injEq] at hv
    have := flatGot_at gs i x hi
    rw [← ht] at this
    simp only [List.getElem?_take] at this
    obtain ⟨q0, q1⟩ := this
    refine ⟨g, hv.1, ?_, ?_⟩ <;> rw [cell_of hg]
    · split at q0
      · simpa using q0
      · cases q0
    · split at q1
      · simpa using q1
      · cases q1
end Go.Proofs.Ytnedmmopkhmejaa
