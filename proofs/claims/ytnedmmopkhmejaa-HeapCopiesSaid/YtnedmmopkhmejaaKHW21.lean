/- Walk: ordered. -/
import Derived.Test.YtnedmmopkhmejaaKHW20
import Derived.Test.YtnedmmopkhmejaaKHPure
set_option linter.unusedVariables false
set_option linter.unusedSimpArgs false
namespace Go.Proofs.Ytnedmmopkhmejaa
open Go.RowKit Go.Proofs.Hp
attribute [local go_sem] Oper.semAt_some

set_option maxRecDepth 100000 in
theorem c_IndexBool (w : World) (p : Option Addr) (n cap : Nat) (hn : n ≤ 1048576) (hc : ∀ j, j < n → ∃ b o, p = some ⟨b, o, none⟩ ∧ w.cell? ⟨b, o + j, none⟩ = some (.bool false)) :
    Calls Try.prog 120 #[.slice p n cap, .bool true] w fun e w' => e = .returned (.int .i64 (-1)) ∧ w = w' := by
  have hcH := Lib.hid hc
  clear hc
  go_enter Try.func120, Try.ntmps120
  go_wp2_with (fail)
  go_loop [8] (fun i => ∃ (k : Nat), i = .int .i64 k ∧ k ≤ n) (fun i => n - (intOf i).toNat)
  case atStart => exact ⟨0, rfl, by omega⟩
  case round =>
    obtain ⟨k, rfl, hk⟩ := hrel
    by_cases hlt : k < n
    · obtain ⟨b, o, rfl, hu⟩ := hcH.out k hlt
      go_wp2
      go_round
      case rel => exact ⟨k + 1, by go_num, by omega⟩
      case measure => simp [intOf]; omega
    · go_wp2
      go_ret
      exact ⟨rfl, rfl⟩

set_option maxRecDepth 100000 in
theorem c_ContainsBool (w : World) (p : Option Addr) (n cap : Nat) (hn : n ≤ 1048576) (hc : ∀ j, j < n → ∃ b o, p = some ⟨b, o, none⟩ ∧ w.cell? ⟨b, o + j, none⟩ = some (.bool false)) :
    Calls Try.prog 113 #[.slice p n cap, .bool true] w fun e w' => e = .returned (.bool false) ∧ w = w' := by
  have hci := c_IndexBool w p n cap hn hc
  clear hc
  go_enter Try.func113, Try.ntmps113
  go_wp2_with (fail)
  refine hci.mono ?_
  rintro e w1 ⟨rfl, rfl⟩
  clear hci
  go_wp2
  go_ret
  exact ⟨rfl, rfl⟩

set_option maxRecDepth 100000 in
set_option maxHeartbeats 4000000 in
theorem c_ordered (w : World) (L : ML) (m : Mem) (h : MemRep w L m) (wh : Wh) (ht : Tl m.shapes (m.sp wh)) (f : Nat) (cap : Array Value) (hcf : ∀ args w, (callFunc f args).run Try.prog w = .ok (.enter f args) w)
    (his : ∀ W a, Below w.heap.size w W → (m.sp wh).begins a = true → Calls Try.prog f (#[.int .i64 a] ++ cap) W fun e w' => e = .returned (.bool true) ∧ Below W.heap.size W w') :
    Calls Try.prog 74 #[.pointer (some ⟨L.b, 0, none⟩), .pointer (some ⟨(L.spL wh).b, 0, none⟩), .func (.func f) #[] cap] w fun e w' => e = .returned (.bool true) ∧ Below w.heap.size w w' := by
  have x1 := (h.spR wh).c1
  have hgeo : (m.sp wh).used ≤ (m.sp wh).words.length ∧ (m.sp wh).words.length ≤ 1048576 ∧ (m.sp wh).frm ≤ 1048576 := ⟨(h.spR wh).le, (h.spR wh).b1, (h.spR wh).b2⟩
  obtain ⟨s, hs⟩ : ∃ s, s = m.sp wh := ⟨_, rfl⟩
  obtain ⟨Ls, hLs⟩ : ∃ Ls, Ls = L.spL wh := ⟨_, rfl⟩
  rw [← hs] at x1 hgeo ht his
  rw [← hLs] at x1 ⊢
  have hsH := Lib.hid hs
  have hLsH := Lib.hid hLs
  have htH := Lib.hid ht
  have hisH := Lib.hid his
  have hcfH := Lib.hid hcf
  obtain ⟨g1, g2, g3⟩ := hgeo
  have hst : Hid ((s.frm : Int) = s.top ∨ s.begins (s.frm : Int) = true) := Lib.hid (by
    by_cases e : s.used = 0
    · left; unfold Sp.top; omega
    · exact .inr (ht.first (by omega)))
  clear hs hLs ht his hcf
  go_enter Try.func74, Try.ntmps74
  go_wp2_with (fail)
  go_loopw [7] (fun x wr => ∃ (a : Int), x = .int .i64 a ∧ 0 ≤ a ∧ (Hid (a = s.top ∨ s.begins a = true)) ∧ Below w.heap.size w wr) (fun x _ => ((s.frm : Int) + (s.used : Int) - intOf x).toNat)
  case atStart => exact ⟨s.frm, rfl, by omega, hst, Below.refl _ _⟩
  case round =>
    clear x1 hst
    obtain ⟨a, rfl, ha0, hst, hB⟩ := hrel
    have hM := h.below hB
    have hsp : SpRep wr Ls s := by rw [hsH.out, hLsH.out]; exact hM.spR wh
    have y1 := hsp.c1
    have y2 := hsp.c2
    have w1 : IntKind.i64.wrap ((s.frm : Int) + (s.used : Int)) = (s.frm : Int) + (s.used : Int) := IntWalk.i64_in _ (by omega)
    have hMH := Lib.hid hM
    have hBH := Lib.hid hB
    clear hM hB
    by_cases hlt : a < (s.frm : Int) + (s.used : Int)
    · have hbg : s.begins a = true := by
        rcases hst.out with q | q
        · unfold Sp.top at q; omega
        · exact q
      obtain ⟨l, hob⟩ := htH.out.shape hbg
      have hbgH := Lib.hid hbg
      have hobH := Lib.hid hob
      have hst0 := hst
      clear hbg hob hst
      go_wp2_with (fail)
      go_quiet (fail)
      have hspn := hsp.drewN nq
      have hcb := c_begins (wr.drewN nq) Ls s hspn a
      rw [hbgH.out] at hcb
      go_wp2_with (fail)
      refine hcb.mono ?_
      rintro e w2 ⟨rfl, n2, rfl⟩
      have hB2 : Below w.heap.size w (wr.drewN (nq + n2)) := below_drewN hBH.out (nq + n2)
      have hic := hisH.out _ a hB2 hbgH.out
      have hcfe := hcfH.out (#[.int .i64 a] ++ cap)
      have hB2H := Lib.hid hB2
      clear hcb y1 y2 hspn hB2
      go_wp2_with (fail)
      refine hic.mono ?_
      rintro e w3 ⟨rfl, hb3⟩
      have hB3 := hB2H.out.trans (hb3.mono hB2H.out.size)
      have hM3 := h.below hB3
      have hsz0 := c_size w3 L m hM3 wh a (l.length + 1) (by rw [← hsH.out]; exact htH.out.size hobH.out (m := m) rfl)
      rw [← hLsH.out] at hsz0
      obtain ⟨N, hN⟩ : ∃ N, N = l.length + 1 := ⟨_, rfl⟩
      rw [← hN] at hsz0
      have hNH := Lib.hid hN
      clear hN
      have hl60 : l.length ≤ 60 := by
        have e := hobH.out.2
        unfold shapeOf at e
        split at e
        · exact h.sll l (List.mem_of_getElem? e)
        · cases e
      clear hic hcfe hb3
      go_wp2_with (fail)
      refine hsz0.mono ?_
      rintro e w4 ⟨rfl, n4, rfl⟩
      clear hsz0
      have hB4 : Below w.heap.size w (w3.drewN n4) := below_drewN hB3 n4
      have hsp4 : SpRep (w3.drewN n4) Ls s := by rw [hsH.out, hLsH.out]; exact (hM3.drewN n4).spR wh
      clear hsp hB3 hM3
      generalize w3.drewN n4 = W at *
      obtain ⟨i, hai, hiu, hist⟩ := Sp.begins_iff.1 hbgH.out
      obtain ⟨l', q1, q2, q3, q4⟩ := htH.out.obj i hiu hist
      obtain rfl : l' = l := by
        have e := hobH.out.2
        rw [hai, Sp.get_add, q1] at e
        exact Option.some.inj e
      have hnext : Hid (a + ((l'.length + 1 : Nat) : Int) = s.top ∨ s.begins (a + ((l'.length + 1 : Nat) : Int)) = true) := Lib.hid (by
        by_cases e2 : a + 1 + (l'.length : Int) < s.top
        · right
          have := htH.out.next hobH.out e2
          rw [show a + ((l'.length + 1 : Nat) : Int) = a + 1 + (l'.length : Int) by push_cast; omega]; exact this
        · left
          have := (htH.out.bound hobH.out).2
          push_cast; omega)
      have hslen := htH.out.len
      have hscap := hsp4.sc
      have hfalse : ∀ j, j < l'.length → W.cell? ⟨Ls.sb, i + 1 + j, none⟩ = some (.bool false) := fun j hj => by
        rw [hsp4.start (i := i + 1 + j) (by omega)]
        have := q3 (i + 1 + j) (by omega) (by omega)
        unfold Sp.st at this
        rw [this]
      have hcon : ∀ n p c, (l'.length = 0 ∨ p = some ⟨Ls.sb, i + 1, none⟩) → Calls Try.prog 113 #[.slice p l'.length c, .bool true] (W.drewN n) fun e w' => e = .returned (.bool false) ∧ ∃ k, w' = W.drewN k := fun n p c hp =>
        (c_ContainsBool (W.drewN n) p l'.length c (by omega) (fun j hj => by
          rcases hp with e | e
          · omega
          · exact ⟨_, _, e, hfalse j hj⟩)).mono fun _ _ ⟨h1, h2⟩ => ⟨h1, n, h2.symm⟩
      have y1 := hsp4.c1
      have y3 := hsp4.c3
      have hconH := Lib.hid hcon
      have hB4H := Lib.hid hB4
      clear hcon hfalse q1 q3 q4 hist
      have hNl : N = l'.length + 1 := hNH.out
      have hNlH := Lib.hid hNl
      subst hai
      have e1 : IntKind.i64.wrap ((s.frm : Int) + (i : Int) - (s.frm : Int)) = (i : Int) := by rw [show (s.frm : Int) + (i : Int) - (s.frm : Int) = (i : Int) by omega]; exact IntWalk.i64_in _ (by omega)
      have e2 : IntKind.i64.wrap ((i : Int) + 1) = (i : Int) + 1 := IntWalk.i64_in _ (by omega)
      have e3 : IntKind.i64.wrap ((i : Int) + (N : Int)) = (i : Int) + (N : Int) := IntWalk.i64_in _ (by omega)
      have e4 : IntKind.i64.wrap ((s.frm : Int) + (i : Int) + (N : Int)) = (s.frm : Int) + (i : Int) + (N : Int) := IntWalk.i64_in _ (by omega)
      have b1 : (i : Int) + 1 ≤ (i : Int) + (N : Int) := by omega
      have b2 : (i : Int) + (N : Int) ≤ (Ls.sc : Int) := by omega
      have b3 : (0 : Int) ≤ (i : Int) + 1 := by omega
      have b4 : (0 : Int) ≤ (i : Int) + (N : Int) := by omega
      have t1 : ((i : Int) + 1).toNat = i + 1 := by omega
      have t2 : ((i : Int) + (N : Int)).toNat = i + N := by omega
      have t3 : i + N - (i + 1) = l'.length := by omega
      have hlast : (s.frm : Int) + (i : Int) + (N : Int) ≤ (s.frm : Int) + (s.used : Int) := by omega
      have hlastH := Lib.hid hlast
      have hc1 := fun n => hconH.out n (some ⟨Ls.sb, i + 1, none⟩) (Ls.sc - (i + 1)) (.inr rfl)
      clear hlast hNl q2 hslen hscap
      dsimp only
      by_cases hcp : i + 1 = Ls.sc
      · have h0 : l'.length = 0 := by have := hsp4.sc; have := hNlH.out; have := (htH.out.le); have := htH.out.len; omega
        have hc0 := fun n p c => hconH.out n p c (.inl h0)
        have t4 : i + N - Ls.sc = l'.length := by omega
        have h0H := Lib.hid h0
        clear hc1 h0
        go_wp2_with (fail)
        go_quiet ((go_at_call 113; with_reducible exact hc0 _ _ _))
        clear hc0
        have hBf : Below w.heap.size w (W.drewN nq) := below_drewN hB4H.out nq
        have hlH := hlastH.out
        have hnextN : Hid ((s.frm : Int) + (i : Int) + (N : Int) = s.top ∨ s.begins ((s.frm : Int) + (i : Int) + (N : Int)) = true) := Lib.hid (by have q := hnext.out; rw [← hNlH.out] at q; exact q)
        have hN1 : 1 ≤ N := by have := hNlH.out; omega
        clear e1 e2 e3 b1 b2 b3 b4 t1 t2 t3 y1 y3 hcp
        go_wp2
        go_roundw
        case rel => exact ⟨_, rfl, by omega, hnextN, hBf⟩
        case measure => simp [intOf]; omega
      · go_wp2_with (fail)
        go_quiet ((go_at_call 113; exact hc1 _))
        clear hc1
        have hBf : Below w.heap.size w (W.drewN nq) := below_drewN hB4H.out nq
        have hlH := hlastH.out
        have hnextN : Hid ((s.frm : Int) + (i : Int) + (N : Int) = s.top ∨ s.begins ((s.frm : Int) + (i : Int) + (N : Int)) = true) := Lib.hid (by have q := hnext.out; rw [← hNlH.out] at q; exact q)
        have hN1 : 1 ≤ N := by have := hNlH.out; omega
        clear e1 e2 e3 b1 b2 b3 b4 t1 t2 t3 y1 y3 hcp
        go_wp2
        go_roundw
        case rel => exact ⟨_, rfl, by omega, hnextN, hBf⟩
        case measure => simp [intOf]; omega
    · have hae : a = (s.frm : Int) + (s.used : Int) := by
        rcases hst.out with q | q
        · exact q
        · obtain ⟨l, hl⟩ := htH.out.shape q
          have := htH.out.bound hl
          unfold Sp.top at this; omega
      have hae' : (a == (s.frm : Int) + (s.used : Int)) = true := by simpa using hae
      clear hae
      go_wp2_with (fail)
      go_quiet (fail)
      have hBf : Below w.heap.size w (wr.drewN nq) := below_drewN hBH.out nq
      have hsp2 := hsp.drewN nq
      clear hsp y1 y2
      generalize wr.drewN nq = W1 at *
      have y1 := hsp2.c1
      have y2 := hsp2.c2
      go_wp2_with (fail)
      go_quiet (fail)
      have hBf2 := below_drewN hBf nq
      go_wp2
      go_ret
      exact ⟨rfl, hBf2⟩
end Go.Proofs.Ytnedmmopkhmejaa
