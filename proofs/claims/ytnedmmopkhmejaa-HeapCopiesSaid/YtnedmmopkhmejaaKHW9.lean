/- Walks: refs and its iterator. -/
import Derived.Test.YtnedmmopkhmejaaKHRF
set_option linter.unusedVariables false
set_option linter.unusedSimpArgs false
namespace Go.Proofs.Ytnedmmopkhmejaa
open Go.RowKit Go.Proofs.Hp
attribute [local go_sem] Oper.semAt_some

def box (v : Value) (T : TypeId) : Obj := .cells #[v] T (0, 0)

theorem c_refs (w : World) (p q : Nat) (a : Int) :
    Calls Try.prog 70 #[ptrV p, ptrV q, .int .i64 a] w fun e w' =>
      e = .returned (.func (.func 108) #[] #[ptrV w.heap.size, ptrV (w.heap.size + 1), ptrV (w.heap.size + 1 + 1)]) ∧
      w' = ((w.alloc (box (ptrV p) 27)).alloc (box (ptrV q) 95)).alloc (box (.int .i64 a) 3) := by
  unfold ptrV
  go_enter Try.func70, Try.ntmps70
  go_wp2
  go_ret
  exact ⟨rfl, rfl⟩

/-- What the iterator reads. -/
structure RefR (W : World) (L : ML) (wh : Wh) (a v : Int) (B1 B2 B3 frm wl : Nat) (shapes : List (List Bool)) (sh : List Bool) (W0 : World) (k : Nat) : Prop where
  b1 : W.heap[B1]? = some (box (ptrV L.b) 27)
  b2 : W.heap[B2]? = some (box (ptrV (L.spL wh).b) 95)
  b3 : W.heap[B3]? = some (box (.int .i64 a) 3)
  D : ∀ j, L.D j → W.heap[j]? = W0.heap[j]?
  m : ∃ m, MemRep W L m ∧ (m.sp wh).frm = frm ∧ (m.sp wh).words.length = wl ∧ m.shapes = shapes ∧ (k = 0 → (m.sp wh).get a = v) ∧ (sh[k]? = some true → (m.sp wh).ok (a + 1 + (k : Int)) = true)

def refArgs (L : ML) (wh : Wh) (frm : Nat) (a : Int) (sh : List Bool) (k : Nat) : Option (Array Value) :=
  if sh[k]? = some true then some #[.int .i64 k, .pointer (some ⟨(L.spL wh).wb, (a + 1 + (k : Int)).toNat - frm, none⟩)] else none

set_option maxHeartbeats 1000000 in
theorem c_refs1 (n : Nat) (L : ML) (wh : Wh) (a v : Int) (B1 B2 B3 frm wl : Nat) (shapes : List (List Bool)) (sh : List Bool) (W0 : World)
    (hv0 : 0 ≤ v) (hv : shapes[v.toNat]? = some sh) (hin : (frm : Int) ≤ a ∧ a < (frm : Int) + (wl : Int)) :
    SeqOrd n Try.prog 108 #[ptrV B1, ptrV B2, ptrV B3] sh.length (refArgs L wh frm a sh) (fun k W => RefR W L wh a v B1 B2 B3 frm wl shapes sh W0 k) := by
  intro l J Jx W hJR hJd hJxd hskip hY h0
  refine callsIn_wide.2 ?_
  obtain ⟨b1, b2, b3, hDW, m, hm, hfr, hwl, hsh, hg, _⟩ := hJR 0 W h0
  have hg := hg rfl
  have hok : (m.sp wh).ok a = true := by
    simp only [Sp.ok, hfr, hwl, Bool.and_eq_true, decide_eq_true_eq]; omega
  have hc : ∀ n, Calls Try.prog 61 #[.pointer (some ⟨(L.spL wh).b, 0, none⟩), .int .i64 a] (W.drewN n) fun e w' => e = .returned (.pointer (some ⟨(L.spL wh).wb, (m.sp wh).idx a, none⟩)) ∧ ∃ k, w' = W.drewN k :=
    fun n => Calls.quiet_of (c_word _ _ _ ((hm.spR wh).drewN n) a hok)
  have hcw := (hm.spR wh).getw hok
  rw [hg] at hcw
  obtain ⟨h60, _, hvl, sb0, so0, scap0, p0, pcap0, d00, dv0, _⟩ := hm.shapeCell (v := v) (l := sh) (by unfold Mem.shapeAt; rw [if_pos hv0, hsh]; exact hv)
  rw [hsh] at hvl d00
  have hbs : BoolsAt W L.D (.slice p0 sh.length pcap0) sh := by
    obtain ⟨b, o, cap, u, h1, h2, h3, h4⟩ := hm.sh.at (i := v.toNat) (l := sh) (by rw [hsh]; exact hv)
    have q := hm.c0
    rw [h1, hsh, d00] at q
    simp only [Option.some.injEq, Value.slice.injEq, Addr.mk.injEq] at q
    obtain ⟨⟨rfl, rfl, _⟩, _, rfl⟩ := q
    rw [dv0] at h3
    simp only [Option.some.injEq] at h3
    rw [h3]; exact h4
  have hel : ∀ i, i < sh.length → ∃ b o, p0 = some ⟨b, o, none⟩ ∧ ∀ k A, J k A → A.cell? ⟨b, o + i, none⟩ = some (.bool (sh[i]?.getD false)) := by
    intro i hi
    obtain ⟨p', cap', e, h | ⟨b, o, hp, hDb, hc⟩⟩ := hbs
    · rw [h] at hi; simp at hi
    · simp only [Value.slice.injEq] at e
      obtain ⟨rfl, _, rfl⟩ := e
      refine ⟨b, o, hp, fun k A hA => ?_⟩
      have := hc i hi
      rw [List.getElem?_eq_getElem hi]
      exact cell_same (((hJR k A hA).D b hDb).trans (hDW b hDb).symm) this
  have hel' := Lib.hid hel
  clear hel hbs
  have e1 : W.cell? ⟨B1, 0, none⟩ = some (.pointer (some ⟨L.b, 0, none⟩)) := by rw [cell_of b1]; rfl
  have e2 : W.cell? ⟨B2, 0, none⟩ = some (.pointer (some ⟨(L.spL wh).b, 0, none⟩)) := by rw [cell_of b2]; rfl
  have e3 : W.cell? ⟨B3, 0, none⟩ = some (.int .i64 a) := by rw [cell_of b3]; rfl
  unfold ptrV
  go_enter Try.func108, Try.ntmps108
  go_wp2_with (fail)
  go_quiet ((go_at_call 61; exact hc _))
  go_wp2_with (fail)
  have hnext : ∀ k A, J k A → ∃ m', MemRep A L m' ∧ (m'.sp wh).frm = frm ∧ (m'.sp wh).words.length = wl ∧ (sh[k]? = some true → (m'.sp wh).ok (a + 1 + (k : Int)) = true) := fun k A hA =>
    let ⟨_, _, _, _, m', h1, h2, h3, _, _, h4⟩ := hJR k A hA; ⟨m', h1, h2, h3, h4⟩
  have h0' := hJd 0 W nq h0
  go_loopw [21] (fun i wr => ∃ k : Nat, i = .int .i64 k ∧ k ≤ sh.length ∧ J k wr) (fun i _ => sh.length - (intOf i).toNat)
  case atStart => exact ⟨0, rfl, by omega, h0'⟩
  case round =>
    obtain ⟨k, rfl, hk, hJk⟩ := hrel
    by_cases hlt : k < sh.length
    · obtain ⟨b, o, rfl, hcl⟩ := hel'.out k hlt
      have hcl' := hcl k wr hJk
      obtain ⟨m1, hm1, hfr1, hwl1, hokx⟩ := hnext k wr hJk
      have d2 : wr.cell? ⟨B2, 0, none⟩ = some (.pointer (some ⟨(L.spL wh).b, 0, none⟩)) := by rw [cell_of (hJR k wr hJk).b2]; rfl
      have d3 : wr.cell? ⟨B3, 0, none⟩ = some (.int .i64 a) := by rw [cell_of (hJR k wr hJk).b3]; rfl
      cases hb : sh[k]?.getD false with
      | false =>
        rw [hb] at hcl'
        have hsk := fun q => hskip k (wr.drewN q) hlt (by unfold refArgs; rw [if_neg (by intro e; rw [e] at hb; simp at hb)]) (hJd _ _ _ hJk)
        have hsk' := Lib.hid hsk
        clear hsk hb d2 d3 hcl hokx
        go_wp2_with (fail)
        go_quiet (fail)
        go_wp2
        go_roundw
        case rel => exact ⟨k + 1, by go_num, by omega, hsk'.out _⟩
        case measure => simp [intOf]; omega
      | true =>
        rw [hb] at hcl'
        have hsk : sh[k]? = some true := by cases hh : sh[k]? with | none => rw [hh] at hb; simp at hb | some x => rw [hh] at hb; simp at hb; rw [hb]
        have hok1 := hokx hsk
        clear hokx
        have hokd := hok1
        simp only [Sp.ok, hfr1, hwl1, Bool.and_eq_true, decide_eq_true_eq] at hokd
        have hcw1 : ∀ n, Calls Try.prog 61 #[.pointer (some ⟨(L.spL wh).b, 0, none⟩), .int .i64 (a + 1 + (k : Int))] (wr.drewN n) fun e w' => e = .returned (.pointer (some ⟨(L.spL wh).wb, (a + 1 + (k : Int)).toNat - frm, none⟩)) ∧ ∃ k, w' = wr.drewN k :=
          fun n => Calls.quiet_of (by have := c_word _ _ _ ((hm1.spR wh).drewN n) _ hok1; unfold Sp.idx at this; rw [hfr1] at this; exact this)
        go_wp2_with (fail)
        refine wpIn_wide (n := n).1 ?_
        have hyy := fun q => hY k _ (wr.drewN q) hlt (by unfold refArgs; rw [if_pos hsk]) (hJd _ _ _ hJk)
        unfold YieldAt at hyy
        obtain ⟨fn, hyy⟩ := Classical.axiomOfChoice hyy
        obtain ⟨tmps, hyy⟩ := Classical.axiomOfChoice hyy
        obtain ⟨assign, hyy⟩ := Classical.axiomOfChoice hyy
        obtain ⟨body, hyy⟩ := Classical.axiomOfChoice hyy
        have hy := fun q => (hyy q).1
        have hRd := fun q => (hyy q).2
        clear hyy
        have w1 : IntKind.i64.wrap (a + 1) = a + 1 := IntWalk.i64_in _ (by have := (hm1.spR wh).b1; have := (hm1.spR wh).b2; omega)
        have w2 : IntKind.i64.wrap (a + 1 + (k : Int)) = a + 1 + (k : Int) := IntWalk.i64_in _ (by have := (hm1.spR wh).b1; have := (hm1.spR wh).b2; omega)
        have hRd' := fun q => (hRd q).mono (R' := fun e W' => ∃ r : Bool, e = .returned (.bool r) ∧ Hid ((r = true → J (k + 1) W') ∧ (r = false → Jx k W'))) (by
          rintro e W' (⟨rfl, h⟩ | ⟨rfl, h⟩)
          · exact ⟨true, rfl, Lib.hid ⟨fun _ => h, fun q => by cases q⟩⟩
          · exact ⟨false, rfl, Lib.hid ⟨fun q => by (cases q), fun _ => h⟩⟩)
        clear hRd
        have hmix : Try.prog.follows .mixedOrders = true := by kernel_rfl
        clear hb hcl hok1 hsk hokd
        gi_region_with_o (first
          | (refine ⟨trivial, ?_⟩; refine ⟨(by intro h; simp [Fence.wide] at h), ?_⟩; gi_at_call 61; refine (callsIn_wide.2 (hcw1 _)).mono ?_; rintro e w' ⟨rfl, q, rfl⟩)
          | (refine ⟨(by intro h; simp [Fence.wide] at h), ?_⟩; refine (hRd' _).mono ?_; rintro e w' ⟨r, rfl, hX⟩))
        all_goals (
          cases r
          · have hx := hX.out.2 rfl
            clear hX
            go_wp2
            refine bodyPost_ret (results_none rfl _ _ _) rfl ?_
            exact ⟨⟨_, rfl⟩, .inr ⟨k, hlt, hx⟩⟩
          · have hx := hX.out.1 rfl
            clear hX
            go_wp2
            go_roundw
            all_goals first
              | exact ⟨k + 1, by go_num, by omega, hx⟩
              | (simp [intOf]; omega))
    · go_wp2
      go_end0
      obtain rfl : k = sh.length := by omega
      exact ⟨⟨_, rfl⟩, .inl hJk⟩
end Go.Proofs.Ytnedmmopkhmejaa
