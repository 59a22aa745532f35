/- Walk: Check. -/
import Derived.Test.YtnedmmopkhmejaaKHW21
import Derived.Sort.CutIn
import Derived.Test.YtnedmmopkhmejaaKHRQ
set_option linter.unusedVariables false
set_option linter.unusedSimpArgs false
namespace Go.Proofs.Ytnedmmopkhmejaa
open Go.RowKit Go.Proofs.Hp
attribute [local go_sem] Oper.semAt_some wide_fn

theorem getElem_lt' {l : List Bool} {i : Nat} {b : Bool} (h : l[i]? = some b) : i < l.length := (List.getElem?_eq_some_iff.1 h).1
set_option maxRecDepth 100000 in
set_option maxHeartbeats 4000000 in
theorem c_fine (w : World) (L : ML) (m : Mem) (h : MemRep w L m) (wh : Wh) (isNow : Bool) (hwh : (isNow = true ∧ wh = .n) ∨ (isNow = false ∧ wh = .y)) (Bm Bs : Nat) (hbm : w.heap[Bm]? = some (box (ptrV L.b) 27)) (hbs : w.heap[Bs]? = some (box (ptrV (L.spL wh).b) 95))
    (a : Int) (sh : List Bool) (hob : m.ob wh a sh) (ht : Tl m.shapes (m.sp wh)) (hfine : ∀ k : Nat, sh[k]? = some true → m.fineField isNow (m.sp wh) a (k : Int) = true) :
    Calls Try.prog 69 #[.int .i64 a, .pointer (some ⟨Bm, 0, none⟩), .pointer (some ⟨Bs, 0, none⟩)] w fun e w' => e = .returned (.bool true) ∧ Below w.heap.size w w' := by
  refine (callsIn_wide (n := 9)).1 (callsIn_of_wp_marks Try.func69 rfl trivial (wpIn_wide.2 ?_) rfl)
  simp only [Try.ntmps69, List.size_toArray, List.length_cons, List.length_nil, Nat.reduceAdd, Nat.reduceSub, Array.replicate_succ, Array.replicate_zero, List.push_toArray, List.append_toArray, List.nil_append, List.cons_append]
  have hbmlt := lt_of_block hbm
  have hbslt := lt_of_block hbs
  have F0 : Fr (fun _ => False) w ((w.alloc (box (.int .i64 a) 3)).alloc (box (.bool false) 4)) := ((Fr.refl _ w).alloc _).alloc _
  have hba : ((w.alloc (box (.int .i64 a) 3)).alloc (box (.bool false) 4)).heap[w.heap.size]? = some (box (.int .i64 a) 3) := by rw [al_old _ _ _ (by simp only [al_size]; omega), al_same]
  have hbr : ((w.alloc (box (.int .i64 a) 3)).alloc (box (.bool false) 4)).heap[w.heap.size + 1]? = some (box (.bool false) 4) := by rw [al_at _ _ _ (by simp only [al_size])]
  have sz2 : ((w.alloc (box (.int .i64 a) 3)).alloc (box (.bool false) 4)).heap.size = w.heap.size + 2 := by simp only [al_size]
  simp only [box] at F0 hba hbr sz2
  have hbm2 := F0.blk hbm id
  have hbs2 := F0.blk hbs id
  have h2 := h.fr F0 (fun _ _ => id) (fun _ _ => id)
  have x1 : ((w.alloc (.cells #[.int .i64 a] 3)).alloc (.cells #[.bool false] 4)).cell? ⟨Bm, 0, none⟩ = some (.pointer (some ⟨L.b, 0, none⟩)) := by rw [cell_of hbm2]; rfl
  have x2 : ((w.alloc (.cells #[.int .i64 a] 3)).alloc (.cells #[.bool false] 4)).cell? ⟨Bs, 0, none⟩ = some (.pointer (some ⟨(L.spL wh).b, 0, none⟩)) := by rw [cell_of hbs2]; rfl
  have x3 : ((w.alloc (.cells #[.int .i64 a] 3)).alloc (.cells #[.bool false] 4)).cell? ⟨w.heap.size, 0, none⟩ = some (.int .i64 a) := by rw [cell_of hba]; rfl
  have hfineH := Lib.hid hfine
  have hwhH := Lib.hid hwh
  have htH := Lib.hid ht
  have hobH := Lib.hid hob
  have hbmH := Lib.hid hbm
  have hbsH := Lib.hid hbs
  have hbm2H := Lib.hid hbm2
  have hbs2H := Lib.hid hbs2
  have hbaH := Lib.hid hba
  have hbrH := Lib.hid hbr
  have sz2H := Lib.hid sz2
  clear hfine hwh ht hob hbm hbs hbm2 hbs2 hba hbr sz2
  go_wp2_with (fail)
  have hrf := c_refs ((w.alloc (.cells #[.int .i64 a] 3)).alloc (.cells #[.bool false] 4)) L.b (L.spL wh).b a
  simp only [ptrV] at hrf
  generalize ((w.alloc (.cells #[.int .i64 a] 3)).alloc (.cells #[.bool false] 4)) = W0 at *
  refine hrf.mono ?_
  rintro e wE ⟨rfl, rfl⟩
  clear hrf x1 x2 x3
  go_wp2_with (fail)
  obtain ⟨k1, k2, k3⟩ := al3 W0 (box (.pointer (some ⟨L.b, 0, none⟩)) 27) (box (.pointer (some ⟨(L.spL wh).b, 0, none⟩)) 95) (box (.int .i64 a) 3)
  have fE : Fr (fun _ => False) W0 (((W0.alloc (box (.pointer (some ⟨L.b, 0, none⟩)) 27)).alloc (box (.pointer (some ⟨(L.spL wh).b, 0, none⟩)) 95)).alloc (box (.int .i64 a) 3)) := (((Fr.refl _ W0).alloc _).alloc _).alloc _
  have sE : (((W0.alloc (box (.pointer (some ⟨L.b, 0, none⟩)) 27)).alloc (box (.pointer (some ⟨(L.spL wh).b, 0, none⟩)) 95)).alloc (box (.int .i64 a) 3)).heap.size = W0.heap.size + 3 := by simp only [al_size]
  generalize (((W0.alloc (box (.pointer (some ⟨L.b, 0, none⟩)) 27)).alloc (box (.pointer (some ⟨(L.spL wh).b, 0, none⟩)) 95)).alloc (box (.int .i64 a) 3)) = WE at *
  have FE : Fr (fun _ => False) w WE := F0.trans fE
  have hbmE := fE.blk hbm2H.out id
  have hbsE := fE.blk hbs2H.out id
  have hbaE := fE.blk hbaH.out id
  have hbrE := fE.blk hbrH.out id
  have hME := h.fr FE (fun _ _ => id) (fun _ _ => id)
  have hob := hobH.out
  have ht := htH.out
  have hbd := ht.bound hob
  have htop := ht.topLe
  have hv0 : 0 ≤ (m.sp wh).get a := by
    have e := hob.2
    unfold shapeOf at e
    split at e
    · assumption
    · cases e
  have hv1 : m.shapes[((m.sp wh).get a).toNat]? = some sh := by
    have e := hob.2
    unfold shapeOf at e
    rw [if_pos hv0] at e; exact e
  have hseq := c_refs1 8 L wh a ((m.sp wh).get a) W0.heap.size (W0.heap.size + 1) (W0.heap.size + 1 + 1) (m.sp wh).frm (m.sp wh).words.length m.shapes sh w hv0 hv1 ⟨hbd.1, by omega⟩
  have hwhn : wh ≠ .o := by rcases hwhH.out with ⟨_, q⟩ | ⟨_, q⟩ <;> rw [q] <;> simp
  have hskt : ∀ k : Nat, sh[k]? = some true → (m.sp wh).ok (a + 1 + (k : Int)) = true := fun k hk => by
    have := getElem_lt' hk
    simp only [Sp.ok, Bool.and_eq_true, decide_eq_true_eq]; omega
  have sz2 := sz2H.out
  have hmlt : ∀ k ∈ L.fp, k < w.heap.size := fun k hk => h.lt hk
  refine (wpIn_wide (n := 9)).1 (wpIn_rangeFunc_ord (n := 9) (gf := 108) rfl (enters Try.func108 (by kernel_rfl) rfl) hseq ?hps
    (fun k A => A.heap[w.heap.size]? = some (box (.int .i64 a) 3) ∧ A.heap[w.heap.size + 1]? = some (box (.bool false) 4) ∧ A.heap[W0.heap.size]? = some (box (.pointer (some ⟨L.b, 0, none⟩)) 27) ∧
      A.heap[W0.heap.size + 1]? = some (box (.pointer (some ⟨(L.spL wh).b, 0, none⟩)) 95) ∧ A.heap[W0.heap.size + 1 + 1]? = some (box (.int .i64 a) 3) ∧ Fr (fun _ => False) w A)
    (fun _ _ _ => False) ?hI (fun _ _ _ _ _ h => h) ?h0 ?hR ?hskip ?hbody ?hdone (fun _ _ _ _ h => h.elim))
  case hps =>
    intro k vs hk
    unfold refArgs at hk
    split at hk
    · cases hk; rfl
    · cases hk
  case hI =>
    rintro k A C hf ⟨q1, q2, q3, q4, q5, q6⟩
    rw [sE] at hf
    refine ⟨hf.blk q1 (by omega), hf.blk q2 (by omega), hf.blk q3 (by omega), hf.blk q4 (by omega), hf.blk q5 (by omega), ⟨hf.os.trans q6.os, hf.tape.trans q6.tape, hf.output.trans q6.output, Nat.le_trans q6.size hf.size, fun j hj _ => (hf.block j (Nat.lt_of_lt_of_le hj q6.size) (by omega)).trans (q6.block j hj id)⟩⟩
  case h0 =>
    intro C hf hsC
    exact ⟨hf.blk hbaE id, hf.blk hbrE id, hf.blk k1 id, hf.blk k2 id, hf.blk k3 id, FE.trans hf⟩
  case hR =>
    rintro k A ⟨q1, q2, q3, q4, q5, q6⟩
    exact ⟨q3, q4, q5, fun j hj => q6.block j (h.Dlt j hj) id, m, h.fr q6 (fun _ _ => id) (fun _ _ => id), rfl, rfl, rfl, fun _ => rfl, fun hk => hskt k hk⟩
  case hskip =>
    rintro k A hk hk2 q; exact q
  case hbody =>
    intro l' k vs W3 hk hvs hI3 hsz3
    have hsk : sh[k]? = some true := by unfold refArgs at hvs; split at hvs; assumption; cases hvs
    obtain rfl : vs = #[.int .i64 k, .pointer (some ⟨(L.spL wh).wb, (a + 1 + (k : Int)).toNat - (m.sp wh).frm, none⟩)] := by
      unfold refArgs at hvs; rw [if_pos hsk] at hvs; cases hvs; rfl
    clear hvs hI3
    gi_wp2
    refine ⟨trivial, ?_⟩
    rintro W2 ⟨q1, q2, q3, q4, q5, q6⟩ hs2
    rw [sE] at hs2 ⊢
    obtain ⟨v, hv⟩ : ∃ v, v = (m.sp wh).get (a + 1 + (k : Int)) := ⟨_, rfl⟩
    have hff := hfineH.out k hsk
    unfold Mem.fineField at hff
    rw [← hv] at hff
    simp only at hff
    have facts : ∀ W, Fr (fun _ => False) W2 W → MemRep W L m ∧ W.cell? ⟨Bm, 0, none⟩ = some (.pointer (some ⟨L.b, 0, none⟩)) ∧ W.cell? ⟨Bs, 0, none⟩ = some (.pointer (some ⟨(L.spL wh).b, 0, none⟩)) ∧ W.cell? ⟨w.heap.size, 0, none⟩ = some (.int .i64 a) ∧
        W.cell? ⟨(L.spL wh).wb, (a + 1 + (k : Int)).toNat - (m.sp wh).frm, none⟩ = some (.int .i64 v) := fun W hW => by
      have hf := q6.trans hW
      have hm := h.fr hf (fun _ _ => id) (fun _ _ => id)
      refine ⟨hm, by rw [cell_of (hf.blk hbmH.out id)]; rfl, by rw [cell_of (hf.blk hbsH.out id)]; rfl, by rw [cell_of (hW.blk q1 id)]; rfl, ?_⟩
      rw [hv]; exact (hm.spR wh).getw (hskt k hsk)
    have factsH := Lib.hid facts
    have hffH := Lib.hid hff
    have hvH := Lib.hid hv
    have hsktH := Lib.hid hskt
    have q1H := Lib.hid q1
    have q2H := Lib.hid q2
    rw [sz2] at q3 q4 q5
    have q3H := Lib.hid q3
    have q4H := Lib.hid q4
    have q5H := Lib.hid q5
    have q6H := Lib.hid q6
    have hmltH := Lib.hid hmlt
    have hseqH := Lib.hid hseq
    clear facts hff hv hskt q1 q2 q3 q4 q5 q6 hmlt hseq k1 k2 k3 hv1 hbmE hbsE hbaE hbrE hsk sE
    obtain ⟨hm2, y1, y2, y3, y4⟩ := factsH.out W2 (Fr.refl _ _)
    have hcv : ∀ W, Below W2.heap.size W2 W → Calls Try.prog 71 #[.pointer (some ⟨L.b, 0, none⟩), .int .i64 v] W fun e w' => e = .returned (.tuple #[curPtr L (m.cur v), .bool (m.cur v).isSome]) ∧ Below W.heap.size W w' := fun W hW => c_current W L m (hm2.below hW) v
    have hmix : Try.prog.follows .mixedOrders = true := by kernel_rfl
    gi_upto_region 4 with (fail)
    gi_cut [7, 8] from 9 (fun c d wx => c = curPtr L (m.cur v) ∧ d = .bool (m.cur v).isSome ∧ Fr (fun _ => False) W2 wx)
    case first =>
      have y1r := fun d os => cell_regrown y1 d os
      have y4r := fun d os => cell_regrown y4 d os
      refine wpIn_region_below_r (by kernel_rfl) (by kernel_rfl) (by kernel_rfl) ?_
      repeat (gi_big_quiet_step ((gi_at_call 71; exact regrown_calls l' _ hcv _ _)))
      refine wpQuietIn_nil ?_
      intro _ hw'
      obtain ⟨⟨dq, osq⟩, hw''⟩ := hw'
      subst hw''
      have hF4 : Fr (fun _ => False) W2 (Go.Sort.grow (redrawn W2 dq) osq) := Fr.of_below (below_regrown W2 dq osq)
      gi_wp2_with (fail)
      gi_meet
      exact ⟨rfl, rfl, hF4⟩
    case rest =>
      obtain ⟨rfl, rfl, hF4⟩ := hcut
      clear hcv y1 y2 y3 y4 hm2
      obtain ⟨hm4, y1, y2, y3, y4⟩ := factsH.out wc hF4
      obtain ⟨bz, hbz⟩ : ∃ bz, bz = m.busy := ⟨_, rfl⟩
      obtain ⟨ob, hob'⟩ : ∃ ob, ob = m.other.begins v := ⟨_, rfl⟩
      obtain ⟨cu, hcu⟩ : ∃ cu, cu = (m.cur v).isSome := ⟨_, rfl⟩
      have hff := hffH.out
      rw [← hbz, ← hob'] at hff
      have c2 := hm4.c2
      have c3 := hm4.c3
      have c5 := hm4.c5
      have c6 := hm4.c6
      rw [← hbz] at c5
      have hcb : ∀ W, Below wc.heap.size wc W → Calls Try.prog 72 #[.pointer (some ⟨L.o.b, 0, none⟩), .int .i64 v] W fun e w' => e = .returned (.bool (m.other.begins v)) ∧ Below W.heap.size W w' := fun W hW =>
        (c_begins W _ _ (hm4.below hW).o v).mono fun _ _ ⟨q1, n, q2⟩ => ⟨q1, by rw [q2]; exact below_drewN (Below.refl _ _) n⟩
      rw [← hob'] at hcb
      have hwb : IntKind.i64.wrap (a + 1) = a + 1 ∧ IntKind.i64.wrap (a + 1 + (k : Int)) = a + 1 + (k : Int) := by
        have q1 := (hm4.spR wh).b1
        have q2 := (hm4.spR wh).b2
        exact ⟨IntWalk.i64_in _ (by omega), IntWalk.i64_in _ (by omega)⟩
      obtain ⟨wb1, wb2⟩ := hwb
      have hffH2 := Lib.hid hff
      have hbzH := Lib.hid hbz
      have hobH' := Lib.hid hob'
      rw [← hcu]
      have hcuH := Lib.hid hcu
      clear hff hbz hob' hcu
      gi_upto_region 5 with (fail)
      gi_cut [9] from 10 (fun c wx => c = .bool (bz && ob && isNow && decide (a + 1 + (k : Int) ≥ m.scan)) ∧ Fr (fun _ => False) W2 wx)
      case first =>
        have y1r := fun d os => cell_regrown y1 d os
        have y2r := fun d os => cell_regrown y2 d os
        have y3r := fun d os => cell_regrown y3 d os
        have y4r := fun d os => cell_regrown y4 d os
        have c2r := fun d os => cell_regrown c2 d os
        have c3r := fun d os => cell_regrown c3 d os
        have c5r := fun d os => cell_regrown c5 d os
        have c6r := fun d os => cell_regrown c6 d os
        cases bz with
        | false =>
          refine wpIn_region_below_r (by kernel_rfl) (by kernel_rfl) (by kernel_rfl) ?_
          repeat (gi_big_quiet_step ((gi_at_call 72; exact regrown_calls l' _ hcb _ _)))
          refine wpQuietIn_nil ?_
          intro _ hw'
          obtain ⟨⟨dq, osq⟩, hw''⟩ := hw'
          subst hw''
          have hF5 : Fr (fun _ => False) W2 (Go.Sort.grow (redrawn wc dq) osq) := hF4.trans (Fr.of_below (below_regrown wc dq osq))
          gi_wp2_with (fail)
          gi_meet
          exact ⟨by simp [], hF5⟩
        | true =>
          cases ob with
          | false =>
            refine wpIn_region_below_r (by kernel_rfl) (by kernel_rfl) (by kernel_rfl) ?_
            repeat (gi_big_quiet_step ((gi_at_call 72; exact regrown_calls l' _ hcb _ _)))
            refine wpQuietIn_nil ?_
            intro _ hw'
            obtain ⟨⟨dq, osq⟩, hw''⟩ := hw'
            subst hw''
            have hF5 : Fr (fun _ => False) W2 (Go.Sort.grow (redrawn wc dq) osq) := hF4.trans (Fr.of_below (below_regrown wc dq osq))
            gi_wp2_with (fail)
            gi_meet
            exact ⟨by simp [], hF5⟩
          | true =>
            obtain ⟨i1, hi1, hi2, hi3, hi4⟩ := info_parts Try.infoSp
            cases isNow with
            | false =>
              have hwy : wh = .y := by rcases hwhH.out with ⟨q, _⟩ | ⟨_, q⟩; cases q; exact q
              have heqr : ∀ d os, (binOp .eql 95 (.pointer (some ⟨(L.spL wh).b, 0, none⟩)) (.pointer (some ⟨L.n.b, 0, none⟩))).run Try.prog (Go.Sort.grow (redrawn wc d) os) = .ok (.bool false) (Go.Sort.grow (redrawn wc d) os) := fun d os => by
                have m6 := hm4.below (below_regrown wc d os)
                rw [hwy]
                exact run_eql_ptr_other _ Try.underlying95 hi1 (by omega) (fun e => m6.spfp_ne (a := .y) (b := .n) (by simp) (k := L.y.b) (by simp [ML.spL, SpL.fp]) (by rw [show L.y.b = L.n.b from congrArg Addr.block e]; simp [ML.spL, SpL.fp])) m6.y.blk m6.n.blk
              clear hwy hi1 hi2 hi3 hi4
              refine wpIn_region_below_r (by kernel_rfl) (by kernel_rfl) (by kernel_rfl) ?_
              repeat (gi_big_quiet_step ((gi_at_call 72; exact regrown_calls l' _ hcb _ _)))
              refine wpQuietIn_nil ?_
              intro _ hw'
              obtain ⟨⟨dq, osq⟩, hw''⟩ := hw'
              subst hw''
              have hF5 : Fr (fun _ => False) W2 (Go.Sort.grow (redrawn wc dq) osq) := hF4.trans (Fr.of_below (below_regrown wc dq osq))
              gi_wp2_with (fail)
              gi_meet
              exact ⟨by simp [], hF5⟩
            | true =>
              have hwy : wh = .n := by rcases hwhH.out with ⟨_, q⟩ | ⟨q, _⟩; exact q; cases q
              have heqr : ∀ d os, (binOp .eql 95 (.pointer (some ⟨(L.spL wh).b, 0, none⟩)) (.pointer (some ⟨L.n.b, 0, none⟩))).run Try.prog (Go.Sort.grow (redrawn wc d) os) = .ok (.bool true) (Go.Sort.grow (redrawn wc d) os) := fun d os => by
                rw [hwy]
                exact run_eql_ptr_same _ ⟨L.n.b, 0, none⟩ Try.underlying95 hi1
              clear hwy hi1 hi2 hi3 hi4
              refine wpIn_region_below_r (by kernel_rfl) (by kernel_rfl) (by kernel_rfl) ?_
              repeat (gi_big_quiet_step ((gi_at_call 72; exact regrown_calls l' _ hcb _ _)))
              refine wpQuietIn_nil ?_
              intro _ hw'
              obtain ⟨⟨dq, osq⟩, hw''⟩ := hw'
              subst hw''
              have hF5 : Fr (fun _ => False) W2 (Go.Sort.grow (redrawn wc dq) osq) := hF4.trans (Fr.of_below (below_regrown wc dq osq))
              gi_wp2_with (fail)
              gi_meet
              exact ⟨by simp [], hF5⟩
      case rest =>
        obtain ⟨rfl, hF5⟩ := hcut
        clear hcb y1 y2 y3 y4 c2 c3 c5 c6 hm4 hF4
        obtain ⟨hm5, y1, y2, y3, y4⟩ := factsH.out wc hF5
        have c1 := hm5.c1
        have c2 := hm5.c2
        have c4 := hm5.c4
        obtain ⟨yb, hyb⟩ : ∃ yb, yb = m.young.begins v := ⟨_, rfl⟩
        obtain ⟨ct, hct⟩ : ∃ ct, ct = m.known.contains (a, (k : Int)) := ⟨_, rfl⟩
        obtain ⟨fo, hfo⟩ : ∃ fo, fo = (bz && ob && isNow && decide (a + 1 + (k : Int) ≥ m.scan)) := ⟨_, rfl⟩
        obtain ⟨v0, hv0⟩ : ∃ v0, v0 = (v != 0) := ⟨_, rfl⟩
        have hcn : (m.cur v).isNone = !cu := by rw [hcuH.out]; cases m.cur v <;> rfl
        have hff := hffH2.out
        rw [← hyb, ← hct, ← hfo, ← hv0, hcn] at hff
        rw [← hfo]
        have hcb : ∀ W, Below wc.heap.size wc W → Calls Try.prog 72 #[.pointer (some ⟨L.y.b, 0, none⟩), .int .i64 v] W fun e w' => e = .returned (.bool (m.young.begins v)) ∧ Below W.heap.size W w' := fun W hW =>
          (c_begins W _ _ (hm5.below hW).y v).mono fun _ _ ⟨q1, n, q2⟩ => ⟨q1, by rw [q2]; exact below_drewN (Below.refl _ _) n⟩
        have hcc : ∀ W, Below wc.heap.size wc W → Calls Try.prog 73 #[L.kv, .agg #[.int .i64 a, .int .i64 k]] W fun e w' => e = .returned (.bool (m.known.contains (a, (k : Int)))) ∧ Below W.heap.size W w' := fun W hW =>
          c_ContainsSlot W _ _ (hm5.below hW).slots (hm5.below hW).kl a k
        rw [← hyb] at hcb
        rw [← hct] at hcc
        obtain ⟨kp, kcap, hkv⟩ := hm5.kvS
        rw [hkv] at c4 hcc
        have hv0' : (v != 0) = v0 := hv0.symm
        clear hyb hct hfo hcn hkv hv0
        gi_upto_region 6 with (fail)
        have y1r := fun d os => cell_regrown y1 d os
        have y2r := fun d os => cell_regrown y2 d os
        have y3r := fun d os => cell_regrown y3 d os
        have y4r := fun d os => cell_regrown y4 d os
        have c1r := fun d os => cell_regrown c1 d os
        have c2r := fun d os => cell_regrown c2 d os
        have c4r := fun d os => cell_regrown c4 d os
        obtain ⟨i1, hi1, hi2, hi3, hi4⟩ := info_parts Try.infoSp
        cases isNow with
        | false =>
          have hwy : wh = .y := by rcases hwhH.out with ⟨q, _⟩ | ⟨_, q⟩; cases q; exact q
          have heqr : ∀ d os, (binOp .eql 95 (.pointer (some ⟨(L.spL wh).b, 0, none⟩)) (.pointer (some ⟨L.n.b, 0, none⟩))).run Try.prog (Go.Sort.grow (redrawn wc d) os) = .ok (.bool false) (Go.Sort.grow (redrawn wc d) os) := fun d os => by
            have m6 := hm5.below (below_regrown wc d os)
            rw [hwy]
            exact run_eql_ptr_other _ Try.underlying95 hi1 (by omega) (fun e => m6.spfp_ne (a := .y) (b := .n) (by simp) (k := L.y.b) (by simp [ML.spL, SpL.fp]) (by rw [show L.y.b = L.n.b from congrArg Addr.block e]; simp [ML.spL, SpL.fp])) m6.y.blk m6.n.blk
          clear hwy hi1 hi2 hi3 hi4
          cases v0 with
          | false =>
            clear hff
            gi_upto_region 8 with (fail)
            refine wpIn_region_below_r (by kernel_rfl) (by kernel_rfl) (by kernel_rfl) ?_
            repeat (gi_big_quiet_step ((first | (gi_at_call 72; exact regrown_calls l' _ hcb _ _) | (gi_at_call 73; exact regrown_calls l' _ hcc _ _))))
            refine wpQuietIn_nil ?_
            intro _ hw'
            obtain ⟨⟨dq, osq⟩, hw''⟩ := hw'
            subst hw''
            have hF6 : Fr (fun _ => False) W2 (Go.Sort.grow (redrawn wc dq) osq) := hF5.trans (Fr.of_below (below_regrown wc dq osq))
            gi_wp2
            exact ⟨fun j hj => hF6.block j (by omega) id, hF6.blk q1H.out id, hF6.blk q2H.out id, hF6.blk q3H.out id, hF6.blk q4H.out id, hF6.blk q5H.out id, q6H.out.trans hF6⟩
          | true =>
            cases cu with
            | true =>
              clear hff
              gi_upto_region 8 with (fail)
              refine wpIn_region_below_r (by kernel_rfl) (by kernel_rfl) (by kernel_rfl) ?_
              repeat (gi_big_quiet_step ((first | (gi_at_call 72; exact regrown_calls l' _ hcb _ _) | (gi_at_call 73; exact regrown_calls l' _ hcc _ _))))
              refine wpQuietIn_nil ?_
              intro _ hw'
              obtain ⟨⟨dq, osq⟩, hw''⟩ := hw'
              subst hw''
              have hF6 : Fr (fun _ => False) W2 (Go.Sort.grow (redrawn wc dq) osq) := hF5.trans (Fr.of_below (below_regrown wc dq osq))
              gi_wp2
              exact ⟨fun j hj => hF6.block j (by omega) id, hF6.blk q1H.out id, hF6.blk q2H.out id, hF6.blk q3H.out id, hF6.blk q4H.out id, hF6.blk q5H.out id, q6H.out.trans hF6⟩
            | false =>
              cases fo with
              | true =>
                clear hff
                gi_upto_region 8 with (fail)
                refine wpIn_region_below_r (by kernel_rfl) (by kernel_rfl) (by kernel_rfl) ?_
                repeat (gi_big_quiet_step ((first | (gi_at_call 72; exact regrown_calls l' _ hcb _ _) | (gi_at_call 73; exact regrown_calls l' _ hcc _ _))))
                refine wpQuietIn_nil ?_
                intro _ hw'
                obtain ⟨⟨dq, osq⟩, hw''⟩ := hw'
                subst hw''
                have hF6 : Fr (fun _ => False) W2 (Go.Sort.grow (redrawn wc dq) osq) := hF5.trans (Fr.of_below (below_regrown wc dq osq))
                gi_wp2
                exact ⟨fun j hj => hF6.block j (by omega) id, hF6.blk q1H.out id, hF6.blk q2H.out id, hF6.blk q3H.out id, hF6.blk q4H.out id, hF6.blk q5H.out id, q6H.out.trans hF6⟩
              | false => simp at hff
        | true =>
          have hwy : wh = .n := by rcases hwhH.out with ⟨_, q⟩ | ⟨q, _⟩; exact q; cases q
          have heqr : ∀ d os, (binOp .eql 95 (.pointer (some ⟨(L.spL wh).b, 0, none⟩)) (.pointer (some ⟨L.n.b, 0, none⟩))).run Try.prog (Go.Sort.grow (redrawn wc d) os) = .ok (.bool true) (Go.Sort.grow (redrawn wc d) os) := fun d os => by
            rw [hwy]
            exact run_eql_ptr_same _ ⟨L.n.b, 0, none⟩ Try.underlying95 hi1
          clear hwy hi1 hi2 hi3 hi4
          cases yb with
          | false =>
            cases v0 with
            | false =>
              clear hff
              gi_upto_region 8 with (fail)
              refine wpIn_region_below_r (by kernel_rfl) (by kernel_rfl) (by kernel_rfl) ?_
              repeat (gi_big_quiet_step ((first | (gi_at_call 72; exact regrown_calls l' _ hcb _ _) | (gi_at_call 73; exact regrown_calls l' _ hcc _ _))))
              refine wpQuietIn_nil ?_
              intro _ hw'
              obtain ⟨⟨dq, osq⟩, hw''⟩ := hw'
              subst hw''
              have hF6 : Fr (fun _ => False) W2 (Go.Sort.grow (redrawn wc dq) osq) := hF5.trans (Fr.of_below (below_regrown wc dq osq))
              gi_wp2
              exact ⟨fun j hj => hF6.block j (by omega) id, hF6.blk q1H.out id, hF6.blk q2H.out id, hF6.blk q3H.out id, hF6.blk q4H.out id, hF6.blk q5H.out id, q6H.out.trans hF6⟩
            | true =>
              cases cu with
              | true =>
                clear hff
                gi_upto_region 8 with (fail)
                refine wpIn_region_below_r (by kernel_rfl) (by kernel_rfl) (by kernel_rfl) ?_
                repeat (gi_big_quiet_step ((first | (gi_at_call 72; exact regrown_calls l' _ hcb _ _) | (gi_at_call 73; exact regrown_calls l' _ hcc _ _))))
                refine wpQuietIn_nil ?_
                intro _ hw'
                obtain ⟨⟨dq, osq⟩, hw''⟩ := hw'
                subst hw''
                have hF6 : Fr (fun _ => False) W2 (Go.Sort.grow (redrawn wc dq) osq) := hF5.trans (Fr.of_below (below_regrown wc dq osq))
                gi_wp2
                exact ⟨fun j hj => hF6.block j (by omega) id, hF6.blk q1H.out id, hF6.blk q2H.out id, hF6.blk q3H.out id, hF6.blk q4H.out id, hF6.blk q5H.out id, q6H.out.trans hF6⟩
              | false =>
                cases fo with
                | true =>
                  clear hff
                  gi_upto_region 8 with (fail)
                  refine wpIn_region_below_r (by kernel_rfl) (by kernel_rfl) (by kernel_rfl) ?_
                  repeat (gi_big_quiet_step ((first | (gi_at_call 72; exact regrown_calls l' _ hcb _ _) | (gi_at_call 73; exact regrown_calls l' _ hcc _ _))))
                  refine wpQuietIn_nil ?_
                  intro _ hw'
                  obtain ⟨⟨dq, osq⟩, hw''⟩ := hw'
                  subst hw''
                  have hF6 : Fr (fun _ => False) W2 (Go.Sort.grow (redrawn wc dq) osq) := hF5.trans (Fr.of_below (below_regrown wc dq osq))
                  gi_wp2
                  exact ⟨fun j hj => hF6.block j (by omega) id, hF6.blk q1H.out id, hF6.blk q2H.out id, hF6.blk q3H.out id, hF6.blk q4H.out id, hF6.blk q5H.out id, q6H.out.trans hF6⟩
                | false => simp at hff
          | true =>
            obtain rfl : ct = true := by cases ct; simp at hff; rfl
            cases v0 with
            | false =>
              clear hff
              gi_upto_region 8 with (fail)
              refine wpIn_region_below_r (by kernel_rfl) (by kernel_rfl) (by kernel_rfl) ?_
              repeat (gi_big_quiet_step ((first | (gi_at_call 72; exact regrown_calls l' _ hcb _ _) | (gi_at_call 73; exact regrown_calls l' _ hcc _ _))))
              refine wpQuietIn_nil ?_
              intro _ hw'
              obtain ⟨⟨dq, osq⟩, hw''⟩ := hw'
              subst hw''
              have hF6 : Fr (fun _ => False) W2 (Go.Sort.grow (redrawn wc dq) osq) := hF5.trans (Fr.of_below (below_regrown wc dq osq))
              gi_wp2
              exact ⟨fun j hj => hF6.block j (by omega) id, hF6.blk q1H.out id, hF6.blk q2H.out id, hF6.blk q3H.out id, hF6.blk q4H.out id, hF6.blk q5H.out id, q6H.out.trans hF6⟩
            | true =>
              cases cu with
              | true =>
                clear hff
                gi_upto_region 8 with (fail)
                refine wpIn_region_below_r (by kernel_rfl) (by kernel_rfl) (by kernel_rfl) ?_
                repeat (gi_big_quiet_step ((first | (gi_at_call 72; exact regrown_calls l' _ hcb _ _) | (gi_at_call 73; exact regrown_calls l' _ hcc _ _))))
                refine wpQuietIn_nil ?_
                intro _ hw'
                obtain ⟨⟨dq, osq⟩, hw''⟩ := hw'
                subst hw''
                have hF6 : Fr (fun _ => False) W2 (Go.Sort.grow (redrawn wc dq) osq) := hF5.trans (Fr.of_below (below_regrown wc dq osq))
                gi_wp2
                exact ⟨fun j hj => hF6.block j (by omega) id, hF6.blk q1H.out id, hF6.blk q2H.out id, hF6.blk q3H.out id, hF6.blk q4H.out id, hF6.blk q5H.out id, q6H.out.trans hF6⟩
              | false =>
                cases fo with
                | true =>
                  clear hff
                  gi_upto_region 8 with (fail)
                  refine wpIn_region_below_r (by kernel_rfl) (by kernel_rfl) (by kernel_rfl) ?_
                  repeat (gi_big_quiet_step ((first | (gi_at_call 72; exact regrown_calls l' _ hcb _ _) | (gi_at_call 73; exact regrown_calls l' _ hcc _ _))))
                  refine wpQuietIn_nil ?_
                  intro _ hw'
                  obtain ⟨⟨dq, osq⟩, hw''⟩ := hw'
                  subst hw''
                  have hF6 : Fr (fun _ => False) W2 (Go.Sort.grow (redrawn wc dq) osq) := hF5.trans (Fr.of_below (below_regrown wc dq osq))
                  gi_wp2
                  exact ⟨fun j hj => hF6.block j (by omega) id, hF6.blk q1H.out id, hF6.blk q2H.out id, hF6.blk q3H.out id, hF6.blk q4H.out id, hF6.blk q5H.out id, q6H.out.trans hF6⟩
                | false => simp at hff
  case hdone =>
    rintro A ⟨q1, q2, q3, q4, q5, q6⟩ hD
    have e1 : A.cell? ⟨w.heap.size + 1, 0, none⟩ = some (.bool false) := by rw [cell_of q2]; rfl
    have z1 : A.frozen? ⟨w.heap.size + 1, 0, none⟩ = false := free_of q2 0
    rw [sE, sz2] at hD
    have hDH := Lib.hid hD
    have q6H := Lib.hid q6
    have q2H := Lib.hid q2
    clear q1 q3 q4 q5 hD q6 q2 hseq hskt hmlt
    go_wp2
    have hWs : WE.heap.size = w.heap.size + 2 + 3 := by rw [sE, sz2]
    have hb7 : (A.setCell ⟨w.heap.size + 1, 0, none⟩ (.bool true)).heap[w.heap.size + 1]? = some (box (.bool true) 4) := by rw [heap_setCell_same _ q2H.out]; rfl
    have f7 : Fr (fun k => k = w.heap.size + 1) A (A.setCell ⟨w.heap.size + 1, 0, none⟩ (.bool true)) := (Fr.refl _ A).setCell _ _ (.inl rfl)
    refine leaves_marks [WE.heap.size] _ (by simp) (fun D hD => ?_) (fun w' hw' => ⟨.bool true, ?_, rfl, ?_⟩)
    · simp only [List.mem_singleton] at hD
      rw [hD, hWs]
      exact f7.blk hDH.out (by omega)
    · have hb8 := hw'.blk hb7 (by simp only [List.mem_singleton]; omega)
      have e8 : w'.cell? ⟨w.heap.size + 1, 0, none⟩ = some (.bool true) := by rw [cell_of hb8]; rfl
      simp [results, Try.results69, go_sem, e8]
    · have q := q6H.out
      refine ⟨hw'.os.trans (f7.os.trans q.os), hw'.tape.trans (f7.tape.trans q.tape), hw'.output.trans (f7.output.trans q.output), Nat.le_trans q.size (Nat.le_trans f7.size hw'.size), fun j hj => ?_⟩
      refine (hw'.block j (Nat.lt_of_lt_of_le hj (Nat.le_trans q.size f7.size)) (by simp only [List.mem_singleton]; omega)).trans ((f7.block j (Nat.lt_of_lt_of_le hj q.size) (by omega)).trans (q.block j hj id))
end Go.Proofs.Ytnedmmopkhmejaa
