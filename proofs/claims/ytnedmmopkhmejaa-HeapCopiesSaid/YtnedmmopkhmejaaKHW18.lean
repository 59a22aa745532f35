/- Walk: Set. -/
import Derived.Test.YtnedmmopkhmejaaKHW17
import Derived.Deep.AppendLies
import Derived.Deep.RegionLaw
import Derived.Deep.RegionHeldLaw
set_option linter.unusedVariables false
set_option linter.unusedSimpArgs false
namespace Go.Proofs.Ytnedmmopkhmejaa
open Go.RowKit Go.Proofs.Hp
attribute [local go_sem] Oper.semAt_some

theorem Try.infoSlot : (Try.prog.info? 131).map (fun i => (i.zero, i.size, i.bytes)) = some (some (.agg #[.int .i64 0, .int .i64 0]), 2, 16) := by kernel_rfl

/-- The remembered fields are others. -/
theorem MemRep.reKnown {w w' : World} {L : ML} {m : Mem} (h : MemRep w L m) {kv' : Value} {ks : List (Int × Int)} (hb : w'.heap[L.b]? = some (memBlock { L with kv := kv' } { m with known := ks })) (hf : Fr (fun k => k = L.b ∨ L.kv.ownBlock = some k) w w')
    (hkn : w'.ownsRow 0 131 2 kv' ks.length (flatSlots ks)) (hn : ∀ k, kv'.ownBlock = some k → L.kv.ownBlock = some k ∨ w.heap.size ≤ k) (hk : ∀ k ∈ ks, 0 ≤ k.1 ∧ k.1 ≤ 4194304 ∧ 0 ≤ k.2 ∧ k.2 ≤ 60) (hl : ks.length ≤ 1048576) :
    MemRep w' { L with kv := kv' } { m with known := ks } ∧ Ev L { L with kv := kv' } w w' := by
  obtain ⟨a0, a1, a2, a3, a4, b1, b2, b3, b4, q1, q2, q3⟩ := h.apart
  have hkb : ∀ k, L.kv.ownBlock = some k → k ∈ kvBlocks L.kv := fun k hk => by
    obtain ⟨p, cap, hv⟩ := h.kvS
    rw [hv] at hk ⊢
    cases p with
    | none => cases hk
    | some ad => simp only [Value.ownBlock, Option.some.injEq] at hk; simp [kvBlocks, hk]
  have hkb' : ∀ k ∈ kvBlocks kv', kv'.ownBlock = some k := fun k hk => by
    rcases hkn.2 with ⟨rfl, _⟩ | ⟨g, cap, cur, rfl, _⟩
    · simp [kvBlocks] at hk
    · simp [kvBlocks] at hk; subst hk; rfl
  have hsp : ∀ wh k, k ∈ (L.spL wh).fp → ¬ (k = L.b ∨ L.kv.ownBlock = some k) := fun wh k hk q => by
    rcases q with rfl | q
    · exact (h.sp_b wh).1 hk
    · exact h.sp_kv wh (hkb k q) hk
  have ho : ∀ a, SpRep w' (L.spL a) (m.sp a) := fun a => (h.spR a).fr hf (hsp a)
  have hfp : ∀ k ∈ ML.fp { L with kv := kv' }, (k ∈ L.fp ∨ w.heap.size ≤ k) := fun k hk => by
    rcases MemRep.mem_fp.1 hk with q | q | q | q | q | q
    · exact .inl (MemRep.mem_fp.2 (.inl q))
    · exact .inl (MemRep.mem_fp.2 (.inr (.inl q)))
    · exact .inl (MemRep.mem_fp.2 (by simp only at q; simp [q]))
    · exact .inl (MemRep.mem_fp.2 (by simp only at q; simp [q]))
    · exact .inl (MemRep.mem_fp.2 (by simp only at q; simp [q]))
    · rcases hn k (hkb' k q) with g | g
      · exact .inl (MemRep.mem_fp.2 (by simp [hkb k g]))
      · exact .inr g
  refine ⟨⟨hb, ho .y, ho .n, ho .o, hkn, (let ⟨es, c, g1, g2⟩ := h.mv; ⟨es, c, hf.blk g1 (fun q => ?_), g2⟩), h.sh.of_blocks fun k hk => hf.block k (h.Dlt k hk) (fun q => ?_), ?_, fun k hk hD => ?_, fun k hk => Nat.lt_of_lt_of_le (h.Dlt k hk) hf.size, h.sl, h.sll, h.sc0, h.sc1, h.lf0, h.lf1, hk, hl⟩,
    ⟨rfl, rfl, rfl, hfp, hf.mono fun k _ q => ?_⟩⟩
  · rcases q with q | q
    · exact a0 q.symm
    · exact b4 (hkb _ q)
  · rcases q with q | q
    · exact h.dj k (MemRep.mem_fp.2 (.inl q)) hk
    · exact h.dj k (MemRep.mem_fp.2 (by simp [hkb k q])) hk
  · have hnd := h.nd
    -- the new list is fresh, or what it was
    have hnew : ∀ k ∈ kvBlocks kv', k ∈ kvBlocks L.kv ∨ w.heap.size ≤ k := fun k hk => (hn k (hkb' k hk)).imp (hkb k) id
    have hlt : ∀ k, k ∈ L.fp → k < w.heap.size := fun k hk => h.lt hk
    simp only [ML.fp, List.nodup_cons, List.nodup_append, List.mem_cons, List.mem_append, not_or] at hnd ⊢
    obtain ⟨⟨c1, c2, c3, c4, c5⟩, ⟨d1, d2, d3, d4⟩, e1, ⟨e2, ⟨e3, e4, e5⟩, e6⟩, e7⟩ := hnd
    have hno : ∀ k, k ∈ L.fp → k ∉ kvBlocks L.kv → k ∉ kvBlocks kv' := fun k h1 h2 h3 => by
      rcases hnew k h3 with q | q
      · exact h2 q
      · have := hlt k h1; omega
    have m1 : L.b ∈ L.fp := MemRep.mem_fp.2 (.inl rfl)
    have m2 : L.mb ∈ L.fp := MemRep.mem_fp.2 (.inr (.inl rfl))
    refine ⟨⟨c1, c2, c3, c4, hno _ m1 c5⟩, ⟨d1, d2, d3, hno _ m2 d4⟩, e1, ⟨e2, ⟨e3, ?_, fun a ha b hb' e => ?_⟩, fun a ha b hb' e => ?_⟩, fun a ha b hb' e => ?_⟩
    · rcases hkn.2 with ⟨rfl, _⟩ | ⟨g, cap, cur, rfl, _⟩ <;> simp [kvBlocks]
    · subst e; exact hno a (MemRep.mem_fp.2 (by simp [ha])) (fun q => e5 a ha a q rfl) hb'
    · subst e
      rcases hb' with q | q
      · exact e6 a ha a (.inl q) rfl
      · exact hno a (MemRep.mem_fp.2 (by simp [ha])) (fun g => e6 a ha a (.inr g) rfl) q
    · subst e
      rcases hb' with q | q | q
      · exact e7 a ha a (.inl q) rfl
      · exact e7 a ha a (.inr (.inl q)) rfl
      · exact hno a (MemRep.mem_fp.2 (by simp [ha])) (fun g => e7 a ha a (.inr (.inr g)) rfl) q
  · rcases hfp k hk with q | q
    · exact h.dj k q hD
    · have := h.Dlt k hD; omega
  · rcases q with rfl | q
    · exact MemRep.mem_fp.2 (.inl rfl)
    · exact MemRep.mem_fp.2 (by simp [hkb k q])

theorem fieldE_bounds {w : World} {L : ML} {m : Mem} (h : MemRep w L m) {a f : Int} {wh : Wh} {r : Bool} (hf : m.fieldE a f = some (.inr (wh, r))) : 0 ≤ a ∧ a ≤ 4194304 ∧ 0 ≤ f ∧ f ≤ 60 := by
  obtain ⟨_, hcur⟩ := Mem.fieldE_ok hf
  have hs := h.spR wh
  have hbg := cur_begins hcur
  obtain ⟨q1, q2, q3⟩ := Sp.idx_lt hs hbg
  have b1 := hs.b1
  have b2 := hs.b2
  have ble := hs.le
  unfold Mem.fieldE at hf
  rw [hcur] at hf
  simp only at hf
  cases hl : m.shapeAt ((m.sp wh).get a) with
  | none => rw [hl] at hf; cases hf
  | some l =>
    rw [hl] at hf
    simp only at hf
    by_cases h0 : 0 ≤ f
    · rw [if_pos h0] at hf
      cases hi : l[f.toNat]? with
      | none => rw [hi] at hf; simp at hf
      | some x =>
        have hlt := (List.getElem?_eq_some_iff.1 hi).1
        have hl60 := (h.shapeCell hl).1
        omega
    · rw [if_neg h0] at hf; simp at hf

theorem set_grown {w5 w6 : World} {L : ML} {m1 : Mem} {kp : Option Addr} {n kcap : Nat} {o : Obj} (hb : w5.heap[L.b]? = some (memBlock L m1)) (hkv : L.kv = .slice kp n kcap) (hne : L.kv.ownBlock ≠ some L.b) (hg : ((w5.alloc o).drew).grownBy w6 (Value.slice kp n kcap).ownBlock) :
    w6.heap[L.b]? = some (memBlock L m1) := by
  refine (hg.block L.b ?_ (fun e => hne (by rw [hkv]; exact e.symm))).trans ((al_old _ _ _ (lt_of_block hb)).trans hb)
  have := lt_of_block hb
  show L.b < (w5.alloc o).heap.size
  rw [al_size]; omega

theorem set_cell4 {w6 : World} {L : ML} {m1 : Mem} (hb : w6.heap[L.b]? = some (memBlock L m1)) : w6.cell? ⟨L.b, 4, none⟩ = some L.kv := by rw [cell_of hb]; rfl

theorem set_known {w5 w6 : World} {L : ML} {m1 : Mem} (h5 : MemRep w5 L m1) {kp : Option Addr} {kcap g gcap : Nat} {a f : Int} (hkv : L.kv = .slice kp m1.known.length kcap) (hne : L.kv.ownBlock ≠ some L.b)
    (hg : ((w5.alloc (.cells #[.int .i64 a, .int .i64 f] 131)).drew).grownBy w6 (Value.slice kp m1.known.length kcap).ownBlock)
    (ho : w6.ownsRow 0 131 2 (.slice (some ⟨g, 0, none⟩) (m1.known.length + 1) gcap) (m1.known.length + 1) (flatSlots m1.known ++ [.int .i64 a, .int .i64 f]))
    (hat : (Value.slice kp m1.known.length kcap).ownBlock = some g ∨ g = (w5.alloc (.cells #[.int .i64 a, .int .i64 f] 131)).drew.heap.size)
    (hok : Hid (0 ≤ a ∧ a ≤ 4194304 ∧ 0 ≤ f ∧ f ≤ 60)) (hl : m1.known.length < 1048576) :
    MemRep (w6.setCell ⟨L.b, 4, none⟩ (.slice (some ⟨g, 0, none⟩) (m1.known.length + 1) gcap)) { L with kv := .slice (some ⟨g, 0, none⟩) (m1.known.length + 1) gcap } { m1 with known := m1.known ++ [(a, f)] } ∧
      Ev L { L with kv := .slice (some ⟨g, 0, none⟩) (m1.known.length + 1) gcap } w5 (w6.setCell ⟨L.b, 4, none⟩ (.slice (some ⟨g, 0, none⟩) (m1.known.length + 1) gcap)) := by
  have hb6 := set_grown h5.blk hkv hne hg
  have hsz : w5.heap.size + 1 ≤ w6.heap.size := by have := hg.size; rw [show (w5.alloc (.cells #[.int .i64 a, .int .i64 f] 131)).drew.heap.size = w5.heap.size + 1 from al_size _ _] at this; exact this
  have hat' : L.kv.ownBlock = some g ∨ w5.heap.size ≤ g := by
    rcases hat with e | e
    · left; rw [hkv]; exact e
    · right; rw [e, show (w5.alloc (.cells #[.int .i64 a, .int .i64 f] 131)).drew.heap.size = w5.heap.size + 1 from al_size _ _]; omega
  have hgb : g ≠ L.b := fun e => by
    have := lt_of_block h5.blk
    rcases hat' with q | q
    · rw [e] at q; exact hne q
    · omega
  have hf : Fr (fun k => k = L.b ∨ L.kv.ownBlock = some k) w5 (w6.setCell ⟨L.b, 4, none⟩ (.slice (some ⟨g, 0, none⟩) (m1.known.length + 1) gcap)) := by
    have q : Fr (fun k => k = L.b ∨ L.kv.ownBlock = some k) w5 w6 := by
      refine ⟨hg.os, hg.tape, hg.output, by omega, fun k hk hn => ?_⟩
      refine (hg.block k ?_ (fun e => hn (.inr (by rw [hkv]; exact e.symm)))).trans (al_old _ _ _ hk)
      rw [show (w5.alloc (.cells #[.int .i64 a, .int .i64 f] 131)).drew.heap.size = w5.heap.size + 1 from al_size _ _]; omega
    exact q.setCell _ _ (.inl (.inl rfl))
  refine h5.reKnown ?_ hf ?_ (fun k hk => ?_) (fun k hk => ?_) (by simp; omega)
  · rw [heap_setCell_same _ hb6]; rfl
  · have hfl : flatSlots (m1.known ++ [(a, f)]) = flatSlots m1.known ++ [.int .i64 a, .int .i64 f] := by simp [flatSlots]
    rw [hfl, List.length_append, List.length_cons, List.length_nil]
    refine ownsRow_of_blocks ho fun k hk => ?_
    have : k = g := by simpa [kvBlocks] using hk
    exact Below.heap_setCell _ _ _ _ (fun e => hgb (by rw [← this]; exact e))
  · simp only [Value.ownBlock, Option.some.injEq] at hk
    subst hk; exact hat'
  · rcases List.mem_append.1 hk with q | q
    · exact h5.kb k q
    · simp only [List.mem_singleton] at q; subst q; exact hok.out

set_option maxRecDepth 100000 in
set_option maxHeartbeats 4000000 in
theorem c_Set (w : World) (L : ML) (m m' : Mem) (h : MemRep w L m) (a f v e0 : Int) (hg : m.setE a f v = some (m', e0)) :
    Calls Try.prog 40 #[.pointer (some ⟨L.b, 0, none⟩), .int .i64 a, .int .i64 f, .int .i64 v] w fun e w' => ∃ L', e = .returned (.int .i64 e0) ∧ MemRep w' L' m' ∧ Ev L L' w w' := by
  unfold Mem.setE at hg
  cases hf : m.fieldE a f with
  | none => rw [hf] at hg; cases hg
  | some r =>
    rw [hf] at hg
    have hfd := c_field w L m h a f r hf
    cases r with
    | inl e1 =>
      simp only [Option.some.injEq, Prod.mk.injEq] at hg
      obtain ⟨rfl, rfl⟩ := hg
      have hne := Mem.fieldE_err hf
      have hne' : ((e1 : Int) != 0) = true := by simpa using hne
      simp only [fieldV] at hfd
      clear hf hne
      go_enter Try.func40, Try.ntmps40
      go_wp2_with (fail)
      refine hfd.mono ?_
      rintro e w1 ⟨rfl, hb⟩
      go_wp2
      go_ret
      exact ⟨L, rfl, h.below hb, Ev.of_fr (Fr.of_below hb)⟩
    | inr p =>
      obtain ⟨wh, rr⟩ := p
      simp only at hg
      obtain ⟨hok, hcur⟩ := Mem.fieldE_ok hf
      simp only [fieldV] at hfd
      have hafH : Hid (0 ≤ a ∧ a ≤ 4194304 ∧ 0 ≤ f ∧ f ≤ 60) := Lib.hid (fieldE_bounds h hf)
      have hwho : wh ≠ .o := by
        intro e
        subst e
        unfold Mem.cur at hcur
        split at hcur
        · cases hcur
        · split at hcur <;> cases hcur
      cases hbad : (rr && (v != 0 && (m.cur v).isNone)) with
      | true =>
        rw [if_pos hbad] at hg
        simp only [Option.some.injEq, Prod.mk.injEq] at hg
        obtain ⟨rfl, rfl⟩ := hg
        simp only [Bool.and_eq_true] at hbad
        obtain ⟨rfl, hv0, hvn⟩ := hbad
        have hvs : (m.cur v).isSome = false := by cases hq : m.cur v with
          | none => rfl
          | some x => rw [hq] at hvn; cases hvn
        have hvsH := Lib.hid hvs
        clear hvs hvn hf hok hcur
        go_enter Try.func40, Try.ntmps40
        go_wp2_with (fail)
        refine hfd.mono ?_
        rintro e w1 ⟨rfl, hb1⟩
        have h1 := h.below hb1
        have hcv := c_current w1 L m h1 v
        clear hfd
        rw [hvsH.out] at hcv
        go_wp2_with (fail)
        refine hcv.mono ?_
        rintro e w2 ⟨rfl, hb2⟩
        have hbb := hb1.trans (hb2.mono hb1.size)
        clear hcv
        go_wp2
        go_ret
        exact ⟨L, rfl, h.below hbb, Ev.of_fr (Fr.of_below hbb)⟩
      | false =>
        rw [if_neg (by rw [hbad]; simp)] at hg
        cases rr with
        | false =>
          simp only [Bool.false_and, Bool.false_eq_true, if_false, Option.some.injEq, Prod.mk.injEq] at hg
          obtain ⟨rfl, rfl⟩ := hg
          clear hbad hf
          go_enter Try.func40, Try.ntmps40
          go_wp2_with (fail)
          refine hfd.mono ?_
          rintro e w1 ⟨rfl, hb1⟩
          have h1 := h.below hb1
          have hcv := c_current w1 L m h1 v
          clear hfd
          generalize (m.cur v).isSome = vs at hcv
          go_wp2_with (fail)
          refine hcv.mono ?_
          rintro e w2 ⟨rfl, hb2⟩
          have hbb := hb1.trans (hb2.mono hb1.size)
          have h2 := h1.below hb2
          have hw := (h2.spR wh).getw hok
          have hfz := (h2.spR wh).fw ((m.sp wh).idx (a + 1 + f))
          have h3 := h2.put wh (a + 1 + f) v hok
          have f3 : Fr (fun k => k ∈ L.fp) w (w2.setCell ⟨(L.spL wh).wb, (m.sp wh).idx (a + 1 + f), none⟩ (.int .i64 v)) := (Fr.of_below hbb).setCell _ _ (.inl (MemRep.spfp (wh := wh) (by simp [SpL.fp])))
          clear hcv
          go_wp2_with (fail)
          have h4 := h3.alloc (.cells #[.int .i64 a, .int .i64 f] 131)
          have f4 := f3.alloc (.cells #[.int .i64 a, .int .i64 f] 131)
          have hbx := al_same (w2.setCell ⟨(L.spL wh).wb, (m.sp wh).idx (a + 1 + f), none⟩ (.int .i64 v)) (.cells #[.int .i64 a, .int .i64 f] 131)
          have hbxs : (w2.setCell ⟨(L.spL wh).wb, (m.sp wh).idx (a + 1 + f), none⟩ (.int .i64 v)).heap.size = w2.heap.size := by simp [World.setCell]
          rw [hbxs] at hbx
          have hbL : ∀ k ∈ L.fp, k < w2.heap.size := fun k hk => h2.lt hk
          have hbD : ∀ k, L.D k → k < w2.heap.size := fun k hk => h2.Dlt k hk
          clear hbxs h3 f3 hw hfz h2
          generalize ((w2.setCell ⟨(L.spL wh).wb, (m.sp wh).idx (a + 1 + f), none⟩ (.int .i64 v)).alloc (.cells #[.int .i64 a, .int .i64 f] 131)) = W at *
          go_quiet (fail)
          have hfin := h4.drewN nq
          have ffin := Ev.of_fr (f4.drewN nq)
          go_wp2
          go_ret
          exact ⟨L, rfl, hfin, ffin⟩
        | true =>
          simp only [Bool.true_and] at hg hbad
          clear hf
          have hsd : (m.setSp ((m.sp wh).put (a + 1 + f) v) wh).shapes = m.shapes := by cases wh <;> rfl
          obtain ⟨m1, hm1⟩ : ∃ m1, m1 = m.setSp ((m.sp wh).put (a + 1 + f) v) wh := ⟨_, rfl⟩
          rw [← hm1] at hg
          obtain ⟨nb, hnb⟩ : ∃ nb, nb = m1.now.begins a := ⟨_, rfl⟩
          obtain ⟨yb, hyb⟩ : ∃ yb, yb = m1.young.begins v := ⟨_, rfl⟩
          obtain ⟨ct, hct⟩ : ∃ ct, ct = m1.known.contains (a, f) := ⟨_, rfl⟩
          rw [← hnb, ← hyb, ← hct] at hg
          have hm1H := Lib.hid hm1
          have hnbH := Lib.hid hnb
          have hybH := Lib.hid hyb
          have hctH := Lib.hid hct
          have hgH := Lib.hid hg
          clear hm1 hnb hyb hct hg hsd
          by_cases hv0 : v = 0
          · obtain ⟨vs, hvs'⟩ : ∃ vs, vs = (m.cur v).isSome := ⟨_, rfl⟩
            have hvs : Hid ((m.cur v).isSome = vs) := Lib.hid hvs'.symm
            have hv0' : (v != 0) = false := by simp [hv0]
            clear hvs' hbad hv0
            cases nb with
            | false =>
              go_enter Try.func40, Try.ntmps40
              go_wp2_with (fail)
              refine hfd.mono ?_
              rintro e w1 ⟨rfl, hb1⟩
              have h1 := h.below hb1
              have hcv := c_current w1 L m h1 v
              clear hfd
              rw [hvs.out] at hcv
              go_wp2_with (fail)
              refine hcv.mono ?_
              rintro e w2 ⟨rfl, hb2⟩
              have hbb := hb1.trans (hb2.mono hb1.size)
              have h2 := h1.below hb2
              have hw := (h2.spR wh).getw hok
              have hfz := (h2.spR wh).fw ((m.sp wh).idx (a + 1 + f))
              have h3 := h2.put wh (a + 1 + f) v hok
              have f3 : Fr (fun k => k ∈ L.fp) w (w2.setCell ⟨(L.spL wh).wb, (m.sp wh).idx (a + 1 + f), none⟩ (.int .i64 v)) := (Fr.of_below hbb).setCell _ _ (.inl (MemRep.spfp (wh := wh) (by simp [SpL.fp])))
              clear hcv
              go_wp2_with (fail)
              have h4 := h3.alloc (.cells #[.int .i64 a, .int .i64 f] 131)
              have f4 := f3.alloc (.cells #[.int .i64 a, .int .i64 f] 131)
              have hbx := al_same (w2.setCell ⟨(L.spL wh).wb, (m.sp wh).idx (a + 1 + f), none⟩ (.int .i64 v)) (.cells #[.int .i64 a, .int .i64 f] 131)
              have hbxs : (w2.setCell ⟨(L.spL wh).wb, (m.sp wh).idx (a + 1 + f), none⟩ (.int .i64 v)).heap.size = w2.heap.size := by simp [World.setCell]
              rw [hbxs] at hbx
              have hbL : ∀ k ∈ L.fp, k < w2.heap.size := fun k hk => h2.lt hk
              have hbD : ∀ k, L.D k → k < w2.heap.size := fun k hk => h2.Dlt k hk
              clear hbxs h3 f3 hw hfz h2
              generalize ((w2.setCell ⟨(L.spL wh).wb, (m.sp wh).idx (a + 1 + f), none⟩ (.int .i64 v)).alloc (.cells #[.int .i64 a, .int .i64 f] 131)) = W at *
              rw [← hm1H.out] at h4
              have hn1 : ∀ n, Calls Try.prog 72 #[.pointer (some ⟨L.n.b, 0, none⟩), .int .i64 a] (W.drewN n) fun e w' => e = .returned (.bool (m1.now.begins a)) ∧ ∃ k, w' = W.drewN k := fun n => Calls.quiet_of (c_begins (W.drewN n) _ _ (h4.drewN n).n a)
              have hy0 : ∀ n, Calls Try.prog 72 #[.pointer (some ⟨L.y.b, 0, none⟩), .int .i64 v] (W.drewN n) fun e w' => e = .returned (.bool (m1.young.begins v)) ∧ ∃ k, w' = W.drewN k := fun n => Calls.quiet_of (c_begins (W.drewN n) _ _ (h4.drewN n).y v)
              have hc0 : ∀ n, Calls Try.prog 73 #[L.kv, .agg #[.int .i64 a, .int .i64 f]] (W.drewN n) (ConR (m1.known.contains (a, f)) (W.drewN n)) := fun n => c_ContainsSlot (W.drewN n) _ _ (h4.drewN n).slots h4.kl a f
              have hn0 : Calls Try.prog 72 #[.pointer (some ⟨L.n.b, 0, none⟩), .int .i64 a] W.drew fun e w' => e = .returned (.bool (m1.now.begins a)) ∧ ∃ k, w' = W.drewN k := Calls.quiet_of (c_begins (W.drewN 1) _ _ (h4.drewN 1).n a)
              rw [← hnbH.out] at hn1 hn0
              rw [← hybH.out] at hy0
              rw [← hctH.out] at hc0
              have x1 := h4.c1
              have x2 := h4.c2
              have x4 := h4.c4
              have xa : W.cell? ⟨w2.heap.size, 0, none⟩ = some (.int .i64 a) := by rw [cell_of hbx]; rfl
              have xb : W.cell? ⟨w2.heap.size, 1, none⟩ = some (.int .i64 f) := by rw [cell_of hbx]; rfl
              obtain ⟨kp, kcap, hkv⟩ := h4.kvS
              rw [hkv] at x4 hc0
              have hkvH := Lib.hid hkv
              clear hkv
              clear hc0
              go_quiet ((go_at_call 72; (first | with_reducible exact hn1 _ | with_reducible exact hy0 _)))
              have hgo := hgH.out
              simp only [Bool.false_and, Bool.and_false, Bool.true_and, Bool.not_true, Bool.false_eq_true, if_false, Option.some.injEq, Prod.mk.injEq] at hgo
              obtain ⟨rfl, rfl⟩ := hgo
              have hfin := h4.drewN nq
              have ffin := Ev.of_fr (f4.drewN nq)
              go_wp2
              go_ret
              exact ⟨L, rfl, hfin, ffin⟩
            | true =>
              cases yb with
              | false =>
                go_enter Try.func40, Try.ntmps40
                go_wp2_with (fail)
                refine hfd.mono ?_
                rintro e w1 ⟨rfl, hb1⟩
                have h1 := h.below hb1
                have hcv := c_current w1 L m h1 v
                clear hfd
                rw [hvs.out] at hcv
                go_wp2_with (fail)
                refine hcv.mono ?_
                rintro e w2 ⟨rfl, hb2⟩
                have hbb := hb1.trans (hb2.mono hb1.size)
                have h2 := h1.below hb2
                have hw := (h2.spR wh).getw hok
                have hfz := (h2.spR wh).fw ((m.sp wh).idx (a + 1 + f))
                have h3 := h2.put wh (a + 1 + f) v hok
                have f3 : Fr (fun k => k ∈ L.fp) w (w2.setCell ⟨(L.spL wh).wb, (m.sp wh).idx (a + 1 + f), none⟩ (.int .i64 v)) := (Fr.of_below hbb).setCell _ _ (.inl (MemRep.spfp (wh := wh) (by simp [SpL.fp])))
                clear hcv
                go_wp2_with (fail)
                have h4 := h3.alloc (.cells #[.int .i64 a, .int .i64 f] 131)
                have f4 := f3.alloc (.cells #[.int .i64 a, .int .i64 f] 131)
                have hbx := al_same (w2.setCell ⟨(L.spL wh).wb, (m.sp wh).idx (a + 1 + f), none⟩ (.int .i64 v)) (.cells #[.int .i64 a, .int .i64 f] 131)
                have hbxs : (w2.setCell ⟨(L.spL wh).wb, (m.sp wh).idx (a + 1 + f), none⟩ (.int .i64 v)).heap.size = w2.heap.size := by simp [World.setCell]
                rw [hbxs] at hbx
                have hbL : ∀ k ∈ L.fp, k < w2.heap.size := fun k hk => h2.lt hk
                have hbD : ∀ k, L.D k → k < w2.heap.size := fun k hk => h2.Dlt k hk
                clear hbxs h3 f3 hw hfz h2
                generalize ((w2.setCell ⟨(L.spL wh).wb, (m.sp wh).idx (a + 1 + f), none⟩ (.int .i64 v)).alloc (.cells #[.int .i64 a, .int .i64 f] 131)) = W at *
                rw [← hm1H.out] at h4
                have hn1 : ∀ n, Calls Try.prog 72 #[.pointer (some ⟨L.n.b, 0, none⟩), .int .i64 a] (W.drewN n) fun e w' => e = .returned (.bool (m1.now.begins a)) ∧ ∃ k, w' = W.drewN k := fun n => Calls.quiet_of (c_begins (W.drewN n) _ _ (h4.drewN n).n a)
                have hy0 : ∀ n, Calls Try.prog 72 #[.pointer (some ⟨L.y.b, 0, none⟩), .int .i64 v] (W.drewN n) fun e w' => e = .returned (.bool (m1.young.begins v)) ∧ ∃ k, w' = W.drewN k := fun n => Calls.quiet_of (c_begins (W.drewN n) _ _ (h4.drewN n).y v)
                have hc0 : ∀ n, Calls Try.prog 73 #[L.kv, .agg #[.int .i64 a, .int .i64 f]] (W.drewN n) (ConR (m1.known.contains (a, f)) (W.drewN n)) := fun n => c_ContainsSlot (W.drewN n) _ _ (h4.drewN n).slots h4.kl a f
                have hn0 : Calls Try.prog 72 #[.pointer (some ⟨L.n.b, 0, none⟩), .int .i64 a] W.drew fun e w' => e = .returned (.bool (m1.now.begins a)) ∧ ∃ k, w' = W.drewN k := Calls.quiet_of (c_begins (W.drewN 1) _ _ (h4.drewN 1).n a)
                rw [← hnbH.out] at hn1 hn0
                rw [← hybH.out] at hy0
                rw [← hctH.out] at hc0
                have x1 := h4.c1
                have x2 := h4.c2
                have x4 := h4.c4
                have xa : W.cell? ⟨w2.heap.size, 0, none⟩ = some (.int .i64 a) := by rw [cell_of hbx]; rfl
                have xb : W.cell? ⟨w2.heap.size, 1, none⟩ = some (.int .i64 f) := by rw [cell_of hbx]; rfl
                obtain ⟨kp, kcap, hkv⟩ := h4.kvS
                rw [hkv] at x4 hc0
                have hkvH := Lib.hid hkv
                clear hkv
                clear hc0
                go_quiet ((go_at_call 72; (first | with_reducible exact hn1 _ | with_reducible exact hy0 _)))
                have hgo := hgH.out
                simp only [Bool.false_and, Bool.and_false, Bool.true_and, Bool.not_true, Bool.false_eq_true, if_false, Option.some.injEq, Prod.mk.injEq] at hgo
                obtain ⟨rfl, rfl⟩ := hgo
                have hfin := h4.drewN nq
                have ffin := Ev.of_fr (f4.drewN nq)
                go_wp2
                go_ret
                exact ⟨L, rfl, hfin, ffin⟩
              | true =>
                cases ct with
                | true =>
                  go_enter Try.func40, Try.ntmps40
                  go_wp2_with (fail)
                  refine hfd.mono ?_
                  rintro e w1 ⟨rfl, hb1⟩
                  have h1 := h.below hb1
                  have hcv := c_current w1 L m h1 v
                  clear hfd
                  rw [hvs.out] at hcv
                  go_wp2_with (fail)
                  refine hcv.mono ?_
                  rintro e w2 ⟨rfl, hb2⟩
                  have hbb := hb1.trans (hb2.mono hb1.size)
                  have h2 := h1.below hb2
                  have hw := (h2.spR wh).getw hok
                  have hfz := (h2.spR wh).fw ((m.sp wh).idx (a + 1 + f))
                  have h3 := h2.put wh (a + 1 + f) v hok
                  have f3 : Fr (fun k => k ∈ L.fp) w (w2.setCell ⟨(L.spL wh).wb, (m.sp wh).idx (a + 1 + f), none⟩ (.int .i64 v)) := (Fr.of_below hbb).setCell _ _ (.inl (MemRep.spfp (wh := wh) (by simp [SpL.fp])))
                  clear hcv
                  go_wp2_with (fail)
                  have h4 := h3.alloc (.cells #[.int .i64 a, .int .i64 f] 131)
                  have f4 := f3.alloc (.cells #[.int .i64 a, .int .i64 f] 131)
                  have hbx := al_same (w2.setCell ⟨(L.spL wh).wb, (m.sp wh).idx (a + 1 + f), none⟩ (.int .i64 v)) (.cells #[.int .i64 a, .int .i64 f] 131)
                  have hbxs : (w2.setCell ⟨(L.spL wh).wb, (m.sp wh).idx (a + 1 + f), none⟩ (.int .i64 v)).heap.size = w2.heap.size := by simp [World.setCell]
                  rw [hbxs] at hbx
                  have hbL : ∀ k ∈ L.fp, k < w2.heap.size := fun k hk => h2.lt hk
                  have hbD : ∀ k, L.D k → k < w2.heap.size := fun k hk => h2.Dlt k hk
                  clear hbxs h3 f3 hw hfz h2
                  generalize ((w2.setCell ⟨(L.spL wh).wb, (m.sp wh).idx (a + 1 + f), none⟩ (.int .i64 v)).alloc (.cells #[.int .i64 a, .int .i64 f] 131)) = W at *
                  rw [← hm1H.out] at h4
                  have hn1 : ∀ n, Calls Try.prog 72 #[.pointer (some ⟨L.n.b, 0, none⟩), .int .i64 a] (W.drewN n) fun e w' => e = .returned (.bool (m1.now.begins a)) ∧ ∃ k, w' = W.drewN k := fun n => Calls.quiet_of (c_begins (W.drewN n) _ _ (h4.drewN n).n a)
                  have hy0 : ∀ n, Calls Try.prog 72 #[.pointer (some ⟨L.y.b, 0, none⟩), .int .i64 v] (W.drewN n) fun e w' => e = .returned (.bool (m1.young.begins v)) ∧ ∃ k, w' = W.drewN k := fun n => Calls.quiet_of (c_begins (W.drewN n) _ _ (h4.drewN n).y v)
                  have hc0 : ∀ n, Calls Try.prog 73 #[L.kv, .agg #[.int .i64 a, .int .i64 f]] (W.drewN n) (ConR (m1.known.contains (a, f)) (W.drewN n)) := fun n => c_ContainsSlot (W.drewN n) _ _ (h4.drewN n).slots h4.kl a f
                  have hn0 : Calls Try.prog 72 #[.pointer (some ⟨L.n.b, 0, none⟩), .int .i64 a] W.drew fun e w' => e = .returned (.bool (m1.now.begins a)) ∧ ∃ k, w' = W.drewN k := Calls.quiet_of (c_begins (W.drewN 1) _ _ (h4.drewN 1).n a)
                  rw [← hnbH.out] at hn1 hn0
                  rw [← hybH.out] at hy0
                  rw [← hctH.out] at hc0
                  have x1 := h4.c1
                  have x2 := h4.c2
                  have x4 := h4.c4
                  have xa : W.cell? ⟨w2.heap.size, 0, none⟩ = some (.int .i64 a) := by rw [cell_of hbx]; rfl
                  have xb : W.cell? ⟨w2.heap.size, 1, none⟩ = some (.int .i64 f) := by rw [cell_of hbx]; rfl
                  obtain ⟨kp, kcap, hkv⟩ := h4.kvS
                  rw [hkv] at x4 hc0
                  have hkvH := Lib.hid hkv
                  clear hkv
                  go_region_held3 (fun w' => w'.cell? ⟨L.b, 1, none⟩ = some (.pointer (some ⟨L.y.b, 0, none⟩)) ∧ w'.cell? ⟨L.b, 2, none⟩ = some (.pointer (some ⟨L.n.b, 0, none⟩)) ∧ w'.cell? ⟨L.b, 4, none⟩ = some (.slice kp m1.known.length kcap) ∧ w'.cell? ⟨w2.heap.size, 0, none⟩ = some (.int .i64 a) ∧ w'.cell? ⟨w2.heap.size, 1, none⟩ = some (.int .i64 f)) (go_keep)
                    (first
                      | ((with_reducible refine hn0.mono ?_); rintro e w3 ⟨rfl, n3, rfl⟩)
                      | ((with_reducible refine (hn1 _).mono ?_); rintro e w3 ⟨rfl, n3, rfl⟩)
                      | ((with_reducible refine (hy0 _).mono ?_); rintro e w3 ⟨rfl, n3, rfl⟩)
                      | ((with_reducible refine (hc0 _).mono ?_); rintro e w5 ⟨rfl, hb5⟩; have h5 := (h4.drewN _).below hb5; have k1 := h5.c1; have k2 := h5.c2; have k4 := h5.c4; rw [hkvH.out] at k4; have ka := (Fr.of_below (S := fun _ => False) hb5).cell xa id; have kb := (Fr.of_below (S := fun _ => False) hb5).cell xb id))
                  have hgo := hgH.out
                  simp only [Bool.and_false, Bool.true_and, Bool.not_true, Bool.false_eq_true, if_false, Option.some.injEq, Prod.mk.injEq] at hgo
                  obtain ⟨rfl, rfl⟩ := hgo
                  have ffin := Ev.of_fr ((f4.drewN n3).trans (Fr.of_below hb5))
                  clear hn0 hn1 hy0 hc0 x1 x2 x4 xa xb k1 k2 k4 ka kb
                  go_wp2
                  go_ret
                  exact ⟨L, rfl, h5, ffin⟩
                | false =>
                  go_enter Try.func40, Try.ntmps40
                  go_wp2_with (fail)
                  refine hfd.mono ?_
                  rintro e w1 ⟨rfl, hb1⟩
                  have h1 := h.below hb1
                  have hcv := c_current w1 L m h1 v
                  clear hfd
                  rw [hvs.out] at hcv
                  go_wp2_with (fail)
                  refine hcv.mono ?_
                  rintro e w2 ⟨rfl, hb2⟩
                  have hbb := hb1.trans (hb2.mono hb1.size)
                  have h2 := h1.below hb2
                  have hw := (h2.spR wh).getw hok
                  have hfz := (h2.spR wh).fw ((m.sp wh).idx (a + 1 + f))
                  have h3 := h2.put wh (a + 1 + f) v hok
                  have f3 : Fr (fun k => k ∈ L.fp) w (w2.setCell ⟨(L.spL wh).wb, (m.sp wh).idx (a + 1 + f), none⟩ (.int .i64 v)) := (Fr.of_below hbb).setCell _ _ (.inl (MemRep.spfp (wh := wh) (by simp [SpL.fp])))
                  clear hcv
                  go_wp2_with (fail)
                  have h4 := h3.alloc (.cells #[.int .i64 a, .int .i64 f] 131)
                  have f4 := f3.alloc (.cells #[.int .i64 a, .int .i64 f] 131)
                  have hbx := al_same (w2.setCell ⟨(L.spL wh).wb, (m.sp wh).idx (a + 1 + f), none⟩ (.int .i64 v)) (.cells #[.int .i64 a, .int .i64 f] 131)
                  have hbxs : (w2.setCell ⟨(L.spL wh).wb, (m.sp wh).idx (a + 1 + f), none⟩ (.int .i64 v)).heap.size = w2.heap.size := by simp [World.setCell]
                  rw [hbxs] at hbx
                  have hbL : ∀ k ∈ L.fp, k < w2.heap.size := fun k hk => h2.lt hk
                  have hbD : ∀ k, L.D k → k < w2.heap.size := fun k hk => h2.Dlt k hk
                  clear hbxs h3 f3 hw hfz h2
                  generalize ((w2.setCell ⟨(L.spL wh).wb, (m.sp wh).idx (a + 1 + f), none⟩ (.int .i64 v)).alloc (.cells #[.int .i64 a, .int .i64 f] 131)) = W at *
                  rw [← hm1H.out] at h4
                  have hn1 : ∀ n, Calls Try.prog 72 #[.pointer (some ⟨L.n.b, 0, none⟩), .int .i64 a] (W.drewN n) fun e w' => e = .returned (.bool (m1.now.begins a)) ∧ ∃ k, w' = W.drewN k := fun n => Calls.quiet_of (c_begins (W.drewN n) _ _ (h4.drewN n).n a)
                  have hy0 : ∀ n, Calls Try.prog 72 #[.pointer (some ⟨L.y.b, 0, none⟩), .int .i64 v] (W.drewN n) fun e w' => e = .returned (.bool (m1.young.begins v)) ∧ ∃ k, w' = W.drewN k := fun n => Calls.quiet_of (c_begins (W.drewN n) _ _ (h4.drewN n).y v)
                  have hc0 : ∀ n, Calls Try.prog 73 #[L.kv, .agg #[.int .i64 a, .int .i64 f]] (W.drewN n) (ConR (m1.known.contains (a, f)) (W.drewN n)) := fun n => c_ContainsSlot (W.drewN n) _ _ (h4.drewN n).slots h4.kl a f
                  have hn0 : Calls Try.prog 72 #[.pointer (some ⟨L.n.b, 0, none⟩), .int .i64 a] W.drew fun e w' => e = .returned (.bool (m1.now.begins a)) ∧ ∃ k, w' = W.drewN k := Calls.quiet_of (c_begins (W.drewN 1) _ _ (h4.drewN 1).n a)
                  rw [← hnbH.out] at hn1 hn0
                  rw [← hybH.out] at hy0
                  rw [← hctH.out] at hc0
                  have x1 := h4.c1
                  have x2 := h4.c2
                  have x4 := h4.c4
                  have xa : W.cell? ⟨w2.heap.size, 0, none⟩ = some (.int .i64 a) := by rw [cell_of hbx]; rfl
                  have xb : W.cell? ⟨w2.heap.size, 1, none⟩ = some (.int .i64 f) := by rw [cell_of hbx]; rfl
                  obtain ⟨kp, kcap, hkv⟩ := h4.kvS
                  rw [hkv] at x4 hc0
                  have hkvH := Lib.hid hkv
                  clear hkv
                  go_region_held3 (fun w' => w'.cell? ⟨L.b, 1, none⟩ = some (.pointer (some ⟨L.y.b, 0, none⟩)) ∧ w'.cell? ⟨L.b, 2, none⟩ = some (.pointer (some ⟨L.n.b, 0, none⟩)) ∧ w'.cell? ⟨L.b, 4, none⟩ = some (.slice kp m1.known.length kcap) ∧ w'.cell? ⟨w2.heap.size, 0, none⟩ = some (.int .i64 a) ∧ w'.cell? ⟨w2.heap.size, 1, none⟩ = some (.int .i64 f)) (go_keep)
                    (first
                      | ((with_reducible refine hn0.mono ?_); rintro e w3 ⟨rfl, n3, rfl⟩)
                      | ((with_reducible refine (hn1 _).mono ?_); rintro e w3 ⟨rfl, n3, rfl⟩)
                      | ((with_reducible refine (hy0 _).mono ?_); rintro e w3 ⟨rfl, n3, rfl⟩)
                      | ((with_reducible refine (hc0 _).mono ?_); rintro e w5 ⟨rfl, hb5⟩; have h5 := (h4.drewN _).below hb5; have k1 := h5.c1; have k2 := h5.c2; have k4 := h5.c4; rw [hkvH.out] at k4; have ka := (Fr.of_below (S := fun _ => False) hb5).cell xa id; have kb := (Fr.of_below (S := fun _ => False) hb5).cell xb id))
                  have hgo := hgH.out
                  simp only [Bool.and_true, Bool.not_false, if_true] at hgo
                  by_cases hkl : m1.known.length < 1048576
                  · rw [if_pos hkl] at hgo
                    simp only [Option.some.injEq, Prod.mk.injEq] at hgo
                    obtain ⟨rfl, rfl⟩ := hgo
                    have f5 := (f4.drewN n3).trans (Fr.of_below hb5)
                    clear hn0 hn1 hy0 hc0 x1 x2 x4 xa xb k1 k2 k4 hgH
                    obtain ⟨i0, hi, hz0, hz1, hz2⟩ := info_parts Try.infoSlot
                    have hkn : Hid (w5.ownsRow 0 131 2 (.slice kp m1.known.length kcap) m1.known.length (flatSlots m1.known)) := Lib.hid (by rw [← hkvH.out]; exact h5.kn)
                    have k4 : w5.cell? ⟨L.b, 4, none⟩ = some (.slice kp m1.known.length kcap) := by rw [← hkvH.out]; exact h5.c4
                    have ak4 : (w5.alloc (.cells #[.int .i64 a, .int .i64 f] 131)).cell? ⟨L.b, 4, none⟩ = some (.slice kp m1.known.length kcap) := by rw [← hkvH.out]; exact (h5.alloc _).c4
                    have hbk5 : Hid (w5.heap[L.b]? = some (memBlock L m1)) := Lib.hid h5.blk
                    have hkb : L.kv.ownBlock ≠ some L.b := fun e => by
                      obtain ⟨_, _, _, _, a4, _⟩ := h5.apart
                      obtain ⟨q1, q2, q3⟩ := h5.kvS
                      rw [q3] at e a4
                      cases q1 with
                      | none => cases e
                      | some ad => simp only [Value.ownBlock, Option.some.injEq] at e; exact a4 (by simp [kvBlocks, e])
                    have hkbH := Lib.hid hkb
                    clear hkb
                    have hok' : Hid (0 ≤ a ∧ a ≤ 4194304 ∧ 0 ≤ f ∧ f ≤ 60) := hafH
                    go_wp2_with (fail)
                    go_region_law (refine step_append_lies _ rfl (.tmp 77) (.tmp 79) 98 rfl 0 131 i0 (.agg #[.int .i64 0, .int .i64 0]) 2 16 Try.underlying98 hi hz0 hz1 hz2 rfl (by decide) (.slice kp m1.known.length kcap) m1.known.length (flatSlots m1.known) rfl (ownsRow_of_blocks hkn.out fun k hk => al_old _ _ _ (ownsRow_lt hkn.out hk)) ⟨w5.heap.size, 0, none⟩ 1 1 [.int .i64 a, .int .i64 f] rfl rfl (World.news_of_block (al_same w5 (.cells #[.int .i64 a, .int .i64 f] 131))) (by simp [Value.oneCell']) (by decide) (by simp only [maxLen]; omega) (by omega) (Nat.zero_le _) _ rfl ?_; intro g gcap w6 hown hgrow hat hglt; have hb6 := set_grown hbk5.out hkvH.out hkbH.out hgrow; have e4 := set_cell4 hb6; have z4 := free_of hb6 4)
                    all_goals
                      have hr6 := set_known h5 (a := a) (f := f) hkvH.out hkbH.out hgrow hown hat hok' hkl
                      obtain ⟨hr6, ev6⟩ := hr6
                      have efin := (Ev.of_fr f5).trans ev6
                      go_wp2
                      go_ret
                      exact ⟨_, rfl, hr6, efin⟩
                  · rw [if_neg hkl] at hgo; cases hgo
          · have hvs : Hid ((m.cur v).isSome = true) := Lib.hid (by
              cases hq : m.cur v with
              | none => rw [hq] at hbad; simp [hv0] at hbad
              | some x => rfl)
            have hv0' : (v != 0) = true := by simpa using hv0
            clear hv0 hbad
            cases nb with
            | false =>
              go_enter Try.func40, Try.ntmps40
              go_wp2_with (fail)
              refine hfd.mono ?_
              rintro e w1 ⟨rfl, hb1⟩
              have h1 := h.below hb1
              have hcv := c_current w1 L m h1 v
              clear hfd
              rw [hvs.out] at hcv
              go_wp2_with (fail)
              refine hcv.mono ?_
              rintro e w2 ⟨rfl, hb2⟩
              have hbb := hb1.trans (hb2.mono hb1.size)
              have h2 := h1.below hb2
              have hw := (h2.spR wh).getw hok
              have hfz := (h2.spR wh).fw ((m.sp wh).idx (a + 1 + f))
              have h3 := h2.put wh (a + 1 + f) v hok
              have f3 : Fr (fun k => k ∈ L.fp) w (w2.setCell ⟨(L.spL wh).wb, (m.sp wh).idx (a + 1 + f), none⟩ (.int .i64 v)) := (Fr.of_below hbb).setCell _ _ (.inl (MemRep.spfp (wh := wh) (by simp [SpL.fp])))
              clear hcv
              go_wp2_with (fail)
              have h4 := h3.alloc (.cells #[.int .i64 a, .int .i64 f] 131)
              have f4 := f3.alloc (.cells #[.int .i64 a, .int .i64 f] 131)
              have hbx := al_same (w2.setCell ⟨(L.spL wh).wb, (m.sp wh).idx (a + 1 + f), none⟩ (.int .i64 v)) (.cells #[.int .i64 a, .int .i64 f] 131)
              have hbxs : (w2.setCell ⟨(L.spL wh).wb, (m.sp wh).idx (a + 1 + f), none⟩ (.int .i64 v)).heap.size = w2.heap.size := by simp [World.setCell]
              rw [hbxs] at hbx
              have hbL : ∀ k ∈ L.fp, k < w2.heap.size := fun k hk => h2.lt hk
              have hbD : ∀ k, L.D k → k < w2.heap.size := fun k hk => h2.Dlt k hk
              clear hbxs h3 f3 hw hfz h2
              generalize ((w2.setCell ⟨(L.spL wh).wb, (m.sp wh).idx (a + 1 + f), none⟩ (.int .i64 v)).alloc (.cells #[.int .i64 a, .int .i64 f] 131)) = W at *
              rw [← hm1H.out] at h4
              have hn1 : ∀ n, Calls Try.prog 72 #[.pointer (some ⟨L.n.b, 0, none⟩), .int .i64 a] (W.drewN n) fun e w' => e = .returned (.bool (m1.now.begins a)) ∧ ∃ k, w' = W.drewN k := fun n => Calls.quiet_of (c_begins (W.drewN n) _ _ (h4.drewN n).n a)
              have hy0 : ∀ n, Calls Try.prog 72 #[.pointer (some ⟨L.y.b, 0, none⟩), .int .i64 v] (W.drewN n) fun e w' => e = .returned (.bool (m1.young.begins v)) ∧ ∃ k, w' = W.drewN k := fun n => Calls.quiet_of (c_begins (W.drewN n) _ _ (h4.drewN n).y v)
              have hc0 : ∀ n, Calls Try.prog 73 #[L.kv, .agg #[.int .i64 a, .int .i64 f]] (W.drewN n) (ConR (m1.known.contains (a, f)) (W.drewN n)) := fun n => c_ContainsSlot (W.drewN n) _ _ (h4.drewN n).slots h4.kl a f
              have hn0 : Calls Try.prog 72 #[.pointer (some ⟨L.n.b, 0, none⟩), .int .i64 a] W.drew fun e w' => e = .returned (.bool (m1.now.begins a)) ∧ ∃ k, w' = W.drewN k := Calls.quiet_of (c_begins (W.drewN 1) _ _ (h4.drewN 1).n a)
              rw [← hnbH.out] at hn1 hn0
              rw [← hybH.out] at hy0
              rw [← hctH.out] at hc0
              have x1 := h4.c1
              have x2 := h4.c2
              have x4 := h4.c4
              have xa : W.cell? ⟨w2.heap.size, 0, none⟩ = some (.int .i64 a) := by rw [cell_of hbx]; rfl
              have xb : W.cell? ⟨w2.heap.size, 1, none⟩ = some (.int .i64 f) := by rw [cell_of hbx]; rfl
              obtain ⟨kp, kcap, hkv⟩ := h4.kvS
              rw [hkv] at x4 hc0
              have hkvH := Lib.hid hkv
              clear hkv
              clear hc0
              go_quiet ((go_at_call 72; (first | with_reducible exact hn1 _ | with_reducible exact hy0 _)))
              have hgo := hgH.out
              simp only [Bool.false_and, Bool.and_false, Bool.true_and, Bool.not_true, Bool.false_eq_true, if_false, Option.some.injEq, Prod.mk.injEq] at hgo
              obtain ⟨rfl, rfl⟩ := hgo
              have hfin := h4.drewN nq
              have ffin := Ev.of_fr (f4.drewN nq)
              go_wp2
              go_ret
              exact ⟨L, rfl, hfin, ffin⟩
            | true =>
              cases yb with
              | false =>
                go_enter Try.func40, Try.ntmps40
                go_wp2_with (fail)
                refine hfd.mono ?_
                rintro e w1 ⟨rfl, hb1⟩
                have h1 := h.below hb1
                have hcv := c_current w1 L m h1 v
                clear hfd
                rw [hvs.out] at hcv
                go_wp2_with (fail)
                refine hcv.mono ?_
                rintro e w2 ⟨rfl, hb2⟩
                have hbb := hb1.trans (hb2.mono hb1.size)
                have h2 := h1.below hb2
                have hw := (h2.spR wh).getw hok
                have hfz := (h2.spR wh).fw ((m.sp wh).idx (a + 1 + f))
                have h3 := h2.put wh (a + 1 + f) v hok
                have f3 : Fr (fun k => k ∈ L.fp) w (w2.setCell ⟨(L.spL wh).wb, (m.sp wh).idx (a + 1 + f), none⟩ (.int .i64 v)) := (Fr.of_below hbb).setCell _ _ (.inl (MemRep.spfp (wh := wh) (by simp [SpL.fp])))
                clear hcv
                go_wp2_with (fail)
                have h4 := h3.alloc (.cells #[.int .i64 a, .int .i64 f] 131)
                have f4 := f3.alloc (.cells #[.int .i64 a, .int .i64 f] 131)
                have hbx := al_same (w2.setCell ⟨(L.spL wh).wb, (m.sp wh).idx (a + 1 + f), none⟩ (.int .i64 v)) (.cells #[.int .i64 a, .int .i64 f] 131)
                have hbxs : (w2.setCell ⟨(L.spL wh).wb, (m.sp wh).idx (a + 1 + f), none⟩ (.int .i64 v)).heap.size = w2.heap.size := by simp [World.setCell]
                rw [hbxs] at hbx
                have hbL : ∀ k ∈ L.fp, k < w2.heap.size := fun k hk => h2.lt hk
                have hbD : ∀ k, L.D k → k < w2.heap.size := fun k hk => h2.Dlt k hk
                clear hbxs h3 f3 hw hfz h2
                generalize ((w2.setCell ⟨(L.spL wh).wb, (m.sp wh).idx (a + 1 + f), none⟩ (.int .i64 v)).alloc (.cells #[.int .i64 a, .int .i64 f] 131)) = W at *
                rw [← hm1H.out] at h4
                have hn1 : ∀ n, Calls Try.prog 72 #[.pointer (some ⟨L.n.b, 0, none⟩), .int .i64 a] (W.drewN n) fun e w' => e = .returned (.bool (m1.now.begins a)) ∧ ∃ k, w' = W.drewN k := fun n => Calls.quiet_of (c_begins (W.drewN n) _ _ (h4.drewN n).n a)
                have hy0 : ∀ n, Calls Try.prog 72 #[.pointer (some ⟨L.y.b, 0, none⟩), .int .i64 v] (W.drewN n) fun e w' => e = .returned (.bool (m1.young.begins v)) ∧ ∃ k, w' = W.drewN k := fun n => Calls.quiet_of (c_begins (W.drewN n) _ _ (h4.drewN n).y v)
                have hc0 : ∀ n, Calls Try.prog 73 #[L.kv, .agg #[.int .i64 a, .int .i64 f]] (W.drewN n) (ConR (m1.known.contains (a, f)) (W.drewN n)) := fun n => c_ContainsSlot (W.drewN n) _ _ (h4.drewN n).slots h4.kl a f
                have hn0 : Calls Try.prog 72 #[.pointer (some ⟨L.n.b, 0, none⟩), .int .i64 a] W.drew fun e w' => e = .returned (.bool (m1.now.begins a)) ∧ ∃ k, w' = W.drewN k := Calls.quiet_of (c_begins (W.drewN 1) _ _ (h4.drewN 1).n a)
                rw [← hnbH.out] at hn1 hn0
                rw [← hybH.out] at hy0
                rw [← hctH.out] at hc0
                have x1 := h4.c1
                have x2 := h4.c2
                have x4 := h4.c4
                have xa : W.cell? ⟨w2.heap.size, 0, none⟩ = some (.int .i64 a) := by rw [cell_of hbx]; rfl
                have xb : W.cell? ⟨w2.heap.size, 1, none⟩ = some (.int .i64 f) := by rw [cell_of hbx]; rfl
                obtain ⟨kp, kcap, hkv⟩ := h4.kvS
                rw [hkv] at x4 hc0
                have hkvH := Lib.hid hkv
                clear hkv
                clear hc0
                go_quiet ((go_at_call 72; (first | with_reducible exact hn1 _ | with_reducible exact hy0 _)))
                have hgo := hgH.out
                simp only [Bool.false_and, Bool.and_false, Bool.true_and, Bool.not_true, Bool.false_eq_true, if_false, Option.some.injEq, Prod.mk.injEq] at hgo
                obtain ⟨rfl, rfl⟩ := hgo
                have hfin := h4.drewN nq
                have ffin := Ev.of_fr (f4.drewN nq)
                go_wp2
                go_ret
                exact ⟨L, rfl, hfin, ffin⟩
              | true =>
                cases ct with
                | true =>
                  go_enter Try.func40, Try.ntmps40
                  go_wp2_with (fail)
                  refine hfd.mono ?_
                  rintro e w1 ⟨rfl, hb1⟩
                  have h1 := h.below hb1
                  have hcv := c_current w1 L m h1 v
                  clear hfd
                  rw [hvs.out] at hcv
                  go_wp2_with (fail)
                  refine hcv.mono ?_
                  rintro e w2 ⟨rfl, hb2⟩
                  have hbb := hb1.trans (hb2.mono hb1.size)
                  have h2 := h1.below hb2
                  have hw := (h2.spR wh).getw hok
                  have hfz := (h2.spR wh).fw ((m.sp wh).idx (a + 1 + f))
                  have h3 := h2.put wh (a + 1 + f) v hok
                  have f3 : Fr (fun k => k ∈ L.fp) w (w2.setCell ⟨(L.spL wh).wb, (m.sp wh).idx (a + 1 + f), none⟩ (.int .i64 v)) := (Fr.of_below hbb).setCell _ _ (.inl (MemRep.spfp (wh := wh) (by simp [SpL.fp])))
                  clear hcv
                  go_wp2_with (fail)
                  have h4 := h3.alloc (.cells #[.int .i64 a, .int .i64 f] 131)
                  have f4 := f3.alloc (.cells #[.int .i64 a, .int .i64 f] 131)
                  have hbx := al_same (w2.setCell ⟨(L.spL wh).wb, (m.sp wh).idx (a + 1 + f), none⟩ (.int .i64 v)) (.cells #[.int .i64 a, .int .i64 f] 131)
                  have hbxs : (w2.setCell ⟨(L.spL wh).wb, (m.sp wh).idx (a + 1 + f), none⟩ (.int .i64 v)).heap.size = w2.heap.size := by simp [World.setCell]
                  rw [hbxs] at hbx
                  have hbL : ∀ k ∈ L.fp, k < w2.heap.size := fun k hk => h2.lt hk
                  have hbD : ∀ k, L.D k → k < w2.heap.size := fun k hk => h2.Dlt k hk
                  clear hbxs h3 f3 hw hfz h2
                  generalize ((w2.setCell ⟨(L.spL wh).wb, (m.sp wh).idx (a + 1 + f), none⟩ (.int .i64 v)).alloc (.cells #[.int .i64 a, .int .i64 f] 131)) = W at *
                  rw [← hm1H.out] at h4
                  have hn1 : ∀ n, Calls Try.prog 72 #[.pointer (some ⟨L.n.b, 0, none⟩), .int .i64 a] (W.drewN n) fun e w' => e = .returned (.bool (m1.now.begins a)) ∧ ∃ k, w' = W.drewN k := fun n => Calls.quiet_of (c_begins (W.drewN n) _ _ (h4.drewN n).n a)
                  have hy0 : ∀ n, Calls Try.prog 72 #[.pointer (some ⟨L.y.b, 0, none⟩), .int .i64 v] (W.drewN n) fun e w' => e = .returned (.bool (m1.young.begins v)) ∧ ∃ k, w' = W.drewN k := fun n => Calls.quiet_of (c_begins (W.drewN n) _ _ (h4.drewN n).y v)
                  have hc0 : ∀ n, Calls Try.prog 73 #[L.kv, .agg #[.int .i64 a, .int .i64 f]] (W.drewN n) (ConR (m1.known.contains (a, f)) (W.drewN n)) := fun n => c_ContainsSlot (W.drewN n) _ _ (h4.drewN n).slots h4.kl a f
                  have hn0 : Calls Try.prog 72 #[.pointer (some ⟨L.n.b, 0, none⟩), .int .i64 a] W.drew fun e w' => e = .returned (.bool (m1.now.begins a)) ∧ ∃ k, w' = W.drewN k := Calls.quiet_of (c_begins (W.drewN 1) _ _ (h4.drewN 1).n a)
                  rw [← hnbH.out] at hn1 hn0
                  rw [← hybH.out] at hy0
                  rw [← hctH.out] at hc0
                  have x1 := h4.c1
                  have x2 := h4.c2
                  have x4 := h4.c4
                  have xa : W.cell? ⟨w2.heap.size, 0, none⟩ = some (.int .i64 a) := by rw [cell_of hbx]; rfl
                  have xb : W.cell? ⟨w2.heap.size, 1, none⟩ = some (.int .i64 f) := by rw [cell_of hbx]; rfl
                  obtain ⟨kp, kcap, hkv⟩ := h4.kvS
                  rw [hkv] at x4 hc0
                  have hkvH := Lib.hid hkv
                  clear hkv
                  go_region_held3 (fun w' => w'.cell? ⟨L.b, 1, none⟩ = some (.pointer (some ⟨L.y.b, 0, none⟩)) ∧ w'.cell? ⟨L.b, 2, none⟩ = some (.pointer (some ⟨L.n.b, 0, none⟩)) ∧ w'.cell? ⟨L.b, 4, none⟩ = some (.slice kp m1.known.length kcap) ∧ w'.cell? ⟨w2.heap.size, 0, none⟩ = some (.int .i64 a) ∧ w'.cell? ⟨w2.heap.size, 1, none⟩ = some (.int .i64 f)) (go_keep)
                    (first
                      | ((with_reducible refine hn0.mono ?_); rintro e w3 ⟨rfl, n3, rfl⟩)
                      | ((with_reducible refine (hn1 _).mono ?_); rintro e w3 ⟨rfl, n3, rfl⟩)
                      | ((with_reducible refine (hy0 _).mono ?_); rintro e w3 ⟨rfl, n3, rfl⟩)
                      | ((with_reducible refine (hc0 _).mono ?_); rintro e w5 ⟨rfl, hb5⟩; have h5 := (h4.drewN _).below hb5; have k1 := h5.c1; have k2 := h5.c2; have k4 := h5.c4; rw [hkvH.out] at k4; have ka := (Fr.of_below (S := fun _ => False) hb5).cell xa id; have kb := (Fr.of_below (S := fun _ => False) hb5).cell xb id))
                  have hgo := hgH.out
                  simp only [Bool.and_false, Bool.true_and, Bool.not_true, Bool.false_eq_true, if_false, Option.some.injEq, Prod.mk.injEq] at hgo
                  obtain ⟨rfl, rfl⟩ := hgo
                  have ffin := Ev.of_fr ((f4.drewN n3).trans (Fr.of_below hb5))
                  clear hn0 hn1 hy0 hc0 x1 x2 x4 xa xb k1 k2 k4 ka kb
                  go_wp2
                  go_ret
                  exact ⟨L, rfl, h5, ffin⟩
                | false =>
                  go_enter Try.func40, Try.ntmps40
                  go_wp2_with (fail)
                  refine hfd.mono ?_
                  rintro e w1 ⟨rfl, hb1⟩
                  have h1 := h.below hb1
                  have hcv := c_current w1 L m h1 v
                  clear hfd
                  rw [hvs.out] at hcv
                  go_wp2_with (fail)
                  refine hcv.mono ?_
                  rintro e w2 ⟨rfl, hb2⟩
                  have hbb := hb1.trans (hb2.mono hb1.size)
                  have h2 := h1.below hb2
                  have hw := (h2.spR wh).getw hok
                  have hfz := (h2.spR wh).fw ((m.sp wh).idx (a + 1 + f))
                  have h3 := h2.put wh (a + 1 + f) v hok
                  have f3 : Fr (fun k => k ∈ L.fp) w (w2.setCell ⟨(L.spL wh).wb, (m.sp wh).idx (a + 1 + f), none⟩ (.int .i64 v)) := (Fr.of_below hbb).setCell _ _ (.inl (MemRep.spfp (wh := wh) (by simp [SpL.fp])))
                  clear hcv
                  go_wp2_with (fail)
                  have h4 := h3.alloc (.cells #[.int .i64 a, .int .i64 f] 131)
                  have f4 := f3.alloc (.cells #[.int .i64 a, .int .i64 f] 131)
                  have hbx := al_same (w2.setCell ⟨(L.spL wh).wb, (m.sp wh).idx (a + 1 + f), none⟩ (.int .i64 v)) (.cells #[.int .i64 a, .int .i64 f] 131)
                  have hbxs : (w2.setCell ⟨(L.spL wh).wb, (m.sp wh).idx (a + 1 + f), none⟩ (.int .i64 v)).heap.size = w2.heap.size := by simp [World.setCell]
                  rw [hbxs] at hbx
                  have hbL : ∀ k ∈ L.fp, k < w2.heap.size := fun k hk => h2.lt hk
                  have hbD : ∀ k, L.D k → k < w2.heap.size := fun k hk => h2.Dlt k hk
                  clear hbxs h3 f3 hw hfz h2
                  generalize ((w2.setCell ⟨(L.spL wh).wb, (m.sp wh).idx (a + 1 + f), none⟩ (.int .i64 v)).alloc (.cells #[.int .i64 a, .int .i64 f] 131)) = W at *
                  rw [← hm1H.out] at h4
                  have hn1 : ∀ n, Calls Try.prog 72 #[.pointer (some ⟨L.n.b, 0, none⟩), .int .i64 a] (W.drewN n) fun e w' => e = .returned (.bool (m1.now.begins a)) ∧ ∃ k, w' = W.drewN k := fun n => Calls.quiet_of (c_begins (W.drewN n) _ _ (h4.drewN n).n a)
                  have hy0 : ∀ n, Calls Try.prog 72 #[.pointer (some ⟨L.y.b, 0, none⟩), .int .i64 v] (W.drewN n) fun e w' => e = .returned (.bool (m1.young.begins v)) ∧ ∃ k, w' = W.drewN k := fun n => Calls.quiet_of (c_begins (W.drewN n) _ _ (h4.drewN n).y v)
                  have hc0 : ∀ n, Calls Try.prog 73 #[L.kv, .agg #[.int .i64 a, .int .i64 f]] (W.drewN n) (ConR (m1.known.contains (a, f)) (W.drewN n)) := fun n => c_ContainsSlot (W.drewN n) _ _ (h4.drewN n).slots h4.kl a f
                  have hn0 : Calls Try.prog 72 #[.pointer (some ⟨L.n.b, 0, none⟩), .int .i64 a] W.drew fun e w' => e = .returned (.bool (m1.now.begins a)) ∧ ∃ k, w' = W.drewN k := Calls.quiet_of (c_begins (W.drewN 1) _ _ (h4.drewN 1).n a)
                  rw [← hnbH.out] at hn1 hn0
                  rw [← hybH.out] at hy0
                  rw [← hctH.out] at hc0
                  have x1 := h4.c1
                  have x2 := h4.c2
                  have x4 := h4.c4
                  have xa : W.cell? ⟨w2.heap.size, 0, none⟩ = some (.int .i64 a) := by rw [cell_of hbx]; rfl
                  have xb : W.cell? ⟨w2.heap.size, 1, none⟩ = some (.int .i64 f) := by rw [cell_of hbx]; rfl
                  obtain ⟨kp, kcap, hkv⟩ := h4.kvS
                  rw [hkv] at x4 hc0
                  have hkvH := Lib.hid hkv
                  clear hkv
                  go_region_held3 (fun w' => w'.cell? ⟨L.b, 1, none⟩ = some (.pointer (some ⟨L.y.b, 0, none⟩)) ∧ w'.cell? ⟨L.b, 2, none⟩ = some (.pointer (some ⟨L.n.b, 0, none⟩)) ∧ w'.cell? ⟨L.b, 4, none⟩ = some (.slice kp m1.known.length kcap) ∧ w'.cell? ⟨w2.heap.size, 0, none⟩ = some (.int .i64 a) ∧ w'.cell? ⟨w2.heap.size, 1, none⟩ = some (.int .i64 f)) (go_keep)
                    (first
                      | ((with_reducible refine hn0.mono ?_); rintro e w3 ⟨rfl, n3, rfl⟩)
                      | ((with_reducible refine (hn1 _).mono ?_); rintro e w3 ⟨rfl, n3, rfl⟩)
                      | ((with_reducible refine (hy0 _).mono ?_); rintro e w3 ⟨rfl, n3, rfl⟩)
                      | ((with_reducible refine (hc0 _).mono ?_); rintro e w5 ⟨rfl, hb5⟩; have h5 := (h4.drewN _).below hb5; have k1 := h5.c1; have k2 := h5.c2; have k4 := h5.c4; rw [hkvH.out] at k4; have ka := (Fr.of_below (S := fun _ => False) hb5).cell xa id; have kb := (Fr.of_below (S := fun _ => False) hb5).cell xb id))
                  have hgo := hgH.out
                  simp only [Bool.and_true, Bool.not_false, if_true] at hgo
                  by_cases hkl : m1.known.length < 1048576
                  · rw [if_pos hkl] at hgo
                    simp only [Option.some.injEq, Prod.mk.injEq] at hgo
                    obtain ⟨rfl, rfl⟩ := hgo
                    have f5 := (f4.drewN n3).trans (Fr.of_below hb5)
                    clear hn0 hn1 hy0 hc0 x1 x2 x4 xa xb k1 k2 k4 hgH
                    obtain ⟨i0, hi, hz0, hz1, hz2⟩ := info_parts Try.infoSlot
                    have hkn : Hid (w5.ownsRow 0 131 2 (.slice kp m1.known.length kcap) m1.known.length (flatSlots m1.known)) := Lib.hid (by rw [← hkvH.out]; exact h5.kn)
                    have k4 : w5.cell? ⟨L.b, 4, none⟩ = some (.slice kp m1.known.length kcap) := by rw [← hkvH.out]; exact h5.c4
                    have ak4 : (w5.alloc (.cells #[.int .i64 a, .int .i64 f] 131)).cell? ⟨L.b, 4, none⟩ = some (.slice kp m1.known.length kcap) := by rw [← hkvH.out]; exact (h5.alloc _).c4
                    have hbk5 : Hid (w5.heap[L.b]? = some (memBlock L m1)) := Lib.hid h5.blk
                    have hkb : L.kv.ownBlock ≠ some L.b := fun e => by
                      obtain ⟨_, _, _, _, a4, _⟩ := h5.apart
                      obtain ⟨q1, q2, q3⟩ := h5.kvS
                      rw [q3] at e a4
                      cases q1 with
                      | none => cases e
                      | some ad => simp only [Value.ownBlock, Option.some.injEq] at e; exact a4 (by simp [kvBlocks, e])
                    have hkbH := Lib.hid hkb
                    clear hkb
                    have hok' : Hid (0 ≤ a ∧ a ≤ 4194304 ∧ 0 ≤ f ∧ f ≤ 60) := hafH
                    go_wp2_with (fail)
                    go_region_law (refine step_append_lies _ rfl (.tmp 77) (.tmp 79) 98 rfl 0 131 i0 (.agg #[.int .i64 0, .int .i64 0]) 2 16 Try.underlying98 hi hz0 hz1 hz2 rfl (by decide) (.slice kp m1.known.length kcap) m1.known.length (flatSlots m1.known) rfl (ownsRow_of_blocks hkn.out fun k hk => al_old _ _ _ (ownsRow_lt hkn.out hk)) ⟨w5.heap.size, 0, none⟩ 1 1 [.int .i64 a, .int .i64 f] rfl rfl (World.news_of_block (al_same w5 (.cells #[.int .i64 a, .int .i64 f] 131))) (by simp [Value.oneCell']) (by decide) (by simp only [maxLen]; omega) (by omega) (Nat.zero_le _) _ rfl ?_; intro g gcap w6 hown hgrow hat hglt; have hb6 := set_grown hbk5.out hkvH.out hkbH.out hgrow; have e4 := set_cell4 hb6; have z4 := free_of hb6 4)
                    all_goals
                      have hr6 := set_known h5 (a := a) (f := f) hkvH.out hkbH.out hgrow hown hat hok' hkl
                      obtain ⟨hr6, ev6⟩ := hr6
                      have efin := (Ev.of_fr f5).trans ev6
                      go_wp2
                      go_ret
                      exact ⟨_, rfl, hr6, efin⟩
                  · rw [if_neg hkl] at hgo; cases hgo
end Go.Proofs.Ytnedmmopkhmejaa
