/- Walk: Picture. -/
import Derived.Deep.AppendLies
import Derived.Deep.RegionLaw
import Derived.Test.YtnedmmopkhmejaaKHD1
import Derived.Test.YtnedmmopkhmejaaKHPure
set_option linter.unusedVariables false
set_option linter.unusedSimpArgs false
namespace Go.Proofs.Ytnedmmopkhmejaa
open Go.RowKit Go.Proofs.Hp
attribute [local go_sem] Oper.semAt_some

set_option maxRecDepth 100000 in
set_option maxHeartbeats 8000000 in
theorem c_Picture (w : World) (L : ML) (m : Mem) (h : MemRep w L m) {Y H : Nat} (hI : m.Inv Y H) (D : Nat → Prop) (v : Value) (roots : List Int) (hr : IntsAt w D v roots) (hl : roots.length ≤ 1048576) (p : Pic) (er : Int) (hp : m.picE roots = some (p, er)) :
    Calls Try.prog 19 #[.pointer (some ⟨L.b, 0, none⟩), v] w fun e w' => ∃ v1 v2 v3, e = .returned (.tuple #[.agg #[v1, v2, v3], .int .i64 er]) ∧ PicAt w' (fun k => w.heap.size ≤ k ∧ k < w'.heap.size) v1 v2 v3 p ∧ Below w.heap.size w w' := by
  have f0 : Fr (fun _ => False) w ((w.alloc (.cells #[.pointer (some ⟨L.b, 0, none⟩)] 27)).alloc (.cells #[.slice none 0 0, .slice none 0 0, .slice none 0 0] 42)) := ((Fr.refl _ w).alloc _).alloc _
  have hz : ((w.alloc (.cells #[.pointer (some ⟨L.b, 0, none⟩)] 27)).alloc (.cells #[.slice none 0 0, .slice none 0 0, .slice none 0 0] 42)).heap[w.heap.size + 1]? = some (.cells #[.slice none 0 0, .slice none 0 0, .slice none 0 0] 42 (0, 0)) := by rw [al_at _ _ _ (by simp only [al_size])]
  have hb0 : ((w.alloc (.cells #[.pointer (some ⟨L.b, 0, none⟩)] 27)).alloc (.cells #[.slice none 0 0, .slice none 0 0, .slice none 0 0] 42)).heap[w.heap.size]? = some (.cells #[.pointer (some ⟨L.b, 0, none⟩)] 27 (0, 0)) := by rw [al_old _ _ _ (by simp only [al_size]; omega), al_same]
  have hs0 : ((w.alloc (.cells #[.pointer (some ⟨L.b, 0, none⟩)] 27)).alloc (.cells #[.slice none 0 0, .slice none 0 0, .slice none 0 0] 42)).heap.size = w.heap.size + 2 := by simp
  have hM0 := h.fr f0 (fun _ _ => id) (fun _ _ => id)
  have hr0 := hr.fr f0 (fun _ _ => id)
  have hrt := c_rooted ((w.alloc (.cells #[.pointer (some ⟨L.b, 0, none⟩)] 27)).alloc (.cells #[.slice none 0 0, .slice none 0 0, .slice none 0 0] 42)) L m hM0 D v roots hr0 (by omega)
  obtain ⟨vp, vcap, hvs⟩ : ∃ p c, v = .slice p roots.length c := by obtain ⟨p, c, e, _⟩ := hr; exact ⟨p, c, e⟩
  have hlt : ∀ k ∈ L.fp, k < w.heap.size := fun k hk => h.lt hk
  have hDlt : ∀ k, L.D k → k < w.heap.size := h.Dlt
  subst hvs
  have hrH := Lib.hid hr
  have hf0H := Lib.hid f0
  have hs0H := Lib.hid hs0
  have hzH := Lib.hid hz
  have hb0H := Lib.hid hb0
  have hM0H := Lib.hid hM0
  have hr0H := Lib.hid hr0
  have hltH := Lib.hid (And.intro hlt hDlt)
  have hpH := Lib.hid hp
  have hbdH : Hid (p.shapes.length ≤ Y + H + H ∧ p.fields.length ≤ Y + H + H ∧ (∀ f ∈ p.fields, f.length ≤ 60) ∧ p.roots.length ≤ 200 ∧ Y ≤ 1024 ∧ H ≤ 4096) := Lib.hid (by
    obtain ⟨p', e', q1, _, q3, q4, q5, q6⟩ := hI.picE roots
    rw [hp] at q1
    cases q1
    exact ⟨q3, q4, q5, q6, hI.geo.Yb, hI.geo.Hb⟩)
  obtain ⟨B, hB⟩ : ∃ B, B = w.heap.size := ⟨_, rfl⟩
  clear h hr f0 hz hb0 hs0 hM0 hr0 hlt hDlt hp
  have x0 : ((w.alloc (.cells #[.pointer (some ⟨L.b, 0, none⟩)] 27)).alloc (.cells #[.slice none 0 0, .slice none 0 0, .slice none 0 0] 42)).cell? ⟨w.heap.size, 0, none⟩ = some (.pointer (some ⟨L.b, 0, none⟩)) := by rw [cell_of hb0H.out]; rfl
  by_cases he : m.rooted roots = 0
  · have hmk := @run_makeMap Try.prog
    rw [he] at hrt
    clear hB
    go_enter Try.func19, Try.ntmps19
    go_wp2_with (fail)
    generalize ((w.alloc (.cells #[.pointer (some ⟨L.b, 0, none⟩)] 27)).alloc (.cells #[.slice none 0 0, .slice none 0 0, .slice none 0 0] 42)) = W at *
    refine hrt.mono ?_
    rintro e W1 ⟨rfl, hb⟩
    clear hrt x0
    have hbH := Lib.hid hb
    clear hb
    go_wp2_with (fail)
    have hM1 := hM0H.out.below hbH.out
    have hb1 := (Fr.of_below (S := fun _ => False) hbH.out).blk hb0H.out id
    have hst := PR.start hM1 hI hb1 hltH.out.1 hltH.out.2 _ rfl
    simp only [picBlock, box] at hst
    have hsO := PO.start ((((W1.alloc (.map #[] 0)).alloc (.cells #[.map (some W1.heap.size)] 97)).alloc (.cells #[.slice none 0 0] 34)).alloc (.cells #[.slice none 0 0, .slice none 0 0, .slice none 0 0] 42)) W1.heap.size
    have hsB : ((((W1.alloc (.map #[] 0)).alloc (.cells #[.map (some W1.heap.size)] 97)).alloc (.cells #[.slice none 0 0] 34)).alloc (.cells #[.slice none 0 0, .slice none 0 0, .slice none 0 0] 42)).heap[W1.heap.size + 3]? = some (picBlock (.slice none 0 0) (.slice none 0 0) (.slice none 0 0)) := by
      simp only [picBlock]; exact al_at _ _ _ (by simp only [al_size])
    have hsF : Fr (fun _ => False) w ((((W1.alloc (.map #[] 0)).alloc (.cells #[.map (some W1.heap.size)] 97)).alloc (.cells #[.slice none 0 0] 34)).alloc (.cells #[.slice none 0 0, .slice none 0 0, .slice none 0 0] 42)) := ((((hf0H.out.trans (Fr.of_below hbH.out)).alloc _).alloc _).alloc _).alloc _
    have hsR : ((((W1.alloc (.map #[] 0)).alloc (.cells #[.map (some W1.heap.size)] 97)).alloc (.cells #[.slice none 0 0] 34)).alloc (.cells #[.slice none 0 0, .slice none 0 0, .slice none 0 0] 42)).heap[w.heap.size + 1]? = some (picBlock (.slice none 0 0) (.slice none 0 0) (.slice none 0 0)) :=
      (((((Fr.of_below (S := fun _ => False) hbH.out).alloc _).alloc _).alloc _).alloc _).blk hzH.out id
    have hAB : w.heap.size + 1 < W1.heap.size := by have := hbH.out.size; have := hs0H.out; omega
    simp only [Nat.add_assoc, Nat.reduceAdd]
    obtain ⟨A, hA⟩ : ∃ A, A = w.heap.size := ⟨_, rfl⟩
    obtain ⟨B, hB⟩ : ∃ B, B = W1.heap.size := ⟨_, rfl⟩
    rw [← hA] at hst hsR hAB ⊢
    rw [← hB] at hst hsO hsB hsF hsR hAB ⊢
    generalize ((((W1.alloc (.map #[] 0)).alloc (.cells #[.map (some B)] 97)).alloc (.cells #[.slice none 0 0] 34)).alloc (.cells #[.slice none 0 0, .slice none 0 0, .slice none 0 0] 42)) = W4 at *
    have hrf : ∀ r ∈ roots, m.isRef r := fun r q => ((Mem.rooted_zero he).2 r q).imp id .inl
    have hrfH := Lib.hid hrf
    have heH := Lib.hid he
    have hAH := Lib.hid hA
    have hsRH := Lib.hid hsR
    have hcells : ∀ k (h : k < roots.length), ∃ b o, vp = some ⟨b, o, none⟩ ∧ b < B ∧ W4.cell? ⟨b, o + k, none⟩ = some (.int .i64 roots[k]) := by
      intro k hk
      obtain ⟨vp', vcap', hve, hc⟩ := hrH.out
      simp only [Value.slice.injEq, true_and] at hve
      obtain ⟨rfl, rfl⟩ := hve
      rcases hc with q | ⟨b, o, hp, _, hc⟩
      · rw [q] at hk; simp at hk
      · have := lt_of_cell (hc k hk)
        exact ⟨b, o, hp, by omega, hsF.cell (hc k hk) id⟩
    have hcellsH := Lib.hid hcells
    have hsFH := Lib.hid hsF
    have hABH := Lib.hid hAB
    have hM4H := Lib.hid hst.rep
    have hDlH := Lib.hid hst.Dl
    clear hA hB hM1 hb1 hmk hrf hsR hsF hcells hAB hbH hM0H hb0H hzH hs0H hf0H hltH he hr0H
    go_loopw [31] (fun i wr => ∃ (k : Nat) (X : Nat → Prop) (v3 : Value), i = .int .i64 k ∧ k ≤ roots.length ∧ PR wr L m A B X ((roots.take k).foldl m.meetP []) ∧ wr.heap[B + 3]? = some (picBlock (.slice none 0 0) (.slice none 0 0) v3) ∧
      PO wr B X (.slice none 0 0) (.slice none 0 0) v3 [] [] [] (m.rootsP [] (roots.take k)) ∧ Fr (fun j => B ≤ j) W4 wr) (fun i _ => roots.length - (intOf i).toNat)
    case atStart => exact ⟨0, _, _, rfl, by omega, by simpa using hst, hsB, by simpa [Mem.rootsP] using hsO, Fr.refl _ _⟩
    case round =>
      clear hst hsO hsB
      obtain ⟨k, X, v3, rfl, hk, hN, hb3, hO, hF⟩ := hrel
      by_cases hlt : k < roots.length
      · skip
        obtain ⟨b, o, hpv, hbB, hcell⟩ := hcellsH.out k hlt
        replace hcell := hF.cell hcell (by omega)
        subst hpv
        have hrr := hrfH.out _ (List.getElem_mem hlt)
        have htk : Hid (roots.take (k + 1) = roots.take k ++ [roots[k]]) := Lib.hid (List.take_succ_eq_append_getElem hlt)
        generalize roots[k] = r at *
        have hlen := Mem.rootsP_len m (roots.take k) []
        rw [List.length_take, Nat.min_eq_left hk] at hlen
        obtain ⟨rs, hrs⟩ : ∃ rs, rs = m.rootsP [] (roots.take k) := ⟨_, rfl⟩
        obtain ⟨lk, hlk⟩ : ∃ lk, lk = (roots.take k).foldl m.meetP [] := ⟨_, rfl⟩
        rw [← hrs] at hlen hO
        rw [← hlk] at hN
        obtain ⟨nv, hnv⟩ : ∃ nv, nv = m.numP (m.meetP lk r) r := ⟨_, rfl⟩
        obtain ⟨l1, hl1⟩ : ∃ l1, l1 = m.meetP lk r := ⟨_, rfl⟩
        have hmt := c_meetQ (W := wr.drew) hN.drew hO.drew (fun _ q => q) hb3 (hF.trans ((Fr.refl _ wr).drewN 1)) r hrr nv l1 (Lib.hid hnv) (Lib.hid hl1)
        have hfin : Hid (l1 = (roots.take (k + 1)).foldl m.meetP [] ∧ rs ++ [nv] = m.rootsP [] (roots.take (k + 1))) := Lib.hid (by
          rw [htk.out, List.foldl_append, Mem.rootsP_snoc, ← hlk, ← hrs, hl1, hnv]
          exact ⟨rfl, rfl⟩)
        have ho3 := hO.o3
        obtain ⟨q3, z3, hv3⟩ := ownsRow_slice ho3
        subst hv3
        subst hlen
        have x3 : wr.cell? ⟨B + 3, 2, none⟩ = some (.slice q3 rs.length z3) := by rw [cell_of hb3]; rfl
        obtain ⟨i0, hi, hz0, hz1, hz2⟩ := info_parts Try.infoInt
        clear hrr hN hb3 hO hF ho3 hnv hl1 hrs hlk htk
        go_wp2_with (fail)
        have hltH := Lib.hid hlt
        clear hcell hbB hlt
        go_region_law (first
          | ((go_simp; with_reducible refine hmt.mono ?_); rintro e w4 ⟨rfl, h4, p4, b4, f4, -⟩; have o4 := p4.o3; have k3 : w4.cell? ⟨B + 3, 2, none⟩ = some (.slice q3 rs.length z3) := (by rw [cell_of b4]; rfl); have s4 := h4.sz; dsimp only)
          | (refine step_append_lies _ rfl (.tmp 36) (.tmp 40) 34 rfl (B + 4) 3 i0 (.int .i64 0) 1 8 Try.underlying34 hi hz0 hz1 hz2 rfl (by decide) (.slice q3 rs.length z3) rs.length _ rfl (own_alloc o4 _) ⟨w4.heap.size, 0, none⟩ 1 1 [.int .i64 nv] rfl rfl (World.news_of_block (al_same w4 (.cells #[.int .i64 nv] 3))) (by simp [Value.oneCell']) (by decide) (by simp only [maxLen]; omega) (by omega) (by simp; omega) (w4.heap.size + 1) (by simp) ?_; intro g gcap w6 hown hgrow hat hglt; have hstep := pic_app3 h4 p4 b4 hown hgrow hat; have k6 : w6.cell? ⟨B + 3, 2, none⟩ = some (.slice q3 rs.length z3) := (by rw [cell_of hstep.1]; rfl); have y6 := free_of hstep.1 2))
        all_goals
          obtain ⟨_, X', hN6, hO6, hb6, hF6⟩ := hstep
          have hF7 := f4.trans hF6
          rw [hfin.out.2] at hO6
          rw [hfin.out.1] at hN6
          clear k6 y6 k3 o4 h4 p4 b4 f4 s4 hown hgrow hat hmt x3 hF6
          go_wp2
          go_roundw
          case rel => exact ⟨rs.length + 1, X', _, by go_num, (by have := hltH.out; omega), hN6, hb6, hO6, hF7⟩
          case measure => have := hltH.out; simp [intOf]; omega
      · obtain rfl : k = roots.length := by omega
        rw [List.take_length] at hN hO
        clear hlt hk
        obtain ⟨fin, hfin, hpf, her⟩ : ∃ fin : List Int × List Int × List (List Int), m.picLoop (m.young.words.length + m.now.words.length + m.other.words.length + 1) 0 (roots.foldl m.meetP []) [] [] = some fin ∧ p = ⟨fin.2.1, fin.2.2, m.rootsP [] roots⟩ ∧ er = 0 := by
          have := hpH.out
          unfold Mem.picE at this
          rw [if_neg (by simpa using heH.out)] at this
          cases hq : m.picLoop (m.young.words.length + m.now.words.length + m.other.words.length + 1) 0 (roots.foldl m.meetP []) [] [] with
          | none => rw [hq] at this; cases this
          | some fin =>
            rw [hq] at this
            simp only [Option.some.injEq, Prod.mk.injEq] at this
            exact ⟨fin, rfl, this.1.symm, this.2.symm⟩
        have hfinH : Hid (∃ f, m.picLoop f 0 (roots.foldl m.meetP []) [] [] = some fin) := Lib.hid ⟨_, hfin⟩
        subst her
        have hpfH := Lib.hid hpf
        have hrsl := Lib.hid (Mem.rootsP_len m roots [])
        generalize m.rootsP [] roots = rs at *
        generalize roots.foldl m.meetP [] = l0 at *
        clear hfin hpf hpH heH
        go_wp2_with (fail)
        have hN0 := Lib.hid hN
        go_loopw [13] (fun i wr => ∃ (n : Nat) (X : Nat → Prop) (l : List Int) (v1 v2 v3 : Value) (rv : List Value) (ss : List Int) (fs : List (List Int)), i = .int .i64 n ∧ n ≤ l.length ∧ Hid (ss.length = n ∧ fs.length = n) ∧ PR wr L m A B X l ∧ wr.heap[B + 3]? = some (picBlock v1 v2 v3) ∧
          PO wr B X v1 v2 v3 rv ss fs rs ∧ Fr (fun j => B ≤ j) W4 wr ∧ Hid (∃ f, m.picLoop f n l ss fs = some fin)) (fun i _ => 9217 - (intOf i).toNat)
        case atStart => exact ⟨0, X, l0, _, _, _, [], [], [], rfl, by omega, Lib.hid ⟨rfl, rfl⟩, hN, hb3, hO, hF, hfinH⟩
        case round =>
          clear hN hb3 hO hF hfinH hN0
          obtain ⟨n, X, l, v1, v2, v3, rv, ss, fs, rfl, hn, hln, hN, hb3, hO, hF, hfu⟩ := hrel
          have hlen := hN.len
          obtain ⟨v, g4, o4, -⟩ := hN.b4
          obtain ⟨vq, vz, hv4⟩ := ownsRow_slice o4
          subst hv4
          have x4 : wr.cell? ⟨B + 2, 0, none⟩ = some (.slice vq l.length vz) := by rw [cell_of g4]; rfl
          by_cases hlt : n < l.length
          · skip
            obtain ⟨g, hvq, hcl⟩ : ∃ g, vq = some ⟨g, 0, none⟩ ∧ wr.cell? ⟨g, n, none⟩ = some (.int .i64 l[n]) := by
              rcases o4.2 with ⟨_, h0⟩ | ⟨g, cap, cur, hv, _⟩
              · omega
              · simp only [Value.slice.injEq] at hv
                obtain ⟨rfl, _, rfl⟩ := hv
                refine ⟨g, rfl, ?_⟩
                have := o4.cells (g := g) rfl n (.int .i64 l[n]) (by rw [List.getElem?_map, List.getElem?_eq_getElem hlt]; rfl)
                rw [show (⟨g, 0, none⟩ : Addr).add n = ⟨g, n, none⟩ from by unfold Addr.add; split <;> simp_all] at this
                exact this
            subst hvq
            obtain ⟨wh, sh, rr, hin, hsh, hrow, hfu2⟩ := Mem.picLoop_round (List.getElem?_eq_getElem hlt) hfu.out
            have hal : Hid (l[n]? = some l[n]) := Lib.hid (List.getElem?_eq_getElem hlt)
            have hob : Hid (m.ob wh l[n] sh) := Lib.hid (by
              obtain ⟨wh', sh', k1, _⟩ := hN.pl.nodes _ (List.getElem_mem hlt)
              have e1 := hI.inSp_ob k1
              rw [hin] at e1; cases e1
              have e2 := (hI.tl wh).fields k1 (m := m) rfl
              rw [hsh] at e2; cases e2
              exact k1)
            generalize l[n] = a at *
            have hMd : MemRep wr.drew L m := hN.rep.drew
            have hci := c_in _ L m hMd a wh hin
            have x0 : wr.cell? ⟨A, 0, none⟩ = some (.pointer (some ⟨L.b, 0, none⟩)) := by rw [cell_of hN.b0]; rfl
            have hshH := Lib.hid hsh
            have hrowH := Lib.hid hrow
            have hfu2H := Lib.hid hfu2
            have hltH := Lib.hid hlt
            have hHH := Lib.hid (And.intro hN (And.intro hb3 (And.intro hO hF)))
            clear hfu hin hsh hrow hfu2 hN hb3 hO hF o4 g4 hMd hn
            go_wp2_with (fail)
            go_region_held3 (fun w' => w'.cell? ⟨A, 0, none⟩ = some (.pointer (some ⟨L.b, 0, none⟩)) ∧ w'.cell? ⟨B + 2, 0, none⟩ = some (.slice (some ⟨g, 0, none⟩) l.length vz) ∧ w'.cell? ⟨g, n, none⟩ = some (.int .i64 a)) (go_keep)
              (((with_reducible refine hci.mono ?_); rintro e w2 ⟨rfl, hb2⟩; have x0 := (Fr.of_below (S := fun _ => False) hb2).cell (w := wr.drew) x0 id; have x4 := (Fr.of_below (S := fun _ => False) hb2).cell (w := wr.drew) x4 id; have hcl := (Fr.of_below (S := fun _ => False) hb2).cell (w := wr.drew) hcl id))
            all_goals
              have f2 : Fr (fun _ => False) wr w2 := ((Fr.refl _ wr).drewN 1).trans (Fr.of_below hb2)
              obtain ⟨hN, hb3, hO, hF⟩ := hHH.out
              have hN2 := hN.fr f2 (fun _ q => q.elim) (fun _ q => .inl q) (fun k q => Nat.lt_of_lt_of_le (hN.X6 k q).2 f2.size)
              have hO2 := hO.fr f2 fun _ q => q.elim
              have hb32 := f2.blk hb3 id
              have hF2 := hF.trans (f2.mono fun _ _ q => q.elim)
              have hoka : (m.sp wh).ok a = true := by
                have := hshH.out
                unfold Mem.fieldsAt at this
                split at this
                · assumption
                · cases this
              have hsv : m.shapeAt ((m.sp wh).get a) = some sh := by
                have := hshH.out
                unfold Mem.fieldsAt at this
                rw [if_pos hoka] at this; exact this
              obtain ⟨bS, oS, cS, pS, cS', hshv, hv0, hv1, hbS, hcS, hs60, hbo⟩ := shape_cells (A := A) (B := B) hM4H.out hDlH.out (by have := hABH.out; omega) hsv
              have xw := (hN2.rep.spR wh).getw hoka
              have hwd : ∀ q, Calls Try.prog 61 #[.pointer (some ⟨(L.spL wh).b, 0, none⟩), .int .i64 a] (w2.drewN q) fun e w' => e = .returned (.pointer (some ⟨(L.spL wh).wb, (m.sp wh).idx a, none⟩)) ∧ ∃ k, w' = w2.drewN k := fun q => Calls.quiet_of (c_word (w2.drewN q) (L.spL wh) (m.sp wh) ((hN2.rep.drewN q).spR wh) a hoka)
              have k0 : w2.cell? ⟨L.b, 0, none⟩ = some (.slice (some ⟨bS, oS, none⟩) m.shapes.length cS) := by rw [← hshv]; exact hN2.rep.c0
              have kS := hF2.cell hcS (by omega)
              have hboH := Lib.hid hbo
              have hHJ := Lib.hid (And.intro hN2 (And.intro hb32 (And.intro hO2 hF2)))
              have hcSH := Lib.hid (And.intro hcS hbS)
              have hshvH := Lib.hid hshv
              have hokaH := Lib.hid hoka
              clear hHH hci hN hO hb3 hF f2 hb2 hN2 hb32 hO2 hF2 hbo hcS hbS hshv hsv hoka
              generalize (m.sp wh).get a = v0 at *
              go_wp2_with (fail)
              go_quiet ((go_at_call 61; exact hwd _))
              go_wp2_with (fail)
              obtain ⟨hN5, hb5, hO5, hF5⟩ : PR (w2.drewN nq) L m A B X l ∧ (w2.drewN nq).heap[B + 3]? = some (picBlock v1 v2 v3) ∧ PO (w2.drewN nq) B X v1 v2 v3 rv ss fs rs ∧ Fr (fun j => B ≤ j) W4 (w2.drewN nq) :=
                ⟨hHJ.out.1.drewN nq, hHJ.out.2.1, hHJ.out.2.2.1.fr (S := fun _ => False) ((Fr.refl _ w2).drewN nq) (fun _ q => q.elim), hHJ.out.2.2.2.trans ((Fr.refl _ w2).drewN nq)⟩
              clear hHJ hwd xw k0 kS x0 x4 hcl
              generalize w2.drewN nq = W5 at *
              have hN50 := hN5.fr (X2 := fun j => X j ∨ (Value.slice none 0 0).ownBlock = some j) (Fr.refl (fun _ => False) W5) (fun _ q => q.elim) (fun k q => q.elim .inl (fun e => by cases e)) (fun k q => q.elim (fun e => (hN5.X6 k e).2) (fun e => by cases e))
              have hrow0 : Hid (∃ rest, m.rowP (m.sp wh) a (sh.drop 0) ((0 : Nat) : Int) l = some rest ∧ rr = (rest.1, ([] : List Int) ++ rest.2)) := Lib.hid ⟨rr, by rw [List.drop_zero]; exact hrowH.out, rfl⟩
              go_loopw [16, 74] (fun r i wr => ∃ (k : Nat) (lk : List Int) (q : Option Addr) (z : Nat) (row : List Int), r = .slice q row.length z ∧ i = .int .i64 k ∧ k ≤ sh.length ∧ Hid (row.length = k) ∧ PR wr L m A B (fun j => X j ∨ (Value.slice q row.length z).ownBlock = some j) lk ∧ wr.heap[B + 3]? = some (picBlock v1 v2 v3) ∧
                PO wr B X v1 v2 v3 rv ss fs rs ∧ wr.ownsRow (B + 4) 3 1 (.slice q row.length z) row.length (row.map (.int .i64)) ∧ Hid (∀ j, (Value.slice q row.length z).ownBlock = some j → ¬ X j) ∧ Fr (fun j => B ≤ j) W4 wr ∧
                Hid (∃ rest, m.rowP (m.sp wh) a (sh.drop k) (k : Int) lk = some rest ∧ rr = (rest.1, row ++ rest.2)) ∧ Hid (∃ t, lk = l ++ t)) (fun _ i _ => sh.length - (intOf i).toNat)
              case atStart => exact ⟨0, l, none, 0, [], rfl, rfl, by omega, Lib.hid rfl, hN50, hb5, hO5, World.ownsRow_nil _ _ _ _, Lib.hid (fun j e => by cases e), hF5, hrow0, Lib.hid ⟨[], by simp⟩⟩
              case round =>
                clear hN5 hb5 hO5 hF5 hN50 hrow0 hrowH
                obtain ⟨k, lk, q, z, row, rfl, rfl, hk, hrl, hN, hb3, hO, hoR, hxR, hF, hrw, hlt2⟩ := hrel
                by_cases hks : k < sh.length
                · skip
                  obtain ⟨v, g4, o4, -⟩ := hN.b4
                  obtain ⟨vq, vz, hv4⟩ := ownsRow_slice o4
                  subst hv4
                  have x4 : wr.cell? ⟨B + 2, 0, none⟩ = some (.slice vq lk.length vz) := by rw [cell_of g4]; rfl
                  have hnl : n < lk.length := by
                    obtain ⟨t, ht⟩ := hlt2.out
                    have := hltH.out
                    rw [ht, List.length_append]; omega
                  obtain ⟨gl, hvq, hcl⟩ : ∃ g, vq = some ⟨g, 0, none⟩ ∧ wr.cell? ⟨g, n, none⟩ = some (.int .i64 a) := by
                    rcases o4.2 with ⟨_, h0⟩ | ⟨g, cap, cur, hv, _⟩
                    · omega
                    · simp only [Value.slice.injEq] at hv
                      obtain ⟨rfl, _, rfl⟩ := hv
                      refine ⟨g, rfl, ?_⟩
                      have hla : lk[n]? = some a := by
                        obtain ⟨t, ht⟩ := hlt2.out
                        rw [ht, List.getElem?_append_left hltH.out]; exact hal.out
                      have := o4.cells (g := g) rfl n (.int .i64 a) (by rw [List.getElem?_map, hla]; rfl)
                      rw [show (⟨g, 0, none⟩ : Addr).add n = ⟨g, n, none⟩ from by unfold Addr.add; split <;> simp_all] at this
                      exact this
                  subst hvq
                  have hlkl := hN.len
                  obtain ⟨b', o', hpS, hb'B, hcb⟩ := hboH.out k hks
                  subst hpS
                  replace hcb := hF.cell hcb (by omega)
                  obtain ⟨rest, hr1, hr2⟩ := hrw.out
                  rw [List.drop_eq_getElem_cons hks] at hr1
                  obtain ⟨hok, rest', hr3, hr4⟩ := Mem.rowP_round hr1
                  have hbe : sh.getD k false = sh[k] := by simp [hks]
                  rw [hbe] at hcb
                  have hisr : Hid (sh[k] = true → m.isRef ((m.sp wh).get (a + 1 + (k : Int)))) := Lib.hid fun e => hI.fld_ref (wh := wh) ⟨sh, hob.out, by rw [List.getElem?_eq_getElem hks, e]⟩
                  have xw := (hN.rep.spR wh).getw hok
                  have hwd : ∀ q, Calls Try.prog 61 #[.pointer (some ⟨(L.spL wh).b, 0, none⟩), .int .i64 (a + 1 + (k : Int))] (wr.drewN q) fun e w' => e = .returned (.pointer (some ⟨(L.spL wh).wb, (m.sp wh).idx (a + 1 + (k : Int)), none⟩)) ∧ ∃ k, w' = wr.drewN k :=
                    fun q => Calls.quiet_of (c_word (wr.drewN q) (L.spL wh) (m.sp wh) ((hN.rep.drewN q).spR wh) _ hok)
                  have x0 : wr.cell? ⟨A, 0, none⟩ = some (.pointer (some ⟨L.b, 0, none⟩)) := by rw [cell_of hN.b0]; rfl
                  have hab : 0 ≤ a ∧ a ≤ 4194304 := by
                    have h1 := hokaH.out
                    have h2 := (hN.rep.spR wh).b1
                    have h3 := (hN.rep.spR wh).b2
                    simp only [Sp.ok, Bool.and_eq_true, decide_eq_true_eq] at h1
                    omega
                  have wc1 : IntKind.i64.wrap (a + 1) = a + 1 := IntWalk.i64_in _ (by omega)
                  have wc2 : IntKind.i64.wrap (a + 1 + (k : Int)) = a + 1 + (k : Int) := IntWalk.i64_in _ (by omega)
                  have hHH := Lib.hid (And.intro hN (And.intro hb3 (And.intro hO (And.intro hoR (And.intro hxR.out hF)))))
                  have hr3H := Lib.hid hr3
                  have hr4H : Hid (rr = (rest.1, row ++ rest.2) ∧ rest = (rest'.1, (if sh[k] = true then m.numP (m.meetP lk ((m.sp wh).get (a + 1 + (k : Int)))) ((m.sp wh).get (a + 1 + (k : Int))) else (m.sp wh).get (a + 1 + (k : Int))) :: rest'.2)) := Lib.hid ⟨hr2, hr4⟩
                  have hksH := Lib.hid hks
                  have hrl60 : row.length ≤ 60 := by rw [hrl.out]; omega
                  clear hr1 hr2 hr3 hr4 hrw hN hb3 hO hoR hxR hF hok hbe o4 g4 hab
                  generalize sh[k] = bk at *
                  generalize hxk : (m.sp wh).get (a + 1 + (k : Int)) = x at *
                  clear hxk
                  go_wp2_with (fail)
                  go_quiet ((go_at_call 61; exact hwd _))
                  obtain ⟨h6, b6, p6, o6, hx6, f6⟩ : PR (wr.drewN nq) L m A B (fun j => X j ∨ (Value.slice q row.length z).ownBlock = some j) lk ∧ (wr.drewN nq).heap[B + 3]? = some (picBlock v1 v2 v3) ∧ PO (wr.drewN nq) B X v1 v2 v3 rv ss fs rs ∧
                      (wr.drewN nq).ownsRow (B + 4) 3 1 (.slice q row.length z) row.length (row.map (.int .i64)) ∧ Hid (∀ j, (Value.slice q row.length z).ownBlock = some j → ¬ X j) ∧ Fr (fun j => B ≤ j) W4 (wr.drewN nq) :=
                    ⟨hHH.out.1.drewN nq, hHH.out.2.1, hHH.out.2.2.1.fr (S := fun _ => False) ((Fr.refl _ wr).drewN nq) (fun _ q => q.elim), own_fr (S := fun _ => False) hHH.out.2.2.2.1 ((Fr.refl _ wr).drewN nq) (fun _ _ => id), Lib.hid hHH.out.2.2.2.2.1, hHH.out.2.2.2.2.2.trans ((Fr.refl _ wr).drewN nq)⟩
                  clear hHH hwd xw x0 x4 hcl hcb
                  generalize wr.drewN nq = w7 at *
                  obtain ⟨i0, hi, hz0, hz1, hz2⟩ := info_parts Try.infoInt
                  cases bk with
                  | false =>
                    obtain ⟨l1, hl1⟩ : ∃ l1, l1 = lk := ⟨_, rfl⟩
                    obtain ⟨nv, hnv⟩ : ∃ nv, nv = x := ⟨_, rfl⟩
                    have hfin : Hid ((∃ rest, m.rowP (m.sp wh) a (sh.drop (k + 1)) ((k + 1 : Nat) : Int) l1 = some rest ∧ rr = (rest.1, (row ++ [nv]) ++ rest.2)) ∧ ∃ t, l1 = l ++ t) := Lib.hid (by
                      have e1 := hr3H.out
                      obtain ⟨e2, e3⟩ := hr4H.out
                      simp only [Bool.false_eq_true, if_false] at e1 e3
                      subst hl1 hnv
                      exact ⟨⟨rest', e1, by rw [e2, e3]; simp⟩, hlt2.out⟩)
                    subst hl1 hnv
                    clear hr3H hr4H hlt2 hisr
                    have s7 := h6.sz
                    have h7 := h6
                    have p7 := p6
                    have b7 := b6
                    have o7 := o6
                    have f7 := f6
                    clear h6 p6 b6 o6 f6
                    go_wp2_with (at_builtin; refine wpList_append_lies _ rfl _ _ _ rfl (B + 4) 3 i0 (.int .i64 0) 1 8 Try.underlying34 hi hz0 hz1 hz2 rfl (by decide) (.slice q row.length z) row.length (row.map (.int .i64)) rfl (own_alloc o7 _) ⟨w7.heap.size, 0, none⟩ 1 1 [.int .i64 nv] rfl rfl (World.news_of_block (al_same w7 (.cells #[.int .i64 nv] 3))) (by simp [Value.oneCell']) (by decide) (by simp only [maxLen]; omega) (by omega) (by simp; omega) (w7.heap.size + 1) (by simp) ?_; intro g' gcap w9 hown hgrow hat hglt)
                    obtain ⟨h8, p8, x8, b8, o8, f8⟩ := row_app h7 p7 hx6.out b7 hgrow hown hat
                    have f9 := f7.trans f8
                    clear h7 p7 b7 o7 f7 f8 hgrow hown hat
                    go_roundw
                    case rel => exact ⟨k + 1, l1, some ⟨g', 0, none⟩, gcap, row ++ [nv], by rw [List.length_append]; rfl, by go_num, (by have := hksH.out; omega), Lib.hid (by simp [hrl.out]), h8, b8, p8, o8, Lib.hid x8, f9, Lib.hid hfin.out.1, Lib.hid hfin.out.2⟩
                    case measure => have := hksH.out; simp [intOf]; omega
                  | true =>
                    obtain ⟨l1, hl1⟩ : ∃ l1, l1 = m.meetP lk x := ⟨_, rfl⟩
                    obtain ⟨nv, hnv⟩ : ∃ nv, nv = m.numP (m.meetP lk x) x := ⟨_, rfl⟩
                    have hfin : Hid ((∃ rest, m.rowP (m.sp wh) a (sh.drop (k + 1)) ((k + 1 : Nat) : Int) l1 = some rest ∧ rr = (rest.1, (row ++ [nv]) ++ rest.2)) ∧ ∃ t, l1 = l ++ t) := Lib.hid (by
                      have e1 := hr3H.out
                      obtain ⟨e2, e3⟩ := hr4H.out
                      simp only [if_true] at e1 e3
                      rw [← hl1] at e1
                      rw [← hnv] at e3
                      obtain ⟨t, ht⟩ := hlt2.out
                      obtain ⟨t2, ht2⟩ := Mem.meetP_ext m lk x
                      exact ⟨⟨rest', e1, by rw [e2, e3]; simp⟩, t ++ t2, by rw [hl1, ht2, ht, List.append_assoc]⟩)
                    have hmt := c_meetQ (W := w7) h6 p6 (fun _ q => .inl q) b6 f6 x (hisr.out rfl) nv l1 (Lib.hid hnv) (Lib.hid hl1)
                    have ho6 := Lib.hid o6
                    clear hr3H hr4H hlt2 hisr hl1 hnv h6 p6 b6 f6 o6
                    go_wp2_with (fail)
                    refine hmt.mono ?_
                    rintro e w8 ⟨rfl, h7, p7, b7, f7, k7⟩
                    have o7 := k7 _ _ _ (fun j q => .inr q) ho6.out
                    clear hmt k7 ho6
                    generalize w8 = w7 at *
                    have s7 := h7.sz
                    go_wp2_with (at_builtin; refine wpList_append_lies _ rfl _ _ _ rfl (B + 4) 3 i0 (.int .i64 0) 1 8 Try.underlying34 hi hz0 hz1 hz2 rfl (by decide) (.slice q row.length z) row.length (row.map (.int .i64)) rfl (own_alloc o7 _) ⟨w7.heap.size, 0, none⟩ 1 1 [.int .i64 nv] rfl rfl (World.news_of_block (al_same w7 (.cells #[.int .i64 nv] 3))) (by simp [Value.oneCell']) (by decide) (by simp only [maxLen]; omega) (by omega) (by simp; omega) (w7.heap.size + 1) (by simp) ?_; intro g' gcap w9 hown hgrow hat hglt)
                    obtain ⟨h8, p8, x8, b8, o8, f8⟩ := row_app h7 p7 hx6.out b7 hgrow hown hat
                    have f9 := f7.trans f8
                    clear h7 p7 b7 o7 f7 f8 hgrow hown hat
                    go_roundw
                    case rel => exact ⟨k + 1, l1, some ⟨g', 0, none⟩, gcap, row ++ [nv], by rw [List.length_append]; rfl, by go_num, (by have := hksH.out; omega), Lib.hid (by simp [hrl.out]), h8, b8, p8, o8, Lib.hid x8, f9, Lib.hid hfin.out.1, Lib.hid hfin.out.2⟩
                    case measure => have := hksH.out; simp [intOf]; omega
                · skip
                  obtain rfl : k = sh.length := by omega
                  obtain ⟨rest, hr1, hr2⟩ := hrw.out
                  rw [List.drop_length] at hr1
                  unfold Mem.rowP at hr1
                  simp only [Option.some.injEq] at hr1
                  subst hr1
                  simp only [List.append_nil] at hr2
                  obtain ⟨p1, n1, hv1⟩ := ownsRow_slice hO.o1
                  obtain ⟨p2, n2, hv2⟩ := ownsRow_slice hO.o2
                  subst hv1 hv2
                  have e1 : wr.cell? ⟨B + 3, 0, none⟩ = some (.slice p1 ss.length n1) := by rw [cell_of hb3]; rfl
                  have e2 : wr.cell? ⟨B + 3, 1, none⟩ = some (.slice p2 rv.length n2) := by rw [cell_of hb3]; rfl
                  have s0 := hN.size
                  have o1 := hO.o1
                  have o2 := hO.o2
                  have oB := hO.rl
                  have lnn := hln.out
                  have hg1 : Hid (∀ k, (Value.slice p1 ss.length n1).ownBlock = some k → B + 4 ≤ k ∧ k < wr.heap.size) := Lib.hid fun k e => hO.o1.lt k e
                  have hg2 : Hid (∀ k, (Value.slice p2 rv.length n2).ownBlock = some k → B + 4 ≤ k ∧ k < wr.heap.size ∧ (Value.slice p1 ss.length n1).ownBlock ≠ some k) := Lib.hid fun k e => ⟨(hO.o2.lt k e).1, (hO.o2.lt k e).2, fun y => (hO.a12 k y).1 e⟩
                  have ha := Lib.hid (fun k (e : (Value.slice p2 rv.length n2).ownBlock = some k) => (hg2.out k e).2.2)
                  have hbk : Hid (wr.heap[B + 3]? = some (picBlock (.slice p1 ss.length n1) (.slice p2 rv.length n2) v3)) := Lib.hid hb3
                  obtain ⟨i0, hi, hz0, hz1, hz2⟩ := info_parts Try.infoInt
                  obtain ⟨i1, hi', hz0', hz1', hz2'⟩ := info_parts Try.infoInts
                  have hlkl := hN.len
                  obtain ⟨t, ht⟩ := hlt2.out
                  have hnl : n < lk.length := by
                    have := hltH.out
                    rw [ht, List.length_append]; omega
                  have sz1 : ss.length ≤ 9216 := by omega
                  have sz2 : rv.length ≤ 9216 := by omega
                  have hHH := Lib.hid (And.intro hN (And.intro hO (And.intro hoR (And.intro hxR.out hF))))
                  have hrr := Lib.hid hr2
                  have hnlH := Lib.hid hnl
                  clear hN hO hb3 hoR hxR hF hr2 hrw hlt2 lnn oB ht hnl hks hk hob hboH hal
                  go_wp2_with (fail)
                  have hg1' := fun k e => (hg1.out k e).2
                  have hn9 : n ≤ 9216 := by have := hnlH.out; omega
                  have hfu3 := Lib.hid (And.intro hfu2H.out (And.intro hln.out hrr.out))
                  clear hI hl hrH hbdH hrfH hAH hsRH hcellsH hsFH hABH hM4H hDlH hpfH hrsl hln hlen hlt hcl x0 x4 hshH hltH hs60 hshvH hokaH hv0 hv1 hcSH hrl hlkl hfu2H hrr
                  go_region_law (first
                    | (refine step_append_lies _ rfl (.tmp 102) (.tmp 104) 34 rfl (B + 4) 3 i0 (.int .i64 0) 1 8 Try.underlying34 hi hz0 hz1 hz2 rfl (by decide) (.slice p1 ss.length n1) ss.length (ss.map (.int .i64)) rfl (by first | exact own_ad o1 _ | exact own_aad o1 _ _) ⟨_, 0, none⟩ 1 1 [.int .i64 v0] rfl rfl
                        (by first | exact news_ad _ _ _ | exact news_aad1 _ _ _ _ | exact news_aad2 _ _ _ _) (by simp [Value.oneCell']) (by decide) (by simp only [maxLen]; omega) (by omega) (by first | omega | (simp; omega)) _ rfl ?_
                       intro g1 c1 w6 hown1 hgrow1 hat1 hglt1
                       have f6 : Fr (fun k => (Value.slice p1 ss.length n1).ownBlock = some k) wr w6 := by first | exact fr_gd1 hgrow1 | exact fr_gd2 hgrow1
                       have b6 : w6.heap[B + 3]? = some (picBlock (.slice p1 ss.length n1) (.slice p2 rv.length n2) v3) := f6.blk hbk.out (fun e => by have := (hg1.out _ e).1; omega)
                       have e1 : w6.cell? ⟨B + 3, 0, none⟩ = some (.slice p1 ss.length n1) := by rw [cell_of b6]; rfl
                       have e2 : w6.cell? ⟨B + 3, 1, none⟩ = some (.slice p2 rv.length n2) := by rw [cell_of b6]; rfl
                       have s6 := lt_of_block b6
                       clear b6)
                    | (refine step_append_lies _ rfl (.tmp 107) (.tmp 109) 40 rfl (B + 4) 34 i1 (.slice none 0 0) 1 24 Try.underlying40 hi' hz0' hz1' hz2' rfl (by decide) (.slice p2 rv.length n2) rv.length rv rfl
                        (by first | exact own_alloc (own_frG o2 f6 ha.out) _ | exact own_frG o2 f6 ha.out) ⟨_, 0, none⟩ 1 1 [.slice q row.length z] rfl rfl
                        (by first | exact news_a _ _ _ | exact news_g1 hgrow1 hg1' | exact news_g2 hgrow1 hg1') (by simp [Value.oneCell']) (by decide) (by simp only [maxLen]; omega) (by omega) (by first | omega | (simp; omega)) _ rfl ?_
                       intro g2 c2 w8 hown2 hgrow2 hat2 hglt2
                       have f8 : Fr (fun k => (Value.slice p2 rv.length n2).ownBlock = some k) w6 w8 := by first | exact fr_grown hgrow2 | exact fr_g0 hgrow2
                       have b8 : w8.heap[B + 3]? = some (picBlock (.slice p1 ss.length n1) (.slice p2 rv.length n2) v3) := f8.blk (f6.blk hbk.out (fun e => by have := (hg1.out _ e).1; omega)) (fun e => by have := (hg2.out _ e).1; omega)
                       have e1 : w8.cell? ⟨B + 3, 0, none⟩ = some (.slice p1 ss.length n1) := by rw [cell_of b8]; rfl
                       have e2 : w8.cell? ⟨B + 3, 1, none⟩ = some (.slice p2 rv.length n2) := by rw [cell_of b8]; rfl
                       have z1 := free_of b8 0
                       have z2 := free_of b8 1
                       clear b8))
                  all_goals
                    have hat1' : (Value.slice p1 ss.length n1).ownBlock = some g1 ∨ wr.heap.size ≤ g1 := by
                      rcases hat1 with e | e
                      · exact .inl e
                      · right; first | omega | (simp at e; omega)
                    have hat2' : (Value.slice p2 rv.length n2).ownBlock = some g2 ∨ w6.heap.size ≤ g2 := by
                      rcases hat2 with e | e
                      · exact .inl e
                      · right; first | omega | (simp at e; omega)
                    obtain ⟨X', hN9, hO9, hb9, hF9⟩ := pic_app12 hHH.out.1 hHH.out.2.1 hHH.out.2.2.1 hHH.out.2.2.2.1 hbk.out hHH.out.2.2.2.2 hown1 f6 hat1' hown2 f8 hat2'
                    clear hown1 hgrow1 hat1 hown2 hgrow2 hat2 hat1' hat2' f6 f8 hHH hbk hg1 hg2 ha o1 o2 z1 z2 hg1'
                    go_wp2
                    go_roundw
                    case rel => exact ⟨n + 1, X', lk, _, _, v3, _, _, _, by go_num, (by have := hnlH.out; omega), Lib.hid (by simp [hfu3.out.2.1.1, hfu3.out.2.1.2]), hN9, hb9, hO9, hF9, Lib.hid (by have e := hfu3.out.1; rw [hfu3.out.2.2] at e; exact e)⟩
                    case measure => simp [intOf]; omega
          · have hend := Mem.picLoop_end (l := l) (by rw [List.getElem?_eq_none_iff]; omega) hfu.out
            have hendH := Lib.hid hend
            have hb9 := hF.blk (hsRH.out) (by have := hABH.out; omega)
            have y0 : wr.cell? ⟨B + 3, 0, none⟩ = some v1 := by rw [cell_of hb3]; rfl
            have y1 : wr.cell? ⟨B + 3, 1, none⟩ = some v2 := by rw [cell_of hb3]; rfl
            have y2 : wr.cell? ⟨B + 3, 2, none⟩ = some v3 := by rw [cell_of hb3]; rfl
            have z0 : wr.cell? ⟨A + 1, 0, none⟩ = some (.slice none 0 0) := by rw [cell_of hb9]; rfl
            have z1 : wr.cell? ⟨A + 1, 1, none⟩ = some (.slice none 0 0) := by rw [cell_of hb9]; rfl
            have z2 : wr.cell? ⟨A + 1, 2, none⟩ = some (.slice none 0 0) := by rw [cell_of hb9]; rfl
            have zf0 := free_of hb9 0
            have zf1 := free_of hb9 1
            have zf2 := free_of hb9 2
            obtain ⟨p1, n1, hv1⟩ := ownsRow_slice hO.o1
            obtain ⟨p2, n2, hv2⟩ := ownsRow_slice hO.o2
            obtain ⟨p3, n3, hv3⟩ := ownsRow_slice hO.o3
            have hHH := Lib.hid (And.intro hN (And.intro hO (And.intro hF hb9)))
            subst hv1 hv2 hv3
            clear hend hfu hN hb3 hO hF hb9 g4 o4
            go_wp2_with (fail)
            have hbd := hbdH.out
            rw [hpfH.out, hendH.out] at hbd
            obtain ⟨W9, hW9, r0, r1, r2, hpic, hbl⟩ := pic_end (Y := Y) (H := H) hABH.out hAH.out hHH.out.1 hHH.out.2.1 hsFH.out hHH.out.2.2.1 hHH.out.2.2.2 hbd
            clear hbd
            rw [← hW9]
            clear hHH
            exact bodyPost_ret (v := .tuple #[.agg #[.slice p1 ss.length n1, .slice p2 rv.length n2, .slice p3 rs.length n3], .int .i64 0]) (by simp [results, Try.results19, go_sem, r0, r1, r2]) rfl ⟨_, _, _, rfl, by rw [hpfH.out, hendH.out]; exact hpic, hbl⟩
  · have hpe : p = ⟨[], [], []⟩ ∧ er = m.rooted roots := by
      have := hpH.out
      unfold Mem.picE at this
      rw [if_pos (by simpa using he)] at this
      simp only [Option.some.injEq, Prod.mk.injEq] at this
      exact ⟨this.1.symm, this.2.symm⟩
    obtain ⟨hpe1, hpe2⟩ := hpe
    subst hpe1 hpe2
    have heq : (m.rooted roots == 0) = false := by simpa using he
    generalize m.rooted roots = er at *
    clear hB he hpH
    go_enter Try.func19, Try.ntmps19
    go_wp2_with (fail)
    generalize ((w.alloc (.cells #[.pointer (some ⟨L.b, 0, none⟩)] 27)).alloc (.cells #[.slice none 0 0, .slice none 0 0, .slice none 0 0] 42)) = W at *
    refine hrt.mono ?_
    rintro e W1 ⟨rfl, hb⟩
    clear hrt
    have hz1 := (Fr.of_below (S := fun _ => False) hb).blk hzH.out id
    have z0 : W1.cell? ⟨w.heap.size + 1, 0, none⟩ = some (.slice none 0 0) := by rw [cell_of hz1]; rfl
    have z1 : W1.cell? ⟨w.heap.size + 1, 1, none⟩ = some (.slice none 0 0) := by rw [cell_of hz1]; rfl
    have z2 : W1.cell? ⟨w.heap.size + 1, 2, none⟩ = some (.slice none 0 0) := by rw [cell_of hz1]; rfl
    have zf0 := free_of hz1 0
    have zf1 := free_of hz1 1
    have zf2 := free_of hz1 2
    have f1 : Hid (Fr (fun _ => False) w W1) := Lib.hid (hf0H.out.trans (Fr.of_below hb))
    clear hb hz1
    go_wp2
    rw [setCell_id z0, setCell_id z1, setCell_id z2]
    exact bodyPost_ret (v := .tuple #[.agg #[.slice none 0 0, .slice none 0 0, .slice none 0 0], .int .i64 er]) (by simp [results, Try.results19, go_sem, z0, z1, z2]) rfl
      ⟨_, _, _, rfl, ⟨⟨none, 0, rfl, .inl rfl⟩, ⟨none, 0, rfl, .inl rfl⟩, ⟨none, 0, rfl, .inl rfl⟩, by simp, by simp, by simp, by simp⟩, f1.out.below⟩
end Go.Proofs.Ytnedmmopkhmejaa
