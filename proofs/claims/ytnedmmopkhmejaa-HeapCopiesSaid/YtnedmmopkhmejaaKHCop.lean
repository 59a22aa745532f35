/- PROVED HERE: 'Rows.HeapCopiesSaid': HeapCopies gives true at every input; its arguments read behind the call as before. The walk is 'c_HeapCopies' (the text imported). By an AI agent. -/
import Derived.Test.YtnedmmopkhmejaaRows
import Derived.Test.YtnedmmopkhmejaaKHF4
import Derived.Test.YtnedmmopkhmejaaKHOpen2
set_option linter.unusedVariables false
set_option linter.unusedSimpArgs false
namespace Go.Proofs.Ytnedmmopkhmejaa.heapCopies
open Go.ChangeShapes Go.WideShapes Go.ChangeAt Go.RowKit Go.Joins Go.Deep Go.Proofs.Hp Go.Proofs.Ytnedmmopkhmejaa.openers
set_option linter.unusedVariables false

theorem own : ownKnob Try.prog.godebug = none := by kernel_rfl

set_option maxRecDepth 100000 in
/-- What the walk gives, for every argument. -/
theorem contract (H : Type) (enc : TypeId × Value → H) (W : World) (base : Nat) (args : Array Value) (ds gs : List (DataW H)) (before : List MemPlace)
    (hval : ∀ (j : Nat) t v, Try.f10.params[j]? = some t → args[j]? = some v → Value.okWide Try.prog W .any base t v)
    (hW : DataW.Whole enc Try.prog Try.f10.params.toList Rows.heapCopiesSpec.vars false W args.toList ds gs before) :
    Calls Try.prog 10 args W fun e W' => ∃ v, e = .returned v ∧ Rows.heapCopiesSpec.post enc Try.prog Try.f10 false true false false W args v W' := by
  have hW' := hW
  have hlt := hW.lt
  obtain ⟨p, q, hA0, hV, rfl, hfz, hnd⟩ := hW
  have hA : DataW.TrodAll enc Try.prog W 0 (fun _ => true) true Try.f10.params.toList args.toList ds p := hA0
  rw [Try.params10] at hA hval
  obtain ⟨v0, vs0, d0, ds0, p0, q0, hargs, rfl, rfl, h0, r0⟩ := trodAll_cons hA
  obtain ⟨v1, vs1, d1, ds1, p1, q1, rfl, rfl, rfl, h1, r1⟩ := trodAll_cons r0
  obtain ⟨v2, vs2, d2, ds2, p2, q2, rfl, rfl, rfl, h2, r2⟩ := trodAll_cons r1
  obtain ⟨v3, vs3, d3, ds3, p3, q3, rfl, rfl, rfl, h3, r3⟩ := trodAll_cons r2
  obtain ⟨v4, vs4, d4, ds4, p4, q4, rfl, rfl, rfl, h4, r4⟩ := trodAll_cons r3
  obtain ⟨v5, vs5, d5, ds5, p5, q5, rfl, rfl, rfl, h5, r5⟩ := trodAll_cons r4
  obtain ⟨rfl, rfl, rfl⟩ := trodAll_nil r5
  obtain rfl : args = #[v0, v1, v2, v3, v4, v5] := by cases args; simp_all
  obtain ⟨rfl, rfl⟩ := trodVars_none hV
  obtain ⟨a0, l0, c0, rfl⟩ := okWide_slice Try.underlying22 (hval 0 22 v0 rfl rfl)
  obtain ⟨x1, rfl, -, -, w1⟩ := open_int Try.underlying61 (hval 1 61 v1 rfl rfl) h1
  obtain ⟨x2, rfl, -, -, w2⟩ := open_int Try.underlying61 (hval 2 61 v2 rfl rfl) h2
  obtain ⟨x3, rfl, -, -, w3⟩ := open_int Try.underlying5 (hval 3 5 v3 rfl rfl) h3
  obtain ⟨a4, l4, c4, rfl⟩ := okWide_slice Try.underlying62 (hval 4 62 v4 rfl rfl)
  obtain ⟨a5, l5, c5, rfl⟩ := okWide_slice Try.underlying23 (hval 5 23 v5 rfl rfl)
  obtain ⟨ss, hss⟩ : ∃ ss, ShRep W (fun k => k < W.heap.size) (.slice a0 l0 c0) ss := by
    obtain ⟨fuel, hf⟩ := h0
    exact shapes_of (by kernel_rfl) (by kernel_rfl) Try.underlying22 Try.underlying73 Try.underlying4 hf
  have b1 : 0 ≤ x1 ∧ x1 ≤ 65535 := by simpa [Lit.wf, IntKind.min, IntKind.max, IntKind.signed, IntKind.bits] using w1
  have b2 : 0 ≤ x2 ∧ x2 ≤ 65535 := by simpa [Lit.wf, IntKind.min, IntKind.max, IntKind.signed, IntKind.bits] using w2
  have b3 : 0 ≤ x3 ∧ x3 ≤ 255 := by simpa [Lit.wf, IntKind.min, IntKind.max, IntKind.signed, IntKind.bits] using w3
  obtain ⟨xs, hxs, hwf⟩ : ∃ xs, ActsAt W (fun k => k < W.heap.size) (.slice a4 l4 c4) xs ∧ ∀ x ∈ xs, x.2.1 ≤ 9223372036854775807 := by
    obtain ⟨fuel, hf⟩ := h4
    exact acts_of (by kernel_rfl) Try.underlying62 Try.underlying78 (by kernel_rfl) Try.underlying3 Try.underlying3 Try.underlying3 Try.underlying3 hf
  obtain ⟨cs, hcs, hcl, hcw⟩ : ∃ cs : List Call5, CallsAt W (fun k => k < W.heap.size) (.slice a5 l5 c5) cs ∧ cs.length ≤ 9223372036854775807 ∧ ∀ x ∈ cs, x.1.2.1 ≤ 9223372036854775807 := by
    obtain ⟨fuel, hf⟩ := h5
    exact calls_of (by kernel_rfl) Try.underlying23 Try.underlying38 (by kernel_rfl) Try.underlying3 Try.underlying3 Try.underlying3 Try.underlying3 Try.underlying34 (by kernel_rfl) Try.underlying3 hf
  simp only [List.append_nil] at hW' hlt
  refine (c_HeapCopies W (fun k => k < W.heap.size) (.slice a0 l0 c0) ss hss (fun k hk => hk) x1 x2 b1 b2 x3 b3 (fun k => k < W.heap.size) (.slice a4 l4 c4) xs hxs (fun k hk => hk) hwf (fun k => k < W.heap.size) (.slice a5 l5 c5) cs hcs (fun k hk => hk) hcl hcw).mono fun e W' ⟨he, hb⟩ => ?_
  subst he
  refine ⟨_, rfl, _, _, _, [], p0 ++ (p1 ++ (p2 ++ (p3 ++ (p4 ++ (p5 ++ []))))), [], hW', trodAll_cons_mk (shut_bool Try.underlying4 _) trodAll_mk0, ?_, rfl, hb.frame _, fun h => by cases h⟩
  have go : ∀ {t v d ps}, DataW.Trod enc Try.prog W 0 (fun _ => true) true t v d ps → Try.prog.readableRec t = true → t < Try.prog.types.size → (∀ x ∈ ps, x.block < W.heap.size) → DataW.Trod enc Try.prog W' 0 (fun b => decide (b < W.heap.size)) true t v d ps :=
    fun h g1 g2 g3 => hb.trod (by kernel_rfl) g1 g2 h g3
  exact trodAll_cons_mk (go h0 (by kernel_rfl) (of_decide_eq_true (by kernel_rfl)) fun x hx => hlt x (by simp [hx])) (trodAll_cons_mk (go h1 (by kernel_rfl) (of_decide_eq_true (by kernel_rfl)) fun x hx => hlt x (by simp [hx])) (trodAll_cons_mk (go h2 (by kernel_rfl) (of_decide_eq_true (by kernel_rfl)) fun x hx => hlt x (by simp [hx])) (trodAll_cons_mk (go h3 (by kernel_rfl) (of_decide_eq_true (by kernel_rfl)) fun x hx => hlt x (by simp [hx])) (trodAll_cons_mk (go h4 (by kernel_rfl) (of_decide_eq_true (by kernel_rfl)) fun x hx => hlt x (by simp [hx])) (trodAll_cons_mk (go h5 (by kernel_rfl) (of_decide_eq_true (by kernel_rfl)) fun x hx => hlt x (by simp [hx])) trodAll_mk0)))))

set_option maxRecDepth 100000 in
theorem lifted (os : Os) (started : os.Started) (H : Type) (enc : TypeId × Value → H) :
    ReturnsInHanded {} Try.checked os 10 .any (Rows.heapCopiesSpec.pre6 enc Try.prog Try.f10 Rows.heapCopiesRow.domain false) (Rows.heapCopiesSpec.post enc Try.prog Try.f10 false true false false) := by
  refine returnsInHanded_of_change (C := Try.checked) own started (by kernel_rfl) Try.func10
    (ChangeSpec.witness6 (enc := enc) (C := Try.checked) false ⟨#[], #[.slice none 0 0, .int .u16 0, .int .u16 0, .int .u8 0, .slice none 0 0, .slice none 0 0], []⟩ 8 (by kernel_rfl) (by kernel_rfl) (by kernel_rfl) (by kernel_rfl)) ?_
  intro W base args ds gs before hval hW _ _
  exact contract H enc W base args ds gs before hval hW

theorem proved : Rows.HeapCopiesSaid :=
  OpenClaim.holds_of_wide (p := Try.pinned) (s := Rows.heapCopiesSpec) (c := Rows.heapCopiesRow) 10 Try.f10 rfl rfl rfl rfl rfl rfl rfl ⟨rfl, rfl, rfl, rfl, rfl⟩ rfl rfl rfl rfl rfl (by kernel_rfl) Try.func10 (by kernel_rfl)
    (of_decide_eq_true (by kernel_rfl)) (by unfold Func.isWrapper; first | (rw [if_pos (by decide +kernel)]; kernel_rfl) | (rw [if_neg (by decide +kernel)]; exact ⟨rfl, rfl⟩))
    (fun os started H enc _ => lifted os started H enc)
end Go.Proofs.Ytnedmmopkhmejaa.heapCopies
