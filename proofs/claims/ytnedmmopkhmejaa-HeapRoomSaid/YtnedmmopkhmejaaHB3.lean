/- Plain: an object made behind a whole moving; walk: Play at its limit. -/
import Derived.Test.YtnedmmopkhmejaaHB2
namespace Go.Proofs.Hp
namespace Mem
variable {m m' : Mem} {Y H : Nat}
theorem Wh1.full {roots : List Int} (h : Wh1 m Y H roots) {s : Int} {l : List Bool} (hs : m.shapeAt s = some l) (hr : (Y : Int) < ((l.length + 1 : Nat) : Int)) : m.allocE s = (m, 0, 14) := by
  unfold allocE
  rw [hs]
  simp only
  rw [if_pos]
  unfold Sp.room
  rw [h.inv.geo.yl, h.yu]
  push_cast at hr ⊢
  omega
theorem Wh1.alloc {roots : List Int} (h : Wh1 m Y H roots) {s : Int} {l : List Bool} (hs : m.shapeAt s = some l) (hr : ((l.length + 1 : Nat) : Int) ≤ (Y : Int)) :
    ∃ m2 at', m.allocE s = (m2, at', 0) ∧ Inv m2 Y H ∧ m2.young.begins at' = true ∧ (∀ x, m.isCur x → m2.isCur x) ∧ m2.now = m.now ∧ m2.left = m.left ∧ m2.busy = m.busy ∧
      ∀ rs n, m2.needed rs = some n → n ≤ ((l.length + 1 : Nat) : Int) := by
  obtain ⟨g1, g2, g3, g4⟩ := h.inv.allocE s
  have hroom : ¬ m.young.room < ((l.length + 1 : Nat) : Int) := by
    unfold Sp.room
    rw [h.inv.geo.yl, h.yu]
    push_cast at hr ⊢
    omega
  have hall : m.allocE s = ({ m with young := m.young.lay (l.length + 1) s }, m.young.top, 0) := by
    unfold allocE
    rw [hs]
    simp only
    rw [if_neg hroom]
  rw [hall] at g1 g2 g3 g4
  have hu : m.young.used + (l.length + 1) ≤ m.young.words.length := by rw [h.inv.geo.yl, h.yu]; omega
  have hlay := Sp.lay_eq m.young l.length s hu
  have hxl : (s :: List.replicate l.length (0 : Int)).length = l.length + 1 := by simp
  refine ⟨_, _, hall, g1, g3 rfl, g4, rfl, rfl, rfl, fun rs n hn => ?_⟩
  obtain ⟨C, c1, c2, _⟩ := g1.needed rs
  rw [hn] at c1
  simp only [Option.some.injEq] at c1
  have hbg := Sp.app_begins h.inv.ty (xs := s :: List.replicate l.length (0 : Int)) (by simp) (by rw [hxl]; exact hu)
  have hsub : ∀ x ∈ C, x ∈ [m.young.top] := fun x hx => by
    have hb := c2.yl.bg x hx
    have hb' : (m.young.app (s :: List.replicate l.length 0)).begins x = true := by rw [← hlay]; exact hb
    rcases (hbg x).1 hb' with q | q
    · obtain ⟨i, _, hi, _⟩ := Sp.begins_iff.1 q
      rw [h.yu] at hi; omega
    · simp [q]
  have hle := sumOf_le (({ m with young := m.young.lay (l.length + 1) s } : Mem).szY) C [m.young.top] c2.yl.nd hsub
  have hz : ({ m with young := m.young.lay (l.length + 1) s } : Mem).szY m.young.top = l.length + 1 := by
    unfold szY
    have e : (m.young.lay (l.length + 1) s).get m.young.top = s := by
      rw [hlay]
      have := Sp.app_get_new (s := m.young) (xs := s :: List.replicate l.length (0 : Int)) (by rw [hxl]; exact hu) (j := 0) (by simp)
      simpa using this
    show (match shapeOf m.shapes ((m.young.lay (l.length + 1) s).get m.young.top) with | some l => l.length + 1 | none => 0) = _
    rw [e]
    have : shapeOf m.shapes s = some l := hs
    rw [this]
  simp only [sumOf, List.map_cons, List.map_nil, List.sum_cons, List.sum_nil] at hle
  rw [hz] at hle
  rw [c1]
  simp only [sumOf]
  omega
end Mem
end Go.Proofs.Hp
namespace Go.Proofs.Ytnedmmopkhmejaa
open Go.RowKit Go.Proofs.Hp
attribute [local go_sem] Oper.semAt_some

set_option maxRecDepth 100000 in
set_option maxHeartbeats 1000000 in
theorem c_Play_limit (w : World) (D : Nat → Prop) (v : Value) (ss : List (List Bool)) (h : ShRep w D v ss) (hl : ss.length ≤ 1048576) (hll : ∀ l ∈ ss, l.length ≤ 9223372036854775807) (Y H n : Int) (hsz : Mem.sizedE ss ≠ 0) (q : Option Addr) (an acap : Nat) :
    Calls Try.prog 30 #[v, .int .i64 H, .int .i64 Y, .int .i64 n, .slice q an acap] w fun e w' => e = .returned (.tuple #[.pointer none, .slice none 0 0, .slice none 0 0, .int .i64 3]) ∧ w' = w := by
  have hnw := c_New_limit w D v ss h hl hll Y H hsz
  obtain ⟨p, cap, rfl, -⟩ := h
  clear hl hll hsz
  go_enter Try.func30, Try.ntmps30
  go_wp2_with (fail)
  refine hnw.mono ?_
  rintro e W1 ⟨rfl, rfl⟩
  clear hnw
  go_wp2
  exact bodyPost_ret (v := .tuple #[.pointer none, .slice none 0 0, .slice none 0 0, .int .i64 3]) (by simp [results, Try.results30, go_sem]) rfl ⟨rfl, rfl⟩
end Go.Proofs.Ytnedmmopkhmejaa
