/- Laws on maps of ints: a look-up, a store, a new map. -/
import Derived.Test.YtnedmmopkhmejaaKHMRep
import Derived.LaidEqlPtr
set_option linter.unusedVariables false
set_option linter.unusedSimpArgs false
namespace Go.Proofs.Ytnedmmopkhmejaa
open Go.RowKit Go.Proofs.Hp

def entsOf (es : List MapEntry) : List (Value × Value) := es.map fun e => (e.key, e.val)
def encs (l : List (Int × Int)) : List (Value × Value) := l.map fun p => (Value.int .i64 p.1, Value.int .i64 p.2)

theorem findNow_int (a : Int) : ∀ (es : List MapEntry) (l : List (Int × Int)) (i : Nat), entsOf es = encs l →
    ∃ r, Instr.findNow (.int .i64) (.int .i64 a) es i = some r ∧ r.map (·.2) = (l.lookup a).map (Value.int .i64)
  | [], l, i, h => by
    cases l with
    | nil => exact ⟨none, rfl, rfl⟩
    | cons => simp [entsOf, encs] at h
  | e :: es, l, i, h => by
    cases l with
    | nil => simp [entsOf, encs] at h
    | cons p l =>
      simp only [entsOf, encs, List.map_cons, List.cons.injEq, Prod.mk.injEq] at h
      obtain ⟨⟨hk, hv⟩, ht⟩ := h
      by_cases e1 : a = p.1
      · refine ⟨some (i, e.val), ?_, ?_⟩
        · simp [Instr.findNow, Instr.sameNow, hk, e1]
        · simp [List.lookup, e1, hv]
      · obtain ⟨r, h1, h2⟩ := findNow_int a es l (i + 1) ht
        refine ⟨r, ?_, ?_⟩
        · have e2 : (a == p.1) = false := by simpa using e1
          simp [Instr.findNow, Instr.sameNow, hk, h1, e2]
        · have : (a == p.1) = false := by simpa using e1
          simp [List.lookup, this, h2]

theorem run_checkKey_int {P : Program} (w : World) (kt : TypeId) (hk : P.underlying kt = some (.int .i64)) (n : Nat) (e : Bool) (a : Int) :
    (Instr.checkKey e (n + 1) kt (.int .i64 a)).run P w = .ok () w := by simp [Instr.checkKey, run_underlying hk]

/-- 'v, ok := m[k]'. -/
theorem run_lookup_ints {P : Program} (w : World) (t kt et : TypeId) (ht : P.underlying t = some (.map kt et)) (hk : P.underlying kt = some (.int .i64)) (hz : ∀ w, (zeroValue et).run P w = .ok (.int .i64 0) w)
    (b : Nat) (l : List (Int × Int)) (h : MapRep w b l) (a : Int) :
    (Instr.lookup t (.map (some b)) (.int .i64 a) true).run P w = .ok (.tuple #[.int .i64 ((l.lookup a).getD 0), .bool (l.lookup a).isSome]) w := by
  obtain ⟨es, clock, hb, he, _⟩ := h
  obtain ⟨r, h1, h2⟩ := findNow_int a es.toList l 0 he
  have hf : ∀ w, (Instr.findKey kt (.int .i64 a) es.toList).run P w = .ok r w := by
    intro w; simp [Instr.findKey, run_underlying hk, h1]
  have hck : ∀ (w : World) (e : Bool), (Instr.checkKey e 10000 kt (.int .i64 a)).run P w = .ok () w := fun w e => run_checkKey_int w kt hk 9999 e a
  cases r with
  | none =>
    cases hl : l.lookup a with
    | none => simp [Instr.lookup, run_underlying ht, getObj, Sem.run, hb, hck, hf, hz]
    | some v => rw [hl] at h2; simp at h2
  | some p =>
    cases hl : l.lookup a with
    | none => rw [hl] at h2; simp at h2
    | some v =>
      rw [hl] at h2
      simp only [Option.map_some, Option.some.injEq] at h2
      simp [Instr.lookup, run_underlying ht, getObj, Sem.run, hb, hck, hf, h2]

theorem lookup_none_keys {es : Array MapEntry} {l : List (Int × Int)} (he : entsOf es.toList = encs l) {a : Int} (hn : l.lookup a = none) (x : MapEntry) (hx : x ∈ es.toList) (hk : x.key = .int .i64 a) : False := by
  have hm : (x.key, x.val) ∈ encs l := by rw [← he]; exact List.mem_map.2 ⟨x, hx, rfl⟩
  obtain ⟨p, hp, e⟩ := List.mem_map.1 hm
  rw [hk] at e
  simp only [Prod.mk.injEq, Value.int.injEq, true_and] at e
  have h2 := List.lookup_eq_none_iff.1 hn p hp
  simp [e.1] at h2

/-- 'm[k] = v' of a new key. -/
theorem run_mapUpdate_ints {P : Program} (w : World) (t kt et : TypeId) (ht : P.underlying t = some (.map kt et)) (hk : P.underlying kt = some (.int .i64))
    (b : Nat) (l : List (Int × Int)) (h : MapRep w b l) (a v : Int) (hn : l.lookup a = none) :
    ∃ w', (Instr.mapUpdate t (.map (some b)) (.int .i64 a) (.int .i64 v)).run P w = .ok () w' ∧ MapRep w' b (l ++ [(a, v)]) ∧ Fr (fun k => k = b) w w' := by
  obtain ⟨es, clock, hb, he, hst⟩ := h
  obtain ⟨r, h1, h2⟩ := findNow_int a es.toList l 0 he
  rw [hn] at h2
  cases r with
  | some p => simp at h2
  | none =>
    have hf : ∀ w, (Instr.findKey kt (.int .i64 a) es.toList).run P w = .ok none w := by
      intro w; simp [Instr.findKey, run_underlying hk, h1]
    have hck : ∀ (w : World) (e : Bool), (Instr.checkKey e 10000 kt (.int .i64 a)).run P w = .ok () w := fun w e => run_checkKey_int w kt hk 9999 e a
    refine ⟨{ w with heap := w.heap.setIfInBounds b (.map (es.push { key := .int .i64 a, val := .int .i64 v, born := clock }) (clock + 1)) }, ?_, ?_, ?_⟩
    · simp [Instr.mapUpdate, run_underlying ht, getObj, setObj, Sem.run, hb, hck, hf]
    · have hlt := lt_of_block hb
      refine ⟨es.push { key := .int .i64 a, val := .int .i64 v, born := clock }, clock + 1, by simp [hlt], ?_, Go.MapKept.stamped_push hst fun x hx hk => ?_⟩
      · simp only [Array.toList_push, List.map_append, List.map_cons, List.map_nil]
        rw [he]
      · exact lookup_none_keys he hn x hx hk
    · refine ⟨rfl, rfl, rfl, by simp, fun k hk hs => ?_⟩
      have : b ≠ k := fun e => hs e.symm
      simp [Array.getElem?_setIfInBounds, this]

/-- A new map. -/
theorem mapRep_new {w : World} {b : Nat} (h : w.heap[b]? = some (.map #[] 0)) : MapRep w b [] := ⟨_, _, h, rfl, Go.MapKept.stamped_empty 0⟩
end Go.Proofs.Ytnedmmopkhmejaa
