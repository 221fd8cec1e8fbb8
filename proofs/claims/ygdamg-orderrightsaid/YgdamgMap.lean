import Derived.Test.YgdamgSrc
import Derived.MapKept
namespace Go.Proofs.Ygdamg
set_option linter.unusedVariables false
set_option linter.unusedSimpArgs false
open Go.RowKit

/-- Block r is a map whose keys are ks, in the order of its entries. -/
def MapKeys (w : World) (r : Nat) (ks : List Int) : Prop := ∃ es clock, w.heap[r]? = some (.map es clock) ∧ es.toList.map (·.key) = intVals ks

theorem MapKeys.lt {w : World} {r : Nat} {ks : List Int} (h : MapKeys w r ks) : r < w.heap.size := let ⟨_, _, h, _⟩ := h; lt_of_block h
theorem MapKeys.same {w w' : World} {r : Nat} {ks : List Int} (h : MapKeys w r ks) (hb : w'.heap[r]? = w.heap[r]?) : MapKeys w' r ks := by
  obtain ⟨es, c, h1, h2⟩ := h
  exact ⟨es, c, by rw [hb]; exact h1, h2⟩
theorem MapKeys.kept {w w' : World} {r : Nat} {ks : List Int} {F : List Nat} (h : MapKeys w r ks) (hk : Kept F w w') (hr : r ∉ F) : MapKeys w' r ks := h.same (hk.block r h.lt hr)

theorem findNow_keys (k : Int) : ∀ (es : List MapEntry) (ks : List Int) (i : Nat), es.map (·.key) = intVals ks →
    (k ∉ ks ∧ Instr.findNow (.int .i64) (.int .i64 k) es i = some none) ∨ (k ∈ ks ∧ ∃ p, Instr.findNow (.int .i64) (.int .i64 k) es i = some (some p))
  | [], ks, i, h => by
    cases ks with
    | nil => exact .inl ⟨by simp, rfl⟩
    | cons a l => simp [intVals] at h
  | e :: es, ks, i, h => by
    cases ks with
    | nil => simp [intVals] at h
    | cons a l =>
      simp only [List.map_cons, intVals, List.cons.injEq] at h
      obtain ⟨h1, h2⟩ := h
      unfold Instr.findNow
      simp only [Instr.sameNow, h1, if_true]
      by_cases hka : k = a
      · subst hka
        simp
      · have : (k == a) = false := by simpa using hka
        simp only [this]
        rcases findNow_keys k es l (i + 1) h2 with ⟨q1, q2⟩ | ⟨q1, q2⟩
        · exact .inl ⟨by simp [hka, q1], q2⟩
        · exact .inr ⟨by simp [q1], q2⟩

theorem zero3 (w : World) : (zeroValue 3).run Yamd.prog w = .ok (.int .i64 0) w := by kernel_rfl

theorem check3 (w : World) (k : Int) (e : Bool) : (Instr.checkKey e 10000 3 (.int .i64 k)).run Yamd.prog w = .ok () w := by
  rw [show (10000 : Nat) = 9999 + 1 from rfl]
  unfold Instr.checkKey
  simp only [Sem.run_bind, run_underlying Yamd.underlying3, Result.andThen]
  rfl

theorem run_look {w : World} {r : Nat} {ks : List Int} (h : MapKeys w r ks) (k : Int) :
    ∃ v, (Instr.lookup 55 (.map (some r)) (.int .i64 k) true).run Yamd.prog w = .ok (.tuple #[v, .bool (decide (k ∈ ks))]) w := by
  obtain ⟨es, c, h1, h2⟩ := h
  have hc : ∀ e, (Instr.checkKey e 10000 3 (.int .i64 k)).run Yamd.prog w = .ok () w := fun e => check3 w k e
  rcases findNow_keys k es.toList ks 0 h2 with ⟨q1, q2⟩ | ⟨q1, p, q2⟩
  · refine ⟨.int .i64 0, ?_⟩
    simp [Instr.lookup, run_underlying Yamd.underlying55, run_underlying Yamd.underlying3, MapKept.run_getObj_map h1, hc, Instr.findKey, q2, zero3, Result.andThen, q1]
  · refine ⟨p.2, ?_⟩
    simp [Instr.lookup, run_underlying Yamd.underlying55, run_underlying Yamd.underlying3, MapKept.run_getObj_map h1, hc, Instr.findKey, q2, zero3, Result.andThen, q1]

theorem run_look_nil (w : World) (k : Int) :
    (Instr.lookup 55 (.map none) (.int .i64 k) true).run Yamd.prog w = .ok (.tuple #[.int .i64 0, .bool false]) w := by
  have hc : ∀ e, (Instr.checkKey e 10000 3 (.int .i64 k)).run Yamd.prog w = .ok () w := fun e => check3 w k e
  simp [Instr.lookup, run_underlying Yamd.underlying55, run_underlying Yamd.underlying3, hc, Instr.findKey, Instr.findNow, zero3, Result.andThen]

theorem run_update {w : World} {r : Nat} {ks : List Int} (h : MapKeys w r ks) (k : Int) (v : Value) (hk : k ∉ ks) :
    ∃ w', (Instr.mapUpdate 55 (.map (some r)) (.int .i64 k) v).run Yamd.prog w = .ok () w' ∧ MapKeys w' r (ks ++ [k]) ∧ Kept [r] w w' ∧ w'.heap.size = w.heap.size := by
  obtain ⟨es, c, h1, h2⟩ := h
  have hc : ∀ e, (Instr.checkKey e 10000 3 (.int .i64 k)).run Yamd.prog w = .ok () w := fun e => check3 w k e
  rcases findNow_keys k es.toList ks 0 h2 with ⟨q1, q2⟩ | ⟨q1, p, q2⟩
  · refine ⟨_, by simp [Instr.mapUpdate, run_underlying Yamd.underlying55, run_underlying Yamd.underlying3, MapKept.run_getObj_map h1, hc, Instr.findKey, q2, MapKept.run_setObj_map _ h1, Result.andThen]; rfl, ?_, ?_, ?_⟩
    · have hlt := lt_of_block h1
      refine ⟨es.push { key := .int .i64 k, val := v, born := c }, c + 1, by simp [hlt], by simp [h2, intVals]⟩
    · refine ⟨rfl, rfl, rfl, by simp, fun j hj hn => ?_⟩
      simp only [List.mem_cons, List.not_mem_nil, or_false] at hn
      simp [Array.getElem?_setIfInBounds, Ne.symm hn]
    · simp
  · exact absurd q1 hk

theorem run_clear_map {w : World} {r : Nat} {ks : List Int} (h : MapKeys w r ks) (ty : TypeId) :
    ∃ w', (Builtin.clear_ #[55] ty #[.map (some r)]).run Yamd.prog w = .ok (.tuple #[]) w' ∧ MapKeys w' r [] ∧ Kept [r] w w' ∧ w'.heap.size = w.heap.size := by
  obtain ⟨es, c, h1, h2⟩ := h
  refine ⟨_, by simp [Builtin.clear_, run_underlying Yamd.underlying55, MapKept.run_getObj_map h1, MapKept.run_setObj_map _ h1, Result.andThen]; rfl, ?_, ?_, ?_⟩
  · have hlt := lt_of_block h1
    exact ⟨#[], c, by simp [hlt], by simp [intVals]⟩
  · refine ⟨rfl, rfl, rfl, by simp, fun j hj hn => ?_⟩
    simp only [List.mem_cons, List.not_mem_nil, or_false] at hn
    simp [Array.getElem?_setIfInBounds, Ne.symm hn]
  · simp

theorem run_len_map {w : World} {r : Nat} {ks : List Int} (h : MapKeys w r ks) (ty : TypeId) :
    (Builtin.len_ #[55] ty #[.map (some r)]).run Yamd.prog w = .ok (.int .i64 (ks.length : Nat)) w := by
  obtain ⟨es, c, h1, h2⟩ := h
  have hl : es.size = ks.length := by
    have := congrArg List.length h2
    simpa [intVals] using this
  simp [Builtin.len_, run_underlying Yamd.underlying55, MapKept.run_getObj_map h1, Result.andThen, hl, goInt]

end Go.Proofs.Ygdamg
