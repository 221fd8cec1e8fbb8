import Derived.Test.YgdamgOrder
import Derived.Test.YgdamgSrc
namespace Go.Proofs.Ygdamg
set_option linter.unusedVariables false
set_option linter.unusedSimpArgs false
open Go.RowKit

/-- The edges: (prerequisite, reader). -/
def cnt (E : List (Nat × Nat)) (d : Nat) : Nat := (E.filter fun p => p.1 == d).length
def offs (E : List (Nat × Nat)) (d : Nat) : Nat := (E.filter fun p => decide (p.1 < d)).length
def rdrs (E : List (Nat × Nat)) (d : Nat) : List Nat := (E.filter fun p => p.1 == d).map (·.2)
theorem rdrs_length (E : List (Nat × Nat)) (d : Nat) : (rdrs E d).length = cnt E d := by simp [rdrs, cnt]
theorem offs_zero (E : List (Nat × Nat)) : offs E 0 = 0 := by simp [offs]
theorem offs_succ : ∀ (E : List (Nat × Nat)) (d : Nat), offs E (d + 1) = offs E d + cnt E d
  | [], d => rfl
  | p :: E, d => by
    have ih := offs_succ E d
    unfold offs cnt at *
    simp only [List.filter_cons]
    by_cases h1 : p.1 < d
    · have h2 : p.1 < d + 1 := by omega
      have h3 : (p.1 == d) = false := by simp; omega
      simp only [h1, h2, h3, decide_true, if_true, List.length_cons]
      simp only [Bool.false_eq_true, if_false]
      omega
    · by_cases h2 : p.1 = d
      · have h3 : p.1 < d + 1 := by omega
        have h4 : (p.1 == d) = true := by simpa using h2
        simp only [h1, h3, h4, decide_true, decide_false, if_true, List.length_cons]
        simp only [Bool.false_eq_true, if_false]
        omega
      · have h3 : ¬ p.1 < d + 1 := by omega
        have h4 : (p.1 == d) = false := by simpa using h2
        simp only [h1, h3, h4, decide_false]
        simp only [Bool.false_eq_true, if_false]
        exact ih
theorem offs_le (E : List (Nat × Nat)) (d : Nat) : offs E d ≤ E.length := List.length_filter_le _ _
theorem offs_cnt_le (E : List (Nat × Nat)) (d : Nat) : offs E d + cnt E d ≤ E.length := by rw [← offs_succ]; exact offs_le _ _
theorem offs_mono (E : List (Nat × Nat)) (d : Nat) : ∀ k, offs E d ≤ offs E (d + k)
  | 0 => Nat.le_refl _
  | k + 1 => by rw [show d + (k + 1) = (d + k) + 1 from rfl, offs_succ]; have := offs_mono E d k; omega
theorem offs_apart (E : List (Nat × Nat)) {d d' : Nat} (h : d < d') : offs E d + cnt E d ≤ offs E d' := by
  rw [← offs_succ]
  obtain ⟨k, rfl⟩ : ∃ k, d' = (d + 1) + k := ⟨d' - (d + 1), by omega⟩
  exact offs_mono E (d + 1) k
theorem cnt_snoc (E : List (Nat × Nat)) (p : Nat × Nat) (d : Nat) : cnt (E ++ [p]) d = cnt E d + if p.1 = d then 1 else 0 := by
  unfold cnt
  rw [List.filter_append]
  by_cases h : p.1 = d
  · simp [h, List.filter_cons]
  · simp [h, List.filter_cons]
theorem rdrs_snoc (E : List (Nat × Nat)) (p : Nat × Nat) (d : Nat) : rdrs (E ++ [p]) d = rdrs E d ++ if p.1 = d then [p.2] else [] := by
  unfold rdrs
  rw [List.filter_append, List.map_append]
  by_cases h : p.1 = d
  · simp [h, List.filter_cons]
  · simp [h, List.filter_cons]
theorem cnt_take_le (E : List (Nat × Nat)) (t d : Nat) : cnt (E.take t) d ≤ cnt E d := by
  unfold cnt
  exact (List.Sublist.filter _ (List.take_sublist t E)).length_le
theorem take_snoc (E : List (Nat × Nat)) (t : Nat) (h : t < E.length) : E.take (t + 1) = E.take t ++ [E.getD t (0, 0)] := by
  rw [List.take_succ_eq_append_getElem h, getD_at E (0, 0) t h]

def cntVals (n : Nat) (E : List (Nat × Nat)) : List Value := (List.range n).map fun d => Value.int .i64 (cnt E d : Nat)
theorem cntVals_length (n : Nat) (E : List (Nat × Nat)) : (cntVals n E).length = n := by simp [cntVals]
theorem cntVals_get (n : Nat) (E : List (Nat × Nat)) (d : Nat) (h : d < n) : (cntVals n E)[d]? = some (.int .i64 (cnt E d : Nat)) := by simp [cntVals, h]
theorem cntVals_nil (n : Nat) : cntVals n [] = zeros (.int .i64 0) n := by
  apply List.ext_getElem?; intro k
  by_cases h : k < n <;> simp [cntVals, zeros, cnt, h]
theorem cntVals_set (n : Nat) (E : List (Nat × Nat)) (p : Nat × Nat) : (cntVals n E).set p.1 (.int .i64 ((cnt E p.1 + 1 : Nat) : Int)) = cntVals n (E ++ [p]) := by
  apply List.ext_getElem?; intro k
  by_cases h : k < n
  · by_cases e : p.1 = k
    · subst e
      rw [List.getElem?_set_self (by rw [cntVals_length]; exact h), cntVals_get _ _ _ h, cnt_snoc, if_pos rfl]
    · rw [List.getElem?_set_ne e, cntVals_get _ _ _ h, cntVals_get _ _ _ h, cnt_snoc, if_neg e, Nat.add_zero]
  · rw [List.getElem?_eq_none (by simp [cntVals_length]; omega), List.getElem?_eq_none (by simp [cntVals_length]; omega)]

/-- The edges, one behind the other. -/
def flat (E : List (Nat × Nat)) : List Value := E.flatMap fun p => [.int .i64 (p.1 : Nat), .int .i64 (p.2 : Nat)]
theorem flat_length : ∀ (E : List (Nat × Nat)), (flat E).length = 2 * E.length
  | [] => rfl
  | p :: E => by have := flat_length E; simp [flat] at *; omega
theorem flat_snoc (E : List (Nat × Nat)) (p : Nat × Nat) : flat (E ++ [p]) = flat E ++ [.int .i64 (p.1 : Nat), .int .i64 (p.2 : Nat)] := by simp [flat]
theorem flat_get : ∀ (E : List (Nat × Nat)) (t : Nat), t < E.length → (flat E)[2 * t]? = some (.int .i64 ((E.getD t (0, 0)).1 : Nat)) ∧ (flat E)[2 * t + 1]? = some (.int .i64 ((E.getD t (0, 0)).2 : Nat))
  | [], t, h => by simp at h
  | p :: E, 0, h => by simp [flat]
  | p :: E, t + 1, h => by
    have := flat_get E t (by simpa using h)
    have e1 : 2 * (t + 1) = 2 * t + 1 + 1 := by omega
    have e2 : 2 * (t + 1) + 1 = (2 * t + 1) + 1 + 1 := by omega
    rw [e1]
    simp only [flat, List.flatMap_cons, List.cons_append, List.nil_append, List.getElem?_cons_succ] at *
    simpa using this

end Go.Proofs.Ygdamg
