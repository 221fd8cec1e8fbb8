import Derived.Test.YgdamgGood
namespace Go.Proofs.Ygdamg
set_option linter.unusedVariables false
set_option linter.unusedSimpArgs false
open Go.RowKit

set_option maxHeartbeats 1000000 in
theorem OrderRight_any (w : World) (v : Value) (ts : List Tk) (h : SrcTasks w v ts) :
    Calls Yamd.prog 5 #[.agg #[v]] w fun e w' => e = .returned (.bool true) ∧ Below w.heap.size w w' := by
  have hbA : Below w.heap.size w (w.alloc (.cells #[v] 24)) := (Below.refl _ _).alloc (Nat.le_refl _) _
  have HA : Hid _ := h.later hbA
  obtain ⟨ao, n, cap, hv⟩ : ∃ ao n cap, v = .slice ao n cap := by
    rcases h.2 with ⟨rfl, _⟩ | ⟨g, cap, rfl, _⟩
    · exact ⟨none, 0, 0, rfl⟩
    · exact ⟨_, _, _, rfl⟩
  subst hv
  clear h
  have HC : Hid (Calls Yamd.prog 9 #[.func (.func 10) #[] #[], .agg #[.slice ao n cap]] (w.alloc (.cells #[.slice ao n cap] 24)) fun e w' => e = .returned (.bool true) ∧ Below (w.alloc (.cells #[.slice ao n cap] 24)).heap.size (w.alloc (.cells #[.slice ao n cap] 24)) w') := by
    by_cases hv0 : verdict ts = 0
    · exact orderRight_ok _ _ ts HA.out hv0
    · exact orderRight_bad _ _ ts HA.out hv0
  go_enter Yamd.func5, Yamd.ntmps5
  go_wp2_with fail
  refine HC.out.mono ?_
  rintro e w1 ⟨rfl, hb1⟩
  go_wp2
  go_ret
  exact ⟨rfl, hbA.trans (hb1.mono (by simp))⟩
end Go.Proofs.Ygdamg
