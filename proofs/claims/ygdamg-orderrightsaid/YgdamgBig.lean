import Derived.Test.YgdamgBase
namespace Go.Proofs.Ygdamg
set_option linter.unusedVariables false
set_option linter.unusedSimpArgs false
open Go.RowKit

def bigB (ts : List Tk) : Bool := decide (24 < ts.length) || ts.any fun t => decide (4 < t.deps.length)

set_option maxHeartbeats 400000 in
theorem tooBig_any (w : World) (B : Nat) (v : Value) (ts : List Tk) (hB : B ≤ w.heap.size) (h : Tasks w B v ts) :
    Calls Yamd.prog 21 #[.agg #[v]] w fun e w' => e = .returned (.bool (bigB ts)) ∧ Below w.heap.size w w' := by
  obtain ⟨hlen, ⟨rfl, rfl⟩ | ⟨g, cap, rfl, hg, hc⟩⟩ := h
  · go_enter Yamd.func21, Yamd.ntmps21
    go_wp2
    go_rounds 1
    go_ret
    exact ⟨rfl, (Below.refl _ _).alloc (Nat.le_refl _) _⟩
  by_cases hn : 24 < ts.length
  · go_enter Yamd.func21, Yamd.ntmps21
    have hd : decide (24 < (ts.length : Int)) = true := by simp; omega
    go_wp2
    go_ret
    refine ⟨ret_bool ?_, (Below.refl _ _).alloc (Nat.le_refl _) _⟩
    simp [bigB, hn]
  go_enter Yamd.func21, Yamd.ntmps21
  have hd : decide (24 < (ts.length : Int)) = false := by simp; omega
  go_wp2
  go_loopw [12] (fun i wr => ∃ k : Nat, k ≤ ts.length ∧ i = .int .i64 k ∧ Below w.heap.size w wr ∧ ∀ j, j < k → ¬ 4 < (ts.getD j nilTk).deps.length) (fun i _ => ts.length - (intOf i).toNat)
  case atStart => exact ⟨0, Nat.zero_le _, rfl, (Below.refl _ _).alloc (Nat.le_refl _) _, fun j hj => absurd hj (by omega)⟩
  case round =>
    obtain ⟨k, hk, rfl, hb, hj⟩ := hrel
    have hs := hb.size
    by_cases hlt : k < ts.length
    · obtain ⟨h1, h2, dv, h3, h4⟩ := hc k hlt
      have hl4 := h4.1
      obtain ⟨a, c, rfl⟩ := h4.form
      clear hc h4
      replace h1 := cell_later hb h1
      replace h2 := cell_later hb h2
      replace h3 := cell_later hb h3
      generalize hT : ts.getD k nilTk = T at *
      have HT := (show Hid _ from hT); clear hT
      by_cases h4 : 4 < T.deps.length
      · have hd4 : decide (4 < (T.deps.length : Int)) = true := by simp; omega
        go_wp2
        go_ret
        refine ⟨ret_bool ?_, hb.alloc hs _⟩
        have hm : T ∈ ts := by rw [← HT.out]; exact getD_mem _ _ _ hlt
        simp only [bigB, Bool.true_eq, Bool.or_eq_true, List.any_eq_true, decide_eq_true_eq]
        exact .inr ⟨T, hm, h4⟩
      · have hd4 : decide (4 < (T.deps.length : Int)) = false := by simp; omega
        go_wp2
        go_roundw
        case rel => exact ⟨k + 1, by omega, by go_num, hb.alloc hs _, fun j hjk => by rcases Nat.lt_succ_iff_lt_or_eq.1 hjk with h | h; exact hj j h; subst h; rw [HT.out]; exact h4⟩
        case measure => simp [intOf]; omega
    · go_wp2
      go_ret
      refine ⟨ret_bool ?_, hb⟩
      simp only [bigB, Bool.false_eq, Bool.or_eq_false_iff, decide_eq_false_iff_not, List.any_eq_false, decide_eq_true_eq]
      refine ⟨hn, fun t ht => ?_⟩
      obtain ⟨j, hjl, rfl⟩ := mem_getD nilTk ht
      exact hj j (by omega)
end Go.Proofs.Ygdamg
