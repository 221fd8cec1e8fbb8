import Derived.Test.YgdamgCyc
import Derived.Test.YgdamgBig
import Derived.Test.YgdamgDang
import Derived.Test.YgdamgOps
import Derived.Test.YgdamgOrder
namespace Go.Proofs.Ygdamg
set_option linter.unusedVariables false
set_option linter.unusedSimpArgs false
open Go.RowKit

theorem big_facts {ts : List Tk} (h : bigB ts = false) : ts.length ≤ 24 ∧ ∀ k, k < ts.length → (ts.getD k nilTk).deps.length ≤ 4 := by
  unfold bigB at h
  rw [Bool.or_eq_false_iff, decide_eq_false_iff_not, List.any_eq_false] at h
  refine ⟨by omega, fun k hk => ?_⟩
  have := h.2 _ (getD_mem ts nilTk k hk)
  simp only [decide_eq_true_eq] at this
  omega
theorem dang_facts {ts : List Tk} (h : dangB ts = false) : ∀ k, k < ts.length → ∀ d ∈ (ts.getD k nilTk).deps, 0 ≤ d ∧ d < ts.length := by
  intro k hk d hd
  unfold dangB at h
  rw [List.any_eq_false] at h
  have := h _ (getD_mem ts nilTk k hk)
  rw [Bool.not_eq_true, List.any_eq_false] at this
  have := this d hd
  simp only [badDep, Bool.or_eq_true, decide_eq_true_eq] at this
  omega

theorem cyclic_any (w : World) (B : Nat) (v : Value) (ts : List Tk) (hB : B ≤ w.heap.size) (h : Tasks w B v ts) (h1 : bigB ts = false) (h2 : dangB ts = false) :
    Calls Yamd.prog 23 #[.agg #[v]] w fun e w' => e = .returned (.bool (cycB ts)) ∧ Below w.heap.size w w' := by
  obtain ⟨hn, hdl⟩ := big_facts h1
  have hr := dang_facts h2
  rcases Nat.eq_zero_or_pos ts.length with h0 | h0
  · obtain rfl : ts = [] := List.length_eq_zero_iff.1 h0
    obtain ⟨ao, cap, rfl⟩ : ∃ ao cap, v = .slice ao 0 cap := by
      rcases h.2 with ⟨rfl, _⟩ | ⟨g, cap, rfl, _⟩
      · exact ⟨none, 0, rfl⟩
      · exact ⟨_, _, rfl⟩
    refine (cyc_nil w ao cap).mono ?_
    rintro e w' ⟨rfl, hb⟩
    exact ⟨rfl, hb⟩
  · have h' := h
    rcases h.2 with ⟨_, e⟩ | ⟨g, cap, rfl, hg, _⟩
    · rw [e] at h0; simp at h0
    · exact cyc_some w B g cap ts hB h' hg h0 hn hdl hr

/-- What validate answers. -/
def verdict (ts : List Tk) : Nat := if bigB ts then 1 else if dangB ts then 2 else if cycB ts then 3 else if badB ts then 4 else 0

set_option maxHeartbeats 1000000 in
theorem validate_any (w : World) (B : Nat) (v : Value) (ts : List Tk) (hB : B ≤ w.heap.size) (h : Tasks w B v ts) :
    Calls Yamd.prog 13 #[.agg #[v], .int .i64 8] w fun e w' => e = .returned (.int .i64 (verdict ts : Nat)) ∧ Below w.heap.size w w' := by
  have hbA : Below w.heap.size w (w.alloc (.cells #[v] 24)) := (Below.refl _ _).alloc (Nat.le_refl _) _
  have HT : Hid (∀ wr, Below (w.heap.size + 1) (w.alloc (.cells #[v] 24)) wr → Tasks wr B v ts ∧ B ≤ wr.heap.size ∧ wr.cell? ⟨w.heap.size, 0, none⟩ = some v) := fun wr hb => ⟨h.below ((box_below hb).mono hB), by have := box_size hb; omega, box_later hb⟩
  obtain ⟨ao, n, cap, hv⟩ : ∃ ao n cap, v = .slice ao n cap := by
    rcases h.2 with ⟨rfl, _⟩ | ⟨g, cap, rfl, _⟩
    · exact ⟨none, 0, 0, rfl⟩
    · exact ⟨_, _, _, rfl⟩
  have HV : Hid (verdict ts = if bigB ts then 1 else if dangB ts then 2 else if cycB ts then 3 else if badB ts then 4 else 0) := rfl
  subst hv
  clear h hbA
  have hA := HT.out _ (Below.refl _ _)
  have HA : Hid _ := hA
  clear hA
  go_enter Yamd.func13, Yamd.ntmps13
  go_wp2_with fail
  refine (tooBig_any _ B _ ts HA.out.2.1 HA.out.1).mono ?_
  rintro e w1 ⟨rfl, hb1⟩
  rw [World.size_alloc] at hb1
  have hH1 := HT.out w1 hb1
  have hc1 := hH1.2.2
  have HH1 : Hid _ := hH1
  clear hH1 HA
  cases h1 : bigB ts
  · have HB1 : Hid (bigB ts = false) := h1
    clear h1
    go_wp2_with fail
    refine (dangling_any _ B _ ts HH1.out.2.1 HH1.out.1).mono ?_
    rintro e w2 ⟨rfl, hb2'⟩
    have hs1 := box_size hb1
    have hb2 := hb1.trans (hb2'.mono hs1)
    have hH2 := HT.out w2 hb2
    have hc2 := hH2.2.2
    have HH2 : Hid _ := hH2
    clear hH2 HH1 hb2' hb1 hc1 hs1
    cases h2 : dangB ts
    · have HB2 : Hid (dangB ts = false) := h2
      clear h2
      go_wp2_with fail
      refine (cyclic_any _ B _ ts HH2.out.2.1 HH2.out.1 HB1.out HB2.out).mono ?_
      rintro e w3 ⟨rfl, hb3'⟩
      have hs2 := box_size hb2
      have hb3 := hb2.trans (hb3'.mono hs2)
      have hH3 := HT.out w3 hb3
      have hc3 := hH3.2.2
      have HH3 : Hid _ := hH3
      clear hH3 HH2 hb3' hb2 hc2 hs2
      cases h3 : cycB ts
      · have HB3 : Hid (cycB ts = false) := h3
        clear h3
        go_wp2_with fail
        refine (badOp_any _ B _ ts HH3.out.1).mono ?_
        rintro e w4 ⟨rfl, hb4'⟩
        have hs3 := box_size hb3
        have hb4 := hb3.trans (hb4'.mono hs3)
        clear HH3 hb4' hb3 hc3 hs3
        cases h4 : badB ts
        · have HB4 : Hid (badB ts = false) := h4
          clear h4
          go_wp2
          go_ret
          exact ⟨ret_int (by rw [HV.out, HB1.out, HB2.out, HB3.out, HB4.out]; rfl), box_below hb4⟩
        · have HB4 : Hid (badB ts = true) := h4
          clear h4
          go_wp2
          go_ret
          exact ⟨ret_int (by rw [HV.out, HB1.out, HB2.out, HB3.out, HB4.out]; rfl), box_below hb4⟩
      · have HB3 : Hid (cycB ts = true) := h3
        clear h3
        go_wp2
        go_ret
        exact ⟨ret_int (by rw [HV.out, HB1.out, HB2.out, HB3.out]; rfl), box_below hb3⟩
    · have HB2 : Hid (dangB ts = true) := h2
      clear h2
      go_wp2
      go_ret
      exact ⟨ret_int (by rw [HV.out, HB1.out, HB2.out]; rfl), box_below hb2⟩
  · have HB1 : Hid (bigB ts = true) := h1
    clear h1
    go_wp2
    go_ret
    exact ⟨ret_int (by rw [HV.out, HB1.out]; rfl), box_below hb1⟩

set_option maxHeartbeats 1000000 in
theorem Validate_any (w : World) (B : Nat) (v : Value) (ts : List Tk) (hB : B ≤ w.heap.size) (h : Tasks w B v ts) :
    Calls Yamd.prog 7 #[.agg #[v]] w fun e w' => e = .returned (.int .i64 (verdict ts : Nat)) ∧ Below w.heap.size w w' := by
  have hbA : Below w.heap.size w (w.alloc (.cells #[v] 24)) := (Below.refl _ _).alloc (Nat.le_refl _) _
  obtain ⟨ao, n, cap, hv⟩ : ∃ ao n cap, v = .slice ao n cap := by
    rcases h.2 with ⟨rfl, _⟩ | ⟨g, cap, rfl, _⟩
    · exact ⟨none, 0, 0, rfl⟩
    · exact ⟨_, _, _, rfl⟩
  subst hv
  have HA : Hid _ := h.below (hbA.mono hB)
  clear h
  go_enter Yamd.func7, Yamd.ntmps7
  go_wp2_with fail
  refine (validate_any _ B _ ts (by simp; omega) HA.out).mono ?_
  rintro e w1 ⟨rfl, hb1⟩
  go_wp2
  go_ret
  exact ⟨rfl, hbA.trans (hb1.mono (by simp))⟩
end Go.Proofs.Ygdamg
