import Derived.Test.YgdamgTop
namespace Go.Proofs.Ygdamg
set_option linter.unusedVariables false
set_option linter.unusedSimpArgs false
open Go.RowKit

theorem SrcTasks.later {w w' : World} {v : Value} {ts : List Tk} (h : SrcTasks w v ts) (hb : Below w.heap.size w w') : SrcTasks w' v ts := by
  refine ⟨h.1, ?_⟩
  rcases h.2 with h | ⟨a, cap, hv, hc⟩
  · exact .inl h
  · refine .inr ⟨a, cap, hv, fun k hk => ?_⟩
    obtain ⟨h1, h2, dv, h3, h4⟩ := hc k hk
    exact ⟨cell_later hb h1, cell_later hb h2, dv, cell_later hb h3, h4.later hb⟩

theorem Tasks.form {w : World} {B : Nat} {v : Value} {ts : List Tk} (h : Tasks w B v ts) : ∃ ao cap, v = .slice ao ts.length cap := by
  rcases h.2 with ⟨rfl, rfl⟩ | ⟨g, cap, rfl, _⟩
  · exact ⟨none, 0, rfl⟩
  · exact ⟨_, _, rfl⟩

set_option maxHeartbeats 1000000 in
theorem orderRight_bad (w : World) (v : Value) (ts : List Tk) (h : SrcTasks w v ts) (hv0 : verdict ts ≠ 0) :
    Calls Yamd.prog 9 #[.func (.func 10) #[] #[], .agg #[v]] w fun e w' => e = .returned (.bool true) ∧ Below w.heap.size w w' := by
  have hbA : Below w.heap.size w (w.alloc (.cells #[v] 24)) := (Below.refl _ _).alloc (Nat.le_refl _) _
  have hA := h.later hbA
  have hRA : Row (w.alloc (.cells #[v] 24)) w.heap.size 24 [v] := row_new w _ _
  obtain ⟨ao, n, cap, hv⟩ : ∃ ao n cap, v = .slice ao n cap := by
    rcases h.2 with ⟨rfl, _⟩ | ⟨g, cap, rfl, _⟩
    · exact ⟨none, 0, 0, rfl⟩
    · exact ⟨_, _, _, rfl⟩
  subst hv
  have HA : Hid (_ ∧ _) := ⟨hA, hRA⟩
  clear h hA hRA
  obtain ⟨vd, hvd⟩ : ∃ vd, vd = verdict ts := ⟨_, rfl⟩
  rw [← hvd] at hv0
  have hvb : ((vd : Int) != 0) = true := by rw [bne_iff_ne]; omega
  have HVD : Hid (vd = verdict ts) := hvd
  clear hvd
  go_enter Yamd.func9, Yamd.ntmps9
  go_wp2_with fail
  refine (copyOf_any _ _ ts HA.out.1).mono ?_
  rintro e w1 ⟨⟨cv, rfl, hT1⟩, hb1⟩
  have hR1 := HA.out.2.below (by simp) hb1
  rw [World.size_alloc] at hb1 hT1
  have hbw1 : Below w.heap.size w w1 := hbA.trans (hb1.mono (by omega))
  obtain ⟨co, ccap, rfl⟩ := (hT1 w1 (fun _ _ => rfl)).form
  have c1 := hR1.cell (k := 0) rfl
  have f1 := hR1.free 0
  have hs1 : w.heap.size < w1.heap.size := hR1.lt
  have hR2 := hR1.set 0 (.slice co ts.length ccap)
  simp only [List.set] at hR2
  have hb2 : Below w.heap.size w (w1.setCell ⟨w.heap.size, 0, none⟩ (.slice co ts.length ccap)) := hbw1.setCell (Nat.le_refl _) _
  have hT2 : Tasks (w1.setCell ⟨w.heap.size, 0, none⟩ (.slice co ts.length ccap)) w1.heap.size (.slice co ts.length ccap) ts := hT1 _ (fun b hb => Below.heap_setCell _ _ _ _ (by show b ≠ w.heap.size; omega))
  have hsz2 : (w1.setCell ⟨w.heap.size, 0, none⟩ (.slice co ts.length ccap)).heap.size = w1.heap.size := by simp [World.setCell]
  have HT2 : Hid (_ ∧ _ ∧ _ ∧ _) := ⟨hT2, hsz2, hR2, hb2⟩
  clear HA hT1 hR1 hb1 hbw1 hT2 hsz2 hR2 hb2
  go_wp2_with fail
  refine (Order_bad _ w1.heap.size _ ts (by rw [HT2.out.2.1]; exact Nat.le_refl _) HT2.out.1 (by rw [← HVD.out]; exact hv0)).mono ?_
  rintro e w3 ⟨rfl, hb3⟩
  obtain ⟨hT2, hsz2, hR2, hb2⟩ := HT2.out
  rw [hsz2] at hb3
  have hT3 := hT2.below hb3
  have hR3 := hR2.below hs1 hb3
  have hs3 := hb3.size
  rw [hsz2] at hs3
  have hbw3 : Below w.heap.size w w3 := hb2.trans (hb3.mono (by omega))
  have c3 := hR3.cell (k := 0) rfl
  have HT3 : Hid _ := hT3
  clear HT2 hT2 hsz2 hR2 hb2 hb3 hT3 hR3 c1 f1
  go_wp2_with fail
  refine (Validate_any _ w1.heap.size _ ts hs3 HT3.out).mono ?_
  rw [← HVD.out]
  rintro e w4 ⟨rfl, hb4⟩
  have hnil := Lib.run_eql_slice_nil (P := Yamd.prog) w4 38 3 none 0 0 0 0 Yamd.underlying38
  go_wp2
  go_ret
  exact ⟨rfl, hbw3.trans (hb4.mono (by omega))⟩
end Go.Proofs.Ygdamg
