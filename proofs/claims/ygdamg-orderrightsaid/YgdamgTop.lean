import Derived.Test.YgdamgValid
import Derived.Test.YgdamgLaw
import Derived.Test.YgdamgCopy
import Derived.Deep.RegionHeld3
namespace Go.Proofs.Ygdamg
set_option linter.unusedVariables false
set_option linter.unusedSimpArgs false
open Go.RowKit

theorem verdict_ok {ts : List Tk} (h : verdict ts = 0) : bigB ts = false ∧ dangB ts = false ∧ cycB ts = false := by
  unfold verdict at h
  cases h1 : bigB ts <;> cases h2 : dangB ts <;> cases h3 : cycB ts <;> simp_all

theorem verdict_le (ts : List Tk) : verdict ts ≤ 4 := by
  unfold verdict
  repeat' split
  all_goals omega

set_option maxHeartbeats 1000000 in
theorem Order_bad (w : World) (B : Nat) (v : Value) (ts : List Tk) (hB : B ≤ w.heap.size) (h : Tasks w B v ts) (hv0 : verdict ts ≠ 0) :
    Calls Yamd.prog 10 #[.agg #[v]] w fun e w' => e = .returned (.slice none 0 0) ∧ Below w.heap.size w w' := by
  have hbA : Below w.heap.size w (w.alloc (.cells #[v] 24)) := (Below.refl _ _).alloc (Nat.le_refl _) _
  obtain ⟨ao, n, cap, hv⟩ : ∃ ao n cap, v = .slice ao n cap := by
    rcases h.2 with ⟨rfl, _⟩ | ⟨g, cap, rfl, _⟩
    · exact ⟨none, 0, 0, rfl⟩
    · exact ⟨_, _, _, rfl⟩
  subst hv
  have HA : Hid _ := h.below (hbA.mono hB)
  clear h
  obtain ⟨vd, hvd⟩ : ∃ vd, vd = verdict ts := ⟨_, rfl⟩
  rw [← hvd] at hv0
  have hvb : ((vd : Int) != 0) = true := by rw [bne_iff_ne]; omega
  have HVD : Hid (vd = verdict ts) := hvd
  clear hvd
  go_enter Yamd.func10, Yamd.ntmps10
  go_wp2_with fail
  refine (Validate_any _ B _ ts (by simp; omega) HA.out).mono ?_
  rw [← HVD.out]
  rintro e w1 ⟨rfl, hb1⟩
  go_wp2
  go_ret
  exact ⟨rfl, hbA.trans (hb1.mono (by simp))⟩

set_option maxHeartbeats 1000000 in
theorem Order_ok (w : World) (B : Nat) (v : Value) (ts : List Tk) (hB : B ≤ w.heap.size) (h : Tasks w B v ts) (hv0 : verdict ts = 0) :
    Calls Yamd.prog 10 #[.agg #[v]] w fun e w' => (∃ pv pl, e = .returned pv ∧ pl.length = ts.length ∧ OrderSeq ts pl ∧ w'.ownsRow w.heap.size 3 1 pv pl.length (natVals pl)) ∧ Below w.heap.size w w' := by
  have hbA : Below w.heap.size w (w.alloc (.cells #[v] 24)) := (Below.refl _ _).alloc (Nat.le_refl _) _
  obtain ⟨b1, b2, b3⟩ := verdict_ok hv0
  obtain ⟨hn, hdl⟩ := big_facts b1
  have hr := dang_facts b2
  have HT : Hid (∀ wr, Below (w.heap.size + 1) (w.alloc (.cells #[v] 24)) wr → Tasks wr B v ts) := fun wr hb => h.below ((box_below hb).mono hB)
  obtain ⟨ao, n, cap, hv⟩ : ∃ ao n cap, v = .slice ao n cap := by
    rcases h.2 with ⟨rfl, _⟩ | ⟨g, cap, rfl, _⟩
    · exact ⟨none, 0, 0, rfl⟩
    · exact ⟨_, _, _, rfl⟩
  subst hv
  have HA : Hid _ := h.below (hbA.mono hB)
  clear h
  go_enter Yamd.func10, Yamd.ntmps10
  go_wp2_with fail
  refine (Validate_any _ B _ ts (by simp; omega) HA.out).mono ?_
  rw [hv0]
  rintro e w1 ⟨rfl, hb1⟩
  rw [World.size_alloc] at hb1
  have hbox := box_later hb1
  have hs := box_size hb1
  go_wp2_with fail
  refine (order_any _ B _ ts (by omega) (HT.out w1 hb1) hn hr).mono ?_
  rintro e w2 ⟨⟨pv, pl, rfl, hl, hs2, hown⟩, hb2⟩
  go_wp2
  go_ret
  exact ⟨⟨pv, pl, rfl, hl, hs2, owns_mono hown (by omega)⟩, (box_below hb1).trans (hb2.mono (by omega))⟩


end Go.Proofs.Ygdamg
