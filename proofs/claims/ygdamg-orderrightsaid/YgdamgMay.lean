import Derived.Test.YgdamgOps
namespace Go.Proofs.Ygdamg
set_option linter.unusedVariables false
set_option linter.unusedSimpArgs false
open Go.RowKit

def mayB (ts : List Tk) (pl : List Int) (i : Nat) : Bool := !decide ((i : Int) ∈ pl) && (ts.getD i nilTk).deps.all fun d => decide (d ∈ pl)

theorem may_placed {ts : List Tk} {pl : List Int} {i : Nat} (h : (i : Int) ∈ pl) : mayB ts pl i = false := by simp [mayB, h]
theorem may_dep {ts : List Tk} {pl : List Int} {i j : Nat} (hj : j < (ts.getD i nilTk).deps.length) (h : (ts.getD i nilTk).deps.getD j 0 ∉ pl) : mayB ts pl i = false := by
  rw [← Bool.not_eq_true]
  unfold mayB
  rw [Bool.and_eq_true, List.all_eq_true]
  rintro ⟨_, hh⟩
  have := hh _ (getD_mem _ 0 j hj)
  simp only [decide_eq_true_eq] at this
  exact h this
theorem may_yes {ts : List Tk} {pl : List Int} {i : Nat} (h0 : (i : Int) ∉ pl) (h : ∀ j, j < (ts.getD i nilTk).deps.length → (ts.getD i nilTk).deps.getD j 0 ∈ pl) : mayB ts pl i = true := by
  unfold mayB
  rw [Bool.and_eq_true, List.all_eq_true]
  refine ⟨by simp [h0], fun d hd => ?_⟩
  obtain ⟨j, hj, rfl⟩ := mem_getD 0 hd
  simpa using h j hj

set_option maxHeartbeats 1000000 in
theorem mayStand_any (w : World) (B : Nat) (v : Value) (ts : List Tk) (hB : B ≤ w.heap.size) (h : Tasks w B v ts) (pv : Value) (pl : List Int) (hp : Ints w B pv pl) (i : Nat) (hi : i < ts.length) :
    Calls Yamd.prog 17 #[.agg #[v], pv, .int .i64 i] w fun e w' => e = .returned (.bool (mayB ts pl i)) ∧ Below w.heap.size w w' := by
  obtain ⟨hlen, ⟨rfl, rfl⟩ | ⟨g, cap, rfl, hg, hc⟩⟩ := h
  · simp at hi
  obtain ⟨h1, h2, dv, h3, h4⟩ := hc i hi
  have hl4 := h4.1
  clear hc
  have hbw : Below w.heap.size w (w.alloc (.cells #[.slice (some ⟨g, 0, none⟩) ts.length cap] 24)) := (Below.refl _ _).alloc (Nat.le_refl _) _
  have HP : Hid (∀ wx, Below w.heap.size w wx → Ints wx B pv pl) := fun wx hb => hp.below (hb.mono hB)
  have HI : Hid (∀ wx, Below w.heap.size w wx → Ints wx B dv (ts.getD i nilTk).deps) := fun wx hb => h4.below (hb.mono hB)
  clear hp h4
  have HM1 : Hid (_ → _) := may_placed (ts := ts) (pl := pl) (i := i)
  have HM2 : Hid (∀ j : Nat, _ → _ → _) := fun j => may_dep (ts := ts) (pl := pl) (i := i) (j := j)
  have HM3 : Hid (_ → _ → _) := may_yes (ts := ts) (pl := pl) (i := i)
  obtain ⟨T, hT⟩ : ∃ T, T = ts.getD i nilTk := ⟨_, rfl⟩
  rw [← hT] at h1 h2 hl4 HI HM2 HM3
  clear hT
  have h3' := cell_later hbw h3
  by_cases hm : (i : Int) ∈ pl
  · have hmd : decide ((i : Int) ∈ pl) = true := by simpa using hm
    clear hm
    go_enter Yamd.func17, Yamd.ntmps17
    go_wp2_with (go_at_call 27; refine (contains_any _ B pv pl i (HP.out _ hbw)).mono ?_; rintro e w' ⟨rfl, rfl⟩)
    go_ret
    exact ⟨ret_bool (HM1.out (by simpa using hmd)).symm, hbw⟩
  have hmd : decide ((i : Int) ∈ pl) = false := by simpa using hm
  have HM : Hid ((i : Int) ∉ pl) := hm
  clear hm
  obtain ⟨_, ⟨rfl, hnil⟩ | ⟨g2, cap2, rfl, hg2, hc2⟩⟩ := HI.out w (Below.refl _ _)
  · have HN : Hid (T.deps = []) := hnil
    clear hnil
    go_enter Yamd.func17, Yamd.ntmps17
    go_wp2_with (go_at_call 27; refine (contains_any _ B pv pl i (HP.out _ hbw)).mono ?_; rintro e w' ⟨rfl, rfl⟩)
    go_rounds 1
    go_ret
    exact ⟨ret_bool (HM3.out HM.out (by rw [HN.out]; intro j hj; simp at hj)).symm, hbw⟩
  clear hc2
  go_enter Yamd.func17, Yamd.ntmps17
  go_wp2_with (go_at_call 27; refine (contains_any _ B pv pl i (HP.out _ hbw)).mono ?_; rintro e w' ⟨rfl, rfl⟩)
  obtain ⟨W, hW⟩ : ∃ W, W = (w.alloc (.cells #[.slice (some ⟨g, 0, none⟩) ts.length cap] 24)) := ⟨_, rfl⟩
  rw [← hW] at hbw h3' ⊢
  clear hW
  go_loop [19] (fun q => ∃ k : Nat, k ≤ T.deps.length ∧ q = .int .i64 k ∧ ∀ k', k' < k → T.deps.getD k' 0 ∈ pl) (fun q => T.deps.length - (intOf q).toNat)
  case atStart => exact ⟨0, Nat.zero_le _, rfl, fun j hj => absurd hj (by omega)⟩
  case round =>
    obtain ⟨k, hk, rfl, hj⟩ := hrel
    by_cases hlt : k < T.deps.length
    · obtain ⟨_, ⟨_, hnil⟩ | ⟨g3, cap3, e3, hg3, hc3⟩⟩ := HI.out _ hbw
      · rw [hnil] at hlt; simp at hlt
      obtain ⟨e3, _⟩ : g2 = g3 ∧ cap2 = cap3 := by simpa using e3
      subst e3
      have h6 := hc3 k hlt
      have HJ : Hid (_ ∧ _) := ⟨hj, hj⟩
      clear hj hc3
      have HK : Hid (_ → _) := HM2.out k hlt
      obtain ⟨d, hd⟩ : ∃ d, d = T.deps.getD k 0 := ⟨_, rfl⟩
      rw [← hd] at h6 HK
      have HD : Hid (d = T.deps.getD k 0) := hd
      clear hd
      by_cases hdm : d ∈ pl
      · have hdd : decide (d ∈ pl) = true := by simpa using hdm
        have HDM : Hid (d ∈ pl) := hdm
        clear hdm
        go_wp2_with (go_at_call 27; refine (contains_any _ B pv pl d (HP.out _ hbw)).mono ?_; rintro e w' ⟨rfl, rfl⟩)
        go_round
        case rel =>
          refine ⟨k + 1, by omega, by go_num, fun j' hj' => ?_⟩
          rcases Nat.lt_succ_iff_lt_or_eq.1 hj' with h | h
          · exact HJ.out.1 j' h
          · subst h; rw [← HD.out]; exact HDM.out
        case measure => simp [intOf]; omega
      · have hdd : decide (d ∈ pl) = false := by simpa using hdm
        have HDM : Hid (d ∉ pl) := hdm
        clear hdm
        go_wp2_with (go_at_call 27; refine (contains_any _ B pv pl d (HP.out _ hbw)).mono ?_; rintro e w' ⟨rfl, rfl⟩)
        go_ret
        exact ⟨ret_bool (HK.out HDM.out).symm, hbw⟩
    · go_wp2
      go_ret
      exact ⟨ret_bool (HM3.out HM.out fun j hjl => hj j (by omega)).symm, hbw⟩
end Go.Proofs.Ygdamg
