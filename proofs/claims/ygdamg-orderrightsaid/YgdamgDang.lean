import Derived.Test.YgdamgBase
namespace Go.Proofs.Ygdamg
set_option linter.unusedVariables false
set_option linter.unusedSimpArgs false
open Go.RowKit

def badDep (n : Nat) (d : Int) : Bool := decide (d < 0) || decide ((n : Int) ≤ d)
def dangB (ts : List Tk) : Bool := ts.any fun t => t.deps.any (badDep ts.length)

theorem dang_of {ts : List Tk} {k : Nat} (hk : k < ts.length) (h : (ts.getD k nilTk).deps.any (badDep ts.length) = true) : dangB ts = true := by
  unfold dangB
  rw [List.any_eq_true]
  exact ⟨_, getD_mem ts nilTk k hk, h⟩

theorem dang_not {ts : List Tk} (h : ∀ k, k < ts.length → (ts.getD k nilTk).deps.any (badDep ts.length) = false) : dangB ts = false := by
  rw [← Bool.not_eq_true]
  unfold dangB
  rw [List.any_eq_true]
  rintro ⟨t, ht, h2⟩
  obtain ⟨k, hk, rfl⟩ := mem_getD nilTk ht
  rw [h k hk] at h2
  cases h2

theorem any_at {n : Nat} {l : List Int} {j : Nat} (hj : j < l.length) (h : l.getD j 0 < 0 ∨ (n : Int) ≤ l.getD j 0) : l.any (badDep n) = true := by
  rw [List.any_eq_true]
  exact ⟨_, getD_mem l 0 j hj, by simpa [badDep] using h⟩

theorem any_none {n : Nat} {l : List Int} (h : ∀ j, j < l.length → 0 ≤ l.getD j 0 ∧ l.getD j 0 < n) : l.any (badDep n) = false := by
  rw [← Bool.not_eq_true, List.any_eq_true]
  rintro ⟨t, ht, h2⟩
  obtain ⟨k, hk, rfl⟩ := mem_getD 0 ht
  have := h k hk
  simp only [badDep, Bool.or_eq_true, decide_eq_true_eq] at h2
  omega

set_option maxHeartbeats 1000000 in
theorem dangling_any (w : World) (B : Nat) (v : Value) (ts : List Tk) (hB : B ≤ w.heap.size) (h : Tasks w B v ts) :
    Calls Yamd.prog 22 #[.agg #[v]] w fun e w' => e = .returned (.bool (dangB ts)) ∧ Below w.heap.size w w' := by
  obtain ⟨hlen, ⟨rfl, rfl⟩ | ⟨g, cap, rfl, hg, hc⟩⟩ := h
  · go_enter Yamd.func22, Yamd.ntmps22
    go_wp2
    go_rounds 1
    go_ret
    exact ⟨rfl, (Below.refl _ _).alloc (Nat.le_refl _) _⟩
  go_enter Yamd.func22, Yamd.ntmps22
  go_wp2
  go_loopw [10] (fun i wr => ∃ k : Nat, k ≤ ts.length ∧ i = .int .i64 k ∧ Below (w.heap.size + 1) (w.alloc (.cells #[.slice (some ⟨g, 0, none⟩) ts.length cap] 24)) wr ∧
      ∀ k', k' < k → (ts.getD k' nilTk).deps.any (badDep ts.length) = false) (fun i _ => ts.length - (intOf i).toNat)
  case atStart => exact ⟨0, Nat.zero_le _, rfl, Below.refl _ _, fun j hj => absurd hj (by omega)⟩
  case round =>
    obtain ⟨k, hk, rfl, hb, hj⟩ := hrel
    have hs := box_size hb
    have hb0 := box_below hb
    have hbox := box_later hb
    have hs1 : w.heap.size < wr.heap.size := hs
    by_cases hlt : k < ts.length
    · obtain ⟨h1, h2, dv, h3, h4⟩ := hc k hlt
      have h5 := h4.below (hb0.mono hB)
      have hl4 := h4.1
      clear hc h4
      replace h1 := cell_later hb0 h1
      replace h2 := cell_later hb0 h2
      replace h3 := cell_later hb0 h3
      have HD : Hid (_ → _) := dang_of (ts := ts) (k := k) hlt
      have HJ : Hid (_ ∧ _) := ⟨hj, hj⟩
      clear hj
      obtain ⟨T, hT⟩ : ∃ T, T = ts.getD k nilTk := ⟨_, rfl⟩
      rw [← hT] at h1 h2 h5 hl4 HD
      have HT : Hid (T = ts.getD k nilTk) := hT
      clear hT
      have HE : Hid (T.deps.any (badDep ts.length) = false → ∀ k', k' < k + 1 → (ts.getD k' nilTk).deps.any (badDep ts.length) = false) := by
        intro hn k' hk'
        rcases Nat.lt_succ_iff_lt_or_eq.1 hk' with h | h
        · exact HJ.out.1 k' h
        · subst h; rw [← HT.out]; exact hn
      obtain ⟨_, ⟨rfl, hnil⟩ | ⟨g2, cap2, rfl, hg2, hc2⟩⟩ := h5
      · have HN : Hid (T.deps = []) := hnil
        clear hnil
        go_wp2
        go_rounds 1
        go_roundw
        case rel => exact ⟨k + 1, by omega, by go_num, hb.alloc hs _, HE.out (by rw [HN.out]; rfl)⟩
        case measure => simp [intOf]; omega
      · go_wp2
        have hb2 : Below (w.heap.size + 1) (w.alloc (.cells #[.slice (some ⟨g, 0, none⟩) ts.length cap] 24)) (wr.alloc (Obj.cells #[.int .i64 T.op, .int .i64 T.arg, .slice (some ⟨g2, 0, none⟩) T.deps.length cap2] 42)) := hb.alloc hs _
        go_loopw [17] (fun i wx => ∃ j : Nat, j ≤ T.deps.length ∧ i = .int .i64 j ∧ wx = (wr.alloc (Obj.cells #[.int .i64 T.op, .int .i64 T.arg, .slice (some ⟨g2, 0, none⟩) T.deps.length cap2] 42)) ∧
          ∀ j', j' < j → 0 ≤ T.deps.getD j' 0 ∧ T.deps.getD j' 0 < ts.length) (fun i _ => T.deps.length - (intOf i).toNat)
        case atStart => exact ⟨0, Nat.zero_le _, rfl, rfl, fun j hj => absurd hj (by omega)⟩
        case round =>
          obtain ⟨j, hjl, rfl, rfl, hjj⟩ := hrel
          by_cases hlt2 : j < T.deps.length
          · have h6 := hc2 j hlt2
            have hg2' : g2 < wr.heap.size := by omega
            have HJJ : Hid (_ ∧ _) := ⟨hjj, hjj⟩
            have HA : Hid (_ → _) := any_at (n := ts.length) (l := T.deps) (j := j) hlt2
            clear hc2 hjj
            obtain ⟨d, hd⟩ : ∃ d, d = T.deps.getD j 0 := ⟨_, rfl⟩
            rw [← hd] at h6 HA
            have HDj : Hid (d = T.deps.getD j 0) := hd
            clear hd
            by_cases hd0 : d < 0
            · have hdd : decide (d < 0) = true := by simpa using hd0
              go_wp2
              go_ret
              exact ⟨ret_bool (HD.out (HA.out (.inl hd0))).symm, box_below hb2⟩
            · have hdd : decide (d < 0) = false := by simpa using hd0
              by_cases hd1 : (ts.length : Int) ≤ d
              · have hdd1 : decide ((ts.length : Int) ≤ d) = true := by simpa using hd1
                go_wp2
                go_ret
                exact ⟨ret_bool (HD.out (HA.out (.inr hd1))).symm, box_below hb2⟩
              · have hdd1 : decide ((ts.length : Int) ≤ d) = false := by simpa using hd1
                go_wp2
                go_roundw
                case rel =>
                  refine ⟨j + 1, by omega, by go_num, by trivial, fun j' hj' => ?_⟩
                  rcases Nat.lt_succ_iff_lt_or_eq.1 hj' with h | h
                  · exact HJJ.out.1 j' h
                  · subst h; rw [← HDj.out]; omega
                case measure => simp [intOf]; omega
          · go_wp2
            go_roundw
            case rel => exact ⟨k + 1, by omega, by go_num, hb2, HE.out (any_none fun j' hj' => hjj j' (by omega))⟩
            case measure => simp [intOf]; omega
    · go_wp2
      go_ret
      exact ⟨ret_bool (dang_not fun k' hk' => hj k' (by omega)).symm, hb0⟩
end Go.Proofs.Ygdamg
