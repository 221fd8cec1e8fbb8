import Derived.Test.YgdamgBase
namespace Go.Proofs.Ygdamg
set_option linter.unusedVariables false
set_option linter.unusedSimpArgs false
open Go.RowKit

def badOp1 (t : Tk) : Bool := decide (t.op < 0) || decide (8 ≤ t.op)
def badB (ts : List Tk) : Bool := ts.any badOp1

theorem bad_of {ts : List Tk} {k : Nat} (hk : k < ts.length) (h : (ts.getD k nilTk).op < 0 ∨ 8 ≤ (ts.getD k nilTk).op) : badB ts = true := by
  unfold badB
  rw [List.any_eq_true]
  exact ⟨_, getD_mem ts nilTk k hk, by simpa [badOp1] using h⟩

theorem bad_not {ts : List Tk} (h : ∀ k, k < ts.length → 0 ≤ (ts.getD k nilTk).op ∧ (ts.getD k nilTk).op < 8) : badB ts = false := by
  rw [← Bool.not_eq_true]
  unfold badB
  rw [List.any_eq_true]
  rintro ⟨t, ht, h2⟩
  obtain ⟨k, hk, rfl⟩ := mem_getD nilTk ht
  have := h k hk
  simp only [badOp1, Bool.or_eq_true, decide_eq_true_eq] at h2
  omega

set_option maxHeartbeats 1000000 in
theorem badOp_any (w : World) (B : Nat) (v : Value) (ts : List Tk) (h : Tasks w B v ts) :
    Calls Yamd.prog 24 #[.agg #[v], .int .i64 8] w fun e w' => e = .returned (.bool (badB ts)) ∧ Below w.heap.size w w' := by
  obtain ⟨hlen, ⟨rfl, rfl⟩ | ⟨g, cap, rfl, hg, hc⟩⟩ := h
  · go_enter Yamd.func24, Yamd.ntmps24
    go_wp2
    go_rounds 1
    go_ret
    exact ⟨rfl, (Below.refl _ _).alloc (Nat.le_refl _) _⟩
  go_enter Yamd.func24, Yamd.ntmps24
  go_wp2
  go_loopw [10] (fun i wr => ∃ k : Nat, k ≤ ts.length ∧ i = .int .i64 k ∧ Below w.heap.size w wr ∧
      ∀ k', k' < k → 0 ≤ (ts.getD k' nilTk).op ∧ (ts.getD k' nilTk).op < 8) (fun i _ => ts.length - (intOf i).toNat)
  case atStart => exact ⟨0, Nat.zero_le _, rfl, (Below.refl _ _).alloc (Nat.le_refl _) _, fun j hj => absurd hj (by omega)⟩
  case round =>
    obtain ⟨k, hk, rfl, hb, hj⟩ := hrel
    have hs := hb.size
    by_cases hlt : k < ts.length
    · obtain ⟨h1, h2, dv, h3, h4⟩ := hc k hlt
      obtain ⟨a, c, rfl⟩ := h4.form
      have hl4 := h4.1
      clear hc h4
      replace h1 := cell_later hb h1
      replace h2 := cell_later hb h2
      replace h3 := cell_later hb h3
      have HD : Hid (_ → _) := bad_of (ts := ts) (k := k) hlt
      have HJ : Hid (_ ∧ _) := ⟨hj, hj⟩
      clear hj
      obtain ⟨T, hT⟩ : ∃ T, T = ts.getD k nilTk := ⟨_, rfl⟩
      rw [← hT] at h1 h2 h3 hl4 HD
      have HT : Hid (T = ts.getD k nilTk) := hT
      clear hT
      by_cases hd0 : T.op < 0
      · have hdd : decide (T.op < 0) = true := by simpa using hd0
        go_wp2
        go_ret
        exact ⟨ret_bool (HD.out (.inl hd0)).symm, hb.alloc hs _⟩
      · have hdd : decide (T.op < 0) = false := by simpa using hd0
        by_cases hd1 : 8 ≤ T.op
        · have hdd1 : decide (8 ≤ T.op) = true := by simpa using hd1
          go_wp2
          go_ret
          exact ⟨ret_bool (HD.out (.inr hd1)).symm, hb.alloc hs _⟩
        · have hdd1 : decide (8 ≤ T.op) = false := by simpa using hd1
          go_wp2
          go_roundw
          case rel =>
            refine ⟨k + 1, by omega, by go_num, hb.alloc hs _, fun j' hj' => ?_⟩
            rcases Nat.lt_succ_iff_lt_or_eq.1 hj' with h | h
            · exact HJ.out.1 j' h
            · subst h; rw [← HT.out]; omega
          case measure => simp [intOf]; omega
    · go_wp2
      go_ret
      exact ⟨ret_bool (bad_not fun k' hk' => hj k' (by omega)).symm, hb⟩

set_option maxHeartbeats 400000 in
theorem inRange_yes (w : World) (ao : Option Addr) (n cap : Nat) (i : Int) (h0 : 0 ≤ i) (h1 : i < n) :
    Calls Yamd.prog 16 #[.agg #[.slice ao n cap], .int .i64 i] w fun e w' => e = .returned (.bool true) ∧ Below w.heap.size w w' := by
  have hd0 : decide (0 ≤ i) = true := by simpa using h0
  have hd1 : decide (i < (n : Int)) = true := by simpa using h1
  go_enter Yamd.func16, Yamd.ntmps16
  go_wp2
  go_ret
  exact ⟨rfl, (Below.refl _ _).alloc (Nat.le_refl _) _⟩

/-- slices.Index over ints, and Contains. -/
def idx (l : List Int) (x : Int) : Int := if x ∈ l then (l.idxOf x : Int) else -1

set_option maxHeartbeats 400000 in
theorem index_any (w : World) (B : Nat) (v : Value) (l : List Int) (x : Int) (h : Ints w B v l) :
    Calls Yamd.prog 34 #[v, .int .i64 x] w fun e w' => (∃ r : Int, e = .returned (.int .i64 r) ∧ (0 ≤ r ↔ x ∈ l)) ∧ w' = w := by
  obtain ⟨hlen, ⟨rfl, rfl⟩ | ⟨g, cap, rfl, hg, hc⟩⟩ := h
  · go_enter Yamd.func34, Yamd.ntmps34
    go_wp2
    go_rounds 1
    go_ret
    exact ⟨⟨_, rfl, by simp⟩, rfl⟩
  go_enter Yamd.func34, Yamd.ntmps34
  go_wp2
  go_loop [8] (fun i => ∃ k : Nat, k ≤ l.length ∧ i = .int .i64 k ∧ ∀ k', k' < k → l.getD k' 0 ≠ x) (fun i => l.length - (intOf i).toNat)
  case atStart => exact ⟨0, Nat.zero_le _, rfl, fun j hj => absurd hj (by omega)⟩
  case round =>
    obtain ⟨k, hk, rfl, hj⟩ := hrel
    by_cases hlt : k < l.length
    · have h1 := hc k hlt
      have hm : l.getD k 0 ∈ l := getD_mem l 0 k hlt
      have HJ : Hid (_ ∧ _) := ⟨hj, hj⟩
      clear hj hc
      obtain ⟨d, hd⟩ : ∃ d, d = l.getD k 0 := ⟨_, rfl⟩
      rw [← hd] at h1 hm
      have HD : Hid (d = l.getD k 0) := hd
      clear hd
      by_cases hx : x = d
      · have hxx : (x == d) = true := by simpa using hx
        have HX : Hid (x = d) := hx
        clear hx
        go_wp2
        go_ret
        exact ⟨⟨_, rfl, by rw [HX.out]; simp [hm]⟩, rfl⟩
      · have hxx : (x == d) = false := by simpa using hx
        go_wp2
        go_round
        case rel =>
          refine ⟨k + 1, by omega, by go_num, fun j' hj' => ?_⟩
          rcases Nat.lt_succ_iff_lt_or_eq.1 hj' with h | h
          · exact HJ.out.1 j' h
          · subst h; rw [← HD.out]; exact fun e => hx e.symm
        case measure => simp [intOf]; omega
    · go_wp2
      go_ret
      refine ⟨⟨_, rfl, ?_⟩, rfl⟩
      constructor
      · intro h; omega
      · intro hm
        obtain ⟨j, hjl, rfl⟩ := mem_getD 0 hm
        exact absurd rfl (hj j (by omega))

set_option maxHeartbeats 400000 in
theorem contains_any (w : World) (B : Nat) (v : Value) (l : List Int) (x : Int) (h : Ints w B v l) :
    Calls Yamd.prog 27 #[v, .int .i64 x] w fun e w' => e = .returned (.bool (decide (x ∈ l))) ∧ w' = w := by
  go_enter Yamd.func27, Yamd.ntmps27
  go_wp2_with (go_at_call 34; refine (index_any _ B v l x h).mono ?_; rintro e w' ⟨⟨r, rfl, hr⟩, rfl⟩)
  go_ret
  exact ⟨ret_bool rfl, rfl⟩
end Go.Proofs.Ygdamg
