import Derived.Test.YgdamgBase
namespace Go.Proofs.Ygdamg
set_option linter.unusedVariables false
set_option linter.unusedSimpArgs false
open Go.RowKit

/-- A block of bools. -/
def BoolRow (w : World) (g : Nat) (l : List Bool) : Prop := ∀ k, k < l.length → w.cell? ⟨g, k, none⟩ = some (.bool (l.getD k false))

theorem BoolRow.below {w w' : World} {g B : Nat} {l : List Bool} (h : BoolRow w g l) (hg : g < B) (hb : Below B w w') : BoolRow w' g l :=
  fun k hk => by rw [hb.cell (by exact hg)]; exact h k hk

def allIn (tk : List Bool) (l : List Int) : Bool := l.all fun d => tk.getD d.toNat false

theorem allIn_not {tk : List Bool} {l : List Int} {j : Nat} (hj : j < l.length) (h : tk.getD (l.getD j 0).toNat false = false) : allIn tk l = false := by
  rw [← Bool.not_eq_true]; unfold allIn; rw [List.all_eq_true]
  intro hh
  have := hh _ (getD_mem l 0 j hj)
  rw [h] at this; cases this
theorem allIn_yes {tk : List Bool} {l : List Int} (h : ∀ j, j < l.length → tk.getD (l.getD j 0).toNat false = true) : allIn tk l = true := by
  unfold allIn; rw [List.all_eq_true]
  intro d hd
  obtain ⟨j, hj, rfl⟩ := mem_getD 0 hd
  exact h j hj

set_option maxHeartbeats 400000 in
theorem allTaken_any (w : World) (B : Nat) (op arg : Int) (v : Value) (l : List Int) (h : Ints w B v l) (g cap : Nat) (tk : List Bool) (hg : g < w.heap.size) (ht : BoolRow w g tk)
    (htl : tk.length ≤ 1000) (hr : ∀ d ∈ l, 0 ≤ d ∧ d < tk.length) (m : Nat) (hm : m = tk.length) :
    Calls Yamd.prog 35 #[.agg #[.int .i64 op, .int .i64 arg, v], .slice (some ⟨g, 0, none⟩) m cap] w fun e w' => e = .returned (.bool (allIn tk l)) ∧ Below w.heap.size w w' := by
  subst hm
  obtain ⟨hlen, ⟨rfl, rfl⟩ | ⟨g2, cap2, rfl, hg2, hc⟩⟩ := h
  · go_enter Yamd.func35, Yamd.ntmps35
    go_wp2
    go_rounds 1
    go_ret
    exact ⟨rfl, (Below.refl _ _).alloc (Nat.le_refl _) _⟩
  go_enter Yamd.func35, Yamd.ntmps35
  go_wp2
  have hb : Below w.heap.size w (w.alloc (.cells #[.int .i64 op, .int .i64 arg, .slice (some ⟨g2, 0, none⟩) l.length cap2] 42)) := (Below.refl _ _).alloc (Nat.le_refl _) _
  obtain ⟨W, hW⟩ : ∃ W, W = (w.alloc (.cells #[.int .i64 op, .int .i64 arg, .slice (some ⟨g2, 0, none⟩) l.length cap2] 42)) := ⟨_, rfl⟩
  rw [← hW] at hb ⊢
  clear hW
  go_loop [10] (fun i => ∃ k : Nat, k ≤ l.length ∧ i = .int .i64 k ∧ ∀ k', k' < k → tk.getD (l.getD k' 0).toNat false = true) (fun i => l.length - (intOf i).toNat)
  case atStart => exact ⟨0, Nat.zero_le _, rfl, fun j hj => absurd hj (by omega)⟩
  case round =>
    obtain ⟨k, hk, rfl, hj⟩ := hrel
    by_cases hlt : k < l.length
    · have h1 := cell_later hb (hc k hlt)
      have hm := hr _ (getD_mem l 0 k hlt)
      have h2 := cell_later hb (ht (l.getD k 0).toNat (by omega))
      have HJ : Hid (_ ∧ _) := ⟨hj, hj⟩
      have HN : Hid (_ → _) := allIn_not (tk := tk) (l := l) hlt
      clear hj hc hr ht
      obtain ⟨d, hd⟩ : ∃ d, d = l.getD k 0 := ⟨_, rfl⟩
      rw [← hd] at h1 hm h2 HN
      have HD : Hid (d = l.getD k 0) := hd
      clear hd
      obtain ⟨hm0, hm1⟩ := hm
      obtain ⟨b, hbb⟩ : ∃ b, b = tk.getD d.toNat false := ⟨_, rfl⟩
      rw [← hbb] at h2 HN
      have HB : Hid (b = tk.getD d.toNat false) := hbb
      clear hbb
      cases b
      · go_wp2
        go_ret
        exact ⟨ret_bool (HN.out (by trivial)).symm, hb⟩
      · go_wp2
        go_round
        case rel =>
          refine ⟨k + 1, by omega, by go_num, fun j' hj' => ?_⟩
          rcases Nat.lt_succ_iff_lt_or_eq.1 hj' with h | h
          · exact HJ.out.1 j' h
          · subst h; rw [← HD.out]; exact HB.out.symm
        case measure => simp [intOf]; omega
    · go_wp2
      go_ret
      exact ⟨ret_bool (allIn_yes fun j hjl => hj j (by omega)).symm, hb⟩

def readyAt (ts : List Tk) (tk : List Bool) (i : Nat) : Bool := !tk.getD i false && allIn tk (ts.getD i nilTk).deps

/-- What firstReady hands back. -/
def IsFirst (ts : List Tk) (tk : List Bool) (r : Nat) : Prop :=
  (r < ts.length ∧ readyAt ts tk r = true ∧ ∀ j, j < r → readyAt ts tk j = false) ∨ (r = 0 ∧ ∀ j, j < ts.length → readyAt ts tk j = false)

set_option maxHeartbeats 1000000 in
theorem firstReady_any (w : World) (B : Nat) (v : Value) (ts : List Tk) (hB : B ≤ w.heap.size) (h : Tasks w B v ts) (g cap : Nat) (tk : List Bool) (hg : g < w.heap.size) (ht : BoolRow w g tk)
    (hn : ts.length ≤ 24) (htl : tk.length = ts.length) (hr : ∀ k, k < ts.length → ∀ d ∈ (ts.getD k nilTk).deps, 0 ≤ d ∧ d < ts.length) :
    Calls Yamd.prog 28 #[.agg #[v], .slice (some ⟨g, 0, none⟩) ts.length cap] w fun e w' => (∃ r : Nat, e = .returned (.int .i64 r) ∧ IsFirst ts tk r) ∧ Below w.heap.size w w' := by
  obtain ⟨hlen, ⟨rfl, rfl⟩ | ⟨g2, cap2, rfl, hg2, hc⟩⟩ := h
  · go_enter Yamd.func28, Yamd.ntmps28
    go_wp2
    go_rounds 1
    go_ret
    exact ⟨⟨0, rfl, .inr ⟨rfl, by simp⟩⟩, (Below.refl _ _).alloc (Nat.le_refl _) _⟩
  go_enter Yamd.func28, Yamd.ntmps28
  go_wp2
  go_loopw [10] (fun i wr => ∃ k : Nat, k ≤ ts.length ∧ i = .int .i64 k ∧ Below w.heap.size w wr ∧ ∀ k', k' < k → readyAt ts tk k' = false) (fun i _ => ts.length - (intOf i).toNat)
  case atStart => exact ⟨0, Nat.zero_le _, rfl, (Below.refl _ _).alloc (Nat.le_refl _) _, fun j hj => absurd hj (by omega)⟩
  case round =>
    obtain ⟨k, hk, rfl, hb, hj⟩ := hrel
    have hs := hb.size
    by_cases hlt : k < ts.length
    · obtain ⟨h1, h2, dv, h3, h4⟩ := hc k hlt
      have h5 := h4.below (hb.mono hB)
      have hr1 := hr k hlt
      have hl4 := h4.1
      have ht1 := ht.below hg hb
      have h6 := ht1 k (by omega)
      replace h1 := cell_later hb h1
      replace h2 := cell_later hb h2
      replace h3 := cell_later hb h3
      have HR : Hid (readyAt ts tk k = (!tk.getD k false && allIn tk (ts.getD k nilTk).deps)) := rfl
      have HJ : Hid (_ ∧ _) := ⟨hj, hj⟩
      clear hj hc hr ht h4
      obtain ⟨T, hT⟩ : ∃ T, T = ts.getD k nilTk := ⟨_, rfl⟩
      rw [← hT] at h1 h2 h5 hl4 hr1 HR
      have HT : Hid (T = ts.getD k nilTk) := hT
      clear hT
      obtain ⟨b, hbb⟩ : ∃ b, b = tk.getD k false := ⟨_, rfl⟩
      rw [← hbb] at h6 HR
      have HB : Hid (b = tk.getD k false) := hbb
      clear hbb
      have Hht1 : Hid (BoolRow wr g tk ∧ Ints wr B dv T.deps ∧ ∀ d ∈ T.deps, 0 ≤ d ∧ d < tk.length) := ⟨ht1, h5, by rw [htl]; exact hr1⟩
      obtain ⟨a, c, rfl⟩ := h5.form
      clear ht1 h5 hr1
      have hg1 : g < wr.heap.size := by omega
      cases b
      · go_wp2_with fail
        have hba : Below wr.heap.size wr (wr.alloc (Obj.cells #[Value.int IntKind.i64 T.op, Value.int IntKind.i64 T.arg, Value.slice a T.deps.length c] 42)) := (Below.refl _ _).alloc (Nat.le_refl _) _
        refine (allTaken_any _ B _ _ _ T.deps (Hht1.out.2.1.below (hba.mono (by omega))) g _ tk (by simp; omega) (Hht1.out.1.below hg1 hba) (by omega) Hht1.out.2.2 _ htl.symm).mono ?_
        rintro e w' ⟨rfl, hb'⟩
        have hb2 : Below w.heap.size w w' := hb.trans ((hba.mono hs).trans (hb'.mono (by simp; omega)))
        clear hb'
        obtain ⟨r, hrr⟩ : ∃ r, r = allIn tk T.deps := ⟨_, rfl⟩
        rw [← hrr] at HR ⊢
        have HA : Hid (r = allIn tk T.deps) := hrr
        clear hrr
        cases r
        · go_wp2
          go_roundw
          case rel =>
            refine ⟨k + 1, by omega, by go_num, hb2, fun j' hj' => ?_⟩
            rcases Nat.lt_succ_iff_lt_or_eq.1 hj' with h | h
            · exact HJ.out.1 j' h
            · subst h; rw [HR.out]; rfl
          case measure => simp [intOf]; omega
        · go_wp2
          go_ret
          exact ⟨⟨k, rfl, .inl ⟨hlt, by rw [HR.out]; rfl, HJ.out.1⟩⟩, hb2⟩
      · go_wp2
        go_roundw
        case rel =>
          refine ⟨k + 1, by omega, by go_num, hb.alloc hs _, fun j' hj' => ?_⟩
          rcases Nat.lt_succ_iff_lt_or_eq.1 hj' with h | h
          · exact HJ.out.1 j' h
          · subst h; rw [HR.out]; rfl
        case measure => simp [intOf]; omega
    · go_wp2
      go_ret
      exact ⟨⟨0, rfl, .inr ⟨rfl, fun j hjl => hj j (by omega)⟩⟩, hb⟩
end Go.Proofs.Ygdamg
