import Derived.Test.YgdamgAdd
namespace Go.Proofs.Ygdamg
set_option linter.unusedVariables false
set_option linter.unusedSimpArgs false
open Go.RowKit

/-- One more key. -/
def put1 (acc : List Int) (d : Int) : List Int := if d ∈ acc then acc else acc ++ [d]
/-- The different ones, in the order in which they came. -/
def uniq (l : List Int) : List Int := l.foldl put1 []
theorem uniq_snoc (l : List Int) (d : Int) : uniq (l ++ [d]) = put1 (uniq l) d := by simp [uniq]
theorem uniq_take (l : List Int) (k : Nat) (h : k < l.length) : uniq (l.take (k + 1)) = put1 (uniq (l.take k)) (l.getD k 0) := by
  rw [List.take_succ_eq_append_getElem h, uniq_snoc, getD_at l 0 k h]
theorem put1_length (acc : List Int) (d : Int) : acc.length ≤ (put1 acc d).length ∧ (put1 acc d).length ≤ acc.length + 1 := by
  unfold put1; split <;> simp
theorem uniq_le : ∀ (n : Nat) (l : List Int), l.length = n → (uniq l).length ≤ n
  | 0, l, h => by rw [List.length_eq_zero_iff.1 h]; simp [uniq]
  | n + 1, l, h => by
    have e : l = l.take n ++ [l.getD n 0] := by
      have := List.take_succ_eq_append_getElem (l := l) (i := n) (by omega)
      rw [List.take_of_length_le (by omega)] at this
      rw [getD_at l 0 n (by omega)]; exact this
    have := uniq_le n (l.take n) (by simp; omega)
    have h2 := put1_length (uniq (l.take n)) (l.getD n 0)
    rw [e, uniq_snoc]
    omega
theorem put1_pos (acc : List Int) (d : Int) : 0 < (put1 acc d).length := by
  unfold put1; split
  · exact List.length_pos_of_mem (by assumption)
  · simp
theorem uniq_pos (l : List Int) (k : Nat) (hk : 0 < k) (hl : k ≤ l.length) : 0 < (uniq (l.take k)).length := by
  obtain ⟨j, rfl⟩ : ∃ j, k = j + 1 := ⟨k - 1, by omega⟩
  rw [uniq_take l j (by omega)]
  exact put1_pos _ _

theorem SetAt.lt {w : World} {b : Nat} {ks : List Int} {F : List Nat} (h : SetAt w b ks F) : b < w.heap.size ∧ ∀ x, x ∈ F → x < w.heap.size := by
  rcases h with ⟨_, rfl, h⟩ | ⟨r, g, cap, rfl, _, _, _, h5, h6, h7⟩
  · exact ⟨h.lt, by simp⟩
  · refine ⟨h5.lt, fun x hx => ?_⟩
    simp at hx
    rcases hx with rfl | rfl
    · exact h6.lt
    · exact (h7.lt x rfl).2

set_option maxHeartbeats 1000000 in
theorem distinct_any (w : World) (B : Nat) (op arg : Int) (dv : Value) (l : List Int) (hl : l.length ≤ 4) (h : Ints w B dv l) (hd : ∀ d ∈ l, 0 ≤ d ∧ d < 24)
    (b : Nat) (ks : List Int) (F : List Nat) (hS : SetAt w b ks F) (hks : ks.length ≤ 1000) (hBb : B ≤ b) (hBF : ∀ x, x ∈ F → B ≤ x) :
    Calls Yamd.prog 30 #[.agg #[.int .i64 op, .int .i64 arg, dv], .pointer (some ⟨b, 0, none⟩)] w fun e w' => e = .returned (.int .i64 ((uniq l).length : Nat)) ∧ Kept (b :: F) w w' ∧
      ∃ ks' F', SetAt w' b ks' F' ∧ ks'.length ≤ 4 ∧ ∀ x, x ∈ F' → x ∈ F ∨ w.heap.size ≤ x := by
  obtain ⟨hbl, hFl⟩ := hS.lt
  have hI1 : Ints (w.alloc (.cells #[.int .i64 op, .int .i64 arg, dv] 42)) B dv l := h.below ((Below.refl _ _).alloc (by omega) _)
  have hS1 : SetAt (w.alloc (.cells #[.int .i64 op, .int .i64 arg, dv] 42)) b ks F := hS.kept (G := []) ((Kept.refl _ _).alloc _) (by simp) (by simp)
  have hR1 : Row (w.alloc (.cells #[.int .i64 op, .int .i64 arg, dv] 42)) w.heap.size 42 [.int .i64 op, .int .i64 arg, dv] := row_new w _ _
  have hk1 : Kept (b :: F) w (w.alloc (.cells #[.int .i64 op, .int .i64 arg, dv] 42)) := (Kept.refl _ _).alloc _
  have hs1 : (w.alloc (.cells #[.int .i64 op, .int .i64 arg, dv] 42)).heap.size = w.heap.size + 1 := by simp
  obtain ⟨ao, cap, rfl⟩ := h.form
  clear h hS
  have HS1 : Hid (_ ∧ _) := ⟨hS1, hI1⟩
  have HR1 : Hid (_ ∧ _) := ⟨hR1, hk1⟩
  clear hS1 hI1 hR1 hk1 hs1
  go_enter Yamd.func30, Yamd.ntmps30
  go_wp2_with fail
  refine (clear_any _ b ks F HS1.out.1 hks).mono ?_
  rintro e w2 ⟨rfl, hk2, hS2⟩
  obtain ⟨⟨hS1, hI1⟩, hR1, hk1⟩ : (_ ∧ _) ∧ (_ ∧ _) := ⟨HS1.out, HR1.out⟩
  clear HS1 HR1
  have hR2 := hR1.kept hk2 (by simp; exact ⟨by omega, fun hx => by have := hFl _ hx; omega⟩)
  have hI2 := hI1.below (hk2.below (B := B) (by simp; omega) (by simp; exact ⟨hBb, hBF⟩))
  have hk12 : Kept (b :: F) w w2 := hk1.trans hk2 (fun x hx => .inl hx)
  have hsz2 : w.heap.size < w2.heap.size := by have := hk2.size; simp at this; omega
  clear hk1 hk2 hS1 hI1 hR1
  have x2 := hR2.cell (k := 2) rfl
  go_wp2
  go_loopw [12] (fun i wr => ∃ (k : Nat) (F' : List Nat), k ≤ l.length ∧ i = .int .i64 k ∧ SetAt wr b (uniq (l.take k)) F' ∧ (∀ x, x ∈ F' → x ∈ F ∨ w.heap.size < x) ∧ Kept (b :: F) w wr ∧ w.heap.size < wr.heap.size ∧
      Row wr w.heap.size 42 [.int .i64 op, .int .i64 arg, .slice ao l.length cap] ∧ Ints wr B (.slice ao l.length cap) l) (fun i _ => l.length - (intOf i).toNat)
  case atStart => exact ⟨0, F, Nat.zero_le _, rfl, hS2, fun x hx => .inl hx, hk12, hsz2, hR2, hI2⟩
  case round =>
    clear hS2 hk12 hsz2 hR2 hI2 x2
    obtain ⟨k, F', hk, rfl, hS, hF', hkw, hsz, hR, hI⟩ := hrel
    have x2 := hR.cell (k := 2) rfl
    have hule := uniq_le k (l.take k) (by simp; omega)
    by_cases hlt : k < l.length
    · obtain ⟨_, ⟨_, hnil⟩ | ⟨g2, cap2, e2, hg2, hc2⟩⟩ := hI
      · rw [hnil] at hlt; simp at hlt
      simp only [Value.slice.injEq, true_and] at e2
      obtain ⟨rfl, rfl⟩ := e2
      have h6 := hc2 k hlt
      have hm := hd _ (getD_mem l 0 k hlt)
      have hI' : Ints wr B (.slice (some ⟨g2, 0, none⟩) l.length cap) l := ⟨by omega, .inr ⟨g2, cap, rfl, hg2, hc2⟩⟩
      have HU : Hid (uniq (l.take (k + 1)) = put1 (uniq (l.take k)) (l.getD k 0)) := uniq_take l k hlt
      have hup : 0 < k → 0 < (uniq (l.take k)).length := fun h0 => uniq_pos l k h0 (by omega)
      obtain ⟨d, hdd⟩ : ∃ d, d = l.getD k 0 := ⟨_, rfl⟩
      rw [← hdd] at h6 hm HU
      have HD : Hid (d = l.getD k 0) := hdd
      clear hdd hc2
      obtain ⟨hm0, hm1⟩ := hm
      have hdb1 : decide (d < 0) = false := by simp; omega
      have hdb2 : decide (24 ≤ d) = false := by simp; omega
      obtain ⟨U, hU⟩ : ∃ U, U = uniq (l.take k) := ⟨_, rfl⟩
      rw [← hU] at hS HU hup hule
      have HUU : Hid (U = uniq (l.take k)) := hU
      clear hU
      have HS : Hid (SetAt wr b U F') := hS
      clear hS
      have hFl' := HS.out.lt.2
      have hend : ∀ w', Kept (b :: F') wr w' → ∀ F'', SetAt w' b (put1 U d) F'' → (∀ x, x ∈ F'' → x ∈ F' ∨ wr.heap.size ≤ x) →
          SetAt w' b (uniq (l.take (k + 1))) F'' ∧ (∀ x, x ∈ F'' → x ∈ F ∨ w.heap.size < x) ∧ Kept (b :: F) w w' ∧ w.heap.size < w'.heap.size ∧
          Row w' w.heap.size 42 [.int .i64 op, .int .i64 arg, .slice (some ⟨g2, 0, none⟩) l.length cap] ∧ Ints w' B (.slice (some ⟨g2, 0, none⟩) l.length cap) l := by
        intro w' hkx F'' hSx hFx
        have hsx := hkx.size
        refine ⟨by rw [HU.out]; exact hSx, fun x hx => ?_, hkw.trans hkx (fun x hx => ?_), by omega, hR.kept hkx ?_, hI'.below (hkx.below (by omega) ?_)⟩
        · rcases hFx x hx with h | h
          · exact hF' x h
          · exact .inr (by omega)
        · simp at hx
          rcases hx with rfl | hx
          · exact .inl (by simp)
          · rcases hF' x hx with h | h
            · exact .inl (by simp [h])
            · exact .inr (by omega)
        · simp only [List.mem_cons, not_or]
          refine ⟨by omega, fun hx => ?_⟩
          rcases hF' _ hx with h | h
          · have := hFl _ h; omega
          · omega
        · intro x hx
          simp at hx
          rcases hx with rfl | hx
          · exact hBb
          · rcases hF' x hx with h | h
            · exact hBF x h
            · omega
      have HEND : Hid _ := hend
      have HKW : Hid (_ ∧ _) := ⟨hkw, hF'⟩
      clear hend hR hI' hkw hF' hFl' hFl hBF hd
      by_cases hlast : k = l.length - 1
      · have hb1 : ((k : Int) == (l.length : Int) - 1) = true := beq_iff_eq.2 (by omega)
        by_cases hk0 : k = 0
        · have hU0 : U = [] := by
            have := HUU.out
            rw [hk0] at this
            simpa [uniq] using this
          subst hU0
          have hfin : (uniq l).length = 1 := by
            have h1 := HU.out
            rw [hk0, List.take_of_length_le (by omega)] at h1
            rw [h1]; simp [put1]
          have HF : Hid ((uniq l).length = 1) := hfin
          have HL : Hid (k = 0) := hk0
          clear hfin hk0 hup hlast
          go_wp2_with (go_at_call 39; refine (slen_any _ b _ F' HS.out).mono ?_; rintro e w' ⟨rfl, hw'⟩; rw [hw']; clear hw' w')
          go_ret
          exact ⟨ret_int (by rw [HF.out]; rfl), HKW.out.1, [], F', HS.out, by simp, fun x hx => by rcases HKW.out.2 x hx with h | h; exact .inl h; exact .inr (by omega)⟩
        · have hb2 : ((U.length : Int) == 0) = false := beq_eq_false_iff_ne.2 (by have := hup (by omega); omega)
          clear hup
          have hlast' : k + 1 = l.length := by omega
          clear hlast
          go_wp2_with (go_at_call 39; refine (slen_any _ b _ F' HS.out).mono ?_; rintro e w' ⟨rfl, hw'⟩; rw [hw']; clear hw' w')
          refine (add_any _ b U F' d HS.out (by omega)).mono ?_
          rintro e w' ⟨rfl, hkx, F'', hSx, hFx⟩
          go_wp2
          go_roundw
          case rel =>
            obtain ⟨r1, r2, r3, r4, r5, r6⟩ := HEND.out w' hkx F'' hSx hFx
            exact ⟨k + 1, F'', by omega, by go_num, r1, r2, r3, r4, r5, r6⟩
          case measure => simp [intOf]; omega
      · have hb1 : ((k : Int) == (l.length : Int) - 1) = false := beq_eq_false_iff_ne.2 (by omega)
        clear hup
        go_wp2_with fail
        refine (add_any _ b U F' d HS.out (by omega)).mono ?_
        rintro e w' ⟨rfl, hkx, F'', hSx, hFx⟩
        go_wp2
        go_roundw
        case rel =>
          obtain ⟨r1, r2, r3, r4, r5, r6⟩ := HEND.out w' hkx F'' hSx hFx
          exact ⟨k + 1, F'', by omega, by go_num, r1, r2, r3, r4, r5, r6⟩
        case measure => simp [intOf]; omega
    · go_wp2_with (go_at_call 39; refine (slen_any _ b _ F' hS).mono ?_; rintro e w' ⟨rfl, hw'⟩; rw [hw']; clear hw' w')
      go_ret
      have e1 : l.take k = l := List.take_of_length_le (by omega)
      rw [e1] at hS hule ⊢
      exact ⟨rfl, hkw, _, F', hS, by omega, fun x hx => by rcases hF' x hx with h | h; exact .inl h; exact .inr (by omega)⟩
end Go.Proofs.Ygdamg
