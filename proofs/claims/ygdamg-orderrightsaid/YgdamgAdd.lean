import Derived.Test.YgdamgClear
import Derived.Lib.AppendZeros
namespace Go.Proofs.Ygdamg
set_option linter.unusedVariables false
set_option linter.unusedSimpArgs false
open Go.RowKit

set_option maxHeartbeats 400000 in
theorem grow4 (w : World) :
    Calls Yamd.prog 43 #[.slice none 0 0, .int .i64 4] w fun e w' => ∃ cap, e = .returned (.slice (some ⟨w.heap.size, 0, none⟩) 0 cap) ∧ w'.ownsRow 0 3 1 (.slice (some ⟨w.heap.size, 0, none⟩) 0 cap) 0 [] ∧ Kept [] w w' := by
  obtain ⟨i0, hi, hz0, hz1, hz2⟩ := info_parts Yamd.info3
  have hr := fun ty => Lib.run_append_nil_zeros (P := Yamd.prog) w 38 3 ty 3 i0 (.int .i64 0) .i64 .i64 Yamd.underlying38 Yamd.underlying3 hi hz0 4 (by omega) (by omega) (by omega) (by omega)
  have hge := grownCap_ge w 4 0 3
  have hle := grownCap_le_maxLen w 4 0 3 (by unfold maxLen; omega)
  obtain ⟨cap, hcap⟩ : ∃ cap, cap = grownCap w 4 0 3 := ⟨_, rfl⟩
  rw [← hcap] at hr hge hle
  clear hcap
  obtain ⟨A, hA⟩ : ∃ A, A = Builtin.zeroCells (Value.int .i64 0).cells 4 ++ Builtin.zeroCells (Value.int .i64 0).cells (cap - 4) := ⟨_, rfl⟩
  have hAs : A.size = cap := by rw [hA]; simp [Builtin.zeroCells, Value.cells]; omega
  rw [← hA] at hr
  clear hA
  obtain ⟨W, hW⟩ : ∃ W, W = w.drew.alloc (.cells A 3) := ⟨_, rfl⟩
  have hown : W.ownsRow 0 3 1 (.slice (some ⟨w.heap.size, 0, none⟩) 0 cap) 0 [] := by
    rw [hW]
    exact World.ownsRow_made w.drew A cap (Nat.zero_le _) hle (by omega)
  have hk : Kept [] w W := by rw [hW]; exact ((Kept.refl _ _).drew).alloc _
  rw [← hW] at hr
  clear hW hi hz0 hz1 hz2
  have hI1 : (0 : Int) ≤ (cap : Int) := by omega
  go_enter Yamd.func43, Yamd.ntmps43
  go_wp2_with (at_builtin; refine Lib.wpList_append_run _ rfl (.tmp 20) (.tmp 21) 38 3 rfl _ _ rfl rfl _ _ (hr _) ?_)
  go_ret
  exact ⟨cap, rfl, hown, hk⟩

set_option maxHeartbeats 400000 in
theorem add_in (w : World) (b : Nat) (ks : List Int) (F : List Nat) (k : Int) (h : SetAt w b ks F) (hk : k ∈ ks) :
    Calls Yamd.prog 37 #[.pointer (some ⟨b, 0, none⟩), .int .i64 k] w fun e w' => e = .returned (.bool false) ∧ w' = w := by
  have hd : decide (k ∈ ks) = true := by simpa using hk
  have HS : Hid (SetAt w b ks F) := h
  clear h hk
  go_enter Yamd.func37, Yamd.ntmps37
  go_wp2_with (go_at_call 42; refine (has_any _ b ks F k HS.out).mono ?_; rintro e w' ⟨rfl, hw'⟩; rw [hw']; clear hw' w')
  go_ret
  exact ⟨rfl, rfl⟩

/-- The map's store and the append, in memory: what is left behind them. -/
theorem add_step {w6 w8 : World} {b r g g' cap cap' : Nat} {ks : List Int} {k : Int} (h1 : r ≠ g) (h2 : r ≠ b) (h3 : g ≠ b)
    (hr6 : Row w6 b 57 [.map (some r), .slice (some ⟨g, 0, none⟩) ks.length cap]) (hm6 : MapKeys w6 r (ks ++ [k]))
    (hown8 : w8.ownsRow 0 3 1 (.slice (some ⟨g', 0, none⟩) (ks.length + 1) cap') (ks.length + 1) (intVals ks ++ [.int .i64 k])) (hgrow : (w6.alloc (.cells #[.int .i64 k] 3)).grownBy w8 (some g))
    (hat : g' = g ∨ g' = w6.heap.size + 1) :
    SetAt (w8.setCell ⟨b, 1, none⟩ (.slice (some ⟨g', 0, none⟩) (ks.length + 1) cap')) b (ks ++ [k]) [r, g'] ∧ Kept [b, g] w6 (w8.setCell ⟨b, 1, none⟩ (.slice (some ⟨g', 0, none⟩) (ks.length + 1) cap')) := by
  have hbl := hr6.lt
  have hrl := hm6.lt
  have hr8 : Row w8 b 57 [.map (some r), .slice (some ⟨g, 0, none⟩) ks.length cap] := (hr6.alloc _).grown hgrow (by simp; exact Ne.symm h3)
  have hm8 : MapKeys w8 r (ks ++ [k]) := by
    refine hm6.same ?_
    rw [hgrow.block r (by simp; omega) (by simpa using h1)]
    exact Below.heap_alloc _ _ _ hrl
  have hrg : r ≠ g' := by rcases hat with e | e <;> omega
  have hgb : g' ≠ b := by rcases hat with e | e <;> omega
  refine ⟨.inr ⟨r, g', cap', rfl, hrg, h2, hgb, ?_, hm8.same (Below.heap_setCell _ _ _ _ h2), ?_⟩, ?_⟩
  · have := hr8.set 1 (.slice (some ⟨g', 0, none⟩) (ks.length + 1) cap')
    simpa using this
  · have h9 : (w8.setCell ⟨b, 1, none⟩ (.slice (some ⟨g', 0, none⟩) (ks.length + 1) cap')).ownsRow 0 3 1 (.slice (some ⟨g', 0, none⟩) (ks.length + 1) cap') (ks.length + 1) (intVals ks ++ [.int .i64 k]) :=
      ownsRow_setCell_other hown8 (by simp [Value.ownBlock]; exact hgb) _
    simpa [intVals] using h9
  · refine Kept.setCell ?_ (by simp) _
    refine Kept.trans (F := [b, g]) (G := [g]) ((Kept.refl _ _).alloc _) (Kept.ofGrown hgrow (fun j e => by simp at e; simp [e])) (by simp)

set_option maxHeartbeats 1000000 in
theorem add_new (w : World) (b r g cap : Nat) (ks : List Int) (k : Int) (hk : k ∉ ks) (hl : ks.length ≤ 1000) (h1 : r ≠ g) (h2 : r ≠ b) (h3 : g ≠ b)
    (hr : Row w b 57 [.map (some r), .slice (some ⟨g, 0, none⟩) ks.length cap]) (hm : MapKeys w r ks) (hown : w.ownsRow 0 3 1 (.slice (some ⟨g, 0, none⟩) ks.length cap) ks.length (intVals ks)) :
    Calls Yamd.prog 37 #[.pointer (some ⟨b, 0, none⟩), .int .i64 k] w fun e w' => e = .returned (.bool true) ∧ Kept [b, r, g] w w' ∧ ∃ g', SetAt w' b (ks ++ [k]) [r, g'] ∧ (g' = g ∨ w.heap.size ≤ g') := by
  have hd : decide (k ∈ ks) = false := by simpa using hk
  have HS : Hid (SetAt w b ks [r, g]) := .inr ⟨r, g, cap, rfl, h1, h2, h3, hr, hm, hown⟩
  have c0 := hr.cell (k := 0) rfl
  have c1 := hr.cell (k := 1) rfl
  have hnil := run_eql_map_nil (P := Yamd.prog) w 55 3 3 (some r) Yamd.underlying55
  obtain ⟨w6, hrun6, hm6, hk6, hs6⟩ := run_update (w := w.drew) (ks := ks) hm k (.int .i64 (ks.length : Nat)) hk
  have hr6 := (show Row w.drew b 57 _ from hr).kept hk6 (by simp; exact Ne.symm h2)
  have d0 := hr6.cell (k := 0) rfl
  have d1 := hr6.cell (k := 1) rfl
  have f1 := hr6.free 1
  have hown6 : w6.ownsRow 0 3 1 (.slice (some ⟨g, 0, none⟩) ks.length cap) ks.length (intVals ks) := by
    refine ⟨hown.1, ?_⟩
    rcases hown.2 with ⟨e, _⟩ | ⟨g', cap', cur, e, q1, q2, q3⟩
    · simp at e
    · simp only [Value.slice.injEq, Option.some.injEq, Addr.mk.injEq, and_true, true_and] at e
      obtain ⟨rfl, rfl⟩ := e
      exact .inr ⟨g, cap, cur, rfl, q1, by rw [hk6.block g (lt_of_block q2) (by simp; exact Ne.symm h1)]; exact q2, q3⟩
  have hs6' : w.heap.size ≤ w6.heap.size := by have := hk6.size; exact this
  clear hk hown hs6
  go_enter Yamd.func37, Yamd.ntmps37
  go_wp2_with (go_at_call 42; refine (has_any _ b ks [r, g] k HS.out).mono ?_; rintro e w' ⟨rfl, hw'⟩; rw [hw']; clear hw' w')
  go_region_held3 (fun w' => w'.cell? ⟨b, 0, none⟩ = some (.map (some r)) ∧ w'.cell? ⟨b, 0 + 1, none⟩ = some (.slice (some ⟨g, 0, none⟩) ks.length cap)) (go_keep) (fail)
  obtain ⟨i0, hi, hz0, hz1, hz2⟩ := info_parts Yamd.info3
  clear c0 c1 hrun6 hm hr hnil
  go_wp2_with (at_builtin; (refine wpList_append_lies _ rfl (.tmp 43) (.tmp 45) 38 rfl 0 3 i0 (.int .i64 0) 1 8 Yamd.underlying38 hi hz0 hz1 hz2 rfl (by decide) (.slice (some ⟨g, 0, none⟩) ks.length cap) ks.length (intVals ks) rfl (hown6.alloc _) ⟨w6.heap.size, 0, none⟩ 1 1 [.int .i64 k] rfl rfl (new_cell _ _ _ _ rfl) (one_one _ rfl) (by omega) (by unfold maxLen; omega) (by omega) (Nat.zero_le _) (w6.heap.size + 1) (by simp) ?_; intro g8 cap8 w8 hown8 hgrow8 hat8 hlt8; have hat8' : g8 = g ∨ g8 = w6.heap.size + 1 := (by rcases hat8 with e | e; exact .inl (by simpa [Value.ownBlock] using e.symm); exact .inr e); obtain ⟨hS, hK⟩ := add_step h1 h2 h3 hr6 hm6 hown8 hgrow8 hat8'; have hr8 : Row w8 b 57 _ := (hr6.alloc _).grown hgrow8 (by simp [Value.ownBlock]; exact Ne.symm h3); have y1 := hr8.cell (k := 1) rfl; have y2 := hr8.free 1))
  go_ret
  refine ⟨rfl, ?_, g8, hS, ?_⟩
  · have hk6' : Kept [b, r, g] w w6 := (Kept.mono (F := [r]) ⟨hk6.os, hk6.tape, hk6.output, hk6.size, hk6.block⟩ (by simp))
    exact hk6'.trans hK (by simp)
  · rcases hat8' with e | e
    · exact .inl e
    · exact .inr (by omega)

set_option maxHeartbeats 1000000 in
theorem add_first (w : World) (b : Nat) (k : Int) (hr : Row w b 57 [.map none, .slice none 0 0]) :
    Calls Yamd.prog 37 #[.pointer (some ⟨b, 0, none⟩), .int .i64 k] w fun e w' => e = .returned (.bool true) ∧ Kept [b] w w' ∧ ∃ r g, SetAt w' b [k] [r, g] ∧ w.heap.size ≤ r ∧ w.heap.size ≤ g := by
  have HS : Hid (SetAt w b [] []) := .inl ⟨rfl, rfl, hr⟩
  have hd : decide (k ∈ ([] : List Int)) = false := by simp
  have c0 := hr.cell (k := 0) rfl
  have hbl := hr.lt
  have hnil := run_eql_map_nil (P := Yamd.prog) w 55 3 3 none Yamd.underlying55
  have hmm := @run_makeMap Yamd.prog
  have c1 := hr.cell (k := 1) rfl
  have f0 := hr.free 0
  have hs0 : (w.setCell ⟨b, 0, none⟩ (.map (some w.heap.size))).heap.size = w.heap.size := by simp [World.setCell]
  have hr2 := (hr.set 0 (.map (some w.heap.size))).alloc (.map #[] 0)
  simp only [List.set] at hr2
  have hm2 : MapKeys ((w.setCell ⟨b, 0, none⟩ (.map (some w.heap.size))).alloc (.map #[] 0)) w.heap.size [] := by
    refine ⟨#[], 0, ?_, rfl⟩
    have := heap_alloc_new (w.setCell ⟨b, 0, none⟩ (.map (some w.heap.size))) (.map #[] 0)
    rwa [hs0] at this
  have hk2 : Kept [b] w ((w.setCell ⟨b, 0, none⟩ (.map (some w.heap.size))).alloc (.map #[] 0)) := ((Kept.refl _ _).setCell (by simp) _).alloc _
  have HK2 : Hid (_ ∧ _) := ⟨hr2, hm2⟩
  have HK3 : Hid (Kept [b] w _) := hk2
  clear hr2 hm2 hk2 hs0
  go_enter Yamd.func37, Yamd.ntmps37
  go_wp2_with (first | (go_at_call 42; refine (has_any _ b [] [] k HS.out).mono ?_; rw [hd]; rintro e w' ⟨rfl, hw'⟩; rw [hw']; clear hw' w') | fail)
  refine (grow4 _).mono ?_
  rintro e W ⟨cap, rfl, hownW, hkW⟩
  obtain ⟨⟨hr2, hm2⟩, hk2⟩ : _ ∧ _ := ⟨HK2.out, HK3.out⟩
  clear HK2 HK3 c0 c1 f0 hnil hmm hd
  have hrW := hr2.kept hkW (by simp)
  have hmW := hm2.kept hkW (by simp)
  have hk3 : Kept [b] w W := hk2.trans hkW (by simp)
  have hsz : ((w.setCell ⟨b, 0, none⟩ (.map (some w.heap.size))).alloc (.map #[] 0)).heap.size = w.heap.size + 1 := by simp [World.setCell]
  rw [hsz] at hownW ⊢
  clear hr2 hm2 hk2 hkW hsz
  have e0 := hrW.cell (k := 1) rfl
  have e1 := hrW.free 1
  have hrV := hrW.set 1 (.slice (some ⟨w.heap.size + 1, 0, none⟩) 0 cap)
  simp only [List.set] at hrV
  have hmV : MapKeys (W.setCell ⟨b, 1, none⟩ (.slice (some ⟨w.heap.size + 1, 0, none⟩) 0 cap)) w.heap.size [] := hmW.same (Below.heap_setCell _ _ _ _ (by show w.heap.size ≠ b; omega))
  have hownV : (W.setCell ⟨b, 1, none⟩ (.slice (some ⟨w.heap.size + 1, 0, none⟩) 0 cap)).ownsRow 0 3 1 (.slice (some ⟨w.heap.size + 1, 0, none⟩) 0 cap) 0 [] := ownsRow_setCell_other hownW (by simp [Value.ownBlock]; omega) _
  have hkV : Kept [b] w (W.setCell ⟨b, 1, none⟩ (.slice (some ⟨w.heap.size + 1, 0, none⟩) 0 cap)) := hk3.setCell (by simp) _
  go_wp2
  obtain ⟨V, hV⟩ : ∃ V, V = W.setCell ⟨b, 1, none⟩ (.slice (some ⟨w.heap.size + 1, 0, none⟩) 0 cap) := ⟨_, rfl⟩
  rw [← hV] at hrV hmV hownV hkV ⊢
  clear hV e0 e1 hrW hmW hk3 hownW
  have c0 := hrV.cell (k := 0) rfl
  have c1 := hrV.cell (k := 1) rfl
  obtain ⟨w6, hrun6, hm6, hk6, hs6⟩ := run_update (w := V.drew) (ks := []) hmV k (.int .i64 0) (by simp)
  have hr6 := (show Row V.drew b 57 _ from hrV).kept hk6 (by simp; omega)
  have d0 := hr6.cell (k := 0) rfl
  have d1 := hr6.cell (k := 1) rfl
  have f1 := hr6.free 1
  have hown6 : w6.ownsRow 0 3 1 (.slice (some ⟨w.heap.size + 1, 0, none⟩) 0 cap) 0 [] := by
    refine ⟨hownV.1, ?_⟩
    rcases hownV.2 with ⟨e, _⟩ | ⟨g', cap', cur, e, q1, q2, q3⟩
    · simp at e
    · simp only [Value.slice.injEq, Option.some.injEq, Addr.mk.injEq, and_true, true_and] at e
      obtain ⟨rfl, rfl⟩ := e
      exact .inr ⟨_, cap, cur, rfl, q1, by rw [hk6.block _ (lt_of_block q2) (by simp)]; exact q2, q3⟩
  have hs6' : w.heap.size ≤ w6.heap.size := by have h1 := hk6.size; have h2 := hkV.size; exact Nat.le_trans h2 h1
  clear hs6 hownV
  go_region_held3 (fun w' => w'.cell? ⟨b, 0, none⟩ = some (.map (some w.heap.size)) ∧ w'.cell? ⟨b, 0 + 1, none⟩ = some (.slice (some ⟨w.heap.size + 1, 0, none⟩) 0 cap)) (go_keep) (fail)
  obtain ⟨i0, hi, hz0, hz1, hz2⟩ := info_parts Yamd.info3
  clear c0 c1 hrun6 hmV hrV
  go_wp2_with (at_builtin; (refine wpList_append_lies _ rfl (.tmp 43) (.tmp 45) 38 rfl 0 3 i0 (.int .i64 0) 1 8 Yamd.underlying38 hi hz0 hz1 hz2 rfl (by decide) (.slice (some ⟨w.heap.size + 1, 0, none⟩) 0 cap) 0 [] rfl (hown6.alloc _) ⟨w6.heap.size, 0, none⟩ 1 1 [.int .i64 k] rfl rfl (new_cell _ _ _ _ rfl) (one_one _ rfl) (by omega) (by unfold maxLen; omega) (by omega) (Nat.zero_le _) (w6.heap.size + 1) (by simp) ?_; intro g8 cap8 w8 hown8 hgrow8 hat8 hlt8; have hat8' : g8 = w.heap.size + 1 ∨ g8 = w6.heap.size + 1 := (by rcases hat8 with e | e; exact .inl (by simpa [Value.ownBlock] using e.symm); exact .inr e); obtain ⟨hS, hK⟩ := add_step (ks := []) (by omega) (by omega) (by omega) hr6 hm6 hown8 hgrow8 hat8'; have hr8 : Row w8 b 57 _ := (hr6.alloc _).grown hgrow8 (by simp [Value.ownBlock]; omega); have y1 := hr8.cell (k := 1) rfl; have y2 := hr8.free 1))
  go_ret
  refine ⟨rfl, ?_, w.heap.size, g8, hS, Nat.le_refl _, by rcases hat8' with e | e <;> omega⟩
  have hk6' : Kept [b] w w6 := hkV.trans (Kept.mono (F := [w.heap.size]) (G := [w.heap.size]) ⟨hk6.os, hk6.tape, hk6.output, hk6.size, hk6.block⟩ (by simp)) (by simp)
  exact hk6'.trans hK (by simp)

/-- Add: whatever the set. -/
theorem add_any (w : World) (b : Nat) (ks : List Int) (F : List Nat) (k : Int) (h : SetAt w b ks F) (hl : ks.length ≤ 1000) :
    Calls Yamd.prog 37 #[.pointer (some ⟨b, 0, none⟩), .int .i64 k] w fun e w' => e = .returned (.bool (!decide (k ∈ ks))) ∧ Kept (b :: F) w w' ∧
      ∃ F', SetAt w' b (if k ∈ ks then ks else ks ++ [k]) F' ∧ ∀ x, x ∈ F' → x ∈ F ∨ w.heap.size ≤ x := by
  by_cases hk : k ∈ ks
  · refine (add_in w b ks F k h hk).mono ?_
    rintro e w' ⟨rfl, rfl⟩
    exact ⟨by simp [hk], Kept.refl _ _, F, by rw [if_pos hk]; exact h, fun x hx => .inl hx⟩
  · rcases h with ⟨rfl, rfl, hr⟩ | ⟨r, g, cap, rfl, h1, h2, h3, hr, hm, hown⟩
    · refine (add_first w b k hr).mono ?_
      rintro e w' ⟨rfl, hk', r, g, hS, q1, q2⟩
      refine ⟨by simp, hk', [r, g], by simpa using hS, fun x hx => ?_⟩
      simp at hx
      rcases hx with rfl | rfl
      · exact .inr q1
      · exact .inr q2
    · refine (add_new w b r g cap ks k hk hl h1 h2 h3 hr hm hown).mono ?_
      rintro e w' ⟨rfl, hk', g', hS, q⟩
      refine ⟨by simp [hk], hk', [r, g'], by rw [if_neg hk]; exact hS, fun x hx => ?_⟩
      simp at hx
      rcases hx with rfl | rfl
      · exact .inl (by simp)
      · rcases q with rfl | q
        · exact .inl (by simp)
        · exact .inr q
end Go.Proofs.Ygdamg
