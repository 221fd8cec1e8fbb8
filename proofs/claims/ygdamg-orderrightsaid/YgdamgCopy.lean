import Derived.Test.YgdamgSrc
import Derived.Deep.RegionLaw
namespace Go.Proofs.Ygdamg
set_option linter.unusedVariables false
set_option linter.unusedSimpArgs false
open Go.RowKit

/-- Cell j of the row of tasks. -/
def tkCell (ts : List Tk) (D : Nat → Value) (j : Nat) : Value :=
  if j % 3 = 0 then .int .i64 (ts.getD (j / 3) nilTk).op else if j % 3 = 1 then .int .i64 (ts.getD (j / 3) nilTk).arg else D (j / 3)
def tkCells (ts : List Tk) (D : Nat → Value) : List Value := (List.range (ts.length * 3)).map (tkCell ts D)
theorem tkCells_length (ts : List Tk) (D : Nat → Value) : (tkCells ts D).length = ts.length * 3 := by simp [tkCells]
theorem tkCells_get (ts : List Tk) (D : Nat → Value) (j : Nat) (h : j < ts.length * 3) : (tkCells ts D)[j]? = some (tkCell ts D j) := by
  simp [tkCells, h]
theorem tkCell0 (ts : List Tk) (D : Nat → Value) (k : Nat) : tkCell ts D (k * 3) = .int .i64 (ts.getD k nilTk).op := by
  unfold tkCell; rw [if_pos (by omega), show k * 3 / 3 = k by omega]
theorem tkCell1 (ts : List Tk) (D : Nat → Value) (k : Nat) : tkCell ts D (k * 3 + 1) = .int .i64 (ts.getD k nilTk).arg := by
  unfold tkCell; rw [if_neg (by omega), if_pos (by omega), show (k * 3 + 1) / 3 = k by omega]
theorem tkCell2 (ts : List Tk) (D : Nat → Value) (k : Nat) : tkCell ts D (k * 3 + 2) = D k := by
  unfold tkCell; rw [if_neg (by omega), if_neg (by omega), show (k * 3 + 2) / 3 = k by omega]
theorem split3 (j : Nat) : (∃ k, j = k * 3) ∨ (∃ k, j = k * 3 + 1) ∨ ∃ k, j = k * 3 + 2 := by
  have := Nat.div_add_mod j 3
  have h : j % 3 < 3 := Nat.mod_lt _ (by omega)
  rcases (by omega : j % 3 = 0 ∨ j % 3 = 1 ∨ j % 3 = 2) with h | h | h
  · exact .inl ⟨j / 3, by omega⟩
  · exact .inr (.inl ⟨j / 3, by omega⟩)
  · exact .inr (.inr ⟨j / 3, by omega⟩)

theorem SrcTasks.cellsAt {w : World} {v : Value} {ts : List Tk} (h : SrcTasks w v ts) :
    ∃ D : Nat → Value, CellsAt w v ts.length 3 (tkCells ts D) ∧ ∀ k, k < ts.length → SrcInts w (D k) (ts.getD k nilTk).deps := by
  rcases h.2 with ⟨rfl, rfl⟩ | ⟨a, cap, rfl, hc⟩
  · exact ⟨fun _ => undef, .inl ⟨rfl, rfl, rfl⟩, fun k hk => by simp at hk⟩
  · have hch : ∀ k, ∃ dv, k < ts.length → w.cell? (a.add (k * 3 + 2)) = some dv ∧ SrcInts w dv (ts.getD k nilTk).deps := fun k => by
      by_cases hk : k < ts.length
      · obtain ⟨_, _, dv, h1, h2⟩ := hc k hk
        exact ⟨dv, fun _ => ⟨h1, h2⟩⟩
      · exact ⟨undef, fun h => absurd h hk⟩
    obtain ⟨D, hD⟩ : ∃ D : Nat → Value, ∀ k, k < ts.length → w.cell? (a.add (k * 3 + 2)) = some (D k) ∧ SrcInts w (D k) (ts.getD k nilTk).deps := ⟨fun k => Classical.choose (hch k), fun k => Classical.choose_spec (hch k)⟩
    refine ⟨D, .inr ⟨a, cap, rfl, tkCells_length _ _, fun j u hj => ?_, fun u hu => ?_⟩, fun k hk => (hD k hk).2⟩
    · have hjl : j < ts.length * 3 := by
        rcases Nat.lt_or_ge j (ts.length * 3) with h | h
        · exact h
        · rw [List.getElem?_eq_none (by rw [tkCells_length]; exact h)] at hj; cases hj
      rw [tkCells_get _ _ _ hjl] at hj
      rw [← hj]
      rcases split3 j with ⟨k, rfl⟩ | ⟨k, rfl⟩ | ⟨k, rfl⟩
      · rw [tkCell0]; exact (hc k (by omega)).1
      · rw [tkCell1]; exact (hc k (by omega)).2.1
      · rw [tkCell2]; exact (hD k (by omega)).1
    · simp only [tkCells, List.mem_map, List.mem_range] at hu
      obtain ⟨j, hjl, rfl⟩ := hu
      rcases split3 j with ⟨k, rfl⟩ | ⟨k, rfl⟩ | ⟨k, rfl⟩
      · rw [tkCell0]; rfl
      · rw [tkCell1]; rfl
      · rw [tkCell2]
        rcases (hD k (by omega)).2.2 with ⟨e, _⟩ | ⟨_, _, e, _⟩ <;> rw [e] <;> rfl

/-- What the copy's row holds when k tasks have their own Deps. -/
def CopyRow (wr : World) (gT : Nat) (ts : List Tk) (D : Nat → Value) (k : Nat) (cs : List Value) : Prop :=
  ∀ j, j < ts.length → cs[j * 3]? = some (.int .i64 (ts.getD j nilTk).op) ∧ cs[j * 3 + 1]? = some (.int .i64 (ts.getD j nilTk).arg) ∧
    (k ≤ j → cs[j * 3 + 2]? = some (D j)) ∧
    (j < k → ∃ dv, cs[j * 3 + 2]? = some dv ∧ wr.ownsRow (gT + 1) 3 1 dv (ts.getD j nilTk).deps.length (intVals (ts.getD j nilTk).deps))

theorem copyRow_start (wr : World) (gT : Nat) (ts : List Tk) (D : Nat → Value) : CopyRow wr gT ts D 0 (tkCells ts D) := by
  intro j hj
  refine ⟨?_, ?_, fun _ => ?_, fun h => absurd h (by omega)⟩
  · rw [tkCells_get _ _ _ (by omega), tkCell0]
  · rw [tkCells_get _ _ _ (by omega), tkCell1]
  · rw [tkCells_get _ _ _ (by omega), tkCell2]

theorem copyRow_step {wr w' : World} {gT : Nat} {ts : List Tk} {D : Nat → Value} {k : Nat} {cs : List Value} {dv : Value} (h : CopyRow wr gT ts D k cs) (hl : cs.length = ts.length * 3) (hk : k < ts.length)
    (hkeep : ∀ dv n xs, wr.ownsRow (gT + 1) 3 1 dv n xs → w'.ownsRow (gT + 1) 3 1 dv n xs)
    (hnew : w'.ownsRow (gT + 1) 3 1 dv (ts.getD k nilTk).deps.length (intVals (ts.getD k nilTk).deps)) : CopyRow w' gT ts D (k + 1) (cs.set (k * 3 + 2) dv) := by
  intro j hj
  obtain ⟨h1, h2, h3, h4⟩ := h j hj
  refine ⟨?_, ?_, fun hkj => ?_, fun hjk => ?_⟩
  · rw [List.getElem?_set_ne (by omega)]; exact h1
  · rw [List.getElem?_set_ne (by omega)]; exact h2
  · rw [List.getElem?_set_ne (by omega)]; exact h3 (by omega)
  · by_cases e : j = k
    · subst e
      exact ⟨dv, by rw [List.getElem?_set_self (by omega)], hnew⟩
    · obtain ⟨dv', h5, h6⟩ := h4 (by omega)
      exact ⟨dv', by rw [List.getElem?_set_ne (by omega)]; exact h5, hkeep _ _ _ h6⟩

/-- One round of copyOf, in memory. -/
theorem copy_round {B2 gT cB n cap1 k : Nat} {W wr w2 : World} {ts : List Tk} {D : Nat → Value} {cs : List Value} {ao2 : Option Addr} {cap2 : Nat} {tv : Value} (hn : n = ts.length)
    (hown : wr.ownsRow B2 42 3 (.slice (some ⟨gT, 0, none⟩) n cap1) n cs) (hrow : CopyRow wr cB ts D k cs) (hbox : wr.cell? ⟨cB, 0, none⟩ = some tv) (hs : cB < wr.heap.size) (hb : Below B2 W wr)
    (hgc : gT < cB) (hBg : B2 ≤ gT) (hBs : B2 ≤ wr.heap.size) (hk : k < ts.length)
    (hown2 : w2.ownsRow wr.heap.size 3 1 (.slice ao2 (ts.getD k nilTk).deps.length cap2) (ts.getD k nilTk).deps.length (intVals (ts.getD k nilTk).deps)) (hgrow : wr.drew.grownBy w2 none) :
    (w2.setCell ⟨gT, k * 3 + 2, none⟩ (.slice ao2 (ts.getD k nilTk).deps.length cap2)).ownsRow B2 42 3 (.slice (some ⟨gT, 0, none⟩) n cap1) n (cs.set (k * 3 + 2) (.slice ao2 (ts.getD k nilTk).deps.length cap2)) ∧
    CopyRow (w2.setCell ⟨gT, k * 3 + 2, none⟩ (.slice ao2 (ts.getD k nilTk).deps.length cap2)) cB ts D (k + 1) (cs.set (k * 3 + 2) (.slice ao2 (ts.getD k nilTk).deps.length cap2)) ∧
    (w2.setCell ⟨gT, k * 3 + 2, none⟩ (.slice ao2 (ts.getD k nilTk).deps.length cap2)).cell? ⟨cB, 0, none⟩ = some tv ∧ cB < (w2.setCell ⟨gT, k * 3 + 2, none⟩ (.slice ao2 (ts.getD k nilTk).deps.length cap2)).heap.size ∧
    Below B2 W (w2.setCell ⟨gT, k * 3 + 2, none⟩ (.slice ao2 (ts.getD k nilTk).deps.length cap2)) := by
  have hgrow' : wr.grownBy w2 none := ⟨hgrow.os, hgrow.tape, hgrow.output, hgrow.size, hgrow.block⟩
  have hsz := hgrow'.size
  refine ⟨((hown.kept hgrow' (.inr (by simp [Value.ownBlock]))).stored _ _).1, ?_, ?_, ?_, ?_⟩
  · refine copyRow_step hrow (by rw [hown.1, hn]) hk (fun dv m xs h => ?_) ?_
    · exact ownsRow_setCell_below (h.kept hgrow' (by cases h' : dv.ownBlock <;> simp)) (by show gT < cB + 1; omega) _
    · exact ownsRow_setCell_below (owns_mono hown2 (by omega)) (by show gT < cB + 1; omega) _
  · rw [World.cell?_of_block (w := w2) (Below.heap_setCell _ _ _ _ (by show cB ≠ gT; omega))]
    exact grown_cell hgrow' hbox
  · simp [World.setCell]; omega
  · exact (hb.trans ((grown_below hgrow').mono hBs)).setCell hBg _

/-- The copy, when all is done. -/
theorem copy_done {B2 gT cB cap1 k : Nat} {w1 wr : World} {ts : List Tk} {D : Nat → Value} {cs : List Value} (hlen : ts.length ≤ 3518437208883) (hdl : ∀ k, k < ts.length → (ts.getD k nilTk).deps.length ≤ 140737488351232)
    (hown : wr.ownsRow B2 42 3 (.slice (some ⟨gT, 0, none⟩) ts.length cap1) ts.length cs) (hrow : CopyRow wr cB ts D k cs) (hk : ts.length ≤ k) (hgB : gT < wr.heap.size) : Tasks wr wr.heap.size (.slice (some ⟨gT, 0, none⟩) ts.length cap1) ts := by
  refine ⟨by omega, .inr ⟨gT, cap1, rfl, hgB, fun j hj => ?_⟩⟩
  obtain ⟨h1, h2, _, h4⟩ := hrow j hj
  obtain ⟨dv, h5, h6⟩ := h4 (by omega)
  refine ⟨?_, ?_, dv, ?_, ints_of_owns (hdl j hj) h6 (Nat.le_refl _)⟩
  · rw [hown.cellAt _ (by omega)]; exact h1
  · rw [hown.cellAt _ (by omega)]; exact h2
  · rw [hown.cellAt _ (by omega)]; exact h5

theorem owns_agree {w wx : World} {base : Nat} {e : TypeId} {size : Nat} {v : Value} {n : Nat} {xs : List Value} (h : w.ownsRow base e size v n xs) (hb : ∀ b, base ≤ b → wx.heap[b]? = w.heap[b]?) : wx.ownsRow base e size v n xs := by
  refine ⟨h.1, ?_⟩
  rcases h.2 with h2 | ⟨g, cap, cur, hv, hg, hh, r⟩
  · exact .inl h2
  · exact .inr ⟨g, cap, cur, hv, hg, by rw [hb g hg]; exact hh, r⟩

theorem ints_of_owns' {w : World} {base B : Nat} {v : Value} {l : List Int} (hl : l.length ≤ 140737488351232) (h : w.ownsRow base 3 1 v l.length (intVals l)) (hB : ∀ g, v.ownBlock = some g → g < B) : Ints w B v l := by
  refine ⟨hl, ?_⟩
  rcases h.2 with ⟨rfl, h0⟩ | ⟨g, cap, cur, rfl, hb, hg, hnc, hcm, hcs, htake⟩
  · exact .inl ⟨rfl, List.length_eq_zero_iff.1 h0⟩
  · refine .inr ⟨g, cap, rfl, hB g rfl, fun k hk => ?_⟩
    rw [h.cellAt k (by omega)]
    exact intVals_get l k hk

/-- The copy, when all is done, in whatever world that has the same new blocks. -/
theorem copy_done' {B2 gT cB cap1 k N0 : Nat} {wr wx : World} {ts : List Tk} {D : Nat → Value} {cs : List Value} (hlen : ts.length ≤ 3518437208883) (hdl : ∀ k, k < ts.length → (ts.getD k nilTk).deps.length ≤ 140737488351232)
    (hown : wr.ownsRow B2 42 3 (.slice (some ⟨gT, 0, none⟩) ts.length cap1) ts.length cs) (hrow : CopyRow wr cB ts D k cs) (hk : ts.length ≤ k) (hgB : gT < wr.heap.size) (hN1 : N0 ≤ B2) (hN2 : N0 ≤ cB + 1)
    (hx : ∀ b, N0 ≤ b → wx.heap[b]? = wr.heap[b]?) : Tasks wx wr.heap.size (.slice (some ⟨gT, 0, none⟩) ts.length cap1) ts := by
  have hown' := owns_agree hown (fun b hb => hx b (by omega))
  refine ⟨by omega, .inr ⟨gT, cap1, rfl, hgB, fun j hj => ?_⟩⟩
  obtain ⟨h1, h2, _, h4⟩ := hrow j hj
  obtain ⟨dv, h5, h6⟩ := h4 (by omega)
  refine ⟨?_, ?_, dv, ?_, ints_of_owns' (hdl j hj) (owns_agree h6 (fun b hb => hx b (by omega))) (fun g e => (h6.lt g e).2)⟩
  · rw [hown'.cellAt _ (by omega)]; exact h1
  · rw [hown'.cellAt _ (by omega)]; exact h2
  · rw [hown'.cellAt _ (by omega)]; exact h5

theorem CopyRow.keep {wr w' : World} {gT : Nat} {ts : List Tk} {D : Nat → Value} {k : Nat} {cs : List Value} (h : CopyRow wr gT ts D k cs)
    (hkeep : ∀ dv n xs, wr.ownsRow (gT + 1) 3 1 dv n xs → w'.ownsRow (gT + 1) 3 1 dv n xs) : CopyRow w' gT ts D k cs := by
  intro j hj
  obtain ⟨h1, h2, h3, h4⟩ := h j hj
  exact ⟨h1, h2, h3, fun hjk => let ⟨dv, h5, h6⟩ := h4 hjk; ⟨dv, h5, hkeep _ _ _ h6⟩⟩

set_option maxHeartbeats 1000000 in
theorem copyOf_any (w : World) (v : Value) (ts : List Tk) (h : SrcTasks w v ts) :
    Calls Yamd.prog 11 #[.agg #[v]] w fun e w' => (∃ v', e = .returned (.agg #[v']) ∧ ∀ wx, (∀ b, w.heap.size ≤ b → wx.heap[b]? = w'.heap[b]?) → Tasks wx w'.heap.size v' ts) ∧ Below w.heap.size w w' := by
  obtain ⟨D, hsrc, hD⟩ := h.cellsAt
  have hlen := h.1
  have hb2 : Below w.heap.size w ((w.alloc (.cells #[v] 24)).alloc (.cells #[.slice none 0 0] 24)) := ((Below.refl _ _).alloc (Nat.le_refl _) _).alloc (by simp) _
  have hsrc2 : CellsAt ((w.alloc (.cells #[v] 24)).alloc (.cells #[.slice none 0 0] 24)) v ts.length 3 (tkCells ts D) := by
    rcases hsrc with hs | ⟨ad, c, e1, e2, e3, e4⟩
    · exact .inl hs
    · exact .inr ⟨ad, c, e1, e2, fun j u hj => cell_later hb2 (e3 j u hj), e4⟩
  obtain ⟨ao, cap, rfl⟩ : ∃ ao cap, v = .slice ao ts.length cap := by
    rcases h.2 with ⟨rfl, rfl⟩ | ⟨g, cap, rfl, _⟩
    · exact ⟨none, 0, rfl⟩
    · exact ⟨_, _, rfl⟩
  clear hsrc h
  go_enter Yamd.func11, Yamd.ntmps11
  go_wp2_with (at_builtin; refine wpList_append_new _ rfl (.const (.slice none 0 0)) (.tmp 6) 22 rfl 42 (.agg #[.int .i64 0, .int .i64 0, .slice none 0 0]) 3 40 Yamd.underlying22 Yamd.info42 rfl (by decide) _ _ _ rfl rfl hsrc2 (by unfold maxLen; omega) (by omega) ?_; intro ao1 cap1 w1 hown1 hgrow1; clear hsrc2)
  simp only [World.size_alloc] at hown1
  rcases Nat.eq_zero_or_pos ts.length with h0 | hpos
  · obtain rfl : ts = [] := List.length_eq_zero_iff.1 h0
    have hT0 : ∀ (wx : World) (B : Nat), w1.heap.size ≤ B → Tasks wx B (.slice ao1 0 cap1) [] := fun wx B hle => by
      refine ⟨by simp, ?_⟩
      rcases hown1.2 with ⟨hv, _⟩ | ⟨g, cap', cur, hv, _, hg, _⟩
      · exact .inl ⟨by simpa using hv, rfl⟩
      · have := lt_of_block hg
        simp only [Value.slice.injEq, true_and] at hv
        obtain ⟨rfl, rfl⟩ := hv
        exact .inr ⟨g, cap1, rfl, by omega, fun k hk => by simp at hk⟩
    have HT0 : Hid (∀ (wx : World) (B : Nat), w1.heap.size ≤ B → Tasks wx B (.slice ao1 0 cap1) []) := hT0
    have hR0 : Row ((w.alloc (.cells #[.slice ao 0 cap] 24)).alloc (.cells #[.slice none 0 0] 24)) (w.heap.size + 1) 24 [.slice none 0 0] := by
      have := row_new (w.alloc (.cells #[.slice ao 0 cap] 24)) [.slice none 0 0] 24
      rwa [World.size_alloc] at this
    have hR := (hR0.grown hgrow1 (by simp)).alloc (.cells #[.slice ao1 0 cap1] 24)
    have hrc := hR.cell (k := 0) rfl
    have hrf := hR.free 0
    have hbb : Below w.heap.size w ((w1.alloc (.cells #[.slice ao1 0 cap1] 24)).setCell ⟨w.heap.size + 1, 0, none⟩ (.slice ao1 0 cap1)) := by
      have := hgrow1.size
      simp at this
      exact ((((((Below.refl _ _).alloc (Nat.le_refl _) _).alloc (by simp) _)).grown hgrow1 (by simp; omega) (fun k e => by cases e)).alloc (by omega) _).setCell (by simp) _
    have hc2 := (hR.set 0 (.slice ao1 0 cap1)).cell (k := 0) rfl
    have hsz : w1.heap.size ≤ ((w1.alloc (.cells #[.slice ao1 0 cap1] 24)).setCell ⟨w.heap.size + 1, 0, none⟩ (.slice ao1 0 cap1)).heap.size := by simp [World.setCell]
    clear hT0 hR0 hown1 hgrow1 hb2
    go_wp2
    go_rounds 1
    exact bodyPost_ret (v := .agg #[.slice ao1 0 cap1]) (by simp [results, Yamd.results11, go_sem, hc2]) rfl ⟨⟨_, rfl, fun wx _ => HT0.out wx _ hsz⟩, hbb⟩
  obtain ⟨gT, cap', hv1, hgb, hglt⟩ := hown1.form hpos
  simp only [Value.slice.injEq, true_and] at hv1
  obtain ⟨rfl, rfl⟩ := hv1
  have hbW : Below (w.heap.size + 2) ((w.alloc (.cells #[.slice ao ts.length cap] 24)).alloc (.cells #[.slice none 0 0] 24)) (w1.alloc (Obj.cells #[Value.slice (some ⟨gT, 0, none⟩) ts.length cap1] 24)) :=
    ((Below.refl _ _).grown hgrow1 (by simp) (fun k e => by cases e)).alloc (by omega) _
  go_loopw [12] (fun i wr => ∃ k cs, k ≤ ts.length ∧ i = .int .i64 (k : Nat) ∧ wr.ownsRow (w.heap.size + 2) 42 3 (.slice (some ⟨gT, 0, none⟩) ts.length cap1) ts.length cs ∧ CopyRow wr w1.heap.size ts D k cs ∧
      wr.cell? ⟨w1.heap.size, 0, none⟩ = some (.slice (some ⟨gT, 0, none⟩) ts.length cap1) ∧ w1.heap.size < wr.heap.size ∧
      Below (w.heap.size + 2) ((w.alloc (.cells #[.slice ao ts.length cap] 24)).alloc (.cells #[.slice none 0 0] 24)) wr) (fun i _ => ts.length - (intOf i).toNat)
  case atStart =>
    exact ⟨0, _, Nat.zero_le _, rfl, hown1.alloc _, copyRow_start _ _ _ _, by simp, by simp, hbW⟩
  case round =>
    clear hown1 hgrow1 hbW hb2
    obtain ⟨k, cs, hk, rfl, hown, hrow, hbox, hs, hb⟩ := hrel
    have hl := hown.1
    by_cases hlt : k < ts.length
    · obtain ⟨_, _, hdk, _⟩ := hrow k hlt
      have hdk := hdk (Nat.le_refl _)
      have hcell := hown.cellAt (k * 3 + 2) (by omega)
      rw [hdk] at hcell
      have hfz := hown.frozenAt (k * 3 + 2)
      have hsrck := ((hD k hlt).later (((Below.refl _ _).alloc (Nat.le_refl _) _).alloc (by simp) _)).later (hb.mono (by simp))
      have hsrcD : CellsAt wr.drew (D k) (ts.getD k nilTk).deps.length 1 (intVals (ts.getD k nilTk).deps) := hsrck.cellsAt
      have hdl := hsrck.1
      have hI0 : (0 : Int) ≤ (k : Int) := by omega
      have hI1 : (k : Int) < (ts.length : Int) := by omega
      have hne : gT ≠ w1.heap.size := by omega
      clear hsrck
      obtain ⟨dl, hdl'⟩ : ∃ dl, dl = (ts.getD k nilTk).deps := ⟨_, rfl⟩
      rw [← hdl'] at hsrcD hdl
      obtain ⟨Dk, hDk⟩ : ∃ Dk, Dk = D k := ⟨_, rfl⟩
      rw [← hDk] at hsrcD hcell hdk
      have HDL : Hid (dl = (ts.getD k nilTk).deps) := hdl'
      have HDK : Hid (Dk = D k) := hDk
      clear hdl' hDk
      have HR : Hid (CopyRow wr w1.heap.size ts D k cs) := hrow
      clear hrow hdk
      go_wp2
      go_region_law ((refine step_append_new _ (by rfl) _ _ _ (by rfl) 3 (.int .i64 0) 1 8 Yamd.underlying38 Yamd.info3 rfl (by decide) _ _ _ (by rfl) (by rfl) hsrcD (by unfold maxLen; omega) (by omega) ?_; intro ao2 cap2 w2 hown2 hgrow; have q1 : w2.cell? _ = _ := grown_cell hgrow hbox; have q2 : w2.cell? _ = _ := grown_cell hgrow hcell; have q3 : w2.frozen? _ = _ := grown_free hgrow hcell hfz))
      all_goals
        go_wp2
        go_roundw
        case rel =>
          have HH := HDL.out
          subst HH
          obtain ⟨r1, r2, r3, r4, r5⟩ := copy_round rfl hown HR.out hbox hs hb (by omega) hgb (by omega) hlt hown2 hgrow
          exact ⟨k + 1, _, by omega, by go_num, r1, r2, r3, r4, r5⟩
        case measure => simp [intOf]; omega
    · have hR0 : Row ((w.alloc (.cells #[.slice ao ts.length cap] 24)).alloc (.cells #[.slice none 0 0] 24)) (w.heap.size + 1) 24 [.slice none 0 0] := by
        have := row_new (w.alloc (.cells #[.slice ao ts.length cap] 24)) [.slice none 0 0] 24
        rwa [World.size_alloc] at this
      have hR := hR0.below (by omega) hb
      have hrc := hR.cell (k := 0) rfl
      have hrf := hR.free 0
      clear hR0
      go_wp2
      have hgl : gT < w1.heap.size := hglt
      have hbf : Below w.heap.size w (wr.setCell ⟨w.heap.size + 1, 0, none⟩ (.slice (some ⟨gT, 0, none⟩) ts.length cap1)) :=
        ((((Below.refl _ _).alloc (Nat.le_refl _) _).alloc (by simp) _).trans (hb.mono (by omega))).setCell (by simp) _
      have hT : ∀ wx : World, (∀ b, w.heap.size ≤ b → wx.heap[b]? = (wr.setCell ⟨w.heap.size + 1, 0, none⟩ (.slice (some ⟨gT, 0, none⟩) ts.length cap1)).heap[b]?) → Tasks wx (wr.setCell ⟨w.heap.size + 1, 0, none⟩ (.slice (some ⟨gT, 0, none⟩) ts.length cap1)).heap.size (.slice (some ⟨gT, 0, none⟩) ts.length cap1) ts := fun wx hx =>
        copy_done' (k := k) hlen (fun j hj => by have := (hD j hj).1; omega) (ownsRow_setCell_below hown (by show w.heap.size + 1 < w.heap.size + 2; omega) _) (hrow.keep fun dv n xs h => ownsRow_setCell_below h (by show w.heap.size + 1 < w1.heap.size + 1; omega) _) (by omega) (by simp [World.setCell]; omega) (by omega) (by omega) hx
      have hc2 : (wr.setCell ⟨w.heap.size + 1, 0, none⟩ (.slice (some ⟨gT, 0, none⟩) ts.length cap1)).cell? ⟨w.heap.size + 1, 0, none⟩ = some (.slice (some ⟨gT, 0, none⟩) ts.length cap1) := (hR.set 0 _).cell rfl
      refine bodyPost_ret (v := .agg #[.slice (some ⟨gT, 0, none⟩) ts.length cap1]) (by simp [results, Yamd.results11, go_sem, hc2]) rfl ⟨⟨_, rfl, hT⟩, hbf⟩
end Go.Proofs.Ygdamg
