import Derived.Test.YgdamgMem
import Derived.Test.YgdamgReady
namespace Go.Proofs.Ygdamg
set_option linter.unusedVariables false
set_option linter.unusedSimpArgs false
open Go.RowKit

def marks (n : Nat) (pl : List Nat) : List Bool := (List.range n).map fun i => decide (i ∈ pl)
theorem marks_length (n : Nat) (pl : List Nat) : (marks n pl).length = n := by simp [marks]
theorem marks_getD (n : Nat) (pl : List Nat) (i : Nat) (h : i < n) : (marks n pl).getD i false = decide (i ∈ pl) := by
  simp [marks, List.getD_eq_getElem?_getD, h]
def boolVals (l : List Bool) : List Value := l.map Value.bool
def natVals (l : List Nat) : List Value := l.map fun (r : Nat) => Value.int .i64 r
theorem marks_nil (n : Nat) : boolVals (marks n []) = zeros (.bool false) n := by
  apply List.ext_getElem? ; intro k
  by_cases h : k < n <;> simp [boolVals, marks, zeros, h]
theorem marks_set (n : Nat) (pl : List Nat) (r : Nat) : (boolVals (marks n pl)).set r (.bool true) = boolVals (marks n (pl ++ [r])) := by
  apply List.ext_getElem? ; intro k
  simp only [boolVals, marks, List.getElem?_set, List.length_map, List.length_range, List.map_map, List.getElem?_map]
  by_cases h : r = k
  · subst h
    by_cases h2 : r < n <;> simp [h2]
  · by_cases h2 : k < n
    · simp [h, h2, Ne.symm h]
    · simp [h, h2]
theorem boolRow_of {w : World} {g : Nat} {l : List Bool} (h : Row w g 4 (boolVals l)) : BoolRow w g l := by
  intro k hk
  refine h.cell ?_
  simp [boolVals, List.getD_eq_getElem?_getD, hk]

/-- The order that was gathered so far. -/
def OrderSeq (ts : List Tk) (pl : List Nat) : Prop := ∀ j, j < pl.length → IsFirst ts (marks ts.length (pl.take j)) (pl.getD j 0)

theorem OrderSeq.snoc {ts : List Tk} {pl : List Nat} {r : Nat} (h : OrderSeq ts pl) (hr : IsFirst ts (marks ts.length pl) r) : OrderSeq ts (pl ++ [r]) := by
  intro j hj
  simp at hj
  by_cases hjl : j < pl.length
  · have := h j hjl
    rw [List.take_append_of_le_length (by omega)]
    rwa [show (pl ++ [r]).getD j 0 = pl.getD j 0 from by simp [List.getD_eq_getElem?_getD, List.getElem?_append_left hjl]]
  · have : j = pl.length := by omega
    subst this
    simpa [List.getD_eq_getElem?_getD] using hr

theorem IsFirst.lt {ts : List Tk} {tk : List Bool} {r : Nat} (h : IsFirst ts tk r) (hn : 0 < ts.length) : r < ts.length := by
  rcases h with h | h
  · exact h.1
  · omega

set_option maxHeartbeats 1000000 in
theorem order_any (w : World) (B : Nat) (v : Value) (ts : List Tk) (hB : B ≤ w.heap.size) (h : Tasks w B v ts)
    (hn : ts.length ≤ 24) (hr : ∀ k, k < ts.length → ∀ d ∈ (ts.getD k nilTk).deps, 0 ≤ d ∧ d < ts.length) :
    Calls Yamd.prog 18 #[.agg #[v]] w fun e w' => (∃ pv pl, e = .returned pv ∧ pl.length = ts.length ∧ OrderSeq ts pl ∧ w'.ownsRow w.heap.size 3 1 pv pl.length (natVals pl)) ∧ Below w.heap.size w w' := by
  obtain ⟨ao, cap, hv⟩ : ∃ ao cap, v = .slice ao ts.length cap := by
    rcases h.2 with ⟨rfl, rfl⟩ | ⟨g, cap, rfl, _⟩
    · exact ⟨none, 0, rfl⟩
    · exact ⟨_, _, rfl⟩
  subst hv
  obtain ⟨i0, hi, hz0, hz1, hz2⟩ := info_parts Yamd.info3
  go_enter Yamd.func18, Yamd.ntmps18
  go_wp2_with (at_make; refine wpList_make_row _ rfl (.tmp 8) (.tmp 8) 45 rfl 4 (.bool false) Yamd.underlying45 1 Yamd.info4 rfl .i64 .i64 _ _ ts.length rfl rfl rfl rfl (by omega) (by unfold maxLen; omega) ?_; intro w1 hrow hkept hsz; have hb1 : Below (w.heap.size + 1) (w.alloc (.cells #[.slice ao ts.length cap] 24)) w1 := hkept.below (by simp) (by simp); have hbox1 := box_later hb1; simp only [World.size_alloc] at hrow hsz; clear hkept)
  go_loopw [3, 13] (fun pv i wr => ∃ pl : List Nat, pl.length ≤ ts.length ∧ i = .int .i64 pl.length ∧ OrderSeq ts pl ∧ wr.ownsRow (w.heap.size + 2) 3 1 pv pl.length (natVals pl) ∧
      Row wr (w.heap.size + 1) 4 (boolVals (marks ts.length pl)) ∧ Below (w.heap.size + 1) (w.alloc (.cells #[.slice ao ts.length cap] 24)) wr) (fun _ i _ => ts.length - (intOf i).toNat)
  case atStart => exact ⟨[], by simp, rfl, fun j hj => by simp at hj, World.ownsRow_nil _ _ _ _, by rw [marks_nil]; exact hrow, hb1⟩
  case round =>
    clear hrow hsz hb1 hbox1
    obtain ⟨pl, hk, rfl, hseq, hown, hrow, hb⟩ := hrel
    have hbox := box_later hb
    have hb0 := box_below hb
    have hs := hb0.size
    have hgT := hrow.lt
    by_cases hlt : pl.length < ts.length
    · go_wp2_with fail
      refine (firstReady_any _ B _ ts (by omega) (h.below (hb0.mono hB)) (w.heap.size + 1) _ (marks ts.length pl) hgT (boolRow_of hrow) hn (marks_length _ _) hr).mono ?_
      rintro e w2 ⟨⟨r, rfl, hfst⟩, hb2⟩
      have hrl := hfst.lt (by omega)
      have hrow2 := hrow.below hgT hb2
      have hown2 := owns_below hown hb2
      have hbb := hb.trans (hb2.mono (by omega))
      have hseq2 := hseq.snoc hfst
      have hs2 := hb2.size
      have hcr : w2.cell? ⟨w.heap.size + 1, r, none⟩ = some (.bool ((marks ts.length pl).getD r false)) := boolRow_of hrow2 r (by rw [marks_length]; omega)
      have hfz := hrow2.free r
      clear hfst hb2 hrow hown hb hseq hbox hb0
      have hrow3 := hrow2.set r (.bool true)
      rw [marks_set] at hrow3
      obtain ⟨b0, hb0⟩ : ∃ b, b = (marks ts.length pl).getD r false := ⟨_, rfl⟩
      rw [← hb0] at hcr
      clear hb0
      have hown3 := (ownsRow_setCell_below hown2 (a := ⟨w.heap.size + 1, r, none⟩) (by simp) (.bool true)).alloc (.cells #[.int .i64 r] 3)
      have hrow4 := hrow3.alloc (.cells #[.int .i64 r] 3)
      have hb4 := (hbb.setCell (p := ⟨w.heap.size + 1, r, none⟩) (by simp) (.bool true)).alloc (by simp; omega) (.cells #[.int .i64 r] 3)
      have hsz4 : w.heap.size + 2 ≤ ((w2.setCell ⟨w.heap.size + 1, r, none⟩ (.bool true)).alloc (.cells #[.int .i64 r] 3)).heap.size := by simp; omega
      clear hrow3 hrow2 hown2 hbb
      go_wp2_with (at_builtin; refine wpList_append_own _ rfl (.tmp 21) (.tmp 23) 38 rfl (w.heap.size + 2) 3 i0 (.int .i64 0) 1 8 Yamd.underlying38 hi hz0 hz1 hz2 rfl (by decide) _ _ _ rfl hown3 ⟨w2.heap.size, 0, none⟩ 1 1 [.int .i64 r] rfl rfl (new_cell _ _ _ _ (by simp)) (one_one _ rfl) (by unfold maxLen; omega) (by omega) hsz4 ?_; intro v5 w5 hown5 hgrow _)
      have hlt5 := hown3.lt
      go_roundw
      case rel =>
        refine ⟨pl ++ [r], by simp; omega, by simp, hseq2, ?_, hrow4.grown hgrow (fun e => ?_), hb4.grown hgrow (by simp; omega) (fun k e => ?_)⟩
        · simpa [natVals] using hown5
        · have := (hlt5 _ e.symm).1; omega
        · have := (hlt5 _ e).1; omega
      case measure => simp [intOf]; omega
    · go_wp2
      go_ret
      exact ⟨⟨_, pl, rfl, by omega, hseq, owns_mono hown (by omega)⟩, hb0⟩
end Go.Proofs.Ygdamg
