import Derived.Test.YgdamgSrc
import Derived.Deep.RegionLaw
import Derived.Laws.CopyOwn
namespace Go.Proofs.Ygdamg
set_option linter.unusedVariables false
set_option linter.unusedSimpArgs false
open Go.RowKit

/-- The ring: m cells cs from head on hold the list l. -/
def Ring (cs : List Int) (hd : Nat) (l : List Int) : Prop := ∀ i, i < l.length → cs.getD ((hd + i) % cs.length) 0 = l.getD i 0

/-- The queue in block b holds l; G: its array's block, if there is one. -/
def QAt (w : World) (b : Nat) (l : List Int) (G : Option Nat) : Prop :=
  (G = none ∧ l = [] ∧ Row w b 54 [.slice none 0 0, .int .i64 0, .int .i64 0]) ∨
  ∃ g cs hd, G = some g ∧ g ≠ b ∧ 0 < cs.length ∧ cs.length ≤ 48 ∧ hd < cs.length ∧ l.length ≤ cs.length ∧ Ring cs hd l ∧
    Row w b 54 [.slice (some ⟨g, 0, none⟩) cs.length cs.length, .int .i64 (hd : Nat), .int .i64 (l.length : Nat)] ∧ Row w g 3 (intVals cs)

theorem QAt.lenRow {w : World} {b : Nat} {l : List Int} {G : Option Nat} (h : QAt w b l G) : ∃ bv hd, Row w b 54 [bv, .int .i64 (hd : Nat), .int .i64 (l.length : Nat)] := by
  rcases h with ⟨_, rfl, h⟩ | ⟨g, cs, hd, _, _, _, _, _, _, _, h, _⟩
  · exact ⟨_, 0, h⟩
  · exact ⟨_, _, h⟩

theorem QAt.kept {w w' : World} {b : Nat} {l : List Int} {G : Option Nat} {F : List Nat} (h : QAt w b l G) (hk : Kept F w w') (hb : b ∉ F) (hG : ∀ g, G = some g → g ∉ F) : QAt w' b l G := by
  rcases h with ⟨h1, h2, h⟩ | ⟨g, cs, hd, h1, h2, h3, h4, h5, h6, h7, h8, h9⟩
  · exact .inl ⟨h1, h2, h.kept hk hb⟩
  · exact .inr ⟨g, cs, hd, h1, h2, h3, h4, h5, h6, h7, h8.kept hk hb, h9.kept hk (hG g h1)⟩

set_option maxHeartbeats 400000 in
theorem qlen_any (w : World) (b : Nat) (l : List Int) (G : Option Nat) (h : QAt w b l G) :
    Calls Yamd.prog 41 #[.pointer (some ⟨b, 0, none⟩)] w fun e w' => e = .returned (.int .i64 (l.length : Nat)) ∧ w' = w := by
  obtain ⟨bv, hd, hr⟩ := h.lenRow
  have h2 := hr.cell (k := 2) rfl
  clear h hr
  go_enter Yamd.func41, Yamd.ntmps41
  go_wp2
  go_ret
  exact ⟨rfl, rfl⟩

set_option maxHeartbeats 400000 in
theorem qempty_any (w : World) (b : Nat) (l : List Int) (G : Option Nat) (h : QAt w b l G) :
    Calls Yamd.prog 32 #[.pointer (some ⟨b, 0, none⟩)] w fun e w' => e = .returned (.bool ((l.length : Int) == 0)) ∧ w' = w := by
  go_enter Yamd.func32, Yamd.ntmps32
  go_wp2_with (go_at_call 41; refine (qlen_any _ b l G h).mono ?_; rintro e w' ⟨rfl, rfl⟩)
  go_ret
  exact ⟨rfl, rfl⟩

theorem Yamd.size3 : (Yamd.prog.info? 3).map (·.size) = some 1 := by kernel_rfl

theorem splice_two {α : Type} (Z X1 X2 : List α) (k : Nat) (hk : k = X1.length) : splice (splice Z 0 X1) k X2 = X1 ++ (X2 ++ Z.drop (X1.length + X2.length)) := by
  subst hk
  have e1 : splice Z 0 X1 = X1 ++ Z.drop X1.length := by simp [splice]
  rw [e1]
  unfold splice
  rw [List.take_left, List.drop_append, List.drop_drop]
  have : X1.length + X2.length - X1.length = X2.length := by omega
  rw [this, List.drop_of_length_le (by omega)]
  simp
theorem zeros_drop (z : Value) (n k : Nat) : (zeros z n).drop k = zeros z (n - k) := by simp [zeros]
theorem intVals_zeros (n : Nat) : intVals (List.replicate n 0) = zeros (.int .i64 0) n := by simp [intVals, zeros]

def growCells (cs : List Int) (hd : Nat) : List Int := cs.drop hd ++ cs.take hd ++ List.replicate cs.length 0

set_option maxHeartbeats 1000000 in
theorem grow_nil (w : World) (b n : Nat) (hr : Row w b 54 [.slice none 0 0, .int .i64 0, .int .i64 (n : Nat)]) :
    Calls Yamd.prog 40 #[.pointer (some ⟨b, 0, none⟩)] w fun e w' => e = .returned (.tuple #[]) ∧ Kept [b] w w' ∧
      Row w' b 54 [.slice (some ⟨w.heap.size, 0, none⟩) 1 1, .int .i64 0, .int .i64 (n : Nat)] ∧ Row w' w.heap.size 3 (intVals [0]) := by
  have c0 := hr.cell (k := 0) rfl
  have c1 := hr.cell (k := 1) rfl
  have hbl := hr.lt
  go_enter Yamd.func40, Yamd.ntmps40
  go_wp2_with (at_make; refine wpList_make_row _ rfl (.tmp 10) (.tmp 10) 38 rfl 3 (.int .i64 0) Yamd.underlying38 8 Yamd.info3 rfl .i64 .i64 _ _ 1 rfl rfl (by omega) (by omega) (by omega) (by unfold maxLen; omega) ?_; intro w1 hrow1 hkept1 hsz1; have hb1 : Below w.heap.size w w1 := hkept1.below (Nat.le_refl _) (by simp); have d0 := cell_later hb1 c0; have d1 := cell_later hb1 c1; clear hkept1)
  go_region_held3 (fun w' => w'.cell? ⟨b, 0, none⟩ = some (.slice none 0 0) ∧ w'.cell? ⟨b, 0 + 1, none⟩ = some (.int .i64 0)) (go_keep)
    ((refine step_copy_splice (by rfl) (.tmp 12) (.tmp 21) 38 38 (by rfl) 3 Yamd.underlying38 Yamd.size3 _ _ _ _ _ _ (by rfl) (by rfl) w.heap.size 0 (zeros (.int .i64 0) 1) 3 ?a1 [] ?a2 ?a3 ?a4 ?a5 w.heap.size w ?a6 (Nat.le_refl _) ?_; (case a1 => exact hrow1); (case a2 => rfl); (case a4 => simp); (case a5 => simp); (case a6 => exact hb1.drew); (case a3 => simp); intro w2 HG2 hb2; have e0 := cell_later hb2 c0; have e1 := cell_later hb2 c1))
  clear d0 d1 hb1 hsz1 hrow1
  have HG2' : Hid (w2.heap[w.heap.size]? = some (.cells (zeros (.int .i64 0) 1).toArray 3 (0, 0))) := by
    have := HG2.out
    show w2.heap[w.heap.size]? = _
    simpa [splice, zeros] using this
  clear HG2
  go_wp2
  go_region_held3 (fun w' => w'.cell? ⟨b, 0, none⟩ = some (.slice none 0 0) ∧ w'.cell? ⟨b, 0 + 1, none⟩ = some (.int .i64 0)) (go_keep)
    ((refine step_copy_splice (by rfl) (.tmp 25) (.tmp 34) 38 38 (by rfl) 3 Yamd.underlying38 Yamd.size3 _ _ _ _ _ _ (by rfl) (by rfl) w.heap.size 0 (zeros (.int .i64 0) 1) 3 ?a1 [] ?a2 ?a3 ?a4 ?a5 w.heap.size w ?a6 (Nat.le_refl _) ?_; (case a1 => exact HG2'.out); (case a2 => rfl); (case a4 => simp); (case a5 => simp); (case a6 => exact hb2.drew); (case a3 => simp); intro w3 HG3 hb3; have f0 := cell_later hb3 c0; have f1 := cell_later hb3 c1))
  have HG3' : Row w3 w.heap.size 3 (intVals [0]) := by have := HG3.out; simpa [splice, zeros, Row, intVals] using this
  have hr3 := hr.below hbl hb3
  have g0 := hr3.free 0
  have g1 := hr3.free 1
  have hr4 := (hr3.set 0 (.slice (some ⟨w.heap.size, 0, none⟩) 1 1)).set 1 (.int .i64 0)
  have hrow4 : Row ((w3.setCell ⟨b, 0, none⟩ (.slice (some ⟨w.heap.size, 0, none⟩) 1 1)).setCell ⟨b, 1, none⟩ (.int .i64 0)) w.heap.size 3 (intVals [0]) :=
    (HG3'.other (by show b ≠ w.heap.size; omega) _).other (by show b ≠ w.heap.size; omega) _
  have hk4 : Kept [b] w ((w3.setCell ⟨b, 0, none⟩ (.slice (some ⟨w.heap.size, 0, none⟩) 1 1)).setCell ⟨b, 1, none⟩ (.int .i64 0)) :=
    ((Kept.ofBelow hb3).setCell (by simp) _).setCell (by simp) _
  simp only [List.set] at hr4
  clear hr3 HG3 HG3' HG2' hb2 hb3
  go_wp2
  go_end0
  exact ⟨rfl, hk4, hr4, hrow4⟩

set_option maxHeartbeats 1000000 in
theorem grow_some (w : World) (b g hd n : Nat) (cs : List Int) (hgb : g ≠ b) (h0 : 0 < cs.length) (h1 : cs.length ≤ 24) (h2 : hd < cs.length)
    (hr : Row w b 54 [.slice (some ⟨g, 0, none⟩) cs.length cs.length, .int .i64 (hd : Nat), .int .i64 (n : Nat)]) (hg : Row w g 3 (intVals cs)) :
    Calls Yamd.prog 40 #[.pointer (some ⟨b, 0, none⟩)] w fun e w' => e = .returned (.tuple #[]) ∧ Kept [b] w w' ∧
      Row w' b 54 [.slice (some ⟨w.heap.size, 0, none⟩) (2 * cs.length) (2 * cs.length), .int .i64 0, .int .i64 (n : Nat)] ∧ Row w' w.heap.size 3 (intVals (growCells cs hd)) := by
  have c0 := hr.cell (k := 0) rfl
  have c1 := hr.cell (k := 1) rfl
  have hI0 : (0 : Int) ≤ (hd : Int) := by omega
  have hI1 : (hd : Int) ≤ (cs.length : Int) := by omega
  have hI2 : hd ≤ cs.length := by omega
  have hgl := hg.lt
  have hbl := hr.lt
  go_enter Yamd.func40, Yamd.ntmps40
  go_wp2_with (at_make; refine wpList_make_row _ rfl (.tmp 10) (.tmp 10) 38 rfl 3 (.int .i64 0) Yamd.underlying38 8 Yamd.info3 rfl .i64 .i64 _ _ (2 * cs.length) rfl rfl (by omega) (by omega) (by omega) (by unfold maxLen; omega) ?_; intro w1 hrow1 hkept1 hsz1; have hb1 : Below w.heap.size w w1 := hkept1.below (Nat.le_refl _) (by simp); have d0 := cell_later hb1 c0; have d1 := cell_later hb1 c1; clear hkept1)
  have X1 : ∃ X1, X1 = intVals (cs.drop hd) := ⟨_, rfl⟩
  obtain ⟨X1, hX1⟩ := X1
  have HX1 : Hid (X1 = intVals (cs.drop hd)) := hX1
  have hX1l : X1.length = cs.length - hd := by rw [hX1]; simp [intVals]
  have hX1o : ∀ v ∈ X1, v.oneCell' = true := by rw [hX1]; exact ints_oneCell _ _
  have hsrc1 : ∀ j v, X1[j]? = some v → w1.drew.cell? ((⟨g, hd, none⟩ : Addr).add j) = some v := by
    intro j v hj
    have hjl : j < cs.length - hd := by
      rcases Nat.lt_or_ge j X1.length with h | h
      · omega
      · rw [List.getElem?_eq_none h] at hj; cases hj
    have : w1.cell? ⟨g, hd + j, none⟩ = some v := by
      refine cell_later hb1 (hg.cell ?_)
      rw [hX1, intVals, List.getElem?_map, List.getElem?_drop] at hj
      rw [intVals, List.getElem?_map]; exact hj
    have hadd : (⟨g, hd, none⟩ : Addr).add j = ⟨g, hd + j, none⟩ := by unfold Addr.add; split <;> simp_all
    rw [hadd]; exact this
  have hn1 : X1.length = Nat.min (cs.length - hd) (2 * cs.length) := by rw [hX1l]; exact (Nat.min_eq_left (by omega)).symm
  have hf1 : 0 + X1.length ≤ (zeros (.int .i64 0) (2 * cs.length)).length := by rw [zeros_length, hX1l]; omega
  clear hX1
  go_region_held3 (fun w' => w'.cell? ⟨b, 0, none⟩ = some (.slice (some ⟨g, 0, none⟩) cs.length cs.length) ∧ w'.cell? ⟨b, 0 + 1, none⟩ = some (.int .i64 (hd : Nat))) (go_keep)
    ((refine step_copy_splice (by rfl) (.tmp 12) (.tmp 21) 38 38 (by rfl) 3 Yamd.underlying38 Yamd.size3 _ _ _ _ _ _ (by rfl) (by rfl) w.heap.size 0 (zeros (.int .i64 0) (2 * cs.length)) 3 ?a1 X1 ?a2 ?a3 ?a4 ?a5 w.heap.size w ?a6 (Nat.le_refl _) ?_; (case a1 => exact hrow1); (case a2 => exact hn1); (case a4 => exact hf1); (case a5 => exact hX1o); (case a6 => exact hb1.drew); (case a3 => exact (fun _ => ⟨rfl, _, if_neg (by omega), hsrc1⟩)); intro w2 HG2 hb2; have e0 := cell_later hb2 c0; have e1 := cell_later hb2 c1))
  clear d0 d1 hrow1 hsrc1 hn1 hf1 hX1o hb1 hsz1
  obtain ⟨Z1, hZ1⟩ : ∃ Z1, Z1 = splice (zeros (.int .i64 0) (2 * cs.length)) 0 X1 := ⟨_, rfl⟩
  rw [← hZ1] at HG2
  have hZ1l : Z1.length = 2 * cs.length := by rw [hZ1, length_splice _ _ _ (by rw [zeros_length, hX1l]; omega), zeros_length]
  have HZ1 : Hid (Z1 = splice (zeros (.int .i64 0) (2 * cs.length)) 0 X1) := hZ1
  clear hZ1
  obtain ⟨X2, hX2⟩ : ∃ X2, X2 = intVals (cs.take hd) := ⟨_, rfl⟩
  have HX2 : Hid (X2 = intVals (cs.take hd)) := hX2
  have hX2l : X2.length = hd := by rw [hX2]; simp [intVals]; omega
  have hX2o : ∀ v ∈ X2, v.oneCell' = true := by rw [hX2]; exact ints_oneCell _ _
  have hsrc2 : ∀ j v, X2[j]? = some v → w2.drew.cell? ((⟨g, 0, none⟩ : Addr).add j) = some v := by
    intro j v hj
    have hjl : j < hd := by
      rcases Nat.lt_or_ge j X2.length with h | h
      · omega
      · rw [List.getElem?_eq_none h] at hj; cases hj
    have : w2.cell? ⟨g, j, none⟩ = some v := by
      refine cell_later hb2 (hg.cell ?_)
      rw [hX2, intVals, List.getElem?_map, List.getElem?_take, if_pos hjl] at hj
      rw [intVals, List.getElem?_map]; exact hj
    have hadd : (⟨g, 0, none⟩ : Addr).add j = ⟨g, j, none⟩ := by unfold Addr.add; split <;> simp_all
    rw [hadd]; exact this
  have hn2 : X2.length = Nat.min hd (2 * cs.length - (cs.length - hd)) := by rw [hX2l]; exact (Nat.min_eq_left (by omega)).symm
  have hf2 : (cs.length - hd) + X2.length ≤ Z1.length := by rw [hZ1l, hX2l]; omega
  clear hX2
  have hJ0 : (0 : Int) ≤ ((cs.length - hd : Nat) : Int) := by omega
  have hJ1 : ((cs.length - hd : Nat) : Int) ≤ ((2 * cs.length : Nat) : Int) := by omega
  have hJ2 : cs.length - hd ≤ 2 * cs.length := by omega
  have hJ3 : ((cs.length - hd : Nat) : Int) ≤ 2 * (cs.length : Int) := by omega
  go_wp2
  go_region_held3 (fun w' => w'.cell? ⟨b, 0, none⟩ = some (.slice (some ⟨g, 0, none⟩) cs.length cs.length) ∧ w'.cell? ⟨b, 0 + 1, none⟩ = some (.int .i64 (hd : Nat))) (go_keep)
    ((refine step_copy_splice (by rfl) (.tmp 25) (.tmp 34) 38 38 (by rfl) 3 Yamd.underlying38 Yamd.size3 _ _ _ _ _ _ (by rfl) (by rfl) w.heap.size (cs.length - hd) Z1 3 ?a1 X2 ?a2 ?a3 ?a4 ?a5 w.heap.size w ?a6 (Nat.le_refl _) ?_; (case a1 => exact HG2.out); (case a2 => exact hn2); (case a4 => exact hf2); (case a5 => exact hX2o); (case a6 => exact hb2.drew); (case a3 => exact (fun hp => ⟨by first | rfl | exact if_neg (by omega), _, by first | rfl | exact if_neg (by omega), hsrc2⟩)); intro w3 HG3 hb3; have f0 := cell_later hb3 c0; have f1 := cell_later hb3 c1))
  have hr3 := hr.below hbl hb3
  have g0 := hr3.free 0
  have g1 := hr3.free 1
  have hr4 := (hr3.set 0 (.slice (some ⟨w.heap.size, 0, none⟩) (2 * cs.length) (2 * cs.length))).set 1 (.int .i64 0)
  have hrow4 : Row ((w3.setCell ⟨b, 0, none⟩ (.slice (some ⟨w.heap.size, 0, none⟩) (2 * cs.length) (2 * cs.length))).setCell ⟨b, 1, none⟩ (.int .i64 0)) w.heap.size 3 (splice Z1 (cs.length - hd) X2) :=
    (Row.other (show Row w3 w.heap.size 3 _ from HG3.out) (by show b ≠ w.heap.size; omega) _).other (by show b ≠ w.heap.size; omega) _
  have hk4 : Kept [b] w ((w3.setCell ⟨b, 0, none⟩ (.slice (some ⟨w.heap.size, 0, none⟩) (2 * cs.length) (2 * cs.length))).setCell ⟨b, 1, none⟩ (.int .i64 0)) :=
    ((Kept.ofBelow hb3).setCell (by simp) _).setCell (by simp) _
  have hfin : splice Z1 (cs.length - hd) X2 = intVals (growCells cs hd) := by
    unfold growCells
    rw [HZ1.out, HX1.out, HX2.out, splice_two _ _ _ _ (by simp [intVals]), zeros_drop, ← intVals_zeros]
    have e2 : 2 * cs.length - ((intVals (cs.drop hd)).length + (intVals (cs.take hd)).length) = cs.length := by simp [intVals]; omega
    rw [e2]
    simp [intVals]
  rw [hfin] at hrow4
  clear hfin
  simp only [List.set] at hr4
  clear hr3 HG3 HG2 hb2 hb3 hsrc2 hn2 hf2 hX2o
  go_wp2
  go_end0
  exact ⟨rfl, hk4, hr4, hrow4⟩

end Go.Proofs.Ygdamg
