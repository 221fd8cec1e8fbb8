import Derived.Test.YgdamgQueue
namespace Go.Proofs.Ygdamg
set_option linter.unusedVariables false
set_option linter.unusedSimpArgs false
open Go.RowKit

set_option maxHeartbeats 1000000 in
/-- Push where there is room. -/
theorem push_room (w : World) (b g hd n p : Nat) (cs : List Int) (v : Int) (hgb : g ≠ b) (h0 : 0 < cs.length) (h1 : cs.length ≤ 48) (h2 : hd < cs.length) (h3 : n < cs.length) (hp : p = (hd + n) % cs.length)
    (hr : Row w b 54 [.slice (some ⟨g, 0, none⟩) cs.length cs.length, .int .i64 (hd : Nat), .int .i64 (n : Nat)]) (hg : Row w g 3 (intVals cs)) :
    Calls Yamd.prog 31 #[.pointer (some ⟨b, 0, none⟩), .int .i64 v] w fun e w' => e = .returned (.tuple #[]) ∧ Kept [b, g] w w' ∧
      Row w' b 54 [.slice (some ⟨g, 0, none⟩) cs.length cs.length, .int .i64 (hd : Nat), .int .i64 ((n + 1 : Nat) : Int)] ∧ Row w' g 3 (intVals (cs.set p v)) := by
  have c0 := hr.cell (k := 0) rfl
  have c1 := hr.cell (k := 1) rfl
  have c2 := hr.cell (k := 2) rfl
  have hI : ((n : Int) == (cs.length : Int)) = false := by simp; omega
  have hm : p < cs.length := by rw [hp]; exact Nat.mod_lt _ h0
  have ht1 : ((hd : Int) + (n : Int)) % (cs.length : Int) = (p : Int) := by rw [hp]; simp
  have ht2 : ((hd : Int) + (n : Int)).tmod (cs.length : Int) = (p : Int) := by rw [Int.tmod_eq_emod_of_nonneg (by omega)]; exact ht1
  clear hp
  go_enter Yamd.func31, Yamd.ntmps31
  go_wp2
  go_quiet (fail)
  go_wp2
  obtain ⟨W, hW⟩ : ∃ W, W = w.drewN nq := ⟨_, rfl⟩
  have hkW : Kept [] w W := by rw [hW]; exact (Kept.refl _ _).drewN _
  have hrW : Row W b 54 [.slice (some ⟨g, 0, none⟩) cs.length cs.length, .int .i64 (hd : Nat), .int .i64 (n : Nat)] := by rw [hW]; exact hr
  have hgW : Row W g 3 (intVals cs) := by rw [hW]; exact hg
  rw [← hW]
  clear hW hr hg c0 c1 c2
  have c0 := hrW.cell (k := 0) rfl
  have c1 := hrW.cell (k := 1) rfl
  have c2 := hrW.cell (k := 2) rfl
  have hp0 := hgW.cell (intVals_get cs _ hm)
  have hpf := hgW.free p
  have f2 := hrW.free 2
  have hI0 : (0 : Int) ≤ (p : Int) := by omega
  have hI1 : (p : Int) < (cs.length : Int) := by omega
  have hz : ((cs.length : Int) == 0) = false := beq_eq_false_iff_ne.2 (by omega)
  have hcs : ¬ cs = [] := by intro e; rw [e] at h0; simp at h0
  have hz1 : (cs.length : Int) ≠ 0 := by omega
  have hz2 : ¬ (cs.length : Int) = 0 := hz1
  have hwr : IntKind.i64.wrap ((hd : Int) + (n : Int)) = (hd : Int) + (n : Int) := by rw [IntKind.wrap_i64]; omega
  go_region_held3 (fun w' => w'.cell? ⟨b, 0, none⟩ = some (.slice (some ⟨g, 0, none⟩) cs.length cs.length) ∧ w'.cell? ⟨b, 0 + 1, none⟩ = some (.int .i64 (hd : Nat)) ∧ w'.cell? ⟨b, 0 + 2, none⟩ = some (.int .i64 (n : Nat))) (go_keep) (fail)
  have hkV : Kept [b, g] w (W.setCell ⟨g, p, none⟩ (.int .i64 v)).drew := ((hkW.mono (by simp)).setCell (by simp) _).drew
  have hrV : Row (W.setCell ⟨g, p, none⟩ (.int .i64 v)).drew b 54 [.slice (some ⟨g, 0, none⟩) cs.length cs.length, .int .i64 (hd : Nat), .int .i64 (n : Nat)] := hrW.other hgb _
  have hgV : Row (W.setCell ⟨g, p, none⟩ (.int .i64 v)).drew g 3 (intVals (cs.set p v)) := by
    have := hgW.set p (.int .i64 v)
    rw [show (intVals cs).set p (.int .i64 v) = intVals (cs.set p v) from by simp [intVals, List.map_set]] at this
    exact this
  obtain ⟨V, hV⟩ : ∃ V, V = (W.setCell ⟨g, p, none⟩ (.int .i64 v)).drew := ⟨_, rfl⟩
  rw [← hV] at hkV hrV hgV ⊢
  clear hV c0 c1 c2 f2 hp0 hpf hkW hrW hgW ht1 ht2 hwr
  have c2 := hrV.cell (k := 2) rfl
  have f2 := hrV.free 2
  have hr5 := hrV.set 2 (.int .i64 ((n + 1 : Nat) : Int))
  have hg5 := hgV.other (a := ⟨b, 2, none⟩) (Ne.symm hgb) (.int .i64 ((n + 1 : Nat) : Int))
  have hk5 := hkV.setCell (p := ⟨b, 2, none⟩) (by simp) (.int .i64 ((n + 1 : Nat) : Int))
  have ec : ((n + 1 : Nat) : Int) = (n : Int) + 1 := by omega
  simp only [List.set] at hr5
  rw [ec] at hr5 hg5 hk5
  go_wp2
  go_end0
  exact ⟨rfl, hk5, by rw [ec]; exact hr5, hg5⟩

set_option maxHeartbeats 1000000 in
/-- Push where the ring is full: it grows first. -/
theorem push_full (w : World) (b hd n c : Nat) (ao : Option Addr) (cs : List Int) (v : Int) (h1 : cs.length ≤ 48) (h3 : n < cs.length)
    (hr : Row w b 54 [.slice ao n c, .int .i64 (hd : Nat), .int .i64 (n : Nat)])
    (hgrow : ∀ k, Calls Yamd.prog 40 #[.pointer (some ⟨b, 0, none⟩)] (w.drewN k) fun e w' => e = .returned (.tuple #[]) ∧ Kept [b] w w' ∧
      Row w' b 54 [.slice (some ⟨w.heap.size, 0, none⟩) cs.length cs.length, .int .i64 0, .int .i64 (n : Nat)] ∧ Row w' w.heap.size 3 (intVals cs)) :
    Calls Yamd.prog 31 #[.pointer (some ⟨b, 0, none⟩), .int .i64 v] w fun e w' => e = .returned (.tuple #[]) ∧ Kept [b] w w' ∧
      Row w' b 54 [.slice (some ⟨w.heap.size, 0, none⟩) cs.length cs.length, .int .i64 0, .int .i64 ((n + 1 : Nat) : Int)] ∧ Row w' w.heap.size 3 (intVals (cs.set n v)) := by
  have c0 := hr.cell (k := 0) rfl
  have c2 := hr.cell (k := 2) rfl
  have hbl := hr.lt
  have hgb : w.heap.size ≠ b := by omega
  have HG : Hid (_ ∧ _) := ⟨hgrow, hgrow⟩
  clear hr hgrow
  have h0 : 0 < cs.length := by omega
  have hz : ((cs.length : Int) == 0) = false := beq_eq_false_iff_ne.2 (by omega)
  have hcs : ¬ cs = [] := by intro e; rw [e] at h0; simp at h0
  have hz1 : (cs.length : Int) ≠ 0 := by omega
  have ht1 : (n : Int) % (cs.length : Int) = (n : Int) := Int.emod_eq_of_lt (by omega) (by omega)
  have ht2 : (n : Int).tmod (cs.length : Int) = (n : Int) := by rw [Int.tmod_eq_emod_of_nonneg (by omega)]; exact ht1
  have hI0 : (0 : Int) ≤ (n : Int) := by omega
  have hI1 : (n : Int) < (cs.length : Int) := by omega
  have hwr : IntKind.i64.wrap (0 + (n : Int)) = (n : Int) := by rw [IntKind.wrap_i64]; omega
  have hwr2 : IntKind.i64.wrap (n : Int) = (n : Int) := by rw [IntKind.wrap_i64]; omega
  go_enter Yamd.func31, Yamd.ntmps31
  go_wp2
  go_quiet (fail)
  go_wp2_with fail
  refine (HG.out.1 _).mono ?_
  rintro e W ⟨rfl, hkW, hrW, hgW⟩
  clear c0 c2
  have c0 := hrW.cell (k := 0) rfl
  have c1 := hrW.cell (k := 1) rfl
  have c2 := hrW.cell (k := 2) rfl
  have hp0 := hgW.cell (intVals_get cs _ h3)
  have hpf := hgW.free n
  have f2 := hrW.free 2
  go_wp2
  go_region_held3 (fun w' => w'.cell? ⟨b, 0, none⟩ = some (.slice (some ⟨w.heap.size, 0, none⟩) cs.length cs.length) ∧ w'.cell? ⟨b, 0 + 1, none⟩ = some (.int .i64 0) ∧ w'.cell? ⟨b, 0 + 2, none⟩ = some (.int .i64 (n : Nat))) (go_keep) (fail)
  have hkV : Kept [b] w (W.setCell ⟨w.heap.size, n, none⟩ (.int .i64 v)).drew := (hkW.setCell (by simp) _).drew
  have hrV : Row (W.setCell ⟨w.heap.size, n, none⟩ (.int .i64 v)).drew b 54 [.slice (some ⟨w.heap.size, 0, none⟩) cs.length cs.length, .int .i64 0, .int .i64 (n : Nat)] := hrW.other hgb _
  have hgV : Row (W.setCell ⟨w.heap.size, n, none⟩ (.int .i64 v)).drew w.heap.size 3 (intVals (cs.set n v)) := by
    have := hgW.set n (.int .i64 v)
    rw [show (intVals cs).set n (.int .i64 v) = intVals (cs.set n v) from by simp [intVals, List.map_set]] at this
    exact this
  obtain ⟨V, hV⟩ : ∃ V, V = (W.setCell ⟨w.heap.size, n, none⟩ (.int .i64 v)).drew := ⟨_, rfl⟩
  rw [← hV] at hkV hrV hgV ⊢
  clear hV c0 c1 c2 f2 hp0 hpf hkW hrW hgW ht1 ht2 hwr hwr2
  have c2 := hrV.cell (k := 2) rfl
  have f2 := hrV.free 2
  have hr5 := hrV.set 2 (.int .i64 ((n + 1 : Nat) : Int))
  have hg5 := hgV.other (a := ⟨b, 2, none⟩) (Ne.symm hgb) (.int .i64 ((n + 1 : Nat) : Int))
  have hk5 := hkV.setCell (p := ⟨b, 2, none⟩) (by simp) (.int .i64 ((n + 1 : Nat) : Int))
  have ec : ((n + 1 : Nat) : Int) = (n : Int) + 1 := by omega
  simp only [List.set] at hr5
  rw [ec] at hr5 hg5 hk5
  go_wp2
  go_end0
  exact ⟨rfl, hk5, by rw [ec]; exact hr5, hg5⟩

theorem modc (a m : Nat) (h : a < 2 * m) : (a < m ∧ a % m = a) ∨ (m ≤ a ∧ a % m = a - m) := by
  rcases Nat.lt_or_ge a m with h1 | h1
  · exact .inl ⟨h1, Nat.mod_eq_of_lt h1⟩
  · exact .inr ⟨h1, by rw [Nat.mod_eq_sub_mod h1, Nat.mod_eq_of_lt (by omega)]⟩

theorem getD_snoc_lt (l : List Int) (v : Int) (i : Nat) (h : i < l.length) : (l ++ [v]).getD i 0 = l.getD i 0 := by
  simp [List.getD_eq_getElem?_getD, List.getElem?_append_left h]
theorem getD_snoc_eq (l : List Int) (v : Int) : (l ++ [v]).getD l.length 0 = v := by simp [List.getD_eq_getElem?_getD]
theorem getD_set_eq (l : List Int) (v : Int) (k : Nat) (h : k < l.length) : (l.set k v).getD k 0 = v := by simp [List.getD_eq_getElem?_getD, h]
theorem getD_set_ne (l : List Int) (v : Int) (k j : Nat) (h : k ≠ j) : (l.set k v).getD j 0 = l.getD j 0 := by simp [List.getD_eq_getElem?_getD, List.getElem?_set_ne h]

theorem ring_push {cs : List Int} {hd : Nat} {l : List Int} {v : Int} (h : Ring cs hd l) (h2 : hd < cs.length) (h3 : l.length < cs.length) : Ring (cs.set ((hd + l.length) % cs.length) v) hd (l ++ [v]) := by
  intro i hi
  simp only [List.length_append, List.length_cons, List.length_nil] at hi
  rw [List.length_set]
  have m1 := modc (hd + l.length) cs.length (by omega)
  have m2 := modc (hd + i) cs.length (by omega)
  by_cases e : i = l.length
  · subst e
    rw [getD_set_eq _ _ _ (Nat.mod_lt _ (by omega)), getD_snoc_eq]
  · rw [getD_set_ne _ _ _ _ (by omega), getD_snoc_lt _ _ _ (by omega)]
    exact h i (by omega)

theorem grow_get (cs : List Int) (hd i : Nat) (h : hd < cs.length) (hi : i < cs.length) : (growCells cs hd).getD i 0 = cs.getD ((hd + i) % cs.length) 0 := by
  have m := modc (hd + i) cs.length (by omega)
  unfold growCells
  simp only [List.getD_eq_getElem?_getD, List.append_assoc]
  rcases m with ⟨m1, m2⟩ | ⟨m1, m2⟩
  · rw [List.getElem?_append_left (by simp; omega), List.getElem?_drop, m2]
  · rw [List.getElem?_append_right (by simp; omega), List.getElem?_append_left (by simp; omega), List.getElem?_take, if_pos (by simp; omega), m2]
    congr 2
    simp; omega

theorem ring_grow {cs : List Int} {hd : Nat} {l : List Int} {v : Int} (h : Ring cs hd l) (h2 : hd < cs.length) (h3 : l.length = cs.length) : Ring ((growCells cs hd).set l.length v) 0 (l ++ [v]) := by
  have e1 : (growCells cs hd).length = 2 * cs.length := by simp [growCells]; omega
  intro i hi
  simp only [List.length_append, List.length_cons, List.length_nil] at hi
  rw [List.length_set, e1, Nat.zero_add, Nat.mod_eq_of_lt (by omega)]
  by_cases e : i = l.length
  · subst e
    rw [getD_set_eq _ _ _ (by omega), getD_snoc_eq]
  · rw [getD_set_ne _ _ _ _ (by omega), getD_snoc_lt _ _ _ (by omega), grow_get cs hd i h2 (by omega)]
    exact h i (by omega)

theorem ring_pop {cs : List Int} {hd : Nat} {x : Int} {l : List Int} (h : Ring cs hd (x :: l)) (h2 : hd < cs.length) (h3 : l.length < cs.length) : cs.getD hd 0 = x ∧ Ring (cs.set hd 0) ((hd + 1) % cs.length) l := by
  refine ⟨?_, fun i hi => ?_⟩
  · have := h 0 (by simp)
    rw [Nat.add_zero, Nat.mod_eq_of_lt h2] at this
    simpa using this
  · have := h (i + 1) (by simp; omega)
    rw [List.length_set]
    have m1 := modc (hd + 1) cs.length (by omega)
    have m2 := modc (hd + (i + 1)) cs.length (by omega)
    have m3 := modc ((hd + 1) % cs.length + i) cs.length (by omega)
    rw [getD_set_ne _ _ _ _ (by omega)]
    have e : ((hd + 1) % cs.length + i) % cs.length = (hd + (i + 1)) % cs.length := by omega
    rw [e, this]
    simp

/-- Push: whatever the ring. -/
theorem push_any (w : World) (b : Nat) (l : List Int) (G : Option Nat) (v : Int) (h : QAt w b l G) (hl : l.length < 24) :
    Calls Yamd.prog 31 #[.pointer (some ⟨b, 0, none⟩), .int .i64 v] w fun e w' => e = .returned (.tuple #[]) ∧ Kept (b :: G.toList) w w' ∧
      ∃ G', QAt w' b (l ++ [v]) G' ∧ (G' = G ∨ G' = some w.heap.size) := by
  have hwd : ∀ k, Kept [] w (w.drewN k) := fun k => (Kept.refl _ _).drewN k
  rcases h with ⟨rfl, rfl, hr⟩ | ⟨g, cs, hd, rfl, hgb, h0, h1, h2, h3, hring, hr, hg⟩
  · refine (push_full w b 0 0 0 none [0] v (by simp) (by simp) hr (fun k => ?_)).mono ?_
    · refine (grow_nil (w.drewN k) b 0 hr).mono ?_
      rintro e w' ⟨rfl, hk, q1, q2⟩
      exact ⟨rfl, ⟨hk.os, hk.tape, hk.output, hk.size, hk.block⟩, q1, q2⟩
    · rintro e w' ⟨rfl, hk, q1, q2⟩
      refine ⟨rfl, hk.mono (by simp), some w.heap.size, .inr ⟨w.heap.size, [v], 0, rfl, ?_, by simp, by simp, by simp, by simp, ?_, q1, q2⟩, .inr rfl⟩
      · have := hr.lt; omega
      · intro i hi; simp at hi; subst hi; simp
  · by_cases hfull : l.length = cs.length
    · refine (push_full w b hd l.length cs.length (some ⟨g, 0, none⟩) (growCells cs hd) v ?_ ?_ ?_ (fun k => ?_)).mono ?_
      · simp [growCells]; omega
      · simp [growCells]; omega
      · rw [hfull] at hr ⊢; exact hr
      · refine (grow_some (w.drewN k) b g hd l.length cs hgb h0 (by omega) h2 hr hg).mono ?_
        rintro e w' ⟨rfl, hk, q1, q2⟩
        have e1 : (growCells cs hd).length = 2 * cs.length := by simp [growCells]; omega
        exact ⟨rfl, ⟨hk.os, hk.tape, hk.output, hk.size, hk.block⟩, by rw [e1]; exact q1, q2⟩
      · rintro e w' ⟨rfl, hk, q1, q2⟩
        have e1 : (growCells cs hd).length = 2 * cs.length := by simp [growCells]; omega
        refine ⟨rfl, hk.mono (by simp), some w.heap.size, .inr ⟨w.heap.size, (growCells cs hd).set l.length v, 0, rfl, ?_, by simp; omega, by simp; omega, by simp; omega, by simp; omega, ?_, ?_, q2⟩, .inr rfl⟩
        · have := hr.lt; omega
        · exact ring_grow hring h2 hfull
        · simpa using q1
    · refine (push_room w b g hd l.length _ cs v hgb h0 h1 h2 (by omega) rfl hr hg).mono ?_
      rintro e w' ⟨rfl, hk, q1, q2⟩
      refine ⟨rfl, hk, some g, .inr ⟨g, cs.set ((hd + l.length) % cs.length) v, hd, rfl, hgb, by simpa using h0, by simpa using h1, by simpa using h2, by simp; omega, ?_, by simpa using q1, q2⟩, .inl rfl⟩
      exact ring_push hring h2 (by omega)
end Go.Proofs.Ygdamg
