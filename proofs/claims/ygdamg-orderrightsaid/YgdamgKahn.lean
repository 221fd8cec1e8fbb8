import Derived.Test.YgdamgDepInv
namespace Go.Proofs.Ygdamg
set_option linter.unusedVariables false
set_option linter.unusedSimpArgs false

/-- One reader's count goes down; at zero it joins the queue. -/
def kstep (s : List Int × List Nat) (j : Nat) : List Int × List Nat :=
  (s.1.set j (s.1.getD j 0 - 1), if s.1.getD j 0 - 1 = 0 then s.2 ++ [j] else s.2)
def kdrain (s : List Int × List Nat) (r : List Nat) : List Int × List Nat := r.foldl kstep s
/-- Kahn's loop: how many are taken. -/
def kRun (rd : Nat → List Nat) : Nat → List Int × List Nat → Nat → Nat
  | 0, _, t => t
  | f + 1, s, t => match s.2 with
    | [] => t
    | x :: q => kRun rd f (kdrain (s.1, q) (rd x)) (t + 1)
theorem kRun_nil (rd : Nat → List Nat) (f : Nat) (left : List Int) (t : Nat) : kRun rd f (left, []) t = t := by cases f <;> rfl
theorem kRun_cons (rd : Nat → List Nat) (f : Nat) (left : List Int) (x : Nat) (q : List Nat) (t : Nat) : kRun rd (f + 1) (left, x :: q) t = kRun rd f (kdrain (left, q) (rd x)) (t + 1) := rfl

def pos (l : List Int) : Nat := l.countP fun v => decide (0 < v)
def phi (s : List Int × List Nat) : Nat := pos s.1 + s.2.length

theorem pos_set : ∀ (l : List Int) (j : Nat) (v : Int), j < l.length → pos (l.set j v) + (if 0 < l.getD j 0 then 1 else 0) = pos l + if 0 < v then 1 else 0
  | [], j, v, h => by simp at h
  | a :: l, 0, v, h => by
    simp only [List.set_cons_zero, pos, List.countP_cons, List.getD_cons_zero, decide_eq_true_eq]
    omega
  | a :: l, j + 1, v, h => by
    have := pos_set l j v (by simpa using h)
    simp only [List.set_cons_succ, pos, List.countP_cons, List.getD_cons_succ, decide_eq_true_eq] at *
    omega
theorem pos_ge_one (l : List Int) (j : Nat) (hj : j < l.length) (h : 0 < l.getD j 0) : 0 < pos l := by
  unfold pos
  rw [List.countP_pos_iff]
  exact ⟨_, getD_mem l 0 j hj, by simpa using h⟩

theorem getD_out {α : Type} (l : List α) (d : α) (k : Nat) (h : l.length ≤ k) : l.getD k d = d := by
  simp [List.getD_eq_getElem?_getD, List.getElem?_eq_none h]

theorem phi_kstep (s : List Int × List Nat) (j : Nat) : phi (kstep s j) ≤ phi s := by
  unfold phi kstep
  simp only
  by_cases hj : j < s.1.length
  · have := pos_set s.1 j (s.1.getD j 0 - 1) hj
    by_cases h0 : s.1.getD j 0 - 1 = 0
    · rw [if_pos h0, List.length_append]
      simp only [List.length_cons, List.length_nil]
      rw [if_pos (by omega), if_neg (by omega)] at this
      omega
    · rw [if_neg h0]
      by_cases h1 : 0 < s.1.getD j 0
      · rw [if_pos h1, if_pos (by omega)] at this; omega
      · rw [if_neg h1, if_neg (by omega)] at this; omega
  · rw [getD_out s.1 0 j (by omega), if_neg (by omega)]
    rw [List.set_eq_of_length_le (by omega)]
    exact Nat.le_refl _

theorem kstep_length (s : List Int × List Nat) (j : Nat) : (kstep s j).1.length = s.1.length := by simp [kstep]
theorem kdrain_length (s : List Int × List Nat) (r : List Nat) : (kdrain s r).1.length = s.1.length := by
  induction r generalizing s with
  | nil => rfl
  | cons j r ih => rw [show kdrain s (j :: r) = kdrain (kstep s j) r from rfl, ih, kstep_length]
theorem phi_kdrain (s : List Int × List Nat) (r : List Nat) : phi (kdrain s r) ≤ phi s := by
  induction r generalizing s with
  | nil => exact Nat.le_refl _
  | cons j r ih => rw [show kdrain s (j :: r) = kdrain (kstep s j) r from rfl]; exact Nat.le_trans (ih _) (phi_kstep _ _)
theorem kdrain_snoc (s : List Int × List Nat) (r : List Nat) (j : Nat) : kdrain s (r ++ [j]) = kstep (kdrain s r) j := by simp [kdrain]
theorem kdrain_take (s : List Int × List Nat) (r : List Nat) (k : Nat) (h : k < r.length) : kdrain s (r.take (k + 1)) = kstep (kdrain s (r.take k)) (r.getD k 0) := by
  rw [List.take_succ_eq_append_getElem h, kdrain_snoc, getD_at r 0 k h]
theorem kstep_q_lt {n : Nat} (s : List Int × List Nat) (j : Nat) (hj : j < n) (h : ∀ x ∈ s.2, x < n) : ∀ x ∈ (kstep s j).2, x < n := by
  intro x hx
  unfold kstep at hx
  simp only at hx
  split at hx
  · rw [List.mem_append] at hx
    rcases hx with hx | hx
    · exact h x hx
    · simp at hx; omega
  · exact h x hx
theorem kdrain_q_lt {n : Nat} (s : List Int × List Nat) (r : List Nat) (hr : ∀ j ∈ r, j < n) (h : ∀ x ∈ s.2, x < n) : ∀ x ∈ (kdrain s r).2, x < n := by
  induction r generalizing s with
  | nil => exact h
  | cons j r ih => exact ih (kstep s j) (fun i hi => hr i (by simp [hi])) (kstep_q_lt s j (hr j (by simp)) h)

/-- The counts stay within bounds. -/
def Bnd (l : List Int) (b : Nat) : Prop := ∀ j, j < l.length → -(b : Int) ≤ l.getD j 0 ∧ l.getD j 0 ≤ 4
theorem Bnd.mono {l : List Int} {b b' : Nat} (h : Bnd l b) (hb : b ≤ b') : Bnd l b' := fun j hj => ⟨by have := (h j hj).1; omega, (h j hj).2⟩
theorem bnd_kstep {s : List Int × List Nat} {b : Nat} (h : Bnd s.1 b) (j : Nat) : Bnd (kstep s j).1 (b + 1) := by
  intro i hi
  rw [kstep_length] at hi
  have hi' := h i hi
  unfold kstep
  simp only
  by_cases e : j = i
  · subst e
    have : (s.1.set j (s.1.getD j 0 - 1)).getD j 0 = s.1.getD j 0 - 1 := by simp [List.getD_eq_getElem?_getD, hi]
    rw [this]
    omega
  · have : (s.1.set j (s.1.getD j 0 - 1)).getD i 0 = s.1.getD i 0 := by simp [List.getD_eq_getElem?_getD, List.getElem?_set_ne e]
    rw [this]
    omega
theorem bnd_kdrain {s : List Int × List Nat} {b : Nat} (h : Bnd s.1 b) (r : List Nat) : Bnd (kdrain s r).1 (b + r.length) := by
  induction r generalizing s b with
  | nil => exact h
  | cons j r ih =>
    have := ih (bnd_kstep h j)
    rw [show kdrain s (j :: r) = kdrain (kstep s j) r from rfl]
    exact this.mono (by simp; omega)

/-- The counts of distinct prerequisites, as far as they have been laid. -/
def dcount (ts : List Tk) (i : Nat) : Nat := (uniq (ts.getD i nilTk).deps).length
def leftTo (ts : List Tk) (k : Nat) : List Int := (List.range ts.length).map fun i => if i < k then (dcount ts i : Int) else 0
def qTo (ts : List Tk) (k : Nat) : List Nat := (List.range k).filter fun i => dcount ts i == 0
theorem leftTo_length (ts : List Tk) (k : Nat) : (leftTo ts k).length = ts.length := by simp [leftTo]
theorem leftTo_get (ts : List Tk) (k i : Nat) (h : i < ts.length) : (leftTo ts k).getD i 0 = if i < k then (dcount ts i : Int) else 0 := by
  simp [leftTo, List.getD_eq_getElem?_getD, h]
theorem leftTo_set (ts : List Tk) (k : Nat) (h : k < ts.length) : (leftTo ts k).set k (dcount ts k : Int) = leftTo ts (k + 1) := by
  apply List.ext_getElem?; intro i
  by_cases hi : i < ts.length
  · by_cases e : k = i
    · subst e
      rw [List.getElem?_set_self (by rw [leftTo_length]; exact hi)]
      simp [leftTo, hi]
    · rw [List.getElem?_set_ne e]
      have : i < k + 1 ↔ i < k := by omega
      simp [leftTo, hi, this]
  · rw [List.getElem?_eq_none (by simp [leftTo_length]; omega), List.getElem?_eq_none (by simp [leftTo_length]; omega)]
theorem qTo_succ (ts : List Tk) (k : Nat) : qTo ts (k + 1) = if dcount ts k = 0 then qTo ts k ++ [k] else qTo ts k := by
  unfold qTo
  rw [List.range_succ, List.filter_append]
  by_cases h : dcount ts k = 0 <;> simp [h, List.filter_cons]
theorem qTo_length (ts : List Tk) (k : Nat) : (qTo ts k).length ≤ k := by
  have := List.length_filter_le (fun i => dcount ts i == 0) (List.range k)
  simpa [qTo] using this
theorem qTo_lt (ts : List Tk) (k : Nat) : ∀ x ∈ qTo ts k, x < k := by
  intro x hx
  simp [qTo] at hx
  exact hx.1
theorem pos_add_q (ts : List Tk) : ∀ k, ((List.range k).map fun i => (dcount ts i : Int)).countP (fun v => decide (0 < v)) + (qTo ts k).length = k
  | 0 => rfl
  | k + 1 => by
    have := pos_add_q ts k
    rw [List.range_succ, List.map_append, List.countP_append, qTo_succ]
    by_cases h : dcount ts k = 0
    · rw [if_pos h]
      have e : List.countP (fun v => decide (0 < v)) (List.map (fun i => (dcount ts i : Int)) [k]) = 0 := by simp [h]
      rw [e, List.length_append]
      simp only [List.length_cons, List.length_nil]
      omega
    · rw [if_neg h]
      have e : List.countP (fun v => decide (0 < v)) (List.map (fun i => (dcount ts i : Int)) [k]) = 1 := by
        have : (0 : Int) < (dcount ts k : Int) := by omega
        simp only [List.map_cons, List.map_nil, List.countP_cons, List.countP_nil, this, decide_true, if_true]
      rw [e]
      omega
theorem phi_start (ts : List Tk) : phi (leftTo ts ts.length, qTo ts ts.length) = ts.length := by
  unfold phi pos
  simp only
  have e : leftTo ts ts.length = (List.range ts.length).map fun i => (dcount ts i : Int) := by
    unfold leftTo
    apply List.map_congr_left
    intro i hi
    simp at hi
    simp [hi]
  rw [e]
  exact pos_add_q ts ts.length

def rdAll (ts : List Tk) : Nat → List Nat := rdrs (edgesTo ts ts.length)
def kAll (ts : List Tk) : Nat := kRun (rdAll ts) ts.length (leftTo ts ts.length, qTo ts ts.length) 0
def cycB (ts : List Tk) : Bool := decide (kAll ts < ts.length)

theorem rdAll_lt (ts : List Tk) (d : Nat) : ∀ i ∈ rdAll ts d, i < ts.length := by
  intro i hi
  simp only [rdAll, rdrs, List.mem_map, List.mem_filter] at hi
  obtain ⟨p, ⟨hp, _⟩, rfl⟩ := hi
  simp only [edgesTo, List.mem_flatMap, List.mem_range] at hp
  obtain ⟨k, hk, hp⟩ := hp
  simp only [edgesOf, List.mem_map] at hp
  obtain ⟨d', _, rfl⟩ := hp
  exact hk
theorem rdAll_length (ts : List Tk) (hdl : ∀ k, k < ts.length → (ts.getD k nilTk).deps.length ≤ 4) (d : Nat) : (rdAll ts d).length ≤ 4 * ts.length := by
  unfold rdAll
  rw [rdrs_length]
  exact Nat.le_trans (cnt_le _ _) (edgesTo_length ts hdl _ (Nat.le_refl _))

end Go.Proofs.Ygdamg
