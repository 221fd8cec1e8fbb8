import Derived.Test.YgdamgKahn
import Derived.Test.YgdamgOrder
import Derived.Test.YgdamgMay
namespace Go.Proofs.Ygdamg
set_option linter.unusedVariables false
set_option linter.unusedSimpArgs false

/-! ### Lists -/
theorem nodup_sub_length : ∀ (l l' : List Nat), l.Nodup → (∀ x ∈ l, x ∈ l') → l.length ≤ l'.length
  | [], l', _, _ => Nat.zero_le _
  | a :: l, l', hn, hs => by
    rw [List.nodup_cons] at hn
    have ha := hs a (by simp)
    have h2 := nodup_sub_length l (l'.erase a) hn.2 (fun x hx => by
      have hne : x ≠ a := fun e => hn.1 (by rw [← e]; exact hx)
      exact (List.mem_erase_of_ne hne).2 (hs x (by simp [hx])))
    rw [List.length_erase_of_mem ha] at h2
    have := List.length_pos_of_mem ha
    simp only [List.length_cons]
    omega
theorem nodup_all {n : Nat} {l : List Nat} (hn : l.Nodup) (hl : ∀ x ∈ l, x < n) (hlen : n ≤ l.length) (j : Nat) (hj : j < n) : j ∈ l := by
  apply Classical.byContradiction
  intro hm
  have := nodup_sub_length (j :: l) (List.range n) (List.nodup_cons.2 ⟨hm, hn⟩) (fun x hx => by
    simp only [List.mem_cons] at hx
    rw [List.mem_range]
    rcases hx with rfl | hx
    · exact hj
    · exact hl x hx)
  simp at this
  omega
theorem some_out {n : Nat} (l : List Nat) (h : l.length < n) : ∃ j, j < n ∧ j ∉ l := by
  apply Classical.byContradiction
  intro hm
  have := nodup_sub_length (List.range n) l List.nodup_range (fun x hx => by
    apply Classical.byContradiction
    intro hx'
    exact hm ⟨x, by simpa using hx, hx'⟩)
  simp at this
  omega

theorem put1_nodup {acc : List Int} (h : acc.Nodup) (d : Int) : (put1 acc d).Nodup := by
  unfold put1
  split
  · exact h
  · rename_i hd
    rw [List.nodup_append]
    refine ⟨h, by simp, fun a ha b hb e => ?_⟩
    simp at hb
    subst hb
    subst e
    exact hd ha
theorem foldl_put1_nodup : ∀ (l acc : List Int), acc.Nodup → (l.foldl put1 acc).Nodup
  | [], acc, h => h
  | d :: l, acc, h => foldl_put1_nodup l _ (put1_nodup h d)
theorem uniq_nodup (l : List Int) : (uniq l).Nodup := foldl_put1_nodup l [] (by simp)
theorem nodup_filter {α : Type} {l : List α} (h : l.Nodup) (p : α → Bool) : (l.filter p).Nodup := List.Nodup.sublist List.filter_sublist h

theorem toNat_eq {d : Int} {x : Nat} (h : 0 ≤ d) : d.toNat = x ↔ d = (x : Int) := by omega

theorem filter_one (x : Nat) : ∀ (u : List Int), u.Nodup → (∀ d ∈ u, 0 ≤ d) → u.filter (fun d => d.toNat == x) = if (x : Int) ∈ u then [(x : Int)] else []
  | [], _, _ => rfl
  | d :: u, hn, hp => by
    rw [List.nodup_cons] at hn
    have ih := filter_one x u hn.2 (fun e he => hp e (by simp [he]))
    have hd := hp d (by simp)
    rw [List.filter_cons]
    by_cases h : d = (x : Int)
    · have h1 : (d.toNat == x) = true := by simp; omega
      rw [h1, if_pos rfl, ih, if_neg (by rw [← h]; exact hn.1), if_pos (by simp [h]), h]
    · have h1 : (d.toNat == x) = false := by simp; omega
      rw [h1, ih]
      have : ((x : Int) ∈ d :: u) ↔ (x : Int) ∈ u := by simp; intro e; exact absurd e.symm h
      simp [this]
theorem filter_ne_length (x : Nat) : ∀ (u : List Int), u.Nodup → (∀ d ∈ u, 0 ≤ d) → (u.filter (fun d => decide (d.toNat ≠ x))).length + (if (x : Int) ∈ u then 1 else 0) = u.length
  | [], _, _ => rfl
  | d :: u, hn, hp => by
    rw [List.nodup_cons] at hn
    have ih := filter_ne_length x u hn.2 (fun e he => hp e (by simp [he]))
    have hd := hp d (by simp)
    rw [List.filter_cons]
    by_cases h : d = (x : Int)
    · have h1 : decide (d.toNat ≠ x) = false := by simp; omega
      rw [h1]
      rw [if_neg (by rw [← h]; exact hn.1)] at ih
      rw [if_pos (show (x : Int) ∈ d :: u by simp [h])]
      simp only [Bool.false_eq_true, if_false, List.length_cons]
      omega
    · have h1 : decide (d.toNat ≠ x) = true := by simp; omega
      rw [h1]
      have : ((x : Int) ∈ d :: u) ↔ (x : Int) ∈ u := by simp; intro e; exact absurd e.symm h
      simp only [this, if_true, List.length_cons]
      omega

/-! ### The readers -/
def InRange (ts : List Tk) : Prop := ∀ k, k < ts.length → ∀ d ∈ (ts.getD k nilTk).deps, 0 ≤ d ∧ d < ts.length

theorem rdOf (i x : Nat) (l : List Int) (hl : ∀ d ∈ l, 0 ≤ d) : ((edgesOf i l).filter fun p => p.1 == x).map (·.2) = if (x : Int) ∈ l then [i] else [] := by
  unfold edgesOf
  rw [List.filter_map, List.map_map]
  have := filter_one x (uniq l) (uniq_nodup l) (fun d hd => hl d (uniq_mem.1 hd))
  have e : (uniq l).filter ((fun p : Nat × Nat => p.1 == x) ∘ fun d => (d.toNat, i)) = (uniq l).filter (fun d => d.toNat == x) := rfl
  rw [e, this]
  have hm : ((x : Int) ∈ uniq l) ↔ (x : Int) ∈ l := uniq_mem
  simp only [hm]
  split <;> simp

theorem rdAll_eq (ts : List Tk) (hr : InRange ts) (x : Nat) : rdAll ts x = (List.range ts.length).filter fun i => decide ((x : Int) ∈ (ts.getD i nilTk).deps) := by
  unfold rdAll rdrs edgesTo
  rw [List.filter_flatMap, List.map_flatMap]
  have h : ∀ (l : List Nat), (∀ i ∈ l, i < ts.length) → (l.flatMap fun a => List.map (fun p : Nat × Nat => p.2) (List.filter (fun p => p.1 == x) (edgesOf a (ts.getD a nilTk).deps))) = l.filter fun i => decide ((x : Int) ∈ (ts.getD i nilTk).deps) := by
    intro l hl
    induction l with
    | nil => rfl
    | cons a l ih =>
      rw [List.flatMap_cons, ih (fun i hi => hl i (by simp [hi])), rdOf a x _ (fun d hd => (hr a (hl a (by simp)) d hd).1), List.filter_cons]
      by_cases h : (x : Int) ∈ (ts.getD a nilTk).deps
      · rw [if_pos h, if_pos (decide_eq_true h)]; rfl
      · rw [if_neg h, if_neg (by rw [decide_eq_true_eq]; exact h)]; rfl
  exact h _ (fun i hi => by simpa using hi)
theorem rdAll_mem (ts : List Tk) (hr : InRange ts) (x j : Nat) : j ∈ rdAll ts x ↔ j < ts.length ∧ (x : Int) ∈ (ts.getD j nilTk).deps := by
  rw [rdAll_eq ts hr]; simp
theorem rdAll_nodup (ts : List Tk) (hr : InRange ts) (x : Nat) : (rdAll ts x).Nodup := by
  rw [rdAll_eq ts hr]; exact nodup_filter List.nodup_range _

theorem kdrain_spec : ∀ (r : List Nat), r.Nodup → ∀ (left : List Int) (q : List Nat), (∀ j ∈ r, j < left.length) →
    (∀ j, (kdrain (left, q) r).1.getD j 0 = left.getD j 0 - if j ∈ r then 1 else 0) ∧ (kdrain (left, q) r).2 = q ++ r.filter fun j => decide (left.getD j 0 = 1)
  | [], _, left, q, _ => by simp [kdrain]
  | a :: r, hn, left, q, hl => by
    rw [List.nodup_cons] at hn
    have ha := hl a (by simp)
    have ih := kdrain_spec r hn.2 (kstep (left, q) a).1 (kstep (left, q) a).2 (fun j hj => by rw [kstep_length]; exact hl j (by simp [hj]))
    have e0 : kdrain (left, q) (a :: r) = kdrain ((kstep (left, q) a).1, (kstep (left, q) a).2) r := rfl
    have g1 : (kstep (left, q) a).1.getD a 0 = left.getD a 0 - 1 := by simp [kstep, List.getD_eq_getElem?_getD, ha]
    have g2 : ∀ j, j ≠ a → (kstep (left, q) a).1.getD j 0 = left.getD j 0 := fun j hj => by simp [kstep, List.getD_eq_getElem?_getD, List.getElem?_set_ne (Ne.symm hj)]
    rw [e0]
    refine ⟨fun j => ?_, ?_⟩
    · rw [ih.1 j]
      by_cases e : j = a
      · subst e
        rw [g1, if_neg hn.1, if_pos (by simp)]
        omega
      · rw [g2 j e]
        have : (j ∈ a :: r) ↔ j ∈ r := by simp [e]
        simp only [this]
    · rw [ih.2]
      have e1 : r.filter (fun j => decide ((kstep (left, q) a).1.getD j 0 = 1)) = r.filter (fun j => decide (left.getD j 0 = 1)) := by
        apply List.filter_congr
        intro j hj
        rw [g2 j (fun e => hn.1 (by rw [← e]; exact hj))]
      rw [e1, List.filter_cons]
      have e2 : (kstep (left, q) a).2 = if left.getD a 0 - 1 = 0 then q ++ [a] else q := rfl
      rw [e2]
      by_cases h : left.getD a 0 = 1
      · rw [if_pos (by omega), if_pos (decide_eq_true h), List.append_assoc]; rfl
      · rw [if_neg (by omega), if_neg (by rw [decide_eq_true_eq]; exact h)]

/-! ### Kahn -/
def miss (ts : List Tk) (done : List Nat) (j : Nat) : Nat := ((uniq (ts.getD j nilTk).deps).filter fun d => decide (d.toNat ∉ done)).length

structure KInv (ts : List Tk) (done : List Nat) (left : List Int) (q : List Nat) : Prop where
  len : left.length = ts.length
  cnt : ∀ j, j < ts.length → left.getD j 0 = (miss ts done j : Int)
  nodup : (done ++ q).Nodup
  lt : ∀ x ∈ done ++ q, x < ts.length
  zero : ∀ j, j < ts.length → (j ∈ done ++ q ↔ miss ts done j = 0)
  ordered : ∀ k, k < done.length → ∀ d ∈ (ts.getD (done.getD k 0) nilTk).deps, d.toNat ∈ done.take k

theorem miss_zero {ts : List Tk} {done : List Nat} {j : Nat} : miss ts done j = 0 ↔ ∀ d ∈ (ts.getD j nilTk).deps, d.toNat ∈ done := by
  unfold miss
  rw [List.length_eq_zero_iff, List.filter_eq_nil_iff]
  constructor
  · intro h d hd
    have := h d (uniq_mem.2 hd)
    simpa using this
  · intro h d hd
    simpa using h d (uniq_mem.1 hd)

theorem miss_step {ts : List Tk} (hr : InRange ts) {done : List Nat} {x j : Nat} (hj : j < ts.length) (hx : x ∉ done) :
    miss ts (done ++ [x]) j + (if (x : Int) ∈ (ts.getD j nilTk).deps then 1 else 0) = miss ts done j := by
  unfold miss
  have hp : ∀ d ∈ (uniq (ts.getD j nilTk).deps).filter (fun d => decide (d.toNat ∉ done)), 0 ≤ d := fun d hd => by
    rw [List.mem_filter] at hd
    exact (hr j hj d (uniq_mem.1 hd.1)).1
  have h := filter_ne_length x _ (nodup_filter (uniq_nodup (ts.getD j nilTk).deps) (fun d => decide (d.toNat ∉ done))) hp
  rw [List.filter_filter] at h
  have e : (uniq (ts.getD j nilTk).deps).filter (fun d => decide (d.toNat ∉ done ++ [x])) = (uniq (ts.getD j nilTk).deps).filter (fun a => decide (a.toNat ≠ x) && decide (a.toNat ∉ done)) := by
    apply List.filter_congr
    intro d _
    rw [Bool.eq_iff_iff]
    simp
    constructor
    · rintro ⟨a, b⟩; exact ⟨b, a⟩
    · rintro ⟨a, b⟩; exact ⟨b, a⟩
  rw [e]
  have hm : ((x : Int) ∈ (uniq (ts.getD j nilTk).deps).filter (fun d => decide (d.toNat ∉ done))) ↔ (x : Int) ∈ (ts.getD j nilTk).deps := by
    rw [List.mem_filter, uniq_mem]
    simp [hx]
  simp only [hm] at h
  exact h

theorem kinv_start (ts : List Tk) : KInv ts [] (leftTo ts ts.length) (qTo ts ts.length) := by
  have hm : ∀ j, miss ts [] j = dcount ts j := fun j => by
    unfold miss dcount
    rw [List.filter_eq_self.2]
    intro d _; simp
  refine ⟨leftTo_length _ _, fun j hj => ?_, ?_, fun x hx => ?_, fun j hj => ?_, fun k hk => by simp at hk⟩
  · rw [leftTo_get _ _ _ hj, if_pos hj, hm]
  · simpa [qTo] using nodup_filter List.nodup_range _
  · exact qTo_lt ts _ x (by simpa using hx)
  · rw [hm]; simp [qTo, hj]

theorem kinv_step {ts : List Tk} (hr : InRange ts) {done : List Nat} {left : List Int} {x : Nat} {q : List Nat} (h : KInv ts done left (x :: q)) :
    KInv ts (done ++ [x]) (kdrain (left, q) (rdAll ts x)).1 (kdrain (left, q) (rdAll ts x)).2 := by
  have hxn : x < ts.length := h.lt x (by simp)
  have hnd := h.nodup
  rw [List.nodup_append] at hnd
  have hxd : x ∉ done := fun hx => hnd.2.2 x hx x (by simp) rfl
  obtain ⟨s1, s2⟩ := kdrain_spec (rdAll ts x) (rdAll_nodup ts hr x) left q (fun j hj => by rw [h.len]; exact rdAll_lt ts x j hj)
  have hms := fun j (hj : j < ts.length) => miss_step hr (done := done) hj hxd
  have hmemr : ∀ j, j < ts.length → (j ∈ rdAll ts x ↔ (x : Int) ∈ (ts.getD j nilTk).deps) := fun j hj => by rw [rdAll_mem ts hr]; simp [hj]
  have hsame : ∀ j, j ∈ done ++ (x :: q) ↔ j ∈ (done ++ [x]) ++ q := fun j => by simp
  -- the new ones had just one left: they stood nowhere
  have hnew : ∀ j, j ∈ (rdAll ts x).filter (fun j => decide (left.getD j 0 = 1)) → j < ts.length ∧ j ∉ done ++ (x :: q) := fun j hj => by
    rw [List.mem_filter, decide_eq_true_eq] at hj
    have hjl := rdAll_lt ts x j hj.1
    refine ⟨hjl, fun hm => ?_⟩
    have h0 := (h.zero j hjl).1 hm
    have h1 := h.cnt j hjl
    rw [hj.2, h0] at h1
    simp at h1
  refine ⟨by rw [kdrain_length]; exact h.len, fun j hj => ?_, ?_, fun y hy => ?_, fun j hj => ?_, fun k hk d hd => ?_⟩
  · rw [s1 j, h.cnt j hj]
    have := hms j hj
    simp only [hmemr j hj]
    by_cases e : (x : Int) ∈ (ts.getD j nilTk).deps
    · simp only [e, if_true] at *; omega
    · simp only [e, if_false] at *; omega
  · rw [s2, ← List.append_assoc, List.nodup_append]
    refine ⟨by have := h.nodup; simpa using this, nodup_filter (rdAll_nodup ts hr x) _, fun a ha b hb e => ?_⟩
    subst e
    exact (hnew a hb).2 ((hsame a).2 ha)
  · rw [s2, ← List.append_assoc, List.mem_append] at hy
    rcases hy with hy | hy
    · exact h.lt y ((hsame y).2 hy)
    · exact (hnew y hy).1
  · rw [s2, ← List.append_assoc, List.mem_append, ← hsame j, h.zero j hj, List.mem_filter, decide_eq_true_eq, h.cnt j hj, hmemr j hj]
    have := hms j hj
    constructor
    · rintro (h0 | ⟨h1, h2⟩)
      · have : (x : Int) ∉ (ts.getD j nilTk).deps := fun hx => hxd (by have := miss_zero.1 h0 _ hx; simpa using this)
        simp only [this, if_false] at *
        omega
      · simp only [h1, if_true] at *
        omega
    · intro h0
      by_cases e : (x : Int) ∈ (ts.getD j nilTk).deps
      · simp only [e, if_true] at *
        exact .inr ⟨trivial, by omega⟩
      · simp only [e, if_false] at *
        exact .inl (by omega)
  · simp only [List.length_append, List.length_cons, List.length_nil] at hk
    by_cases e : k < done.length
    · have e1 : (done ++ [x]).getD k 0 = done.getD k 0 := by simp [List.getD_eq_getElem?_getD, List.getElem?_append_left e]
      rw [e1] at hd
      rw [List.take_append_of_le_length (by omega)]
      exact h.ordered k e d hd
    · have e0 : k = done.length := by omega
      subst e0
      have e1 : (done ++ [x]).getD done.length 0 = x := by simp [List.getD_eq_getElem?_getD]
      rw [e1] at hd
      have h0 := (h.zero x hxn).1 (by simp)
      simpa using miss_zero.1 h0 d hd

theorem kRun_inv {ts : List Tk} (hr : InRange ts) : ∀ (f : Nat) (done : List Nat) (left : List Int) (q : List Nat), KInv ts done left q →
    ∃ done' left' q', KInv ts done' left' q' ∧ kRun (rdAll ts) f (left, q) done.length = done'.length
  | 0, done, left, q, h => ⟨done, left, q, h, rfl⟩
  | f + 1, done, left, [], h => ⟨done, left, [], h, rfl⟩
  | f + 1, done, left, x :: q, h => by
    have := kRun_inv hr f (done ++ [x]) _ _ (kinv_step hr h)
    rw [kRun_cons]
    simpa using this

/-- KAHN: where all are taken there is an order in which every task stands behind its prerequisites. -/
theorem kahn_order {ts : List Tk} (hr : InRange ts) (hc : cycB ts = false) : ∃ p : List Nat, (∀ j, j < ts.length → j ∈ p) ∧ (∀ x ∈ p, x < ts.length) ∧ ∀ k, k < p.length → ∀ d ∈ (ts.getD (p.getD k 0) nilTk).deps, d.toNat ∈ p.take k := by
  obtain ⟨done, left, q, hK, hrun⟩ := kRun_inv hr ts.length [] _ _ (kinv_start ts)
  have hlen : ts.length ≤ done.length := by
    unfold cycB kAll at hc
    rw [decide_eq_false_iff_not] at hc
    have : kRun (rdAll ts) ts.length (leftTo ts ts.length, qTo ts ts.length) 0 = done.length := hrun
    omega
  have hnd := hK.nodup
  rw [List.nodup_append] at hnd
  have hlt : ∀ x ∈ done, x < ts.length := fun x hx => hK.lt x (by simp [hx])
  exact ⟨done, fun j hj => nodup_all hnd.1 hlt hlen j hj, hlt, hK.ordered⟩

theorem readyAt_iff {ts : List Tk} (hr : InRange ts) (pl : List Nat) (j : Nat) (hj : j < ts.length) : readyAt ts (marks ts.length pl) j = true ↔ j ∉ pl ∧ ∀ d ∈ (ts.getD j nilTk).deps, d.toNat ∈ pl := by
  unfold readyAt allIn
  rw [Bool.and_eq_true, List.all_eq_true, marks_getD _ _ _ hj]
  constructor
  · rintro ⟨h1, h2⟩
    refine ⟨by simpa using h1, fun d hd => ?_⟩
    have := h2 d hd
    rw [marks_getD _ _ _ (by have := hr j hj d hd; omega)] at this
    simpa using this
  · rintro ⟨h1, h2⟩
    refine ⟨by simpa using h1, fun d hd => ?_⟩
    rw [marks_getD _ _ _ (by have := hr j hj d hd; omega)]
    simpa using h2 d hd

/-- In a graph without a cycle, while a task is left, one is ready. -/
theorem ready_exists {ts : List Tk} (hr : InRange ts) (hc : cycB ts = false) (pl : List Nat) (hl : pl.length < ts.length) : ∃ j, j < ts.length ∧ readyAt ts (marks ts.length pl) j = true := by
  obtain ⟨p, hall, hlt, hord⟩ := kahn_order hr hc
  obtain ⟨j0, hj0, hn0⟩ := some_out pl hl
  obtain ⟨k0, hk0, hkj⟩ := mem_getD 0 (hall j0 hj0)
  -- the first of p that is not placed
  have hex : ∃ k, k < p.length ∧ p.getD k 0 ∉ pl ∧ ∀ i, i < k → p.getD i 0 ∈ pl := by
    have hind : ∀ m, (∃ k, k < m ∧ k < p.length ∧ p.getD k 0 ∉ pl) → ∃ k, k < p.length ∧ p.getD k 0 ∉ pl ∧ ∀ i, i < k → p.getD i 0 ∈ pl := by
      intro m
      induction m with
      | zero => rintro ⟨k, hk, _⟩; omega
      | succ m ih =>
        rintro ⟨k, hk, hkl, hkn⟩
        by_cases h : ∃ i, i < k ∧ p.getD i 0 ∉ pl
        · obtain ⟨i, hi, hin⟩ := h
          exact ih ⟨i, by omega, by omega, hin⟩
        · exact ⟨k, hkl, hkn, fun i hi => Classical.byContradiction fun hn => h ⟨i, hi, hn⟩⟩
    exact hind (k0 + 1) ⟨k0, by omega, hk0, by rw [hkj]; exact hn0⟩
  obtain ⟨k, hk, hkn, hki⟩ := hex
  have hpk := hlt _ (getD_mem p 0 k hk)
  refine ⟨p.getD k 0, hpk, (readyAt_iff hr pl _ hpk).2 ⟨hkn, fun d hd => ?_⟩⟩
  have hm := hord k hk d hd
  obtain ⟨i, hi, hie⟩ := mem_getD 0 hm
  have hik : i < k := by simp at hi; omega
  have : (p.take k).getD i 0 = p.getD i 0 := by simp [List.getD_eq_getElem?_getD, List.getElem?_take, hik]
  rw [← hie, this]
  exact hki i hik

theorem may_ready {ts : List Tk} (hr : InRange ts) (pl : List Nat) (j : Nat) (hj : j < ts.length) : mayB ts (pl.map fun (x : Nat) => (x : Int)) j = readyAt ts (marks ts.length pl) j := by
  rw [Bool.eq_iff_iff, readyAt_iff hr pl j hj]
  unfold mayB
  rw [Bool.and_eq_true, List.all_eq_true]
  have hm : ∀ d : Int, 0 ≤ d → (d ∈ pl.map (fun (x : Nat) => (x : Int)) ↔ d.toNat ∈ pl) := fun d hd => by
    simp only [List.mem_map]
    constructor
    · rintro ⟨a, ha, rfl⟩; simpa using ha
    · intro h; exact ⟨d.toNat, h, by omega⟩
  have hj' := hm j (by omega)
  rw [Int.toNat_natCast] at hj'
  constructor
  · rintro ⟨h1, h2⟩
    refine ⟨fun h => ?_, fun d hd => ?_⟩
    · rw [← hj'] at h; simp [h] at h1
    · have := h2 d hd
      rw [decide_eq_true_eq, hm d (hr j hj d hd).1] at this
      exact this
  · rintro ⟨h1, h2⟩
    refine ⟨?_, fun d hd => ?_⟩
    · rw [← hj'] at h1; simp [h1]
    · rw [decide_eq_true_eq, hm d (hr j hj d hd).1]; exact h2 d hd

/-- THE LAW: at each place stands the smallest that may stand there. -/
theorem order_law {ts : List Tk} (hr : InRange ts) (hc : cycB ts = false) {pl : List Nat} (hl : pl.length = ts.length) (hs : OrderSeq ts pl) (at_ : Nat) (ha : at_ < pl.length) :
    pl.getD at_ 0 < ts.length ∧ mayB ts ((pl.take at_).map fun (x : Nat) => (x : Int)) (pl.getD at_ 0) = true ∧ ∀ j, j < pl.getD at_ 0 → mayB ts ((pl.take at_).map fun (x : Nat) => (x : Int)) j = false := by
  rcases hs at_ ha with ⟨h1, h2, h3⟩ | ⟨h1, h2⟩
  · refine ⟨h1, by rw [may_ready hr _ _ h1]; exact h2, fun j hj => by rw [may_ready hr _ _ (by omega)]; exact h3 j hj⟩
  · obtain ⟨j, hj, hrd⟩ := ready_exists hr hc (pl.take at_) (by simp; omega)
    rw [h2 j hj] at hrd
    cases hrd

end Go.Proofs.Ygdamg
