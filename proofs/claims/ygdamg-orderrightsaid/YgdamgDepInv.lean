import Derived.Test.YgdamgGrouped
import Derived.Test.YgdamgDist
namespace Go.Proofs.Ygdamg
set_option linter.unusedVariables false
set_option linter.unusedSimpArgs false
open Go.RowKit

def edgesOf (i : Nat) (l : List Int) : List (Nat × Nat) := (uniq l).map fun d => (d.toNat, i)
def edgesTo (ts : List Tk) (k : Nat) : List (Nat × Nat) := (List.range k).flatMap fun i => edgesOf i (ts.getD i nilTk).deps
theorem edgesTo_zero (ts : List Tk) : edgesTo ts 0 = [] := rfl
theorem edgesTo_succ (ts : List Tk) (k : Nat) : edgesTo ts (k + 1) = edgesTo ts k ++ edgesOf k (ts.getD k nilTk).deps := by
  simp [edgesTo, List.range_succ]
theorem edgesOf_length (i : Nat) (l : List Int) : (edgesOf i l).length ≤ l.length := by
  simp only [edgesOf, List.length_map]; exact uniq_le _ l rfl
theorem edgesTo_length (ts : List Tk) (h : ∀ k, k < ts.length → (ts.getD k nilTk).deps.length ≤ 4) : ∀ k, k ≤ ts.length → (edgesTo ts k).length ≤ 4 * k
  | 0, _ => by simp [edgesTo_zero]
  | k + 1, hk => by
    rw [edgesTo_succ, List.length_append]
    have h1 := edgesTo_length ts h k (by omega)
    have h2 := edgesOf_length k (ts.getD k nilTk).deps
    have h3 := h k (by omega)
    omega
theorem put1_mem {acc : List Int} {d x : Int} : x ∈ put1 acc d ↔ x ∈ acc ∨ x = d := by
  unfold put1
  split
  · constructor
    · exact .inl
    · rintro (h | rfl) <;> assumption
  · simp
theorem foldl_put1_mem (x : Int) : ∀ (l acc : List Int), x ∈ l.foldl put1 acc ↔ x ∈ acc ∨ x ∈ l
  | [], acc => by simp
  | d :: l, acc => by
    rw [List.foldl_cons, foldl_put1_mem x l, put1_mem]
    simp [or_assoc]
theorem uniq_mem {l : List Int} {x : Int} : x ∈ uniq l ↔ x ∈ l := by
  unfold uniq; rw [foldl_put1_mem]; simp
theorem edges_lt (ts : List Tk) (hr : ∀ k, k < ts.length → ∀ d ∈ (ts.getD k nilTk).deps, 0 ≤ d ∧ d < ts.length) (k : Nat) (hk : k ≤ ts.length) : ∀ p ∈ edgesTo ts k, p.1 < ts.length := by
  intro p hp
  simp only [edgesTo, List.mem_flatMap, List.mem_range] at hp
  obtain ⟨i, hi, hp⟩ := hp
  simp only [edgesOf, List.mem_map] at hp
  obtain ⟨d, hd, rfl⟩ := hp
  have := hr i (by omega) d (uniq_mem.1 hd)
  show d.toNat < _
  omega

theorem edgesOf_in {k j : Nat} {l : List Int} (hj : j < l.length) (h : l.getD j 0 ∈ uniq (l.take j)) : edgesOf k (l.take (j + 1)) = edgesOf k (l.take j) ∧ uniq (l.take (j + 1)) = uniq (l.take j) := by
  have e : uniq (l.take (j + 1)) = uniq (l.take j) := by rw [uniq_take l j hj]; unfold put1; rw [if_pos h]
  exact ⟨by unfold edgesOf; rw [e], e⟩
theorem edgesOf_out {k j : Nat} {l : List Int} (hj : j < l.length) (h : l.getD j 0 ∉ uniq (l.take j)) :
    edgesOf k (l.take (j + 1)) = edgesOf k (l.take j) ++ [((l.getD j 0).toNat, k)] ∧ uniq (l.take (j + 1)) = uniq (l.take j) ++ [l.getD j 0] := by
  have e : uniq (l.take (j + 1)) = uniq (l.take j) ++ [l.getD j 0] := by rw [uniq_take l j hj]; unfold put1; rw [if_neg h]
  exact ⟨by unfold edgesOf; rw [e, List.map_append]; rfl, e⟩
theorem cnt_le (E : List (Nat × Nat)) (d : Nat) : cnt E d ≤ E.length := List.length_filter_le _ _

/-- The memory of Dependents' own, in its loops. -/
structure DepInv (N1 c0 s0 n : Nat) (W1 wr : World) (E C : List (Nat × Nat)) (ks : List Int) (F : List Nat) (eo : Option Addr) (ecap : Nat) : Prop where
  edges : wr.ownsRow N1 3 1 (.slice eo (2 * E.length) ecap) (2 * E.length) (flat E)
  count : Row wr c0 3 (cntVals n C)
  set : SetAt wr s0 ks F
  sepE : ∀ a, eo = some a → a.block ≠ c0 ∧ a.block ≠ s0 ∧ a.block ∉ F
  sepC : c0 ≠ s0 ∧ c0 ∉ F
  lowF : ∀ x, x ∈ F → N1 ≤ x
  low : N1 ≤ c0 ∧ N1 ≤ s0
  below : Below N1 W1 wr

/-- The box of the task at hand. -/
structure TBox (N1 c0 s0 tb : Nat) (wr : World) (F : List Nat) (eo : Option Addr) (tv : List Value) : Prop where
  row : Row wr tb 42 tv
  sep : tb ≠ c0 ∧ tb ≠ s0 ∧ tb ∉ F ∧ ∀ a, eo = some a → a.block ≠ tb

section
variable {N1 c0 s0 n : Nat} {W1 wr w' : World} {E C : List (Nat × Nat)} {ks : List Int} {F : List Nat} {eo : Option Addr} {ecap : Nat}

theorem DepInv.lt (h : DepInv N1 c0 s0 n W1 wr E C ks F eo ecap) : (∀ a, eo = some a → N1 ≤ a.block ∧ a.block < wr.heap.size) ∧ c0 < wr.heap.size ∧ s0 < wr.heap.size ∧ (∀ x, x ∈ F → x < wr.heap.size) ∧ N1 ≤ wr.heap.size := by
  have h1 := h.set.lt
  refine ⟨fun a ha => ?_, h.count.lt, h1.1, h1.2, by have := h.low.1; have := h.count.lt; omega⟩
  exact h.edges.lt a.block (by rw [ha]; rfl)

theorem DepInv.alloc (h : DepInv N1 c0 s0 n W1 wr E C ks F eo ecap) (o : Obj) : DepInv N1 c0 s0 n W1 (wr.alloc o) E C ks F eo ecap :=
  ⟨h.edges.alloc o, h.count.alloc o, h.set.kept (G := []) ((Kept.refl _ _).alloc o) (by simp) (by simp), h.sepE, h.sepC, h.lowF, h.low, h.below.alloc h.lt.2.2.2.2 o⟩

theorem TBox.mk_new (h : DepInv N1 c0 s0 n W1 wr E C ks F eo ecap) (tv : List Value) : TBox N1 c0 s0 wr.heap.size (wr.alloc (.cells tv.toArray 42)) F eo tv := by
  obtain ⟨h1, h2, h3, h4, h5⟩ := h.lt
  refine ⟨row_new wr tv 42, by omega, by omega, fun hx => by have := h4 _ hx; omega, fun a ha => by have := h1 a ha; omega⟩

/-- A step of the set's own. -/
theorem DepInv.setStep (h : DepInv N1 c0 s0 n W1 wr E C ks F eo ecap) {ks' : List Int} {F' : List Nat} (hk : Kept (s0 :: F) wr w') (hS : SetAt w' s0 ks' F') (hF : ∀ x, x ∈ F' → x ∈ F ∨ wr.heap.size ≤ x) :
    DepInv N1 c0 s0 n W1 w' E C ks' F' eo ecap := by
  obtain ⟨h1, h2, h3, h4, h5⟩ := h.lt
  have hs := hk.size
  refine ⟨⟨h.edges.1, ?_⟩, h.count.kept hk (by simp; exact ⟨h.sepC.1, h.sepC.2⟩), hS, fun a ha => ?_, ⟨h.sepC.1, fun hx => ?_⟩, fun x hx => ?_, h.low, h.below.trans (hk.below h5 (by
    intro x hx
    simp at hx
    rcases hx with rfl | hx
    · exact h.low.2
    · exact h.lowF x hx))⟩
  · rcases h.edges.2 with e | ⟨g, cap, cur, e, q1, q2, q3⟩
    · exact .inl e
    · refine .inr ⟨g, cap, cur, e, q1, ?_, q3⟩
      simp only [Value.slice.injEq, true_and] at e
      have hse := h.sepE ⟨g, 0, none⟩ e.1
      rw [hk.block g (lt_of_block q2) (by simp; exact ⟨hse.2.1, hse.2.2⟩)]
      exact q2
  · obtain ⟨q1, q2, q3⟩ := h.sepE a ha
    refine ⟨q1, q2, fun hx => ?_⟩
    rcases hF _ hx with h' | h'
    · exact q3 h'
    · have := h1 a ha; omega
  · rcases hF _ hx with h' | h'
    · exact h.sepC.2 h'
    · omega
  · rcases hF _ hx with h' | h'
    · exact h.lowF x h'
    · omega

theorem TBox.setStep {tb : Nat} {tv : List Value} {F' : List Nat} (t : TBox N1 c0 s0 tb wr F eo tv) (hk : Kept (s0 :: F) wr w') (hF : ∀ x, x ∈ F' → x ∈ F ∨ wr.heap.size ≤ x) : TBox N1 c0 s0 tb w' F' eo tv := by
  obtain ⟨q1, q2, q3, q4⟩ := t.sep
  have hl := t.row.lt
  refine ⟨t.row.kept hk (by simp; exact ⟨q2, q3⟩), q1, q2, fun hx => ?_, q4⟩
  rcases hF _ hx with h' | h'
  · exact q3 h'
  · omega

/-- An edge more, and its count. -/
theorem DepInv.edge (h : DepInv N1 c0 s0 n W1 wr E E ks F eo ecap) {p : Nat × Nat} {X : Obj} {w8 : World} {g8 cap8 : Nat}
    (hown : w8.ownsRow N1 3 1 (.slice (some ⟨g8, 0, none⟩) (2 * E.length + 2) cap8) (2 * E.length + 2) (flat E ++ [.int .i64 (p.1 : Nat), .int .i64 (p.2 : Nat)]))
    (hgrow : (wr.alloc X).grownBy w8 (Value.slice eo (2 * E.length) ecap).ownBlock) (hat : (Value.slice eo (2 * E.length) ecap).ownBlock = some g8 ∨ g8 = wr.heap.size + 1) :
    DepInv N1 c0 s0 n W1 (w8.setCell ⟨c0, p.1, none⟩ (.int .i64 ((cnt E p.1 + 1 : Nat) : Int))) (E ++ [p]) (E ++ [p]) ks F (some ⟨g8, 0, none⟩) cap8 ∧
    (∀ tb tv, TBox N1 c0 s0 tb wr F eo tv → TBox N1 c0 s0 tb (w8.setCell ⟨c0, p.1, none⟩ (.int .i64 ((cnt E p.1 + 1 : Nat) : Int))) F (some ⟨g8, 0, none⟩) tv) ∧
    Row w8 c0 3 (cntVals n E) := by
  obtain ⟨h1, h2, h3, h4, h5⟩ := h.lt
  have hsz := hgrow.size
  simp only [World.size_alloc] at hsz
  have hown' : ∀ x, x < wr.heap.size → (∀ a, eo = some a → a.block ≠ x) → w8.heap[x]? = wr.heap[x]? := fun x hx hne => by
    rw [hgrow.block x (by simp; omega) (fun e => ?_)]
    · exact Below.heap_alloc _ _ _ hx
    · cases eo with
      | none => simp [Value.ownBlock] at e
      | some a => exact hne a rfl (by simpa [Value.ownBlock] using e.symm)
  have hg8 : g8 ≠ c0 ∧ g8 ≠ s0 ∧ g8 ∉ F ∧ ∀ tb, tb < wr.heap.size → (∀ a, eo = some a → a.block ≠ tb) → g8 ≠ tb := by
    rcases hat with e | e
    · cases eo with
      | none => simp [Value.ownBlock] at e
      | some a =>
        have e' : a.block = g8 := by simpa [Value.ownBlock] using e
        have := h.sepE a rfl
        rw [e'] at this
        exact ⟨this.1, this.2.1, this.2.2, fun tb _ hne => by rw [← e']; exact hne a rfl⟩
    · refine ⟨by omega, by omega, fun hx => by have := h4 _ hx; omega, fun tb htb _ => by omega⟩
  have hC8 : Row w8 c0 3 (cntVals n E) := h.count.same (hown' c0 h2 (fun a ha => (h.sepE a ha).1))
  have hkS : ∀ x, x ∈ s0 :: F → w8.heap[x]? = wr.heap[x]? := fun x hx => by
    simp at hx
    rcases hx with rfl | hx
    · exact hown' _ h3 (fun a ha => (h.sepE a ha).2.1)
    · exact hown' x (h4 x hx) (fun a ha e => (h.sepE a ha).2.2 (by rw [e]; exact hx))
  have hkK : Kept (wr.heap.size :: (Value.slice eo (2 * E.length) ecap).ownBlock.toList) wr w8 :=
    ⟨hgrow.os, hgrow.tape, hgrow.output, by omega, fun k hk hn => hown' k hk (fun a ha e => hn (by subst ha; simp [Value.ownBlock, e]))⟩
  have hS8 : SetAt w8 s0 ks F := h.set.kept hkK (by
    simp only [List.mem_cons, not_or]
    refine ⟨by omega, fun hx => ?_⟩
    cases eo with
    | none => simp [Value.ownBlock] at hx
    | some a => simp [Value.ownBlock] at hx; exact (h.sepE a rfl).2.1 hx.symm) (fun x hx => by
    simp only [List.mem_cons, not_or]
    refine ⟨by have := h4 x hx; omega, fun hy => ?_⟩
    cases eo with
    | none => simp [Value.ownBlock] at hy
    | some a => simp [Value.ownBlock] at hy; exact (h.sepE a rfl).2.2 (by rw [← hy]; exact hx))
  have hkc : Kept [c0] w8 (w8.setCell ⟨c0, p.1, none⟩ (.int .i64 ((cnt E p.1 + 1 : Nat) : Int))) := (Kept.refl _ _).setCell (by simp) _
  refine ⟨⟨?_, ?_, hS8.kept hkc (by simp; exact Ne.symm h.sepC.1) (fun x hx => by simp; intro e; exact h.sepC.2 (by rw [← e]; exact hx)), ?_, h.sepC, h.lowF, h.low, ?_⟩, fun tb tv t => ?_, hC8⟩
  · have := ownsRow_setCell_other hown (a := ⟨c0, p.1, none⟩) (by simp [Value.ownBlock]; exact hg8.1) (.int .i64 ((cnt E p.1 + 1 : Nat) : Int))
    rw [flat_snoc, List.length_append, show 2 * (E.length + [p].length) = 2 * E.length + 2 from by simp; omega]
    exact this
  · have := hC8.set p.1 (.int .i64 ((cnt E p.1 + 1 : Nat) : Int))
    rw [cntVals_set] at this
    exact this
  · intro a ha
    simp at ha
    subst ha
    exact ⟨hg8.1, hg8.2.1, hg8.2.2.1⟩
  · exact ((h.below.alloc h5 X).grown hgrow (by simp; omega) (fun k e => by
      cases eo with
      | none => simp [Value.ownBlock] at e
      | some a => have := h1 a rfl; simp [Value.ownBlock] at e; omega)).setCell h.low.1 _
  · obtain ⟨q1, q2, q3, q4⟩ := t.sep
    have hl := t.row.lt
    exact ⟨(t.row.same (hown' tb hl q4)).other (Ne.symm q1) _, q1, q2, q3, fun a ha => by simp at ha; subst ha; exact hg8.2.2.2 tb hl q4⟩
end

end Go.Proofs.Ygdamg
