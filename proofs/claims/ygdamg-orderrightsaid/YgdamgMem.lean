import Derived.Test.YgdamgBase
namespace Go.Proofs.Ygdamg
set_option linter.unusedVariables false
set_option linter.unusedSimpArgs false
open Go.RowKit

/-- Block g holds just the cells cs, none of them frozen. -/
def Row (w : World) (g : Nat) (e : TypeId) (cs : List Value) : Prop := w.heap[g]? = some (.cells cs.toArray e (0, 0))

section
variable {w w' : World} {g : Nat} {e : TypeId} {cs : List Value}

theorem Row.lt (h : Row w g e cs) : g < w.heap.size := lt_of_block h
theorem Row.cell? (h : Row w g e cs) (k : Nat) : w.cell? ⟨g, k, none⟩ = cs[k]? := by
  unfold Row at h; simp [World.cell?, h]
theorem Row.cell (h : Row w g e cs) {k : Nat} {u : Value} (hk : cs[k]? = some u) : w.cell? ⟨g, k, none⟩ = some u := (h.cell? k).trans hk
theorem Row.free (h : Row w g e cs) (k : Nat) : w.frozen? ⟨g, k, none⟩ = false := by
  unfold Row at h; simp [World.frozen?, h]
theorem Row.set (h : Row w g e cs) (k : Nat) (u : Value) : Row (w.setCell ⟨g, k, none⟩ u) g e (cs.set k u) := by
  unfold Row at *
  simp [World.setCell, Array.getElem?_modify, h]
theorem Row.other (h : Row w g e cs) {a : Addr} (ha : a.block ≠ g) (u : Value) : Row (w.setCell a u) g e cs := by
  unfold Row at *
  rw [Below.heap_setCell _ _ _ _ (fun e => ha e.symm)]; exact h
theorem Row.alloc (h : Row w g e cs) (o : Obj) : Row (w.alloc o) g e cs := by
  have := h.lt
  unfold Row at *
  rw [Below.heap_alloc _ _ _ this]; exact h
theorem Row.drew (h : Row w g e cs) : Row w.drew g e cs := h
theorem Row.below {B : Nat} (h : Row w g e cs) (hg : g < B) (hb : Below B w w') : Row w' g e cs := by
  unfold Row at *
  rw [hb.block g hg]; exact h
theorem Row.grown {row : Option Nat} (h : Row w g e cs) (hg : w.grownBy w' row) (hne : some g ≠ row) : Row w' g e cs := by
  have := h.lt
  unfold Row at *
  rw [hg.block g this hne]; exact h
theorem Row.same (h : Row w g e cs) (hb : w'.heap[g]? = w.heap[g]?) : Row w' g e cs := by
  unfold Row at *
  rw [hb]; exact h
theorem row_new (w : World) (cs : List Value) (e : TypeId) : Row (w.alloc (.cells cs.toArray e)) w.heap.size e cs := heap_alloc_new w _
theorem row_of_full {base n : Nat} {xs : List Value} {size : Nat} (h : w.ownsRow base e size (.slice (some ⟨g, 0, none⟩) n n) n xs) : Row w g e xs := by
  rcases h.2 with ⟨h', _⟩ | ⟨g', cap', cur, h', hb, hg, hnc, hcm, hcs, htake⟩
  · simp at h'
  · simp only [Value.slice.injEq, Option.some.injEq, Addr.mk.injEq, and_true, true_and] at h'
    obtain ⟨rfl, rfl⟩ := h'
    rw [List.take_of_length_le (by simp; omega)] at htake
    unfold Row
    rw [hg, ← htake]
end

/-- Nothing has turned but the blocks of F and what is new. -/
structure Kept (F : List Nat) (w w' : World) : Prop where
  os : w'.os = w.os
  tape : w'.tape = w.tape
  output : w'.output = w.output
  size : w.heap.size ≤ w'.heap.size
  block : ∀ k, k < w.heap.size → k ∉ F → w'.heap[k]? = w.heap[k]?

theorem Kept.refl (F : List Nat) (w : World) : Kept F w w := ⟨rfl, rfl, rfl, Nat.le_refl _, fun _ _ _ => rfl⟩
theorem Kept.trans {F G : List Nat} {a b c : World} (h : Kept F a b) (k : Kept G b c) (hG : ∀ x, x ∈ G → x ∈ F ∨ a.heap.size ≤ x) : Kept F a c :=
  ⟨k.os.trans h.os, k.tape.trans h.tape, k.output.trans h.output, Nat.le_trans h.size k.size, fun i hi hF =>
    (k.block i (Nat.lt_of_lt_of_le hi h.size) (fun hg => by rcases hG i hg with h | h; exact hF h; omega)).trans (h.block i hi hF)⟩
theorem Kept.mono {F G : List Nat} {a b : World} (h : Kept F a b) (hF : ∀ x, x ∈ F → x ∈ G) : Kept G a b :=
  ⟨h.os, h.tape, h.output, h.size, fun i hi hG => h.block i hi fun hf => hG (hF i hf)⟩
theorem Kept.drew {F : List Nat} {a b : World} (h : Kept F a b) : Kept F a b.drew := ⟨h.os, h.tape, h.output, h.size, h.block⟩
theorem Kept.drewN {F : List Nat} {a b : World} (h : Kept F a b) (n : Nat) : Kept F a (b.drewN n) := ⟨h.os, h.tape, h.output, h.size, h.block⟩
theorem Kept.alloc {F : List Nat} {a b : World} (h : Kept F a b) (o : Obj) : Kept F a (b.alloc o) :=
  h.trans (G := []) ⟨rfl, rfl, rfl, by simp, fun k hk _ => Below.heap_alloc _ _ _ hk⟩ (by simp)
theorem Kept.setCell {F : List Nat} {a b : World} (h : Kept F a b) {p : Addr} (hp : p.block ∈ F ∨ a.heap.size ≤ p.block) (u : Value) : Kept F a (b.setCell p u) :=
  h.trans (G := [p.block]) ⟨rfl, rfl, rfl, by simp [World.setCell], fun k hk hn => Below.heap_setCell _ _ _ _ (by simpa using hn)⟩ (by intro x hx; simp at hx; rw [hx]; exact hp)
theorem Kept.below {F : List Nat} {a b : World} (h : Kept F a b) {B : Nat} (hB : B ≤ a.heap.size) (hF : ∀ x, x ∈ F → B ≤ x) : Below B a b :=
  ⟨h.os, h.tape, h.output, h.size, fun k hk => h.block k (by omega) (fun hf => by have := hF k hf; omega)⟩
theorem Kept.ofBelow {F : List Nat} {a b : World} (h : Below a.heap.size a b) : Kept F a b := ⟨h.os, h.tape, h.output, h.size, fun k hk _ => h.block k hk⟩
theorem Kept.ofBelowAt {F : List Nat} {a b : World} {B : Nat} (h : Below B a b) (hB : a.heap.size ≤ B) : Kept F a b := Kept.ofBelow (h.mono hB)
theorem Kept.ofGrown {F : List Nat} {a b : World} {row : Option Nat} (h : a.grownBy b row) (hr : ∀ k, row = some k → k ∈ F ∨ a.heap.size ≤ k) : Kept F a b :=
  ⟨h.os, h.tape, h.output, h.size, fun k hk hf => h.block k hk (fun e => by rcases hr k e.symm with h | h; exact hf h; omega)⟩

theorem Row.kept {w w' : World} {g : Nat} {e : TypeId} {cs : List Value} {F : List Nat} (h : Row w g e cs) (hk : Kept F w w') (hg : g ∉ F) : Row w' g e cs := h.same (hk.block g h.lt hg)

theorem owns_mono {w : World} {base base' : Nat} {e : TypeId} {size : Nat} {v : Value} {n : Nat} {xs : List Value} (h : w.ownsRow base e size v n xs) (hb : base' ≤ base) : w.ownsRow base' e size v n xs := by
  refine ⟨h.1, ?_⟩
  rcases h.2 with h2 | ⟨g, cap, cur, hv, hg, r⟩
  · exact .inl h2
  · exact .inr ⟨g, cap, cur, hv, by omega, r⟩
theorem owns_below {w w' : World} {base : Nat} {e : TypeId} {size : Nat} {v : Value} {n : Nat} {xs : List Value} (h : w.ownsRow base e size v n xs) (hb : Below w.heap.size w w') : w'.ownsRow base e size v n xs := by
  refine ⟨h.1, ?_⟩
  rcases h.2 with h2 | ⟨g, cap, cur, hv, hg, hh, r⟩
  · exact .inl h2
  · exact .inr ⟨g, cap, cur, hv, hg, by rw [hb.block g (lt_of_block hh)]; exact hh, r⟩

theorem new_cell (W : World) (x : Value) (t : TypeId) (H : Nat) (hH : H = W.heap.size) : ∀ j u, [x][j]? = some u → (W.alloc (.cells #[x] t)).cell? ((⟨H, 0, none⟩ : Addr).add j) = some u := by
  subst hH; exact cell_one_new W x t
theorem one_one (x : Value) (hx : x.oneCell' = true) : ∀ u ∈ [x], u.oneCell' = true := by intro u hu; simp at hu; subst hu; exact hx

theorem grown_cell {w w' : World} {a : Addr} {v : Value} (hg : w.grownBy w' none) (h : w.cell? a = some v) : w'.cell? a = some v := hg.cell h (by simp)
theorem grown_free {w w' : World} {a : Addr} {v : Value} (hg : w.grownBy w' none) (h : w.cell? a = some v) (hf : w.frozen? a = false) : w'.frozen? a = false :=
  (World.frozen?_of_block (hg.block a.block (World.block_lt_of_cell? w a h) (by simp))).trans hf
theorem grown_below {w w' : World} (hg : w.grownBy w' none) : Below w.heap.size w w' := (Below.refl _ _).grown hg (Nat.le_refl _) (fun k e => by cases e)

/-- n zero values. -/
def zeros (z : Value) (n : Nat) : List Value := List.replicate n z
theorem zeros_length (z : Value) (n : Nat) : (zeros z n).length = n := List.length_replicate
theorem zeros_get (z : Value) (n k : Nat) (h : k < n) : (zeros z n)[k]? = some z := by simp [zeros, h]

/-- 'make([]T, n)', one cell an element: the new row, known whole. -/
theorem wpList_make_row {P : Program} (w : World) {ops : Array Oper} {rest : List Oper} {o : Oper} {a : Act} {Q : Exit → Act → World → Prop}
    (hg : o.guard = none) (l c : Operand) (t : TypeId) (hop : o.op = Op.makeSlice t l c)
    (e : TypeId) (z : Value) (h1 : P.underlying t = some (.slice e)) (bytes : Nat) (hi : (P.info? e).map (fun i => (i.zero, i.size, i.bytes)) = some (some z, 1, bytes)) (hzc : z.cells = #[z])
    (kl kc : IntKind) (L C : Int) (n : Nat) (hl : a.eval l = .int kl L) (hc : a.eval c = .int kc C) (hL : L = (n : Int)) (hC : C = (n : Int)) (b2 : bytes * n ≤ 281474976710656) (b3 : n ≤ maxLen)
    (hK : ∀ w', Row w' w.heap.size e (zeros z n) → Kept [] w w' → w'.heap.size = w.heap.size + 1 → wpList P ops Q rest (a.put o.dst (.slice (some ⟨w.heap.size, 0, none⟩) n n)) w') :
    wpList P ops Q (o :: rest) a w := by
  obtain ⟨i, h2, h3, h4, h5⟩ := info_parts hi
  refine wpList_plain hg fun K hK' => ?_
  have h63' : (n : Int) ≤ 9223372036854775807 := by simp [maxLen] at b3; omega
  have hb' : (i.bytes : Int) * (n : Int) ≤ 281474976710656 := by
    have h : ((i.bytes * n : Nat) : Int) ≤ 281474976710656 := by rw [h5]; omega
    rwa [Int.natCast_mul] at h
  have hr := run_make (P := P) w t e i z h1 h2 h3 kl kc n n (by omega) (by omega) hb' h63'
  rw [Int.toNat_natCast, h4, Nat.mul_one, hzc] at hr
  subst hL
  subst hC
  unfold Oper.wp
  simp [execOp, hop, hl, hc, hr, Result.andThen]
  have hm : madeCells #[z] n = (zeros z n).toArray := by
    apply Array.toList_inj.1
    rw [toList_madeCells_one]; rfl
  rw [hm]
  exact hK' _ _ (hK _ (row_new w _ _) ((Kept.refl _ _).alloc _) (by simp))

theorem Yamd.info3 : (Yamd.prog.info? 3).map (fun i => (i.zero, i.size, i.bytes)) = some (some (.int .i64 0), 1, 8) := by kernel_rfl
theorem Yamd.info4 : (Yamd.prog.info? 4).map (fun i => (i.zero, i.size, i.bytes)) = some (some (.bool false), 1, 1) := by kernel_rfl
theorem Yamd.info38 : (Yamd.prog.info? 38).map (fun i => (i.zero, i.size, i.bytes)) = some (some (.slice none 0 0), 1, 24) := by kernel_rfl
theorem Yamd.info42 : (Yamd.prog.info? 42).map (fun i => (i.zero, i.size, i.bytes)) = some (some (.agg #[.int .i64 0, .int .i64 0, .slice none 0 0]), 3, 40) := by kernel_rfl

end Go.Proofs.Ygdamg
