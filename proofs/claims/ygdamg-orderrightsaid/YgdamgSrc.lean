import Derived.Test.YgdamgMem
import Derived.Deep.AppendLies
import Derived.Deep.RegionHeld3
namespace Go.Proofs.Ygdamg
set_option linter.unusedVariables false
set_option linter.unusedSimpArgs false
open Go.RowKit

/-- A slice value that came in, and the ints that it holds. -/
def SrcInts (w : World) (v : Value) (l : List Int) : Prop :=
  l.length ≤ 17592186044416 ∧
  ((v = .slice none 0 0 ∧ l = []) ∨ ∃ a cap, v = .slice (some a) l.length cap ∧ ∀ k, k < l.length → w.cell? (a.add k) = some (.int .i64 (l.getD k 0)))

def SrcTasks (w : World) (v : Value) (ts : List Tk) : Prop :=
  ts.length ≤ 3518437208883 ∧
  ((v = .slice none 0 0 ∧ ts = []) ∨ ∃ a cap, v = .slice (some a) ts.length cap ∧ ∀ k, k < ts.length →
      w.cell? (a.add (k * 3)) = some (.int .i64 (ts.getD k nilTk).op) ∧
      w.cell? (a.add (k * 3 + 1)) = some (.int .i64 (ts.getD k nilTk).arg) ∧
      ∃ dv, w.cell? (a.add (k * 3 + 2)) = some dv ∧ SrcInts w dv (ts.getD k nilTk).deps)

theorem SrcInts.later {w w' : World} {v : Value} {l : List Int} (h : SrcInts w v l) (hb : Below w.heap.size w w') : SrcInts w' v l := by
  refine ⟨h.1, ?_⟩
  rcases h.2 with h | ⟨a, cap, hv, hc⟩
  · exact .inl h
  · exact .inr ⟨a, cap, hv, fun k hk => cell_later hb (hc k hk)⟩

/-- The cells that a slice value leads to: nil, or an address at which they lie. -/
def CellsAt (w : World) (v : Value) (m size : Nat) (news : List Value) : Prop :=
  (v = .slice none 0 0 ∧ m = 0 ∧ news = []) ∨
  ∃ ad c, v = .slice (some ad) m c ∧ news.length = m * size ∧ (∀ j u, news[j]? = some u → w.cell? (ad.add j) = some u) ∧ ∀ u ∈ news, u.oneCell' = true

theorem run_append_new {P : Program} (w : World) (t ty e : TypeId) (z : Value) (size bytes : Nat) (ht : P.underlying t = some (.slice e))
    (hinfo : (P.info? e).map (fun i => (i.zero, i.size, i.bytes)) = some (some z, size, bytes)) (hzs : z.cells.size = size) (hsz : 0 < size)
    (sv : Value) (m : Nat) (news : List Value) (hsrc : CellsAt w sv m size news) (h63 : m ≤ maxLen) (hbytes : m * bytes ≤ 140737488355328) :
    ∃ ao' cap' w', (Builtin.append_ #[t, t] ty #[.slice none 0 0, sv]).run P w = .ok (.slice ao' m cap') w' ∧ w'.ownsRow w.heap.size e size (.slice ao' m cap') m news ∧ w.grownBy w' none := by
  obtain ⟨i, hi, hz, hsize, hby⟩ := info_parts hinfo
  rcases hsrc with ⟨rfl, rfl, rfl⟩ | ⟨ad, c, rfl, hl, hnews, h1⟩
  · exact ⟨none, 0, w, run_append_owned_none (P := P) (w := w) w.heap.size t ty e i size ht hi _ 0 [] (World.ownsRow_nil _ _ _ _), World.ownsRow_nil _ _ _ _, World.grownBy.refl _ _⟩
  · obtain ⟨v', w', hr, h2, h3, _, _⟩ := run_append_own_at (P := P) w w.heap.size t ty e i z size bytes ht hi hz hsize hby hzs hsz (.slice none 0 0) 0 [] (World.ownsRow_nil _ _ _ _) ad m c news hl hnews h1
      (by omega) (by rw [Nat.zero_add]; exact hbytes) (Nat.le_refl _)
    have h2' : w'.ownsRow w.heap.size e size v' m news := by simpa using h2
    obtain ⟨ao', cap', rfl⟩ : ∃ ao' cap', v' = .slice ao' m cap' := by
      rcases h2'.2 with ⟨rfl, h0⟩ | ⟨g, cap, _, rfl, _⟩
      · exact ⟨none, 0, by rw [h0]⟩
      · exact ⟨_, _, rfl⟩
    exact ⟨ao', cap', w', hr, h2', h3⟩

theorem wp_append_new {P : Program} (w : World) {o : Oper} {a : Act} {K : Act → World → Prop} {Q : Exit → Act → World → Prop} (s x : Operand) (t : TypeId)
    (ho : o.op = .call { callee := .builtin .append, args := #[s, x], argTypes := #[t, t] })
    (e : TypeId) (z : Value) (size bytes : Nat) (ht : P.underlying t = some (.slice e))
    (hinfo : (P.info? e).map (fun i => (i.zero, i.size, i.bytes)) = some (some z, size, bytes)) (hzs : z.cells.size = size) (hsz : 0 < size)
    (sv : Value) (m : Nat) (news : List Value) (hs : a.eval s = .slice none 0 0) (hx : a.eval x = sv) (hsrc : CellsAt w sv m size news) (h63 : m ≤ maxLen) (hbytes : m * bytes ≤ 140737488355328)
    (h : ∀ ao' cap' w', w'.ownsRow w.heap.size e size (.slice ao' m cap') m news → w.grownBy w' none → K (a.put o.dst (.slice ao' m cap')) w') : o.wp P a w K Q := by
  obtain ⟨ao', cap', w', hr, h2, h3⟩ := run_append_new (P := P) w t o.type e z size bytes ht hinfo hzs hsz sv m news hsrc h63 hbytes
  unfold Oper.wp execOp
  simp only [ho, resolve, invoke, builtin, Sem.run_bind, Sem.run_pure, Result.andThen_ok, List.map_toArray, List.map_cons, List.map_nil, hs, hx, hr]
  exact h ao' cap' w' h2 h3

theorem wpList_append_new {P : Program} (w : World) {ops : Array Oper} {rest : List Oper} {o : Oper} {a : Act} {Q : Exit → Act → World → Prop} (hgd : o.guard = none) (s x : Operand) (t : TypeId)
    (ho : o.op = .call { callee := .builtin .append, args := #[s, x], argTypes := #[t, t] })
    (e : TypeId) (z : Value) (size bytes : Nat) (ht : P.underlying t = some (.slice e))
    (hinfo : (P.info? e).map (fun i => (i.zero, i.size, i.bytes)) = some (some z, size, bytes)) (hzs : z.cells.size = size) (hsz : 0 < size)
    (sv : Value) (m : Nat) (news : List Value) (hs : a.eval s = .slice none 0 0) (hx : a.eval x = sv) (hsrc : CellsAt w sv m size news) (h63 : m ≤ maxLen) (hbytes : m * bytes ≤ 140737488355328)
    (h : ∀ ao' cap' w', w'.ownsRow w.heap.size e size (.slice ao' m cap') m news → w.grownBy w' none → wpList P ops Q rest (a.put o.dst (.slice ao' m cap')) w') : wpList P ops Q (o :: rest) a w :=
  wpList_plain hgd fun _ hK => wp_append_new w s x t ho e z size bytes ht hinfo hzs hsz sv m news hs hx hsrc h63 hbytes fun ao' cap' w' h2 h3 => hK _ _ (h ao' cap' w' h2 h3)

theorem step_append_new {P : Program} (w : World) {ops : Array Oper} {o : Oper} {a : Act} {K : Act → World → Prop} {Q : Exit → Act → World → Prop} {E : Prop} (hgd : o.guard = none) (s x : Operand) (t : TypeId)
    (ho : o.op = .call { callee := .builtin .append, args := #[s, x], argTypes := #[t, t] })
    (e : TypeId) (z : Value) (size bytes : Nat) (ht : P.underlying t = some (.slice e))
    (hinfo : (P.info? e).map (fun i => (i.zero, i.size, i.bytes)) = some (some z, size, bytes)) (hzs : z.cells.size = size) (hsz : 0 < size)
    (sv : Value) (m : Nat) (news : List Value) (hs : a.eval s = .slice none 0 0) (hx : a.eval x = sv) (hsrc : CellsAt w sv m size news) (h63 : m ≤ maxLen) (hbytes : m * bytes ≤ 140737488355328)
    (h : ∀ ao' cap' w', w'.ownsRow w.heap.size e size (.slice ao' m cap') m news → w.grownBy w' none → K (a.put o.dst (.slice ao' m cap')) w') :
    if Region.wanted o (yielded ops a.tmps) = true then Oper.wp P o a w K Q else E := by
  have hw : Region.wanted o (yielded ops a.tmps) = true := by simp [Region.wanted, hgd]
  rw [if_pos hw]
  exact wp_append_new w s x t ho e z size bytes ht hinfo hzs hsz sv m news hs hx hsrc h63 hbytes h

def intVals (l : List Int) : List Value := l.map (Value.int .i64)
theorem intVals_get (l : List Int) (k : Nat) (h : k < l.length) : (intVals l)[k]? = some (.int .i64 (l.getD k 0)) := by
  simp [intVals, List.getD_eq_getElem?_getD, h]
theorem intVals_length (l : List Int) : (intVals l).length = l.length := by simp [intVals]

theorem SrcInts.cellsAt {w : World} {v : Value} {l : List Int} (h : SrcInts w v l) : CellsAt w v l.length 1 (intVals l) := by
  rcases h.2 with ⟨rfl, rfl⟩ | ⟨a, cap, rfl, hc⟩
  · exact .inl ⟨rfl, rfl, rfl⟩
  · refine .inr ⟨a, cap, rfl, by simp [intVals], fun j u hj => ?_, ints_oneCell _ _⟩
    have hjl : j < l.length := by
      rcases Nat.lt_or_ge j l.length with h | h
      · exact h
      · rw [List.getElem?_eq_none (by rw [intVals_length]; exact h)] at hj; cases hj
    rw [intVals_get l j hjl] at hj
    rw [hc j hjl, hj]

theorem ints_of_owns {w : World} {base B : Nat} {v : Value} {l : List Int} (hl : l.length ≤ 140737488351232) (h : w.ownsRow base 3 1 v l.length (intVals l)) (hB : w.heap.size ≤ B) : Ints w B v l := by
  refine ⟨hl, ?_⟩
  rcases h.2 with ⟨rfl, h0⟩ | ⟨g, cap, cur, rfl, hb, hg, hnc, hcm, hcs, htake⟩
  · exact .inl ⟨rfl, List.length_eq_zero_iff.1 h0⟩
  · have := lt_of_block hg
    refine .inr ⟨g, cap, rfl, by omega, fun k hk => ?_⟩
    rw [h.cellAt k (by omega)]
    exact intVals_get l k hk

end Go.Proofs.Ygdamg
