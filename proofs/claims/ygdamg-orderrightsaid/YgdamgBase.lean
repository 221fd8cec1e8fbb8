import Derived.Test.YgdamgRows
import Derived.WalkKit
import Derived.WalkSpells
import Derived.WalkLawsBesides
import Derived.Handy
import Derived.BigQuiet
import Derived.Deep.QuietTactic
namespace Go.Proofs.Ygdamg
set_option linter.unusedVariables false
set_option linter.unusedSimpArgs false
open Go.RowKit

/-- A task as plain data. -/
structure Tk where
  op : Int
  arg : Int
  deps : List Int

theorem Yamd.cells24 : Yamd.prog.cellsOf 24 = 1 := by kernel_rfl
theorem Yamd.cells22 : Yamd.prog.cellsOf 22 = 1 := by kernel_rfl
theorem Yamd.cells42 : Yamd.prog.cellsOf 42 = 3 := by kernel_rfl
theorem Yamd.cells3 : Yamd.prog.cellsOf 3 = 1 := by kernel_rfl
theorem Yamd.cells38 : Yamd.prog.cellsOf 38 = 1 := by kernel_rfl
theorem Yamd.cells4 : Yamd.prog.cellsOf 4 = 1 := by kernel_rfl

/-- The slice value v holds the ints l, in a block below B. -/
def Ints (w : World) (B : Nat) (v : Value) (l : List Int) : Prop :=
  l.length ≤ 140737488351232 ∧
  ((v = .slice none 0 0 ∧ l = []) ∨
   ∃ g cap, v = .slice (some ⟨g, 0, none⟩) l.length cap ∧ g < B ∧ ∀ k, k < l.length → w.cell? ⟨g, k, none⟩ = some (.int .i64 (l.getD k 0)))

def nilTk : Tk := ⟨0, 0, []⟩

/-- The slice value v holds the tasks ts, in blocks below B. -/
def Tasks (w : World) (B : Nat) (v : Value) (ts : List Tk) : Prop :=
  ts.length ≤ 140737488351232 ∧
  ((v = .slice none 0 0 ∧ ts = []) ∨
   ∃ g cap, v = .slice (some ⟨g, 0, none⟩) ts.length cap ∧ g < B ∧ ∀ k, k < ts.length →
      w.cell? ⟨g, k * 3, none⟩ = some (.int .i64 (ts.getD k nilTk).op) ∧
      w.cell? ⟨g, k * 3 + 1, none⟩ = some (.int .i64 (ts.getD k nilTk).arg) ∧
      ∃ dv, w.cell? ⟨g, k * 3 + 2, none⟩ = some dv ∧ Ints w B dv (ts.getD k nilTk).deps)

theorem Ints.below {w w' : World} {B : Nat} {v : Value} {l : List Int} (h : Ints w B v l) (hb : Below B w w') : Ints w' B v l := by
  refine ⟨h.1, ?_⟩
  rcases h.2 with h | ⟨g, cap, hv, hg, hc⟩
  · exact .inl h
  · exact .inr ⟨g, cap, hv, hg, fun k hk => by rw [hb.cell (by exact hg)]; exact hc k hk⟩

theorem Tasks.below {w w' : World} {B : Nat} {v : Value} {ts : List Tk} (h : Tasks w B v ts) (hb : Below B w w') : Tasks w' B v ts := by
  refine ⟨h.1, ?_⟩
  rcases h.2 with h | ⟨g, cap, hv, hg, hc⟩
  · exact .inl h
  · refine .inr ⟨g, cap, hv, hg, fun k hk => ?_⟩
    obtain ⟨h1, h2, dv, h3, h4⟩ := hc k hk
    refine ⟨?_, ?_, dv, ?_, h4.below hb⟩
    · rw [hb.cell (by exact hg)]; exact h1
    · rw [hb.cell (by exact hg)]; exact h2
    · rw [hb.cell (by exact hg)]; exact h3

theorem Tasks.mono {w : World} {B B' : Nat} {v : Value} {ts : List Tk} (h : Tasks w B v ts) (hB : B ≤ B') : Tasks w B' v ts := by
  refine ⟨h.1, ?_⟩
  rcases h.2 with h | ⟨g, cap, hv, hg, hc⟩
  · exact .inl h
  · refine .inr ⟨g, cap, hv, by omega, fun k hk => ?_⟩
    obtain ⟨h1, h2, dv, h3, h4, h5⟩ := hc k hk
    refine ⟨h1, h2, dv, h3, h4, ?_⟩
    rcases h5 with h5 | ⟨g', cap', e1, e2, e3⟩
    · exact .inl h5
    · exact .inr ⟨g', cap', e1, by omega, e3⟩

/-- The slice value of a list of ints: its shape, for whoever only asks its length. -/
theorem Ints.form {w : World} {B : Nat} {v : Value} {l : List Int} (h : Ints w B v l) : ∃ ao cap, v = .slice ao l.length cap := by
  rcases h.2 with ⟨rfl, rfl⟩ | ⟨g, cap, rfl, _⟩
  · exact ⟨none, 0, rfl⟩
  · exact ⟨_, _, rfl⟩

/-- What a call lays first: the box of its one struct argument. -/
theorem box_later {w wr : World} {v : Value} {t : TypeId} (hb : Below (w.heap.size + 1) (w.alloc (.cells #[v] t)) wr) : wr.cell? ⟨w.heap.size, 0, none⟩ = some v := by
  rw [hb.cell (by simp)]; simp
theorem box_below {w wr : World} {o : Obj} (hb : Below (w.heap.size + 1) (w.alloc o) wr) : Below w.heap.size w wr :=
  ((Below.refl _ _).alloc (Nat.le_refl _) _).trans (hb.mono (Nat.le_succ _))
theorem box_size {w wr : World} {o : Obj} (hb : Below (w.heap.size + 1) (w.alloc o) wr) : w.heap.size + 1 ≤ wr.heap.size := by
  have := hb.size; simpa using this

theorem getD_at {α : Type} (l : List α) (d : α) (k : Nat) (h : k < l.length) : l.getD k d = l[k] := by
  simp [List.getD_eq_getElem?_getD, List.getElem?_eq_getElem h]
theorem getD_mem {α : Type} (l : List α) (d : α) (k : Nat) (h : k < l.length) : l.getD k d ∈ l := by
  rw [getD_at l d k h]; exact List.getElem_mem h
theorem mem_getD {α : Type} {l : List α} (d : α) {x : α} (h : x ∈ l) : ∃ k, k < l.length ∧ l.getD k d = x := by
  obtain ⟨k, hk, rfl⟩ := List.getElem_of_mem h
  exact ⟨k, hk, getD_at l d k hk⟩

theorem ret_bool {a b : Bool} (h : a = b) : Ending.returned (.bool a) = .returned (.bool b) := by rw [h]
theorem ret_int {a b : Int} (h : a = b) : Ending.returned (.int .i64 a) = .returned (.int .i64 b) := by rw [h]

end Go.Proofs.Ygdamg
