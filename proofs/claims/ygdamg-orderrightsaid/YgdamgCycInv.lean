import Derived.Test.YgdamgDist
import Derived.Test.YgdamgPop
namespace Go.Proofs.Ygdamg
set_option linter.unusedVariables false
set_option linter.unusedSimpArgs false
open Go.RowKit

/-- The memory of cyclic's own, in its loops. -/
structure CycInv (N1 L qb sb : Nat) (W1 wr : World) (left q : List Int) (G : Option Nat) (ks : List Int) (F : List Nat) : Prop where
  left : Row wr L 3 (intVals left)
  queue : QAt wr qb q G
  set : SetAt wr sb ks F
  sep : L ≠ qb ∧ L ≠ sb ∧ qb ≠ sb
  sepL : L ∉ G.toList ∧ L ∉ F
  sepQ : qb ∉ F ∧ sb ∉ G.toList ∧ ∀ x, x ∈ G.toList → x ∉ F
  low : N1 ≤ L ∧ N1 ≤ qb ∧ N1 ≤ sb
  lowG : ∀ x, x ∈ G.toList → N1 ≤ x
  lowF : ∀ x, x ∈ F → N1 ≤ x
  below : Below N1 W1 wr

theorem QAt.lt {w : World} {b : Nat} {l : List Int} {G : Option Nat} (h : QAt w b l G) : b < w.heap.size ∧ ∀ x, x ∈ G.toList → x < w.heap.size := by
  rcases h with ⟨rfl, _, h⟩ | ⟨g, cs, hd, rfl, _, _, _, _, _, _, h8, h9⟩
  · exact ⟨h.lt, by simp⟩
  · exact ⟨h8.lt, by intro x hx; simp at hx; subst hx; exact h9.lt⟩

theorem QAt.kept' {w w' : World} {b : Nat} {l : List Int} {G : Option Nat} {F : List Nat} (h : QAt w b l G) (hk : Kept F w w') (hb : b ∉ F) (hG : ∀ x, x ∈ G.toList → x ∉ F) : QAt w' b l G :=
  h.kept hk hb (fun g e => hG g (by simp [e]))

section
variable {N1 L qb sb : Nat} {W1 wr w' : World} {left q : List Int} {G : Option Nat} {ks : List Int} {F : List Nat}

theorem CycInv.lt (h : CycInv N1 L qb sb W1 wr left q G ks F) : L < wr.heap.size ∧ qb < wr.heap.size ∧ sb < wr.heap.size ∧ (∀ x, x ∈ G.toList → x < wr.heap.size) ∧ (∀ x, x ∈ F → x < wr.heap.size) ∧ N1 ≤ wr.heap.size := by
  have h1 := h.left.lt
  have h2 := h.queue.lt
  have h3 := h.set.lt
  exact ⟨h1, h2.1, h3.1, h2.2, h3.2, by have := h.low.1; omega⟩

theorem CycInv.alloc (h : CycInv N1 L qb sb W1 wr left q G ks F) (o : Obj) : CycInv N1 L qb sb W1 (wr.alloc o) left q G ks F :=
  ⟨h.left.alloc o, h.queue.kept' (F := []) ((Kept.refl _ _).alloc o) (by simp) (by simp), h.set.kept (G := []) ((Kept.refl _ _).alloc o) (by simp) (by simp), h.sep, h.sepL, h.sepQ, h.low, h.lowG, h.lowF, h.below.alloc h.lt.2.2.2.2.2 o⟩

theorem CycInv.drewN (h : CycInv N1 L qb sb W1 wr left q G ks F) (n : Nat) : CycInv N1 L qb sb W1 (wr.drewN n) left q G ks F :=
  ⟨h.left, h.queue.kept' (F := []) ((Kept.refl _ _).drewN n) (by simp) (by simp), h.set.kept (G := []) ((Kept.refl _ _).drewN n) (by simp) (by simp), h.sep, h.sepL, h.sepQ, h.low, h.lowG, h.lowF, below_drewN h.below n⟩

theorem CycInv.setStep (h : CycInv N1 L qb sb W1 wr left q G ks F) {ks' : List Int} {F' : List Nat} (hk : Kept (sb :: F) wr w') (hS : SetAt w' sb ks' F') (hF : ∀ x, x ∈ F' → x ∈ F ∨ wr.heap.size ≤ x) :
    CycInv N1 L qb sb W1 w' left q G ks' F' := by
  obtain ⟨h1, h2, h3, h4, h5, h6⟩ := h.lt
  have out : ∀ x, x < wr.heap.size → x ∉ F → x ∉ F' := fun x hx hn hx' => by rcases hF x hx' with h' | h'; exact hn h'; omega
  refine ⟨h.left.kept hk (by simp; exact ⟨h.sep.2.1, h.sepL.2⟩), h.queue.kept' hk (by simp; exact ⟨h.sep.2.2, h.sepQ.1⟩) (fun x hx => by
    simp only [List.mem_cons, not_or]
    exact ⟨fun e => h.sepQ.2.1 (by rw [← e]; exact hx), h.sepQ.2.2 x hx⟩), hS, h.sep, ⟨h.sepL.1, out L h1 h.sepL.2⟩, ⟨out qb h2 h.sepQ.1, h.sepQ.2.1, fun x hx => out x (h4 x hx) (h.sepQ.2.2 x hx)⟩, h.low, h.lowG, fun x hx => ?_,
    h.below.trans (hk.below h6 (by
      intro x hx
      simp at hx
      rcases hx with rfl | hx
      · exact h.low.2.2
      · exact h.lowF x hx))⟩
  rcases hF x hx with h' | h'
  · exact h.lowF x h'
  · omega

theorem CycInv.queueStep (h : CycInv N1 L qb sb W1 wr left q G ks F) {q' : List Int} {G' : Option Nat} (hk : Kept (qb :: G.toList) wr w') (hQ : QAt w' qb q' G') (hG : G' = G ∨ G' = some wr.heap.size) :
    CycInv N1 L qb sb W1 w' left q' G' ks F := by
  obtain ⟨h1, h2, h3, h4, h5, h6⟩ := h.lt
  have hF : ∀ x, x ∈ G'.toList → x ∈ G.toList ∨ wr.heap.size ≤ x := fun x hx => by
    rcases hG with rfl | rfl
    · exact .inl hx
    · simp at hx; exact .inr (by omega)
  have out : ∀ x, x < wr.heap.size → x ∉ G.toList → x ∉ G'.toList := fun x hx hn hx' => by rcases hF x hx' with h' | h'; exact hn h'; omega
  refine ⟨h.left.kept hk (by simp only [List.mem_cons, not_or]; exact ⟨h.sep.1, h.sepL.1⟩), hQ, h.set.kept hk (by simp only [List.mem_cons, not_or]; exact ⟨Ne.symm h.sep.2.2, h.sepQ.2.1⟩) (fun x hx => by
    simp only [List.mem_cons, not_or]
    exact ⟨fun e => h.sepQ.1 (by rw [← e]; exact hx), fun hx' => h.sepQ.2.2 x hx' hx⟩), h.sep, ⟨out L h1 h.sepL.1, h.sepL.2⟩, ⟨h.sepQ.1, out sb h3 h.sepQ.2.1, fun x hx hxF => ?_⟩, h.low, fun x hx => ?_, h.lowF,
    h.below.trans (hk.below h6 (by
      intro x hx
      simp only [List.mem_cons] at hx
      rcases hx with rfl | hx
      · exact h.low.2.1
      · exact h.lowG x hx))⟩
  · rcases hF x hx with h' | h'
    · exact h.sepQ.2.2 x h' hxF
    · have := h5 x hxF; omega
  · rcases hF x hx with h' | h'
    · exact h.lowG x h'
    · omega

theorem CycInv.leftStep (h : CycInv N1 L qb sb W1 wr left q G ks F) (k : Nat) (v : Int) : CycInv N1 L qb sb W1 (wr.setCell ⟨L, k, none⟩ (.int .i64 v)) (left.set k v) q G ks F := by
  obtain ⟨h1, h2, h3, h4, h5, h6⟩ := h.lt
  have hk : Kept [L] wr (wr.setCell ⟨L, k, none⟩ (.int .i64 v)) := (Kept.refl _ _).setCell (by simp) _
  refine ⟨?_, h.queue.kept' hk (by simp; exact Ne.symm h.sep.1) (fun x hx => by simp; intro e; exact h.sepL.1 (by rw [← e]; exact hx)),
    h.set.kept hk (by simp; exact Ne.symm h.sep.2.1) (fun x hx => by simp; intro e; exact h.sepL.2 (by rw [← e]; exact hx)), h.sep, h.sepL, h.sepQ, h.low, h.lowG, h.lowF, h.below.setCell h.low.1 _⟩
  have := h.left.set k (.int .i64 v)
  rwa [show (intVals left).set k (.int .i64 v) = intVals (left.set k v) from by simp [intVals, List.map_set]] at this
end

end Go.Proofs.Ygdamg
