import Derived.Test.YgdamgMap
import Derived.Laws.CopyOwn
namespace Go.Proofs.Ygdamg
set_option linter.unusedVariables false
set_option linter.unusedSimpArgs false
open Go.RowKit

/-- The set in block b holds ks, in the order in which they came; F: the blocks of its map and of its keys, once it has them. -/
def SetAt (w : World) (b : Nat) (ks : List Int) (F : List Nat) : Prop :=
  (ks = [] ∧ F = [] ∧ Row w b 57 [.map none, .slice none 0 0]) ∨
  ∃ r g cap, F = [r, g] ∧ r ≠ g ∧ r ≠ b ∧ g ≠ b ∧ Row w b 57 [.map (some r), .slice (some ⟨g, 0, none⟩) ks.length cap] ∧ MapKeys w r ks ∧
    w.ownsRow 0 3 1 (.slice (some ⟨g, 0, none⟩) ks.length cap) ks.length (intVals ks)

theorem SetAt.lenRow {w : World} {b : Nat} {ks : List Int} {F : List Nat} (h : SetAt w b ks F) : ∃ mv ao cap, Row w b 57 [mv, .slice ao ks.length cap] := by
  rcases h with ⟨rfl, _, h⟩ | ⟨r, g, cap, _, _, _, _, h, _⟩
  · exact ⟨_, none, 0, h⟩
  · exact ⟨_, _, _, h⟩

theorem SetAt.kept {w w' : World} {b : Nat} {ks : List Int} {F G : List Nat} (h : SetAt w b ks F) (hk : Kept G w w') (hb : b ∉ G) (hF : ∀ x, x ∈ F → x ∉ G) : SetAt w' b ks F := by
  rcases h with ⟨h1, h2, h⟩ | ⟨r, g, cap, rfl, h2, h3, h4, h5, h6, h7⟩
  · exact .inl ⟨h1, h2, h.kept hk hb⟩
  · refine .inr ⟨r, g, cap, rfl, h2, h3, h4, h5.kept hk hb, h6.kept hk (hF r (by simp)), ?_⟩
    have hg := hF g (by simp)
    refine ⟨h7.1, ?_⟩
    rcases h7.2 with ⟨e, _⟩ | ⟨g', cap', cur, e, q1, q2, q3⟩
    · simp at e
    · simp only [Value.slice.injEq, Option.some.injEq, Addr.mk.injEq, and_true, true_and] at e
      obtain ⟨rfl, rfl⟩ := e
      exact .inr ⟨g, cap, cur, rfl, q1, by rw [hk.block g (lt_of_block q2) hg]; exact q2, q3⟩

set_option maxHeartbeats 400000 in
theorem slen_any (w : World) (b : Nat) (ks : List Int) (F : List Nat) (h : SetAt w b ks F) :
    Calls Yamd.prog 39 #[.pointer (some ⟨b, 0, none⟩)] w fun e w' => e = .returned (.int .i64 (ks.length : Nat)) ∧ w' = w := by
  obtain ⟨mv, ao, cap, hr⟩ := h.lenRow
  have h2 := hr.cell (k := 1) rfl
  clear h hr
  go_enter Yamd.func39, Yamd.ntmps39
  go_wp2
  go_ret
  exact ⟨rfl, rfl⟩

set_option maxHeartbeats 400000 in
theorem has_any (w : World) (b : Nat) (ks : List Int) (F : List Nat) (k : Int) (h : SetAt w b ks F) :
    Calls Yamd.prog 42 #[.pointer (some ⟨b, 0, none⟩), .int .i64 k] w fun e w' => e = .returned (.bool (decide (k ∈ ks))) ∧ w' = w := by
  rcases h with ⟨rfl, _, hr⟩ | ⟨r, g, cap, _, _, _, _, hr, hm, _⟩
  · have h0 := hr.cell (k := 0) rfl
    have hrun := run_look_nil w k
    clear hr
    go_enter Yamd.func42, Yamd.ntmps42
    go_wp2
    go_ret
    exact ⟨ret_bool (by simp), rfl⟩
  · have h0 := hr.cell (k := 0) rfl
    obtain ⟨v, hrun⟩ := run_look hm k
    clear hr hm
    go_enter Yamd.func42, Yamd.ntmps42
    go_wp2
    go_ret
    exact ⟨rfl, rfl⟩

end Go.Proofs.Ygdamg
