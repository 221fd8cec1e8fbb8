import Derived.Test.YgdamgSet
namespace Go.Proofs.Ygdamg
set_option linter.unusedVariables false
set_option linter.unusedSimpArgs false
open Go.RowKit

theorem wpList_clear {P : Program} {w : World} {ops : Array Oper} {rest : List Oper} {o : Oper} {a : Act} {Q : Exit → Act → World → Prop} (hgd : o.guard = none) (x : Operand) (t : TypeId)
    (ho : o.op = .call { callee := .builtin .clear, args := #[x], argTypes := #[t] }) (v : Value) (hx : a.eval x = v) (w' : World) (hrun : ∀ ty, (Builtin.clear_ #[t] ty #[v]).run P w = .ok (.tuple #[]) w')
    (h : wpList P ops Q rest (a.put o.dst (.tuple #[])) w') : wpList P ops Q (o :: rest) a w := by
  refine wpList_plain hgd fun K hK => ?_
  have hr := hrun o.type
  unfold Oper.wp execOp
  simp only [ho, resolve, invoke, builtin, Sem.run_bind, Sem.run_pure, Result.andThen_ok, List.map_toArray, List.map_cons, List.map_nil, hx, hr]
  exact hK _ _ h

theorem zeroCells_toList (n : Nat) : (Builtin.zeroCells #[Value.int .i64 0] n).toList = List.replicate n (Value.int .i64 0) := by
  apply List.ext_getElem
  · simp [Builtin.zeroCells]
  · intro k h1 h2
    simp [Builtin.zeroCells, Nat.mod_one]

theorem run_clear_row {w : World} {g n cap : Nat} {cur : Array Value} (hg : w.heap[g]? = some (.cells cur 3 (0, 0))) (hn : 0 < n) (hnc : n ≤ cur.size) :
    ∃ w' cur', (∀ ty, (Builtin.clear_ #[38] ty #[.slice (some ⟨g, 0, none⟩) n cap]).run Yamd.prog w = .ok (.tuple #[]) w') ∧ w'.heap[g]? = some (.cells cur' 3 (0, 0)) ∧ cur'.size = cur.size ∧ Kept [g] w w' := by
  obtain ⟨m, rfl⟩ : ∃ m, n = m + 1 := ⟨n - 1, by omega⟩
  have hst := run_storeCells_at Yamd.prog g 0 3 (List.replicate (m + 1) (.int .i64 0)) 0 cur w hg (by simp; omega) (by intro v hv; have := List.eq_of_mem_replicate hv; subst this; rfl)
  obtain ⟨A, hA⟩ : ∃ A, A = (List.take (0 + 0) cur.toList ++ List.replicate (m + 1) (Value.int IntKind.i64 0) ++
            List.drop (0 + 0 + (List.replicate (m + 1) (Value.int IntKind.i64 0)).length) cur.toList).toArray := ⟨_, rfl⟩
  rw [← hA] at hst
  refine ⟨w.setRow g A, A, fun ty => ?_, setRow_heap w g cur A 3 _ hg, ?_, ⟨rfl, rfl, rfl, by simp [World.setRow], fun k hk hn => setRow_other w g k A (by simpa using hn)⟩⟩
  · simp only [Builtin.clear_, Sem.run_bind, run_underlying Yamd.underlying38, Result.andThen, zero3, Value.cells, zeroCells_toList]
    simp [run_underlying Yamd.underlying38, Sem.run_bind, zero3, Result.andThen, Value.cells, zeroCells_toList, hst]
  · rw [hA]; simp; omega

set_option maxHeartbeats 1000000 in
theorem clear_any (w : World) (b : Nat) (ks : List Int) (F : List Nat) (h : SetAt w b ks F) (hl : ks.length ≤ 1000) :
    Calls Yamd.prog 36 #[.pointer (some ⟨b, 0, none⟩)] w fun e w' => e = .returned (.tuple #[]) ∧ Kept (b :: F) w w' ∧ SetAt w' b [] F := by
  rcases h with ⟨rfl, rfl, hr⟩ | ⟨r, g, cap, rfl, h1, h2, h3, hr, hm, hown⟩
  · have c0 := hr.cell (k := 0) rfl
    have c1 := hr.cell (k := 1) rfl
    have hS : SetAt w b [] [] := .inl ⟨rfl, rfl, hr⟩
    clear hr
    go_enter Yamd.func36, Yamd.ntmps36
    go_wp2
    go_returns
    exact ⟨rfl, Kept.refl _ _, hS⟩
  · have c0 := hr.cell (k := 0) rfl
    have c1 := hr.cell (k := 1) rfl
    by_cases h0 : ks = []
    · subst h0
      have hS : SetAt w b [] [r, g] := .inr ⟨r, g, cap, rfl, h1, h2, h3, hr, hm, hown⟩
      have hlen : (Builtin.len_ #[55] 3 #[.map (some r)]).run Yamd.prog w = .ok (.int .i64 0) w := run_len_map hm 3
      clear hr hown hm
      go_enter Yamd.func36, Yamd.ntmps36
      go_wp2
      go_returns
      exact ⟨rfl, Kept.refl _ _, hS⟩
    · have hpos : 0 < ks.length := List.length_pos_iff.2 h0
      have hz : ((ks.length : Int) == 0) = false := beq_eq_false_iff_ne.2 (by omega)
      obtain ⟨w1, hrun1, hm1, hk1, hs1⟩ : ∃ w', (∀ ty, (Builtin.clear_ #[55] ty #[.map (some r)]).run Yamd.prog w = .ok (.tuple #[]) w') ∧ MapKeys w' r [] ∧ Kept [r] w w' ∧ w'.heap.size = w.heap.size := by
        obtain ⟨w', q1, q2, q3, q4⟩ := run_clear_map hm 0
        exact ⟨w', fun ty => q1, q2, q3, q4⟩
      have hr1 := hr.kept hk1 (by simp; exact Ne.symm h2)
      have d0 := hr1.cell (k := 0) rfl
      have d1 := hr1.cell (k := 1) rfl
      obtain ⟨cur, hcur, hsz, hnc⟩ : ∃ cur, w.heap[g]? = some (.cells cur 3 (0, 0)) ∧ cur.size = cap ∧ ks.length ≤ cap ∧ cap ≤ maxLen := by
        rcases hown.2 with ⟨e, _⟩ | ⟨g', cap', cur, e, _, q2, q3, q4, q5, _⟩
        · simp at e
        · simp only [Value.slice.injEq, Option.some.injEq, Addr.mk.injEq, and_true, true_and] at e
          obtain ⟨rfl, rfl⟩ := e
          exact ⟨cur, q2, by omega, q3, q4⟩
      obtain ⟨hnc, hcm⟩ := hnc
      have hcur1 : w1.heap[g]? = some (.cells cur 3 (0, 0)) := by rw [hk1.block g (lt_of_block hcur) (by simp; exact Ne.symm h1)]; exact hcur
      obtain ⟨w2, cur2, hrun2, hcur2, hsz2, hk2⟩ := run_clear_row (w := w1) (g := g) (n := ks.length) (cap := cap) hcur1 hpos (by omega)
      have hr2 := hr1.kept hk2 (by simp; exact Ne.symm h3)
      have hm2 := hm1.kept hk2 (by simp; exact h1)
      have e1 := hr2.cell (k := 1) rfl
      have f1 := hr2.free 1
      have hr3 := hr2.set 1 (.slice (some ⟨g, 0, none⟩) 0 cap)
      have hm3 : MapKeys (w2.setCell ⟨b, 1, none⟩ (.slice (some ⟨g, 0, none⟩) 0 cap)) r [] := hm2.same (Below.heap_setCell _ _ _ _ h2)
      have hcur3 : (w2.setCell ⟨b, 1, none⟩ (.slice (some ⟨g, 0, none⟩) 0 cap)).heap[g]? = some (.cells cur2 3 (0, 0)) := by rw [Below.heap_setCell _ _ _ _ h3]; exact hcur2
      have hk3 : Kept [b, r, g] w (w2.setCell ⟨b, 1, none⟩ (.slice (some ⟨g, 0, none⟩) 0 cap)) :=
        ((hk1.mono (by simp)).trans hk2 (by simp)).setCell (by simp) _
      have hS : SetAt (w2.setCell ⟨b, 1, none⟩ (.slice (some ⟨g, 0, none⟩) 0 cap)) b [] [r, g] :=
        .inr ⟨r, g, cap, rfl, h1, h2, h3, hr3, hm3, rfl, .inr ⟨g, cap, cur2, rfl, Nat.zero_le _, hcur3, Nat.zero_le _, hcm, by omega, by simp [intVals]⟩⟩
      clear hr hown hm hr1 hr2 hr3 hm1 hm2 hm3 hcur hcur1 hcur2 hcur3 hk1 hk2 hs1 hsz hsz2
      have hI : (0 : Int) ≤ (cap : Int) := by omega
      go_enter Yamd.func36, Yamd.ntmps36
      go_wp2_with (first | (at_builtin; refine wpList_clear rfl (.tmp 23) 55 rfl _ rfl w1 hrun1 ?_) | (at_builtin; refine wpList_clear rfl (.tmp 27) 38 rfl _ rfl w2 hrun2 ?_))
      go_returns
      exact ⟨rfl, hk3, hS⟩
end Go.Proofs.Ygdamg
