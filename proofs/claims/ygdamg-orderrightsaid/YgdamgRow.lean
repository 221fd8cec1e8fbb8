import Derived.Test.YgdamgOpen
namespace Go.Proofs.Ygdamg
set_option linter.unusedVariables false
set_option linter.unusedSimpArgs false
open Go.ChangeShapes Go.WideShapes Go.ChangeAt Go.RowKit Go.Deep

theorem Yamd.own : ownKnob Yamd.prog.godebug = none := by kernel_rfl
theorem Yamd.laidOut : laidOutB Yamd.prog = true := by kernel_rfl

set_option maxRecDepth 100000 in
theorem orderRight_lifted (os : Os) (started : os.Started) (H : Type) (enc : TypeId × Value → H) :
    ReturnsInHanded {} Yamd.checked os 5 .any (Rows.orderRightSpec.pre6 enc Yamd.prog Yamd.f5 Rows.orderRightRow.domain false) (Rows.orderRightSpec.post enc Yamd.prog Yamd.f5 false true false false) := by
  refine returnsInHanded_of_change_sized (C := Yamd.checked) Yamd.own started (by kernel_rfl) Yamd.func5
    (ChangeSpec.witness6 (enc := enc) (C := Yamd.checked) false ⟨#[], #[.agg #[.slice none 0 0]], []⟩ 8 (by kernel_rfl) (by kernel_rfl) (by kernel_rfl) (by kernel_rfl)) ?_
  intro W base args ds gs before hval0 hW _ hsz0 _
  have hsz : (DataW.weightsEach Yamd.prog (Yamd.f5.params.toList ++ Rows.orderRightSpec.plain.varTypes Yamd.prog) (ds ++ gs)).all (· ≤ reachBytes) = true := hsz0
  clear hsz0
  have hval : ∀ (j : Nat) t v, Yamd.f5.params[j]? = some t → args[j]? = some v → Value.okWide Yamd.prog W .any base t v := hval0
  have hW' := hW
  obtain ⟨p, q, hA0, hV, rfl, _, _⟩ := hW
  have hA : DataW.TrodAll enc Yamd.prog W 0 (fun _ => true) true Yamd.f5.params.toList args.toList ds p := hA0
  rw [Yamd.params5] at hA hval hsz
  obtain ⟨v0, d0, rfl, rfl, h0⟩ := trodAll_one hA
  obtain ⟨rfl, rfl⟩ := trodVars_none hV
  obtain ⟨cs, rfl, hcs⟩ := okWide_struct Yamd.underlying24 (hval 0 24 v0 rfl rfl)
  rw [Yamd.cells24] at hcs
  have h0k := h0
  obtain ⟨fuel, hf⟩ := h0
  clear hA0 hval0
  simp only [List.append_nil] at hW'
  obtain ⟨c, rfl⟩ : ∃ c, cs = #[c] := by
    rcases cs with ⟨l⟩
    match l, hcs with
    | [c], _ => exact ⟨c, rfl⟩
  simp only [Value.cells] at hf
  obtain ⟨xs, k, hk, hxy, _, hxl, hfs⟩ := DataW.trod_struct Yamd.underlying24 hf
  obtain ⟨y, rfl⟩ : ∃ y, xs = [y] := by
    match xs, hxl with
    | [y], _ => exact ⟨y, rfl⟩
  have g0 := hfs 0 _ rfl
  simp [Yamd.cells22] at g0
  simp only [Prod.mk.injEq] at hxy
  obtain ⟨hd, hp⟩ := hxy
  obtain ⟨ts, hts⟩ := src_tasks g0 (fun n hn => by
    have hm : n ∈ DataW.weightsEach Yamd.prog [24] [d0] := by
      rw [hd]
      simp only [List.map_cons, List.map_nil, DataW.weightsEach, DataW.weights, Yamd.underlying24, List.mem_append]
      exact .inl (.inl hn)
    have := List.all_eq_true.1 hsz n (by
      have hvt : Rows.orderRightSpec.plain.varTypes Yamd.prog = [] := by kernel_rfl
      rw [hvt]
      simpa using hm)
    simpa using this)
  have hlt : ∀ x ∈ p, x.block < W.heap.size := fun x hx => by simpa using hW'.lt x hx
  refine (OrderRight_any W c ts hts).mono fun e W' ⟨he, hnx⟩ => ?_
  subst he
  refine ⟨_, rfl, _, _, _, [], p, [], hW', ?_, ?_, rfl, hnx.frame _, fun h => by cases h⟩
  · exact trodAll_mk1 (shut_bool Yamd.underlying4 true)
  · exact trodAll_mk1 (Below.trod Yamd.laidOut (by kernel_rfl) (of_decide_eq_true (by kernel_rfl)) h0k hnx hlt)

theorem orderRight_proved : Rows.OrderRightSaid :=
  OpenClaim.holds_of_wide 5 Yamd.f5 rfl rfl rfl rfl rfl rfl rfl ⟨rfl, rfl, rfl, rfl, rfl⟩ rfl rfl rfl rfl rfl (by kernel_rfl) Yamd.func5 (by kernel_rfl)
    (of_decide_eq_true (by kernel_rfl)) (by unfold Func.isWrapper; first | (rw [if_pos (by decide +kernel)]; kernel_rfl) | (rw [if_neg (by decide +kernel)]; exact ⟨rfl, rfl⟩))
    (fun os started H enc _ => orderRight_lifted os started H enc)

end Go.Proofs.Ygdamg
