import Derived.Test.YgdamgLawWalk
import Derived.ProofKit
import Derived.SizedLaws
import Derived.Deep.Slices
namespace Go.Proofs.Ygdamg
set_option linter.unusedVariables false
set_option linter.unusedSimpArgs false
open Go.ChangeShapes Go.WideShapes Go.ChangeAt Go.RowKit Go.Deep

theorem Yamd.bytes42 : Yamd.prog.bytesOf 42 = 40 := by kernel_rfl
theorem Yamd.bytes3 : Yamd.prog.bytesOf 3 = 8 := by kernel_rfl

theorem weights_mem_all {H : Type} {P : Program} {e : TypeId} : ∀ {ds : List (DataW H)} {d : DataW H}, d ∈ ds → ∀ n ∈ d.weights P e, n ∈ DataW.weightsAll P e ds
  | d0 :: ds, d, hd, n, hn => by
    simp only [DataW.weightsAll, List.mem_append]
    simp only [List.mem_cons] at hd
    rcases hd with rfl | hd
    · exact .inl hn
    · exact .inr (weights_mem_all hd n hn)
  | [], d, hd, _, _ => by simp at hd

/-- The ints that a slice in a cell holds. -/
theorem src_ints {H : Type} {enc : TypeId × Value → H} {W : World} {fuel : Nat} {c : Value} {y : DataW H × List MemPlace} (h : DataW.trod enc Yamd.prog W 0 (fun _ => true) true fuel 38 [c] = some y)
    (hw : ∀ n ∈ y.1.weights Yamd.prog 38, n ≤ reachBytes) : ∃ l, SrcInts W c l := by
  rcases open_ints Yamd.underlying38 Yamd.underlying3 Yamd.cells3 h with ⟨hcs, _⟩ | ⟨a, len, cap, zs, hcs, _, hl, hm, hz, hx, hcell, _⟩
  · simp at hcs
    exact ⟨[], by simp, .inl ⟨hcs, rfl⟩⟩
  · simp only [if_true] at hz
    simp at hcs
    subst hcs
    have hl' : (zs.take len).length = len := by simp; omega
    refine ⟨zs.take len, ?_, .inr ⟨a, cap, by rw [hl'], fun k hk => ?_⟩⟩
    · have := hw ((len + (cap - len)) * 8) (by rw [hx]; simp [DataW.weights, Yamd.underlying38, Yamd.bytes3, lits, hz, Nat.min_eq_left hl])
      simp only [reachBytes] at this
      omega
    · rw [hl'] at hk
      rw [hcell k (by omega)]
      simp [List.getD_eq_getElem?_getD, List.getElem?_take, hk]

theorem src_tasks {H : Type} {enc : TypeId × Value → H} {W : World} {fuel : Nat} {c : Value} {y : DataW H × List MemPlace} (h : DataW.trod enc Yamd.prog W 0 (fun _ => true) true fuel 22 [c] = some y)
    (hw : ∀ n ∈ y.1.weights Yamd.prog 22, n ≤ reachBytes) : ∃ ts, SrcTasks W c ts := by
  rcases open_slice Yamd.underlying22 h with ⟨hcs, _⟩ | ⟨a, len, cap, m, n, D, Pl, hcs, _, hl, hm, hmm, hx, hel⟩
  · simp at hcs
    exact ⟨[], by simp, .inl ⟨hcs, rfl⟩⟩
  · simp only [if_true] at hmm
    subst hmm
    simp at hcs
    subst hcs
    rw [Yamd.cells42] at hel
    have hwt : ∀ i, i < len → ∀ n ∈ (D i).weights Yamd.prog 42, n ≤ reachBytes := fun i hi n hn => by
      apply hw
      rw [hx]
      simp only [DataW.weights, Yamd.underlying22, List.mem_cons, List.mem_append]
      exact .inr (.inl (weights_mem_all (List.mem_map.2 ⟨i, by simpa using hi, rfl⟩) n hn))
    have hlen : len ≤ 3518437208883 := by
      have := hw ((len + (m - len)) * 40) (by rw [hx]; simp [DataW.weights, Yamd.underlying22, Yamd.bytes42])
      simp only [reachBytes] at this
      omega
    have each : ∀ i, ∃ t : Tk, i < len → W.cell? (a.add (i * 3)) = some (.int .i64 t.op) ∧ W.cell? (a.add (i * 3 + 1)) = some (.int .i64 t.arg) ∧ ∃ dv, W.cell? (a.add (i * 3 + 2)) = some dv ∧ SrcInts W dv t.deps := fun i => by
      by_cases hi : i < len
      · obtain ⟨cs', h1, h2⟩ := hel i (by omega)
        obtain ⟨_, hlen', hcell⟩ := World.cells?_some h1
        obtain ⟨xs, k, hk, hxy, _, hxl, hf⟩ := DataW.trod_struct Yamd.underlying42 h2
        match xs, hxl, cs', hlen' with
        | [y0, y1, y2], _, [v0, v1, v2], _ =>
          have g0 := hf 0 _ rfl
          have g1 := hf 1 _ rfl
          have g2 := hf 2 _ rfl
          simp [Yamd.cells3, Yamd.cells38] at g0 g1 g2
          have e0 := hcell 0 (by omega)
          have e1 := hcell 1 (by omega)
          have e2 := hcell 2 (by omega)
          rw [Deep.add_add] at e0 e1 e2
          obtain ⟨o, ho, _, _⟩ := DataW.trod_int Yamd.underlying3 g0
          obtain ⟨r, hr, _, _⟩ := DataW.trod_int Yamd.underlying3 g1
          simp at ho hr
          subst ho hr
          simp only [Prod.mk.injEq] at hxy
          obtain ⟨l, hl3⟩ := src_ints g2 (fun n hn => by
            apply hwt i hi
            rw [hxy.1]
            simp only [List.map_cons, List.map_nil, DataW.weights, Yamd.underlying42, DataW.weightsEach, List.mem_append]
            exact .inr (.inr (.inl hn)))
          exact ⟨⟨o, r, l⟩, fun _ => ⟨by simpa using e0, by simpa using e1, v2, by simpa using e2, hl3⟩⟩
      · exact ⟨nilTk, fun h => absurd h hi⟩
    obtain ⟨T, hT⟩ : ∃ T : Nat → Tk, ∀ i, i < len → W.cell? (a.add (i * 3)) = some (.int .i64 (T i).op) ∧ W.cell? (a.add (i * 3 + 1)) = some (.int .i64 (T i).arg) ∧ ∃ dv, W.cell? (a.add (i * 3 + 2)) = some dv ∧ SrcInts W dv (T i).deps := ⟨fun i => Classical.choose (each i), fun i => Classical.choose_spec (each i)⟩
    have hll : ((List.range len).map T).length = len := by simp
    refine ⟨(List.range len).map T, by rw [hll]; exact hlen, .inr ⟨a, m, by rw [hll], fun k hk => ?_⟩⟩
    rw [hll] at hk
    have e : ((List.range len).map T).getD k nilTk = T k := by simp [List.getD_eq_getElem?_getD, hk]
    rw [e]
    exact hT k hk
end Go.Proofs.Ygdamg
