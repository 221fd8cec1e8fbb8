import Derived.Test.YgdamgPush
namespace Go.Proofs.Ygdamg
set_option linter.unusedVariables false
set_option linter.unusedSimpArgs false
open Go.RowKit

set_option maxHeartbeats 1000000 in
theorem pop_some (w : World) (b g hd n p : Nat) (cs : List Int) (l : List Int) (x : Int) (hgb : g ≠ b) (h0 : 0 < cs.length) (h1 : cs.length ≤ 48) (h2 : hd < cs.length) (hn : n = l.length) (hp : p = (hd + 1) % cs.length) (hx : cs.getD hd 0 = x)
    (hq : QAt w b (x :: l) (some g)) (hln : l.length < 48)
    (hr : Row w b 54 [.slice (some ⟨g, 0, none⟩) cs.length cs.length, .int .i64 (hd : Nat), .int .i64 ((n + 1 : Nat) : Int)]) (hg : Row w g 3 (intVals cs)) :
    Calls Yamd.prog 33 #[.pointer (some ⟨b, 0, none⟩)] w fun e w' => e = .returned (.int .i64 x) ∧ Kept [b, g] w w' ∧
      Row w' b 54 [.slice (some ⟨g, 0, none⟩) cs.length cs.length, .int .i64 (p : Nat), .int .i64 (n : Nat)] ∧ Row w' g 3 (intVals (cs.set hd 0)) := by
  have hm : p < cs.length := by rw [hp]; exact Nat.mod_lt _ h0
  have ht1 : ((hd : Int) + 1) % (cs.length : Int) = (p : Int) := by rw [hp]; simp
  have ht2 : ((hd : Int) + 1).tmod (cs.length : Int) = (p : Int) := by rw [Int.tmod_eq_emod_of_nonneg (by omega)]; exact ht1
  have hz : ((cs.length : Int) == 0) = false := beq_eq_false_iff_ne.2 (by omega)
  have hcs : ¬ cs = [] := by intro e; rw [e] at h0; simp at h0
  have hz1 : (cs.length : Int) ≠ 0 := by omega
  have hwr : IntKind.i64.wrap ((hd : Int) + 1) = (hd : Int) + 1 := by rw [IntKind.wrap_i64]; omega
  have hI0 : (0 : Int) ≤ (hd : Int) := by omega
  have hI1 : (hd : Int) < (cs.length : Int) := by omega
  have he : ((((x :: l).length : Nat) : Int) == 0) = false := beq_eq_false_iff_ne.2 (by simp; omega)
  have c0 := hr.cell (k := 0) rfl
  have c1 := hr.cell (k := 1) rfl
  have hp0 : w.cell? ⟨g, hd, none⟩ = some (.int .i64 x) := by rw [← hx]; exact hg.cell (intVals_get cs _ h2)
  clear hp hx
  have HQ : Hid (QAt w b (x :: l) (some g)) := hq
  clear hq
  go_enter Yamd.func33, Yamd.ntmps33
  go_wp2_with (go_at_call 32; refine (qempty_any _ b (x :: l) (some g) HQ.out).mono ?_; rw [he]; rintro e w' ⟨rfl, hw'⟩; rw [hw']; clear hw' w')
  go_quiet (fail)
  go_wp2
  obtain ⟨W, hW⟩ : ∃ W, W = w.drewN nq := ⟨_, rfl⟩
  have hkW : Kept [] w W := by rw [hW]; exact (Kept.refl _ _).drewN _
  have hrW : Row W b 54 [.slice (some ⟨g, 0, none⟩) cs.length cs.length, .int .i64 (hd : Nat), .int .i64 ((n + 1 : Nat) : Int)] := by rw [hW]; exact hr
  have hgW : Row W g 3 (intVals cs) := by rw [hW]; exact hg
  rw [← hW]
  clear hW hr hg c0 c1 hp0
  have c0 := hrW.cell (k := 0) rfl
  have c1 := hrW.cell (k := 1) rfl
  have hp0 := hgW.cell (intVals_get cs _ h2)
  have hpf := hgW.free hd
  go_region_held3 (fun w' => w'.cell? ⟨b, 0, none⟩ = some (.slice (some ⟨g, 0, none⟩) cs.length cs.length) ∧ w'.cell? ⟨b, 0 + 1, none⟩ = some (.int .i64 (hd : Nat))) (go_keep) (fail)
  have hkV : Kept [b, g] w (W.setCell ⟨g, hd, none⟩ (.int .i64 0)).drew := ((hkW.mono (by simp)).setCell (by simp) _).drew
  have hrV : Row (W.setCell ⟨g, hd, none⟩ (.int .i64 0)).drew b 54 [.slice (some ⟨g, 0, none⟩) cs.length cs.length, .int .i64 (hd : Nat), .int .i64 ((n + 1 : Nat) : Int)] := hrW.other hgb _
  have hgV : Row (W.setCell ⟨g, hd, none⟩ (.int .i64 0)).drew g 3 (intVals (cs.set hd 0)) := by
    have := hgW.set hd (.int .i64 0)
    rw [show (intVals cs).set hd (.int .i64 0) = intVals (cs.set hd 0) from by simp [intVals, List.map_set]] at this
    exact this
  obtain ⟨V, hV⟩ : ∃ V, V = (W.setCell ⟨g, hd, none⟩ (.int .i64 0)).drew := ⟨_, rfl⟩
  rw [← hV] at hkV hrV hgV ⊢
  clear hV c0 c1 hp0 hpf hkW hrW hgW
  have c0 := hrV.cell (k := 0) rfl
  have c1 := hrV.cell (k := 1) rfl
  have f1 := hrV.free 1
  go_wp2
  go_region
  have hkU : Kept [b, g] w (V.setCell ⟨b, 1, none⟩ (.int .i64 (p : Nat))).drew := (hkV.setCell (by simp) _).drew
  have hrU : Row (V.setCell ⟨b, 1, none⟩ (.int .i64 (p : Nat))).drew b 54 [.slice (some ⟨g, 0, none⟩) cs.length cs.length, .int .i64 (p : Nat), .int .i64 ((n + 1 : Nat) : Int)] := hrV.set 1 _
  have hgU : Row (V.setCell ⟨b, 1, none⟩ (.int .i64 (p : Nat))).drew g 3 (intVals (cs.set hd 0)) := hgV.other (Ne.symm hgb) _
  obtain ⟨U, hU⟩ : ∃ U, U = (V.setCell ⟨b, 1, none⟩ (.int .i64 (p : Nat))).drew := ⟨_, rfl⟩
  rw [← hU] at hkU hrU hgU ⊢
  clear hU c0 c1 f1 hkV hrV hgV ht1 ht2 hwr
  have c2 := hrU.cell (k := 2) rfl
  have f2 := hrU.free 2
  have ec : ((n + 1 : Nat) : Int) = (n : Int) + 1 := by omega
  rw [ec] at c2
  clear ec
  have hr5 := hrU.set 2 (.int .i64 (n : Nat))
  have hg5 := hgU.other (a := ⟨b, 2, none⟩) (Ne.symm hgb) (.int .i64 (n : Nat))
  have hk5 := hkU.setCell (p := ⟨b, 2, none⟩) (by simp) (.int .i64 (n : Nat))
  simp only [List.set] at hr5
  have hnl : n ≤ 48 := by omega
  clear hn
  go_wp2
  go_ret
  exact ⟨rfl, hk5, hr5, hg5⟩

theorem pop_any (w : World) (b : Nat) (x : Int) (l : List Int) (G : Option Nat) (h : QAt w b (x :: l) G) :
    Calls Yamd.prog 33 #[.pointer (some ⟨b, 0, none⟩)] w fun e w' => e = .returned (.int .i64 x) ∧ Kept (b :: G.toList) w w' ∧ QAt w' b l G := by
  have h' := h
  rcases h with ⟨_, h, _⟩ | ⟨g, cs, hd, rfl, hgb, h0, h1, h2, h3, hring, hr, hg⟩
  · cases h
  · simp only [List.length_cons] at h3
    obtain ⟨hx, hring'⟩ := ring_pop hring h2 (by omega)
    refine (pop_some w b g hd l.length _ cs l x hgb h0 h1 h2 rfl rfl hx h' (by omega) hr hg).mono ?_
    rintro e w' ⟨rfl, hk, q1, q2⟩
    refine ⟨rfl, hk, .inr ⟨g, cs.set hd 0, _, rfl, hgb, by simpa using h0, by simpa using h1, ?_, by simp; omega, hring', by simpa using q1, q2⟩⟩
    rw [List.length_set]; exact Nat.mod_lt _ h0
end Go.Proofs.Ygdamg
