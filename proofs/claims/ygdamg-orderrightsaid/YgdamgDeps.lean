import Derived.Test.YgdamgDepInv
namespace Go.Proofs.Ygdamg
set_option linter.unusedVariables false
set_option linter.unusedSimpArgs false
open Go.RowKit

theorem two_one (x y : Value) (hx : x.oneCell' = true) (hy : y.oneCell' = true) : ∀ u ∈ [x, y], u.oneCell' = true := by
  intro u hu; simp at hu; rcases hu with rfl | rfl <;> assumption

set_option maxHeartbeats 400000 in
theorem deps_nil (w : World) (ao : Option Addr) (cap : Nat) :
    Calls Yamd.prog 29 #[.agg #[.slice ao 0 cap]] w fun e w' => e = .returned (.slice none 0 0) ∧ Below w.heap.size w w' := by
  go_enter Yamd.func29, Yamd.ntmps29
  go_wp2
  go_ret
  exact ⟨rfl, (Below.refl _ _).alloc (Nat.le_refl _) _⟩

set_option maxHeartbeats 2000000 in
theorem deps_some (w : World) (B g cap : Nat) (ts : List Tk) (hB : B ≤ w.heap.size) (h : Tasks w B (.slice (some ⟨g, 0, none⟩) ts.length cap) ts) (hg : g < B) (hn0 : 0 < ts.length)
    (hn : ts.length ≤ 24) (hdl : ∀ k, k < ts.length → (ts.getD k nilTk).deps.length ≤ 4) (hr : ∀ k, k < ts.length → ∀ d ∈ (ts.getD k nilTk).deps, 0 ≤ d ∧ d < ts.length) :
    Calls Yamd.prog 29 #[.agg #[.slice (some ⟨g, 0, none⟩) ts.length cap]] w fun e w' =>
      (∃ g', e = .returned (.slice (some ⟨g', 0, none⟩) ts.length ts.length) ∧ Readers w' w'.heap.size g' ts.length (rdrs (edgesTo ts ts.length))) ∧ Below w.heap.size w w' := by
  have hz : ((ts.length : Int) == 0) = false := beq_eq_false_iff_ne.2 (by omega)
  go_enter Yamd.func29, Yamd.ntmps29
  go_wp2
  have hT1 : ∀ wr, Below (w.heap.size + 1) (w.alloc (.cells #[.slice (some ⟨g, 0, none⟩) ts.length cap] 24)) wr → ∀ k, k < ts.length → wr.cell? ⟨g, k * 3, none⟩ = some (.int .i64 (ts.getD k nilTk).op) ∧
      wr.cell? ⟨g, k * 3 + 1, none⟩ = some (.int .i64 (ts.getD k nilTk).arg) ∧ ∃ dv, wr.cell? ⟨g, k * 3 + 2, none⟩ = some dv ∧ Ints wr B dv (ts.getD k nilTk).deps := by
    intro wr hb k hk
    obtain ⟨_, ⟨e, _⟩ | ⟨g', cap', e, _, hc⟩⟩ := h.below ((box_below hb).mono hB)
    · simp at e
    · simp only [Value.slice.injEq, Option.some.injEq, Addr.mk.injEq, and_true, true_and] at e
      obtain ⟨rfl, rfl⟩ := e
      exact hc k hk
  have HT1 : Hid _ := hT1
  clear hT1
  go_loopw [3, 20] (fun tt i wr => ∃ (k tot : Nat), k ≤ ts.length ∧ i = .int .i64 k ∧ tt = .int .i64 tot ∧ tot ≤ 4 * k ∧ Below (w.heap.size + 1) (w.alloc (.cells #[.slice (some ⟨g, 0, none⟩) ts.length cap] 24)) wr) (fun _ i _ => ts.length - (intOf i).toNat)
  case atStart => exact ⟨0, 0, Nat.zero_le _, rfl, rfl, Nat.le_refl _, Below.refl _ _⟩
  case round =>
    obtain ⟨k, tot, hk, rfl, rfl, htot, hb⟩ := hrel
    have hs := box_size hb
    have hbox := box_later hb
    have hs1 : w.heap.size < wr.heap.size := hs
    by_cases hlt : k < ts.length
    · obtain ⟨h1, h2, dv, h3, h4⟩ := HT1.out wr hb k hlt
      have hl4 := hdl k hlt
      obtain ⟨a, c, rfl⟩ := h4.form
      clear h4
      generalize hT : ts.getD k nilTk = T at *
      have HT := (show Hid _ from hT); clear hT
      go_wp2
      go_roundw
      case rel => exact ⟨k + 1, tot + T.deps.length, by omega, by go_num, by go_num, by omega, hb.alloc hs _⟩
      case measure => simp [intOf]; omega
    · obtain ⟨i0, hi, hz0, hz1, hz2⟩ := info_parts Yamd.info3
      go_wp2_with (first | (at_make; refine wpList_make_own _ rfl (.const (.int .i64 0)) (.tmp 31) 38 rfl wr.heap.size 3 i0 (.int .i64 0) 1 Yamd.underlying38 hi hz0 hz1 .i64 .i64 _ (2 * tot) rfl rfl (by omega) (by rw [hz2]; omega) (by unfold maxLen; omega) (Nat.le_refl _) ?_; intro w1 hown1 hgrow1; have hbox1 := grown_cell hgrow1 hbox) | (at_make; refine wpList_make_row _ rfl (.tmp 35) (.tmp 35) 38 rfl 3 (.int .i64 0) Yamd.underlying38 8 Yamd.info3 rfl .i64 .i64 _ _ ts.length rfl rfl (by omega) (by omega) (by omega) (by unfold maxLen; omega) ?_; intro w2 hC2 hk2 hsz2; have hbox2 : w2.cell? ⟨w.heap.size, 0, none⟩ = _ := (World.cell?_of_block (hk2.block w.heap.size (by have := hgrow1.size; omega) (by simp))).trans hbox1; have hs2 : w.heap.size < w2.heap.size := (by have := hgrow1.size; omega); have hs12 : w1.heap.size < w2.heap.size := (by omega); clear hsz2))
      have hlt1 := hown1.lt wr.heap.size rfl
      have hb2 : Below w1.heap.size w1 w2 := hk2.below (Nat.le_refl _) (by simp)
      have hinv : DepInv wr.heap.size w1.heap.size w2.heap.size ts.length wr (w2.alloc (.cells #[.map none, .slice none 0 0] 57)) [] [] [] [] (some ⟨wr.heap.size, 0, none⟩) (2 * tot) := by
        refine ⟨(owns_below hown1 hb2).alloc _, by rw [cntVals_nil]; exact hC2.alloc _, .inl ⟨rfl, rfl, row_new w2 [.map none, .slice none 0 0] 57⟩, fun a ha => ?_, ⟨by omega, by simp⟩, by simp, ⟨by omega, by omega⟩, ?_⟩
        · simp at ha
          subst ha
          exact ⟨by show wr.heap.size ≠ w1.heap.size; omega, by show wr.heap.size ≠ w2.heap.size; omega, by simp⟩
        · exact ((grown_below hgrow1).trans (hb2.mono (by omega))).alloc (by omega) _
      clear hown1 hgrow1 hC2 hk2 hb2 hbox1 hbox2
      obtain ⟨wl, hwl⟩ : ∃ wl, wl = wr := ⟨_, rfl⟩
      rw [← hwl] at hinv hb hs hbox hs1 hlt1 ⊢
      clear hwl
      have hNs : wl.heap.size ≤ w1.heap.size ∧ w1.heap.size < w2.heap.size := ⟨by omega, hs12⟩
      go_loopw [6, 40] (fun ev i wx => ∃ (k : Nat) (ks : List Int) (F : List Nat) (eo : Option Addr) (ecap : Nat), k ≤ ts.length ∧ i = .int .i64 k ∧ ev = .slice eo (2 * (edgesTo ts k).length) ecap ∧ ks.length ≤ 1000 ∧
          DepInv wl.heap.size w1.heap.size w2.heap.size ts.length wl wx (edgesTo ts k) (edgesTo ts k) ks F eo ecap) (fun _ i _ => ts.length - (intOf i).toNat)
      case atStart => exact ⟨0, [], [], _, _, Nat.zero_le _, rfl, rfl, by simp, hinv⟩
      case round =>
        clear hinv
        obtain ⟨k, ks, F, eo, ecap, hk, rfl, rfl, hks, hinv⟩ := hrel
        have hbx : Below (w.heap.size + 1) (w.alloc (.cells #[.slice (some ⟨g, 0, none⟩) ts.length cap] 24)) wr := hb.trans (hinv.below.mono hs)
        have hsx := box_size hbx
        have hbox' := box_later hbx
        have hs1' : w.heap.size < wr.heap.size := hsx
        have hEl := edgesTo_length ts hdl k hk
        by_cases hlt2 : k < ts.length
        · obtain ⟨h1, h2, dv, h3, h4⟩ := HT1.out wr hbx k hlt2
          have hl4 := hdl k hlt2
          have hrk := hr k hlt2
          have HES : Hid (edgesTo ts (k + 1) = edgesTo ts k ++ edgesOf k (ts.getD k nilTk).deps) := edgesTo_succ ts k
          obtain ⟨T, hT⟩ : ∃ T, T = ts.getD k nilTk := ⟨_, rfl⟩
          rw [← hT] at h1 h2 h4 hl4 hrk HES
          clear hT
          obtain ⟨a, c, hdv⟩ := h4.form
          subst hdv
          obtain ⟨E, hE⟩ : ∃ E, E = edgesTo ts k := ⟨_, rfl⟩
          rw [← hE] at hEl HES hinv ⊢
          have HE : Hid (E = edgesTo ts k) := hE
          clear hE
          obtain ⟨_, hc0l, hs0l, hFl, hNl⟩ := hinv.lt
          have hinv1 := hinv.alloc (.cells #[.int .i64 T.op, .int .i64 T.arg, .slice a T.deps.length c] 42)
          have htb1 := TBox.mk_new hinv [.int .i64 T.op, .int .i64 T.arg, .slice a T.deps.length c]
          have hI1 := h4.below (((Below.refl _ wr).alloc (Nat.le_refl _) (.cells #[.int .i64 T.op, .int .i64 T.arg, .slice a T.deps.length c] 42)).mono (by omega : B ≤ wr.heap.size))
          have HINV1 : Hid (_ ∧ _ ∧ _) := ⟨hinv1, htb1, hI1⟩
          clear hinv hinv1 htb1 hI1 h4
          go_wp2_with fail
          refine (clear_any _ w2.heap.size ks F HINV1.out.1.set hks).mono ?_
          rintro e w3 ⟨rfl, hk3, hS3⟩
          obtain ⟨hinv1, htb1, hI1⟩ := HINV1.out
          clear HINV1
          have hinv3 := hinv1.setStep hk3 hS3 (fun x hx => .inl hx)
          have htb3 := htb1.setStep hk3 (fun x hx => .inl hx)
          have hI3 := hI1.below (hk3.below (B := B) (by simp; omega) (by
            intro x hx
            simp at hx
            rcases hx with rfl | hx
            · omega
            · have := hinv1.lowF x hx; omega))
          have t2 := htb3.row.cell (k := 2) rfl
          have hs3 : w.heap.size + 1 ≤ w3.heap.size := by have := hk3.size; simp at this; omega
          clear hk3 hS3 hinv1 htb1 hI1
          have HI3 : Hid (_ ∧ _ ∧ _) := ⟨hinv3, htb3, hI3⟩
          clear hinv3 htb3 hI3
          go_wp2
          obtain ⟨tb, htb⟩ : ∃ tb, tb = wr.heap.size := ⟨_, rfl⟩
          rw [← htb] at HI3 t2 ⊢
          clear htb h1 h2 h3 hbx hsx hbox' hs1' hc0l hs0l hFl hNl hks
          obtain ⟨l, hl⟩ : ∃ l, l = T.deps := ⟨_, rfl⟩
          rw [← hl] at HI3 t2 hl4 hrk HES ⊢
          clear hl
          go_loopw [6, 49] (fun ev i wx => ∃ (j : Nat) (ks : List Int) (F : List Nat) (eo : Option Addr) (ecap : Nat), j ≤ l.length ∧ i = .int .i64 j ∧ ev = .slice eo (2 * (E ++ edgesOf k (l.take j)).length) ecap ∧ (l.length ≠ 1 → ks = uniq (l.take j)) ∧ ks.length ≤ 4 ∧
              DepInv wl.heap.size w1.heap.size w2.heap.size ts.length wl wx (E ++ edgesOf k (l.take j)) (E ++ edgesOf k (l.take j)) ks F eo ecap ∧
              TBox wl.heap.size w1.heap.size w2.heap.size tb wx F eo [.int .i64 T.op, .int .i64 T.arg, .slice a l.length c] ∧ Ints wx B (.slice a l.length c) l) (fun _ i _ => l.length - (intOf i).toNat)
          case atStart =>
            have e0 : E ++ edgesOf k (l.take 0) = E := by simp [edgesOf, uniq]
            exact ⟨0, [], F, eo, ecap, Nat.zero_le _, rfl, by rw [e0], fun _ => by simp [uniq], by simp, by rw [e0]; exact HI3.out.1, HI3.out.2.1, HI3.out.2.2⟩
          case round =>
            clear HI3 t2
            obtain ⟨j, ks', F', eo', ecap', hj, rfl, rfl, hkk, hkl, hinv, htb, hI⟩ := hrel
            have hEo := edgesOf_length k (l.take j)
            have hElj : (E ++ edgesOf k (l.take j)).length ≤ 200 := by rw [List.length_append]; simp at hEo; omega
            by_cases hlt3 : j < l.length
            · obtain ⟨_, ⟨_, hnil⟩ | ⟨g2, cap2, e2, hg2, hc2⟩⟩ := hI
              · rw [hnil] at hlt3; simp at hlt3
              simp only [Value.slice.injEq, true_and] at e2
              obtain ⟨rfl, rfl⟩ := e2
              have h6 := hc2 j hlt3
              have hI' : Ints wr B (.slice (some ⟨g2, 0, none⟩) l.length c) l := ⟨by omega, .inr ⟨g2, c, rfl, hg2, hc2⟩⟩
              have hm := hrk _ (getD_mem l 0 j hlt3)
              have hbx : Below (w.heap.size + 1) (w.alloc (.cells #[.slice (some ⟨g, 0, none⟩) ts.length cap] 24)) wr := hb.trans (hinv.below.mono hs)
              have hbox' := box_later hbx
              have t2 := htb.row.cell (k := 2) rfl
              obtain ⟨dn, hdn⟩ : ∃ dn : Nat, l.getD j 0 = dn := ⟨(l.getD j 0).toNat, by omega⟩
              have HIn : Hid (l.getD j 0 ∈ uniq (l.take j) → _) := edgesOf_in (k := k) hlt3
              have HOut : Hid (l.getD j 0 ∉ uniq (l.take j) → _) := edgesOf_out (k := k) hlt3
              rw [hdn] at h6 hm HIn HOut
              rw [Int.toNat_natCast] at HOut
              obtain ⟨hm0, hm1⟩ := hm
              have hdec1 : decide ((0 : Int) ≤ (dn : Int)) = true := by simp
              have hdec2 : decide ((dn : Int) < (ts.length : Int)) = true := by simpa using hm1
              have hdec3 : decide (dn < ts.length) = true := by simp; omega
              clear hc2 hdn hbx hrk
              obtain ⟨Ej, hEj⟩ : ∃ Ej, Ej = E ++ edgesOf k (l.take j) := ⟨_, rfl⟩
              rw [← hEj] at hinv hElj ⊢
              have HEj : Hid (Ej = E ++ edgesOf k (l.take j)) := hEj
              clear hEj
              have hcl := cnt_le Ej dn
              have hNl := hinv.lt.2.2.2.2
              -- the append and the count, behind whatever the test has done
              have hfin : ∀ (W : World) (ks5 : List Int) (F5 : List Nat), DepInv wl.heap.size w1.heap.size w2.heap.size ts.length wl W Ej Ej ks5 F5 eo' ecap' →
                  TBox wl.heap.size w1.heap.size w2.heap.size tb W F5 eo' [.int .i64 T.op, .int .i64 T.arg, .slice (some ⟨g2, 0, none⟩) l.length c] → Ints W B (.slice (some ⟨g2, 0, none⟩) l.length c) l →
                  ∀ (X : Obj) (w8 : World) (g8 cap8 : Nat), w8.ownsRow wl.heap.size 3 1 (.slice (some ⟨g8, 0, none⟩) (2 * Ej.length + 2) cap8) (2 * Ej.length + 2) (flat Ej ++ [.int .i64 (dn : Nat), .int .i64 (k : Nat)]) →
                  (W.alloc X).grownBy w8 (Value.slice eo' (2 * Ej.length) ecap').ownBlock → ((Value.slice eo' (2 * Ej.length) ecap').ownBlock = some g8 ∨ g8 = W.heap.size + 1) →
                  DepInv wl.heap.size w1.heap.size w2.heap.size ts.length wl (w8.setCell ⟨w1.heap.size, dn, none⟩ (.int .i64 ((cnt Ej dn : Nat) + 1))) (Ej ++ [(dn, k)]) (Ej ++ [(dn, k)]) ks5 F5 (some ⟨g8, 0, none⟩) cap8 ∧
                  TBox wl.heap.size w1.heap.size w2.heap.size tb (w8.setCell ⟨w1.heap.size, dn, none⟩ (.int .i64 ((cnt Ej dn : Nat) + 1))) F5 (some ⟨g8, 0, none⟩) [.int .i64 T.op, .int .i64 T.arg, .slice (some ⟨g2, 0, none⟩) l.length c] ∧
                  Ints (w8.setCell ⟨w1.heap.size, dn, none⟩ (.int .i64 ((cnt Ej dn : Nat) + 1))) B (.slice (some ⟨g2, 0, none⟩) l.length c) l ∧
                  w8.cell? ⟨w1.heap.size, dn, none⟩ = some (.int .i64 (cnt Ej dn : Nat)) ∧ w8.frozen? ⟨w1.heap.size, dn, none⟩ = false := by
                intro W ks5 F5 i5 t5 n5 X w8 g8 cap8 ho hg ha
                obtain ⟨r1, r2, r3⟩ := i5.edge (p := (dn, k)) ho hg ha
                have ec : (((cnt Ej (dn, k).1 + 1 : Nat)) : Int) = (cnt Ej dn : Nat) + 1 := by simp
                rw [ec] at r1 r2
                refine ⟨r1, r2 _ _ t5, n5.below ?_, r3.cell (cntVals_get _ _ _ (by omega)), r3.free _⟩
                have hl5 := i5.lt
                refine (((Below.refl B W).alloc (by omega) X).grown hg (by simp; omega) (fun q e => ?_)).setCell (by show B ≤ w1.heap.size; omega) _
                cases eo' with
                | none => simp [Value.ownBlock] at e
                | some a' => have := (hl5.1 a' rfl).1; simp [Value.ownBlock] at e; omega
              have HFIN : Hid _ := hfin
              clear hfin
              have HNI : Hid (_ ∧ _ ∧ _) := ⟨hinv, htb, hI'⟩
              clear hinv htb hI'
              by_cases hl1 : l.length = 1
              · have hj0 : j = 0 := by omega
                have hnin : (dn : Int) ∉ uniq (l.take j) := by rw [hj0]; simp [uniq]
                have HOUT2 : Hid _ := HOut.out hnin
                have hb1 : ((l.length : Int) == 1) = true := beq_iff_eq.2 (by omega)
                have HL1 : Hid (l.length = 1) := hl1
                have hll : l.length ≤ 1 := by omega
                have HJ0 : Hid (j = 0) := hj0
                clear hnin HIn HOut hkk hl1 hj0
                obtain ⟨WW, hWW⟩ : ∃ WW, WW = wr := ⟨_, rfl⟩
                rw [← hWW] at HNI h6 hbox' t2 hNl ⊢
                clear hWW
                have HW : Hid (_ ∧ _ ∧ _) := HNI.out
                clear HNI
                go_wp2_with (at_builtin; (refine wpList_append_lies _ rfl (.tmp 72) (.tmp 75) 38 rfl wl.heap.size 3 i0 (.int .i64 0) 1 8 Yamd.underlying38 hi hz0 hz1 hz2 rfl (by decide) (.slice eo' (2 * Ej.length) ecap') (2 * Ej.length) (flat Ej) rfl (World.ownsRow.alloc HW.out.1.edges _) ⟨WW.heap.size, 0, none⟩ 2 2 [.int .i64 (dn : Nat), .int .i64 (k : Nat)] rfl rfl (cell_two_new _ _ _ _) (two_one _ _ rfl rfl) (by omega) (by unfold maxLen; omega) (by omega) (by simp; omega) (WW.heap.size + 1) (by simp) ?_; intro g8 cap8 w8 hown8 hgrow8 hat8 hlt8; obtain ⟨r1, r2, r3, r4, r5⟩ := HFIN.out WW _ _ HW.out.1 HW.out.2.1 HW.out.2.2 _ w8 g8 cap8 hown8 hgrow8 hat8; have HR1 : Hid (_ ∧ _ ∧ _) := ⟨r1, r2, r3⟩; clear r1 r2 r3 hown8 hgrow8 hat8))
                go_roundw
                case rel =>
                  obtain ⟨e1, e2⟩ := HOUT2.out
                  have e3 : E ++ edgesOf k (l.take (j + 1)) = Ej ++ [(dn, k)] := by rw [e1, ← List.append_assoc, ← HEj.out]
                  refine ⟨j + 1, ks', F', some ⟨g8, 0, none⟩, cap8, by omega, by go_num, ?_, fun hne => absurd HL1.out hne, hkl, by rw [e3]; exact HR1.out.1, HR1.out.2.1, HR1.out.2.2⟩
                  rw [e3]; simp; omega
                case measure => simp [intOf]; omega
              · have hkk' := hkk hl1
                subst hkk'
                have hb1 : ((l.length : Int) == 1) = false := beq_eq_false_iff_ne.2 (by omega)
                clear hkk
                have hBs : B ≤ wr.heap.size := by omega
                have HlowF := HNI.out.1.lowF
                by_cases hin : (dn : Int) ∈ uniq (l.take j)
                · have hdb : (!decide ((dn : Int) ∈ uniq (l.take j))) = false := by simp [hin]
                  have HIN2 : Hid _ := HIn.out hin
                  go_wp2_with fail
                  refine (add_any _ w2.heap.size _ F' dn HNI.out.1.set (by omega)).mono ?_
                  rw [hdb, if_pos hin]
                  rintro e w5 ⟨rfl, hk5, F5, hS5, hF5⟩
                  have inv5 := HNI.out.1.setStep hk5 hS5 hF5
                  have tb5 := HNI.out.2.1.setStep hk5 hF5
                  have I5 := HNI.out.2.2.below (hk5.below hBs (by
                    intro x hx
                    simp at hx
                    rcases hx with rfl | hx
                    · omega
                    · have := HlowF x hx; omega))
                  have HW : Hid (_ ∧ _ ∧ _) := ⟨inv5, tb5, I5⟩
                  clear hk5 hS5 hF5 inv5 tb5 I5 HIn HOut hin hdb HlowF
                  go_wp2
                  go_roundw
                  case rel =>
                    obtain ⟨e1, e2⟩ := HIN2.out
                    refine ⟨j + 1, _, F5, eo', ecap', by omega, by go_num, by rw [e1, ← HEj.out], fun _ => e2.symm, by omega, by rw [e1, ← HEj.out]; exact HW.out.1, HW.out.2.1, HW.out.2.2⟩
                  case measure => simp [intOf]; omega
                · have hdb : (!decide ((dn : Int) ∈ uniq (l.take j))) = true := by simp [hin]
                  have HOUT2 : Hid _ := HOut.out hin
                  have hul := uniq_le j (l.take j) (by simp; omega)
                  go_wp2_with fail
                  refine (add_any _ w2.heap.size _ F' dn HNI.out.1.set (by omega)).mono ?_
                  rw [hdb, if_neg hin]
                  rintro e WW ⟨rfl, hk5, F5, hS5, hF5⟩
                  have inv5 := HNI.out.1.setStep hk5 hS5 hF5
                  have tb5 := HNI.out.2.1.setStep hk5 hF5
                  have I5 := HNI.out.2.2.below (hk5.below hBs (by
                    intro x hx
                    simp at hx
                    rcases hx with rfl | hx
                    · omega
                    · have := HlowF x hx; omega))
                  have HW : Hid (_ ∧ _ ∧ _) := ⟨inv5, tb5, I5⟩
                  have hNl5 := inv5.lt.2.2.2.2
                  clear hk5 hS5 hF5 inv5 tb5 I5 HIn HOut hin hdb HlowF
                  go_wp2_with (at_builtin; (refine wpList_append_lies _ rfl (.tmp 72) (.tmp 75) 38 rfl wl.heap.size 3 i0 (.int .i64 0) 1 8 Yamd.underlying38 hi hz0 hz1 hz2 rfl (by decide) (.slice eo' (2 * Ej.length) ecap') (2 * Ej.length) (flat Ej) rfl (World.ownsRow.alloc HW.out.1.edges _) ⟨WW.heap.size, 0, none⟩ 2 2 [.int .i64 (dn : Nat), .int .i64 (k : Nat)] rfl rfl (cell_two_new _ _ _ _) (two_one _ _ rfl rfl) (by omega) (by unfold maxLen; omega) (by omega) (by simp; omega) (WW.heap.size + 1) (by simp) ?_; intro g8 cap8 w8 hown8 hgrow8 hat8 hlt8; obtain ⟨r1, r2, r3, r4, r5⟩ := HFIN.out WW _ _ HW.out.1 HW.out.2.1 HW.out.2.2 _ w8 g8 cap8 hown8 hgrow8 hat8; have HR1 : Hid (_ ∧ _ ∧ _) := ⟨r1, r2, r3⟩; clear r1 r2 r3 hown8 hgrow8 hat8))
                  go_roundw
                  case rel =>
                    obtain ⟨e1, e2⟩ := HOUT2.out
                    have e3 : E ++ edgesOf k (l.take (j + 1)) = Ej ++ [(dn, k)] := by rw [e1, ← List.append_assoc, ← HEj.out]
                    refine ⟨j + 1, _, F5, some ⟨g8, 0, none⟩, cap8, by omega, by go_num, ?_, fun _ => e2.symm, ?_, by rw [e3]; exact HR1.out.1, HR1.out.2.1, HR1.out.2.2⟩
                    · rw [e3]; simp; omega
                    · simp; omega
                  case measure => simp [intOf]; omega
            · have hje : l.take j = l := List.take_of_length_le (by omega)
              rw [hje] at hinv ⊢
              have HIN : Hid _ := hinv
              clear hinv hkk htb hI
              go_wp2
              go_roundw
              case rel => exact ⟨k + 1, ks', F', eo', ecap', by omega, by go_num, by rw [HES.out], by omega, by rw [HES.out]; exact HIN.out⟩
              case measure => simp [intOf]; omega
        · have hke : k = ts.length := by omega
          subst hke
          have HI : Hid _ := hinv
          clear hinv
          go_wp2_with fail
          refine (grouped_any _ ts.length (edgesTo ts ts.length) eo ecap w1.heap.size (owns_mono HI.out.edges (Nat.zero_le _)) HI.out.count hn (edges_lt ts hr _ (Nat.le_refl _)) (by omega)).mono ?_
          rintro e w9 ⟨⟨g9, rfl, hR9⟩, hb9⟩
          go_wp2
          go_ret
          exact ⟨⟨g9, rfl, hR9⟩, (box_below hbx).trans (hb9.mono (by omega))⟩
end Go.Proofs.Ygdamg
