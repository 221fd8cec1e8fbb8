import Derived.Test.YgdamgRight
namespace Go.Proofs.Ygdamg
set_option linter.unusedVariables false
set_option linter.unusedSimpArgs false
open Go.RowKit

theorem natVals_get (l : List Nat) (k : Nat) (h : k < l.length) : (natVals l)[k]? = some (.int .i64 (l.getD k 0 : Nat)) := by
  simp [natVals, List.getD_eq_getElem?_getD, h]

/-- The first ones of what was gathered. -/
theorem ints_front {w : World} {base gp pcap n : Nat} {pl : List Nat} (hl : pl.length = n) (hn : n ≤ 24) (h : w.ownsRow base 3 1 (.slice (some ⟨gp, 0, none⟩) n pcap) n (natVals pl)) (at_ : Nat) (ha : at_ ≤ n) :
    Ints w w.heap.size (.slice (some ⟨gp, 0, none⟩) at_ pcap) ((pl.take at_).map fun (x : Nat) => (x : Int)) := by
  have hll : ((pl.take at_).map fun (x : Nat) => (x : Int)).length = at_ := by simp; omega
  refine ⟨by omega, .inr ⟨gp, pcap, by rw [hll], (h.lt gp rfl).2, fun k hk => ?_⟩⟩
  rw [hll] at hk
  rw [h.cellAt k (by omega), natVals_get pl k (by omega)]
  congr 1
  simp [List.getD_eq_getElem?_getD, List.getElem?_take, hk, show k < pl.length by omega]

set_option maxHeartbeats 2000000 in
theorem orderRight_ok (w : World) (v : Value) (ts : List Tk) (h : SrcTasks w v ts) (hv0 : verdict ts = 0) :
    Calls Yamd.prog 9 #[.func (.func 10) #[] #[], .agg #[v]] w fun e w' => e = .returned (.bool true) ∧ Below w.heap.size w w' := by
  obtain ⟨b1, b2, b3⟩ := verdict_ok hv0
  obtain ⟨hn, hdl⟩ := big_facts b1
  have hr := dang_facts b2
  have hbA : Below w.heap.size w (w.alloc (.cells #[v] 24)) := (Below.refl _ _).alloc (Nat.le_refl _) _
  have hA := h.later hbA
  have hRA : Row (w.alloc (.cells #[v] 24)) w.heap.size 24 [v] := row_new w _ _
  obtain ⟨ao, n, cap, hv⟩ : ∃ ao n cap, v = .slice ao n cap := by
    rcases h.2 with ⟨rfl, _⟩ | ⟨g, cap, rfl, _⟩
    · exact ⟨none, 0, 0, rfl⟩
    · exact ⟨_, _, _, rfl⟩
  subst hv
  have HA : Hid (_ ∧ _) := ⟨hA, hRA⟩
  clear h hA hRA
  go_enter Yamd.func9, Yamd.ntmps9
  go_wp2_with fail
  refine (copyOf_any _ _ ts HA.out.1).mono ?_
  rintro e w1 ⟨⟨cv, rfl, hT1⟩, hb1⟩
  have hR1 := HA.out.2.below (by simp) hb1
  rw [World.size_alloc] at hb1 hT1
  have hbw1 : Below w.heap.size w w1 := hbA.trans (hb1.mono (by omega))
  obtain ⟨co, ccap, rfl⟩ := (hT1 w1 (fun _ _ => rfl)).form
  have c1 := hR1.cell (k := 0) rfl
  have f1 := hR1.free 0
  have hs1 : w.heap.size < w1.heap.size := hR1.lt
  have hR2 := hR1.set 0 (.slice co ts.length ccap)
  simp only [List.set] at hR2
  have hb2 : Below w.heap.size w (w1.setCell ⟨w.heap.size, 0, none⟩ (.slice co ts.length ccap)) := hbw1.setCell (Nat.le_refl _) _
  have hT2 : Tasks (w1.setCell ⟨w.heap.size, 0, none⟩ (.slice co ts.length ccap)) w1.heap.size (.slice co ts.length ccap) ts := hT1 _ (fun b hb => Below.heap_setCell _ _ _ _ (by show b ≠ w.heap.size; omega))
  have hsz2 : (w1.setCell ⟨w.heap.size, 0, none⟩ (.slice co ts.length ccap)).heap.size = w1.heap.size := by simp [World.setCell]
  have HT2 : Hid (_ ∧ _ ∧ _ ∧ _) := ⟨hT2, hsz2, hR2, hb2⟩
  clear HA hT1 hR1 hb1 hbw1 hT2 hsz2 hR2 hb2
  go_wp2_with fail
  refine (Order_ok _ w1.heap.size _ ts (by rw [HT2.out.2.1]; exact Nat.le_refl _) HT2.out.1 hv0).mono ?_
  rintro e w3 ⟨⟨pv, pl, rfl, hpl, hseq, hown3⟩, hb3⟩
  obtain ⟨hT2, hsz2, hR2, hb2⟩ := HT2.out
  rw [hsz2] at hb3 hown3
  have hT3 := hT2.below hb3
  have hR3 := hR2.below hs1 hb3
  have hs3 := hb3.size
  rw [hsz2] at hs3
  have hbw3 : Below w.heap.size w w3 := hb2.trans (hb3.mono (by omega))
  have c3 := hR3.cell (k := 0) rfl
  have HT3 : Hid (_ ∧ _ ∧ _ ∧ _) := ⟨hT3, hR3, hown3, hbw3⟩
  clear HT2 hT2 hsz2 hR2 hb2 hb3 hT3 hR3 c1 f1 hown3 hbw3
  go_wp2_with fail
  refine (Validate_any _ w1.heap.size _ ts hs3 HT3.out.1).mono ?_
  rw [hv0]
  rintro e w4 ⟨rfl, hb4⟩
  obtain ⟨hT3, hR3, hown3, hbw3⟩ := HT3.out
  have hT4 := hT3.below (hb4.mono hs3)
  have hR4 := hR3.below (by omega) hb4
  have hown4 := owns_below hown3 hb4
  have hbw4 : Below w.heap.size w w4 := hbw3.trans (hb4.mono (by omega))
  have hs4 := hb4.size
  have c4 := hR4.cell (k := 0) rfl
  obtain ⟨po, pcap, hpv⟩ : ∃ po pcap, pv = .slice po ts.length pcap := by
    rcases hown4.2 with ⟨e, e0⟩ | ⟨g, cap', _, e, _⟩
    · exact ⟨none, 0, by rw [e, ← hpl, e0]⟩
    · exact ⟨some ⟨g, 0, none⟩, cap', by rw [e, hpl]⟩
  subst hpv
  rw [hpl] at hown4
  have HT4 : Hid (_ ∧ _ ∧ _) := ⟨hT4, hown4, hbw4⟩
  have HLAW : Hid _ := order_law hr b3 hpl hseq
  clear HT3 hT3 hR3 hown3 hbw3 hb4 c3 hT4 hown4 hbw4 hseq
  have hR4' : Row w4 w.heap.size 24 [.slice co ts.length ccap] := hR4
  have hRl := hR4.lt
  go_wp2
  go_loopw [27] (fun i wx => ∃ at_ : Nat, at_ ≤ ts.length ∧ i = .int .i64 at_ ∧ Below w4.heap.size w4 wx) (fun i _ => ts.length - (intOf i).toNat)
  case atStart => exact ⟨0, Nat.zero_le _, rfl, Below.refl _ _⟩
  case round =>
    obtain ⟨at_, hat, rfl, hb⟩ := hrel
    have hsx := hb.size
    by_cases hlt : at_ < ts.length
    · obtain ⟨hT4, hown4, hbw4⟩ := HT4.out
      obtain ⟨gp, pcap', e0, hgp0, hgp1⟩ := hown4.form (by omega)
      simp only [Value.slice.injEq, true_and] at e0
      obtain ⟨rfl, rfl⟩ := e0
      have hpc : w4.cell? ⟨gp, at_, none⟩ = some (.int .i64 (pl.getD at_ 0 : Nat)) := (hown4.cellAt at_ (by omega)).trans (natVals_get pl at_ (by omega))
      obtain ⟨l1, l2, l3⟩ := HLAW.out at_ (by omega)
      have hpre := ints_front hpl hn hown4 at_ hat
      have hncap : ts.length ≤ pcap := by
        rcases hown4.2 with ⟨e, _⟩ | ⟨_, _, _, e, _, _, q, _⟩
        · simp at e
        · simp only [Value.slice.injEq, true_and] at e
          omega
      have cpc := cell_later hb hpc
      have cbx := cell_later hb c4
      have hTx := (hT4.mono (by omega : w1.heap.size ≤ w4.heap.size)).below hb
      have hPx := hpre.below hb
      have HX2 : Hid (∀ wy, Below w4.heap.size w4 wy → Tasks wy w4.heap.size (.slice co ts.length ccap) ts ∧ Ints wy w4.heap.size (.slice (some ⟨gp, 0, none⟩) at_ pcap) ((pl.take at_).map fun (x : Nat) => (x : Int))) :=
        fun wy hy => ⟨(hT4.mono (by omega : w1.heap.size ≤ w4.heap.size)).below hy, hpre.below hy⟩
      obtain ⟨i, hi⟩ : ∃ i, i = pl.getD at_ 0 := ⟨_, rfl⟩
      rw [← hi] at cpc l1 l2 l3
      have HX : Hid (_ ∧ _ ∧ _ ∧ _ ∧ _) := ⟨hTx, hPx, l2, l3, hbw4⟩
      clear hi hpc hpre hTx hPx l2 l3 hT4 hown4 hbw4 HLAW HT4
      have hI0 : (0 : Int) ≤ (at_ : Int) := by omega
      have hI1 : (at_ : Int) ≤ (ts.length : Int) := by omega
      have hI2 : (at_ : Int) ≤ (pcap : Int) := by omega
      have hI3 : at_ ≤ pcap := by omega
      have hbb : Below wr.heap.size wr wr.drew := (Below.refl _ _).drew
      go_wp2
      go_region_held3 (fun w' => Below wr.heap.size wr w' ∧ w'.cell? ⟨w.heap.size, 0, none⟩ = some (.slice co ts.length ccap)) (first | (refine ⟨?_, ?_⟩ <;> assumption) | (go_split_ands; refine ⟨?_, ?_⟩ <;> assumption) | go_keep)
        (first | (go_at_call 16; (refine (inRange_yes _ _ _ _ _ ?_ ?_).mono ?_; (case refine_1 => omega); (case refine_2 => omega); rintro e wq ⟨rfl, hbq⟩; go_split_ands; have q1 : Below wr.heap.size wr wq := (‹Below wr.heap.size wr _›).trans (hbq.mono (‹Below wr.heap.size wr _›).size); have q2 := cell_later hbq ‹_›)) | (go_at_call 17; (go_split_ands; refine (mayStand_any _ w4.heap.size _ ts ?m1 ?m2 _ ((pl.take at_).map fun (x : Nat) => (x : Int)) ?m3 i l1).mono ?_; (case m1 => exact Nat.le_trans hsx (‹Below wr.heap.size wr _›).size); (case m2 => exact HX.out.1.below ((‹Below wr.heap.size wr _›).mono hsx)); (case m3 => exact HX.out.2.1.below ((‹Below wr.heap.size wr _›).mono hsx)); rw [HX.out.2.2.1]; rintro e wq ⟨rfl, hbq⟩; have q3 : Below wr.heap.size wr wq := (‹Below wr.heap.size wr _›).trans (hbq.mono (‹Below wr.heap.size wr _›).size); have q4 := cell_later hbq ‹_ = some (.slice co ts.length ccap)›)))
      have hbq0 : Below wr.heap.size wr wq := by assumption
      obtain ⟨wz, hwz⟩ : ∃ wz, wz = wr := ⟨_, rfl⟩
      rw [← hwz] at hb hsx hbb cpc cbx HX hbq0
      have hbq1 : Below w4.heap.size w4 wq := hb.trans (hbq0.mono hsx)
      clear hwz
      go_wp2
      go_loopw [46] (fun q wx => ∃ j : Nat, j ≤ i ∧ q = .int .i64 j ∧ Below w4.heap.size w4 wx) (fun q _ => i - (intOf q).toNat)
      case atStart => exact ⟨0, Nat.zero_le _, rfl, hbq1⟩
      case round =>
        obtain ⟨j, hj, rfl, hby⟩ := hrel
        have hsy := hby.size
        by_cases hlt2 : j < i
        · have cby := cell_later hby c4
          have hjl : j < ts.length := by omega
          have HF : Hid _ := HX.out.2.2.2.1 j hlt2
          have hbd : Below wr.heap.size wr wr.drew := (Below.refl _ _).drew
          go_wp2
          go_region_held3 (fun w' => Below wr.heap.size wr w' ∧ w'.cell? ⟨w.heap.size, 0, none⟩ = some (.slice co ts.length ccap)) (first | (refine ⟨?_, ?_⟩ <;> assumption) | (go_split_ands; refine ⟨?_, ?_⟩ <;> assumption) | go_keep)
            (first | (go_at_call 17; (go_split_ands; refine (mayStand_any _ w4.heap.size _ ts ?m1 ?m2 _ ((pl.take at_).map fun (x : Nat) => (x : Int)) ?m3 j hjl).mono ?_; (case m1 => exact Nat.le_trans hsy (‹Below wr.heap.size wr _›).size); (case m2 => exact (HX2.out _ (hby.trans ((‹Below wr.heap.size wr _›).mono hsy))).1); (case m3 => exact (HX2.out _ (hby.trans ((‹Below wr.heap.size wr _›).mono hsy))).2); rw [HF.out]; rintro e wp ⟨rfl, hbp⟩; have q5 : Below wr.heap.size wr wp := (‹Below wr.heap.size wr _›).trans (hbp.mono (‹Below wr.heap.size wr _›).size); have q6 := cell_later hbp ‹_ = some (.slice co ts.length ccap)›)) | fail)
          have hbp0 : Below wr.heap.size wr wp := by assumption
          go_wp2
          go_roundw
          case rel => exact ⟨j + 1, by omega, by go_num, hby.trans (hbp0.mono hsy)⟩
          case measure => simp [intOf]; omega
        · go_wp2
          go_roundw
          case rel => exact ⟨at_ + 1, by omega, by go_num, hby⟩
          case measure => simp [intOf]; omega
    · go_wp2
      go_ret
      exact ⟨rfl, HT4.out.2.2.trans (hb.mono (by omega))⟩
end Go.Proofs.Ygdamg
