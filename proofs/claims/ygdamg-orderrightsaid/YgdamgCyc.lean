import Derived.Test.YgdamgKahn
import Derived.Test.YgdamgCycInv
import Derived.Test.YgdamgDeps
namespace Go.Proofs.Ygdamg
set_option linter.unusedVariables false
set_option linter.unusedSimpArgs false
open Go.RowKit

def qcast (q : List Nat) : List Int := q.map fun (x : Nat) => (x : Int)
theorem qcast_length (q : List Nat) : (qcast q).length = q.length := by simp [qcast]

set_option maxHeartbeats 1000000 in
theorem cyc_nil (w : World) (ao : Option Addr) (cap : Nat) :
    Calls Yamd.prog 23 #[.agg #[.slice ao 0 cap]] w fun e w' => e = .returned (.bool false) ∧ Below w.heap.size w w' := by
  go_enter Yamd.func23, Yamd.ntmps23
  go_wp2_with fail
  refine (deps_nil _ _ _).mono ?_
  rintro e w1 ⟨rfl, hb1⟩
  have hbw : Below (w.heap.size + 1) (w.alloc (.cells #[.slice ao 0 cap] 24)) w1 := by rw [World.size_alloc] at hb1; exact hb1
  have hbox1 := box_later hbw
  have hs1 := box_size hbw
  have hs1' : w.heap.size < w1.heap.size := hs1
  clear hb1
  go_wp2_with (at_make; refine wpList_make_row _ rfl (.tmp 16) (.tmp 16) 38 rfl 3 (.int .i64 0) Yamd.underlying38 8 Yamd.info3 rfl .i64 .i64 _ _ 0 rfl rfl (by omega) (by omega) (by omega) (by unfold maxLen; omega) ?_; intro w2 hL2 hk2 hsz2; have hbox2 := cell_later (hk2.below (Nat.le_refl _) (by simp)) hbox1; have hs2 : w.heap.size < w2.heap.size := (by omega); have hb2 : Below (w.heap.size + 1) (w.alloc (.cells #[.slice ao 0 cap] 24)) w2 := (hbw.trans (hk2.below (by omega) (by simp))); clear hsz2)
  go_rounds 1
  go_rounds 1
  go_ret
  exact ⟨rfl, ((box_below hb2).alloc (by omega) _).alloc (by simp; omega) _⟩

theorem leftTo_zero (ts : List Tk) : intVals (leftTo ts 0) = zeros (.int .i64 0) ts.length := by
  apply List.ext_getElem?; intro k
  by_cases h : k < ts.length <;> simp [intVals, leftTo, zeros, h]

set_option maxHeartbeats 2000000 in
theorem cyc_some (w : World) (B g cap : Nat) (ts : List Tk) (hB : B ≤ w.heap.size) (h : Tasks w B (.slice (some ⟨g, 0, none⟩) ts.length cap) ts) (hg : g < B) (hn0 : 0 < ts.length)
    (hn : ts.length ≤ 24) (hdl : ∀ k, k < ts.length → (ts.getD k nilTk).deps.length ≤ 4) (hr : ∀ k, k < ts.length → ∀ d ∈ (ts.getD k nilTk).deps, 0 ≤ d ∧ d < ts.length) :
    Calls Yamd.prog 23 #[.agg #[.slice (some ⟨g, 0, none⟩) ts.length cap]] w fun e w' => e = .returned (.bool (cycB ts)) ∧ Below w.heap.size w w' := by
  have hbA : Below w.heap.size w (w.alloc (.cells #[.slice (some ⟨g, 0, none⟩) ts.length cap] 24)) := (Below.refl _ _).alloc (Nat.le_refl _) _
  have HT : Hid (∀ wr, Below (w.heap.size + 1) (w.alloc (.cells #[.slice (some ⟨g, 0, none⟩) ts.length cap] 24)) wr → ∀ k, k < ts.length → wr.cell? ⟨g, k * 3, none⟩ = some (.int .i64 (ts.getD k nilTk).op) ∧
      wr.cell? ⟨g, k * 3 + 1, none⟩ = some (.int .i64 (ts.getD k nilTk).arg) ∧ ∃ dv, wr.cell? ⟨g, k * 3 + 2, none⟩ = some dv ∧ Ints wr B dv (ts.getD k nilTk).deps) := by
    intro wr hb k hk
    obtain ⟨_, ⟨e, _⟩ | ⟨g', cap', e, _, hc⟩⟩ := h.below ((box_below hb).mono hB)
    · simp at e
    · simp only [Value.slice.injEq, Option.some.injEq, Addr.mk.injEq, and_true, true_and] at e
      obtain ⟨rfl, rfl⟩ := e
      exact hc k hk
  have HTA : Hid _ := h.below (hbA.mono hB)
  clear h hbA
  go_enter Yamd.func23, Yamd.ntmps23
  go_wp2_with fail
  refine (deps_some _ B g cap ts (by simp; omega) HTA.out hg hn0 hn hdl hr).mono ?_
  rintro e w1 ⟨⟨gR, rfl, hR1⟩, hb1⟩
  have hbw : Below (w.heap.size + 1) (w.alloc (.cells #[.slice (some ⟨g, 0, none⟩) ts.length cap] 24)) w1 := by rw [World.size_alloc] at hb1; exact hb1
  have hbox1 := box_later hbw
  have hs1 := box_size hbw
  have hs1' : w.heap.size < w1.heap.size := hs1
  clear hb1 HTA
  go_wp2_with (at_make; refine wpList_make_row _ rfl (.tmp 16) (.tmp 16) 38 rfl 3 (.int .i64 0) Yamd.underlying38 8 Yamd.info3 rfl .i64 .i64 _ _ ts.length rfl rfl (by omega) (by omega) (by omega) (by unfold maxLen; omega) ?_; intro w2 hL2 hk2 hsz2; have hbox2 := cell_later (hk2.below (Nat.le_refl _) (by simp)) hbox1; have hs2 : w.heap.size < w2.heap.size := (by omega); have hs12 : w1.heap.size < w2.heap.size := (by omega); have hb2 : Below w1.heap.size w1 w2 := (hk2.below (Nat.le_refl _) (by simp)); clear hsz2)
  have hinv : CycInv w1.heap.size w1.heap.size w2.heap.size (w2.heap.size + 1) w1 ((w2.alloc (.cells #[.slice none 0 0, .int .i64 0, .int .i64 0] 54)).alloc (.cells #[.map none, .slice none 0 0] 57)) (leftTo ts 0) (qcast (qTo ts 0)) none [] [] := by
    refine ⟨?_, .inl ⟨rfl, rfl, ?_⟩, .inl ⟨rfl, rfl, ?_⟩, by omega, by simp, by simp, by omega, by simp, by simp, (hb2.alloc (by omega) _).alloc (by simp; omega) _⟩
    · rw [leftTo_zero]; exact (hL2.alloc _).alloc _
    · exact (row_new w2 [.slice none 0 0, .int .i64 0, .int .i64 0] 54).alloc _
    · have := row_new (w2.alloc (.cells #[.slice none 0 0, .int .i64 0, .int .i64 0] 54)) [.map none, .slice none 0 0] 57
      rwa [World.size_alloc] at this
  clear hL2 hk2 hb2 hbox2
  obtain ⟨N1, hN1⟩ : ∃ N1, N1 = w1.heap.size := ⟨_, rfl⟩
  obtain ⟨qb, hqb⟩ : ∃ qb, qb = w2.heap.size := ⟨_, rfl⟩
  rw [← hN1, ← hqb] at hinv
  rw [← hN1] at hR1 hs1 hs1' hs12 ⊢
  rw [← hqb] at hs2 hs12 ⊢
  have HN1 : Hid (N1 = w1.heap.size) := hN1
  clear hN1 hqb
  go_loopw [21] (fun i wx => ∃ (k : Nat) (ks : List Int) (F : List Nat) (G : Option Nat), k ≤ ts.length ∧ i = .int .i64 k ∧ ks.length ≤ 4 ∧ CycInv N1 N1 qb (qb + 1) w1 wx (leftTo ts k) (qcast (qTo ts k)) G ks F) (fun i _ => ts.length - (intOf i).toNat)
  case atStart => exact ⟨0, [], [], none, Nat.zero_le _, rfl, by simp, hinv⟩
  case round =>
    clear hinv
    obtain ⟨k, ks, F, G, hk, rfl, hks, hinv⟩ := hrel
    have hbx : Below (w.heap.size + 1) (w.alloc (.cells #[.slice (some ⟨g, 0, none⟩) ts.length cap] 24)) wr := hbw.trans (hinv.below.mono hs1)
    have hsx := box_size hbx
    by_cases hlt : k < ts.length
    · obtain ⟨h1, h2, dv, h3, h4⟩ := HT.out wr hbx k hlt
      have hl4 := hdl k hlt
      have hrk := hr k hlt
      have HLS : Hid _ := leftTo_set ts k hlt
      have HQS : Hid _ := qTo_succ ts k
      have HQL : (qTo ts k).length ≤ k := qTo_length ts k
      have hdc : dcount ts k = (uniq (ts.getD k nilTk).deps).length := rfl
      have hdc4 : dcount ts k ≤ 4 := by rw [hdc]; exact Nat.le_trans (uniq_le _ _ rfl) hl4
      have HDC : Hid (dcount ts k = (uniq (ts.getD k nilTk).deps).length) := hdc
      clear hdc
      obtain ⟨T, hT⟩ : ∃ T, T = ts.getD k nilTk := ⟨_, rfl⟩
      rw [← hT] at h1 h2 h4 hl4 hrk HDC
      clear hT
      obtain ⟨a, c, hdv⟩ := h4.form
      subst hdv
      have hNl := hinv.lt.2.2.2.2.2
      have hinv1 := hinv.alloc (.cells #[.int .i64 T.op, .int .i64 T.arg, .slice a T.deps.length c] 42)
      have hI1 := h4.below (((Below.refl _ wr).alloc (Nat.le_refl _) (.cells #[.int .i64 T.op, .int .i64 T.arg, .slice a T.deps.length c] 42)).mono (by omega : B ≤ wr.heap.size))
      have HINV1 : Hid (_ ∧ _) := ⟨hinv1, hI1⟩
      clear hinv hinv1 hI1 h4 hbx
      go_wp2_with fail
      refine (distinct_any _ B _ _ _ T.deps hl4 HINV1.out.2 (fun d hd => by have := hrk d hd; omega) (qb + 1) ks F HINV1.out.1.set (by omega) (by omega) (fun x hx => by have := HINV1.out.1.lowF x hx; omega)).mono ?_
      rw [← HDC.out]
      rintro e w3 ⟨rfl, hk3, ks3, F3, hS3, hks3, hF3⟩
      have hinv3 := HINV1.out.1.setStep hk3 hS3 hF3
      clear hk3 hS3 hF3 HINV1
      have hc3 : w3.cell? ⟨N1, k, none⟩ = some (.int .i64 ((leftTo ts k).getD k 0)) := hinv3.left.cell (intVals_get _ _ (by rw [leftTo_length]; exact hlt))
      have hf3 := hinv3.left.free k
      have hinv4 := hinv3.leftStep k (dcount ts k : Int)
      rw [HLS.out] at hinv4
      have hc4 : (w3.setCell ⟨N1, k, none⟩ (.int .i64 (dcount ts k : Int))).cell? ⟨N1, k, none⟩ = some (.int .i64 (dcount ts k : Int)) := by
        have := hinv4.left.cell (intVals_get _ k (by rw [leftTo_length]; exact hlt))
        rw [leftTo_get _ _ _ hlt, if_pos (by omega)] at this
        exact this
      generalize (leftTo ts k).getD k 0 = old at hc3
      have HINV4 : Hid _ := hinv4
      clear hinv3 hinv4
      generalize hdcc : dcount ts k = dc at *
      have HDCC : Hid (dcount ts k = dc) := hdcc
      clear hdcc
      by_cases hz : dc = 0
      · subst hz
        go_wp2_with fail
        refine (push_any _ qb (qcast (qTo ts k)) G k HINV4.out.queue (by rw [qcast_length]; omega)).mono ?_
        rintro e w5 ⟨rfl, hk5, G5, hQ5, hG5⟩
        have hinv5 := HINV4.out.queueStep hk5 hQ5 hG5
        have HINV5 : Hid _ := hinv5
        clear hk5 hQ5 hG5 hinv5 HINV4 hc3 hf3 hc4
        go_wp2
        go_roundw
        case rel =>
          refine ⟨k + 1, ks3, F3, G5, by omega, by go_num, hks3, ?_⟩
          rw [HQS.out, if_pos (by trivial)]
          have e1 : qcast (qTo ts k ++ [k]) = qcast (qTo ts k) ++ [(k : Int)] := by simp [qcast]
          rw [e1]; exact HINV5.out
        case measure => simp [intOf]; omega
      · have hzb : ((dc : Int) == 0) = false := beq_eq_false_iff_ne.2 (by omega)
        go_wp2
        go_roundw
        case rel =>
          refine ⟨k + 1, ks3, F3, G, by omega, by go_num, hks3, ?_⟩
          rw [HQS.out, if_neg hz]; exact HINV4.out
        case measure => simp [intOf]; omega
    · have hke : k = ts.length := by omega
      subst hke
      clear hlt hk
      have HPH := phi_start ts
      have HB0 : Bnd (leftTo ts ts.length) 0 := by
        intro j hj
        rw [leftTo_length] at hj
        rw [leftTo_get _ _ _ hj, if_pos hj]
        have := hdl j hj
        have h2 : dcount ts j ≤ 4 := Nat.le_trans (uniq_le _ _ rfl) this
        omega
      have HQ0 := qTo_lt ts ts.length
      have HK0 : kRun (rdAll ts) ts.length (leftTo ts ts.length, qTo ts ts.length) 0 = kAll ts := rfl
      have HL0 := leftTo_length ts ts.length
      have HST : Hid (_ ∧ _ ∧ _ ∧ _ ∧ _ ∧ _) := ⟨HPH, HB0, HQ0, HK0, HL0, hinv⟩
      clear HPH HB0 HQ0 HK0 HL0 hinv
      go_wp2
      go_loopw [9] (fun tv wx => ∃ (t : Nat) (left : List Int) (q : List Nat) (G : Option Nat), tv = .int .i64 t ∧ phi (left, q) + t ≤ ts.length ∧ Bnd left (100 * t) ∧ (∀ x ∈ q, x < ts.length) ∧ kRun (rdAll ts) (ts.length - t) (left, q) t = kAll ts ∧ left.length = ts.length ∧
          CycInv N1 N1 qb (qb + 1) w1 wx left (qcast q) G ks F) (fun tv _ => ts.length - (intOf tv).toNat)
      case atStart =>
        obtain ⟨p1, p2, p3, p4, p5, p6⟩ := HST.out
        exact ⟨0, _, _, G, rfl, by rw [p1]; omega, p2, p3, p4, p5, p6⟩
      case round =>
        clear HST
        obtain ⟨t, left, q, G', rfl, hphi, hbnd, hqlt, hkr, hll, hinv⟩ := hrel
        have hbx : Below (w.heap.size + 1) (w.alloc (.cells #[.slice (some ⟨g, 0, none⟩) ts.length cap] 24)) wr := hbw.trans (hinv.below.mono hs1)
        have hsx := box_size hbx
        have hboxx := box_later hbx
        cases q with
        | nil =>
          have he : (((qcast []).length : Int) == 0) = true := rfl
          rw [kRun_nil] at hkr
          have hres : decide ((t : Int) < (ts.length : Int)) = cycB ts := by unfold cycB; rw [← hkr]; simp
          have HRES : Hid (decide ((t : Int) < (ts.length : Int)) = cycB ts) := hres
          have HINV : Hid _ := hinv
          clear hres hkr hinv
          go_wp2_with (go_at_call 32; refine (qempty_any _ qb (qcast []) G' HINV.out.queue).mono ?_; rw [he]; rintro e w' ⟨rfl, hw'⟩; rw [hw']; clear hw' w')
          go_ret
          refine ⟨ret_bool ?_, box_below hbx⟩
          rw [← HRES.out]
          simp
        | cons x q =>
          have he : (((qcast (x :: q)).length : Int) == 0) = false := beq_eq_false_iff_ne.2 (by simp [qcast]; omega)
          have hxn := hqlt x (by simp)
          have hph2 : phi (left, q) + (t + 1) ≤ ts.length := by simp [phi] at hphi ⊢; omega
          have htn : t < ts.length := by omega
          have hkr2 : kRun (rdAll ts) (ts.length - (t + 1)) (kdrain (left, q) (rdAll ts x)) (t + 1) = kAll ts := by
            rw [← hkr, show ts.length - t = (ts.length - (t + 1)) + 1 from by omega, kRun_cons]
          have hqlt2 : ∀ y ∈ q, y < ts.length := fun y hy => hqlt y (by simp [hy])
          have hrl := rdAll_length ts hdl x
          have hrlt := rdAll_lt ts x
          have HINV : Hid _ := hinv
          have HRD : Hid _ := hR1.2 x hxn
          have HK2 : Hid (_ ∧ _) := ⟨hkr2, hqlt2⟩
          clear hinv hkr hkr2 hqlt hqlt2 hphi
          go_wp2_with (first | (go_at_call 32; refine (qempty_any _ qb (qcast (x :: q)) G' HINV.out.queue).mono ?_; rw [he]; rintro e w' ⟨rfl, hw'⟩; rw [hw']; clear hw' w') | fail)
          refine (pop_any _ qb (x : Int) (qcast q) G' HINV.out.queue).mono ?_
          rintro e w3 ⟨rfl, hk3, hQ3⟩
          have hinv3 := HINV.out.queueStep hk3 hQ3 (.inl rfl)
          clear hk3 hQ3 HINV
          obtain ⟨rv, hrv, hrc⟩ := HRD.out
          have hgR := hR1.1
          replace hrv : w3.cell? ⟨gR, x, none⟩ = some rv := (hinv3.below.cell (by exact hgR)).trans hrv
          have hIx0 : (0 : Int) ≤ (x : Int) := by omega
          have hIx1 : (x : Int) < (ts.length : Int) := by omega
          obtain ⟨r, hre⟩ : ∃ r, r = rdAll ts x := ⟨_, rfl⟩
          have hre' : rdrs (edgesTo ts ts.length) x = r := hre.symm
          rw [hre'] at hrc
          rw [← hre] at hrl hrlt HK2
          clear hre hre' HRD
          have HI3 : Hid _ := hinv3
          have hb3 := hinv3.below
          have hN3 := hinv3.lt.2.2.2.2.2
          clear hinv3
          have ht24 : t ≤ 24 := by omega
          rcases hrc with ⟨rfl, hrn⟩ | ⟨R, o, cap2, rfl, hRl, hrc⟩
          · have HRN : Hid (r = []) := hrn
            clear hrn
            go_wp2
            go_rounds 1
            go_roundw
            case rel =>
              obtain ⟨p1, p2⟩ := HK2.out
              rw [HRN.out] at p1
              exact ⟨t + 1, left, q, G', by go_num, hph2, hbnd.mono (by omega), p2, p1, hll, HI3.out⟩
            case measure => simp [intOf]; omega
          · replace hrc : ∀ k, k < r.length → w3.cell? ⟨R, o + k, none⟩ = some (.int .i64 (r.getD k 0 : Nat)) := fun k hk => (hb3.cell (by exact hRl)).trans (hrc k hk)
            have HRC : Hid (_ ∧ _) := ⟨hrc, hrc⟩
            clear hrc
            go_wp2
            go_loopw [48] (fun i wx => ∃ (k : Nat) (G2 : Option Nat), k ≤ r.length ∧ i = .int .i64 k ∧ CycInv N1 N1 qb (qb + 1) w1 wx (kdrain (left, q) (r.take k)).1 (qcast (kdrain (left, q) (r.take k)).2) G2 ks F) (fun i _ => r.length - (intOf i).toNat)
            case atStart => exact ⟨0, G', Nat.zero_le _, rfl, HI3.out⟩
            case round =>
              obtain ⟨k, G2, hk2, rfl, hinv⟩ := hrel
              have hbk := bnd_kdrain hbnd (s := (left, q)) (r.take k)
              have hpk := phi_kdrain (left, q) (r.take k)
              have hlk := kdrain_length (left, q) (r.take k)
              have htk : (r.take k).length = k := by simp; omega
              by_cases hlt2 : k < r.length
              · have hjn := hrlt _ (getD_mem r 0 k hlt2)
                have hkt := kdrain_take (left, q) r k hlt2
                have hjc := HRC.out.1 k hlt2
                replace hjc : wr.cell? ⟨R, o + k, none⟩ = some (.int .i64 (r.getD k 0 : Nat)) := ((hinv.below.cell (by exact hRl)).trans (hb3.cell (by exact hRl)).symm).trans hjc
                obtain ⟨S, hS⟩ : ∃ S, S = kdrain (left, q) (r.take k) := ⟨_, rfl⟩
                rw [← hS] at hinv hbk hpk hlk hkt
                obtain ⟨j, hj⟩ : ∃ j, j = r.getD k 0 := ⟨_, rfl⟩
                rw [← hj] at hjc hjn hkt
                have HKT : Hid _ := hkt
                clear hkt hS hj
                have hlk' : S.1.length = left.length := hlk
                have hjl : j < S.1.length := by omega
                clear hlk hlk'
                have hbj := hbk j hjl
                have hcl : wr.cell? ⟨N1, j, none⟩ = some (.int .i64 (S.1.getD j 0)) := hinv.left.cell (intVals_get _ _ hjl)
                have hfl := hinv.left.free j
                have hpg := pos_ge_one S.1 j hjl
                have HST : Hid (kstep S j = (S.1.set j (S.1.getD j 0 - 1), if S.1.getD j 0 - 1 = 0 then S.2 ++ [j] else S.2)) := rfl
                have hinv2 := hinv.leftStep j (S.1.getD j 0 - 1)
                have hc2 : (wr.setCell ⟨N1, j, none⟩ (.int .i64 (S.1.getD j 0 - 1))).cell? ⟨N1, j, none⟩ = some (.int .i64 (S.1.getD j 0 - 1)) := by
                  have := hinv2.left.cell (intVals_get _ j (by rw [List.length_set]; exact hjl))
                  rw [getD_set_eq _ _ _ hjl] at this
                  exact this
                obtain ⟨v, hv⟩ : ∃ v, v = S.1.getD j 0 := ⟨_, rfl⟩
                rw [← hv] at hbj hcl hpg HST hinv2 hc2
                have HI2 : Hid _ := hinv2
                clear hv hinv hinv2 hbk
                have hI0 : (0 : Int) ≤ (j : Int) := by omega
                have hI1 : (j : Int) < (ts.length : Int) := by omega
                obtain ⟨hbj0, hbj1⟩ := hbj
                rw [htk] at hbj0
                have hvl : -10000 ≤ v := by omega
                clear hbj0
                by_cases hz : v - 1 = 0
                · have hv1 : v = 1 := by omega
                  subst hv1
                  have hpp := hpg (by omega)
                  have hq23 : S.2.length < 24 := by
                    have h1 : phi S ≤ phi (left, q) := hpk
                    have h2 : phi S = pos S.1 + S.2.length := rfl
                    omega
                  clear hpg hz
                  go_wp2_with fail
                  refine (push_any _ qb (qcast S.2) G2 j HI2.out.queue (by rw [qcast_length]; exact hq23)).mono ?_
                  rintro e w5 ⟨rfl, hk5, G5, hQ5, hG5⟩
                  have hinv5 := HI2.out.queueStep hk5 hQ5 hG5
                  have HINV5 : Hid _ := hinv5
                  clear hk5 hQ5 hG5 hinv5 HI2 hc2 hcl hfl
                  go_wp2
                  go_roundw
                  case rel =>
                    refine ⟨k + 1, G5, by omega, by go_num, ?_⟩
                    rw [HKT.out, HST.out]
                    simp only [if_pos (show (1 : Int) - 1 = 0 from rfl)]
                    have e1 : qcast (S.2 ++ [j]) = qcast S.2 ++ [(j : Int)] := by simp [qcast]
                    rw [e1]; exact HINV5.out
                  case measure => simp [intOf]; omega
                · have hzb : (v - 1 == 0) = false := beq_eq_false_iff_ne.2 hz
                  have HZ : Hid (¬ (v - 1 = 0)) := hz
                  clear hz hpg
                  go_wp2
                  go_roundw
                  case rel =>
                    refine ⟨k + 1, G2, by omega, by go_num, ?_⟩
                    rw [HKT.out, HST.out, if_neg HZ.out]
                    exact HI2.out
                  case measure => simp [intOf]; omega
              · have hrt : r.take k = r := List.take_of_length_le (by omega)
                rw [hrt] at hinv hbk hpk hlk
                have HIN : Hid _ := hinv
                clear hinv
                go_wp2
                go_roundw
                case rel =>
                  obtain ⟨p1, p2⟩ := HK2.out
                  have p3 := kdrain_q_lt (left, q) r hrlt p2
                  exact ⟨t + 1, (kdrain (left, q) r).1, (kdrain (left, q) r).2, G2, by go_num, Nat.le_trans (Nat.add_le_add_right hpk _) hph2, hbk.mono (by omega), p3, p1, by rw [hlk]; exact hll, HIN.out⟩
                case measure => simp [intOf]; omega
end Go.Proofs.Ygdamg
