import Derived.Test.YgdamgGrp
import Derived.Deep.RegionLaw
import Derived.Deep.RegionHeld3
namespace Go.Proofs.Ygdamg
set_option linter.unusedVariables false
set_option linter.unusedSimpArgs false
open Go.RowKit

/-- What grouped hands back. -/
def Readers (w : World) (B g n : Nat) (f : Nat → List Nat) : Prop :=
  g < B ∧ ∀ d, d < n → ∃ rv, w.cell? ⟨g, d, none⟩ = some rv ∧ ((rv = .slice none 0 0 ∧ f d = []) ∨
    ∃ R o cap, rv = .slice (some ⟨R, o, none⟩) (f d).length cap ∧ R < B ∧ ∀ k, k < (f d).length → w.cell? ⟨R, o + k, none⟩ = some (.int .i64 ((f d).getD k 0 : Nat)))

theorem Readers.below {w w' : World} {B g n : Nat} {f : Nat → List Nat} (h : Readers w B g n f) (hb : Below B w w') : Readers w' B g n f := by
  refine ⟨h.1, fun d hd => ?_⟩
  obtain ⟨rv, h1, h2⟩ := h.2 d hd
  refine ⟨rv, by rw [hb.cell (by exact h.1)]; exact h1, ?_⟩
  rcases h2 with h2 | ⟨R, o, cap, e, hR, hc⟩
  · exact .inl h2
  · exact .inr ⟨R, o, cap, e, hR, fun k hk => by rw [hb.cell (by exact hR)]; exact hc k hk⟩

def rdVal (R : Nat) (E : List (Nat × Nat)) (t j : Nat) : Value := if cnt E j = 0 then .slice none 0 0 else .slice (some ⟨R, offs E j, none⟩) (cnt (E.take t) j) (cnt E j)
def rdRow (R : Nat) (E : List (Nat × Nat)) (t n d : Nat) : List Value := (List.range n).map fun j => if j < d then rdVal R E t j else .slice none 0 0
theorem rdRow_get (R : Nat) (E : List (Nat × Nat)) (t n d j : Nat) (h : j < n) : (rdRow R E t n d)[j]? = some (if j < d then rdVal R E t j else .slice none 0 0) := by simp [rdRow, h]
theorem rdRow_length (R : Nat) (E : List (Nat × Nat)) (t n d : Nat) : (rdRow R E t n d).length = n := by simp [rdRow]
theorem rdRow_zero (R : Nat) (E : List (Nat × Nat)) (t n : Nat) : rdRow R E t n 0 = zeros (.slice none 0 0) n := by
  apply List.ext_getElem?; intro k
  by_cases h : k < n <;> simp [rdRow, zeros, h]
theorem rdRow_skip (R : Nat) (E : List (Nat × Nat)) (t n d : Nat) (h : cnt E d = 0) : rdRow R E t n (d + 1) = rdRow R E t n d := by
  apply List.ext_getElem?; intro k
  by_cases hk : k < n
  · rw [rdRow_get _ _ _ _ _ _ hk, rdRow_get _ _ _ _ _ _ hk]
    by_cases e : k = d
    · subst e; simp [rdVal, h]
    · have : k < d + 1 ↔ k < d := by omega
      simp [this]
  · rw [List.getElem?_eq_none (by simp [rdRow_length]; omega), List.getElem?_eq_none (by simp [rdRow_length]; omega)]
theorem rdRow_put (R : Nat) (E : List (Nat × Nat)) (t n d : Nat) (hd : d < n) : (rdRow R E t n d).set d (rdVal R E t d) = rdRow R E t n (d + 1) := by
  apply List.ext_getElem?; intro k
  by_cases hk : k < n
  · by_cases e : d = k
    · subst e; rw [List.getElem?_set_self (by rw [rdRow_length]; exact hk), rdRow_get _ _ _ _ _ _ hk, if_pos (by omega)]
    · rw [List.getElem?_set_ne e, rdRow_get _ _ _ _ _ _ hk, rdRow_get _ _ _ _ _ _ hk]
      have : k < d + 1 ↔ k < d := by omega
      simp [this]
  · rw [List.getElem?_eq_none (by simp [rdRow_length]; omega), List.getElem?_eq_none (by simp [rdRow_length]; omega)]
theorem rdVal_zero (R : Nat) (E : List (Nat × Nat)) (j : Nat) (h : 0 < cnt E j) : rdVal R E 0 j = .slice (some ⟨R, offs E j, none⟩) 0 (cnt E j) := by
  unfold rdVal; rw [if_neg (by omega)]; simp [cnt]

/-- What lies in the room when t edges have been dealt out. -/
def Placed (E : List (Nat × Nat)) (t n : Nat) (rm : List Value) : Prop :=
  ∀ d, d < n → ∀ k, k < cnt (E.take t) d → rm[offs E d + k]? = some (.int .i64 ((rdrs (E.take t) d).getD k 0 : Nat))

theorem placed_start (E : List (Nat × Nat)) (n : Nat) (rm : List Value) : Placed E 0 n rm := by
  intro d hd k hk; simp [cnt] at hk

theorem cnt_next {E : List (Nat × Nat)} {t : Nat} (h : t < E.length) (d : Nat) : cnt (E.take (t + 1)) d = cnt (E.take t) d + if (E.getD t (0, 0)).1 = d then 1 else 0 := by
  rw [take_snoc E t h, cnt_snoc]

theorem placed_next {E : List (Nat × Nat)} {t n : Nat} {rm : List Value} (h : Placed E t n rm) (ht : t < E.length) (hl : rm.length = E.length) :
    Placed E (t + 1) n (rm.set (offs E (E.getD t (0, 0)).1 + cnt (E.take t) (E.getD t (0, 0)).1) (.int .i64 ((E.getD t (0, 0)).2 : Nat))) := by
  obtain ⟨p, hp⟩ : ∃ p, p = E.getD t (0, 0) := ⟨_, rfl⟩
  rw [← hp]
  have hc := fun d => cnt_next ht d
  rw [← hp] at hc
  have hr := fun d => rdrs_snoc (E.take t) p d
  have hts : E.take (t + 1) = E.take t ++ [p] := by rw [hp]; exact take_snoc E t ht
  intro d hd k hk
  rw [hts, hr d]
  rw [hc d] at hk
  have hle1 := cnt_take_le E (t + 1) p.1
  rw [hc p.1, if_pos rfl] at hle1
  by_cases e : p.1 = d
  · subst e
    simp only [if_true] at hk ⊢
    by_cases ek : k = cnt (E.take t) p.1
    · subst ek
      have hoc := offs_cnt_le E p.1
      rw [List.getElem?_set_self (by omega)]
      have : (rdrs (E.take t) p.1 ++ [p.2]).getD (cnt (E.take t) p.1) 0 = p.2 := by
        rw [← rdrs_length]; simp [List.getD_eq_getElem?_getD]
      rw [this]
    · rw [List.getElem?_set_ne (by omega), h p.1 hd k (by omega)]
      have : (rdrs (E.take t) p.1 ++ [p.2]).getD k 0 = (rdrs (E.take t) p.1).getD k 0 := by
        simp [List.getD_eq_getElem?_getD, List.getElem?_append_left (show k < (rdrs (E.take t) p.1).length by rw [rdrs_length]; omega)]
      rw [this]
  · simp only [e, if_false, Nat.add_zero, List.append_nil] at hk ⊢
    have hle2 := cnt_take_le E t d
    have hne : offs E p.1 + cnt (E.take t) p.1 ≠ offs E d + k := by
      rcases Nat.lt_or_gt_of_ne e with h' | h'
      · have := offs_apart E h'; omega
      · have := offs_apart E h'; omega
    rw [List.getElem?_set_ne hne, h d hd k hk]

theorem rdRow_next {E : List (Nat × Nat)} {t n R : Nat} (ht : t < E.length) (hp : (E.getD t (0, 0)).1 < n) :
    (rdRow R E t n n).set (E.getD t (0, 0)).1 (rdVal R E (t + 1) (E.getD t (0, 0)).1) = rdRow R E (t + 1) n n := by
  apply List.ext_getElem?; intro k
  by_cases hk : k < n
  · by_cases e : (E.getD t (0, 0)).1 = k
    · subst e; rw [List.getElem?_set_self (by rw [rdRow_length]; exact hk), rdRow_get _ _ _ _ _ _ hk, if_pos hk]
    · rw [List.getElem?_set_ne e, rdRow_get _ _ _ _ _ _ hk, rdRow_get _ _ _ _ _ _ hk, if_pos hk, if_pos hk]
      unfold rdVal
      rw [cnt_next ht, if_neg e]
      rfl
  · rw [List.getElem?_eq_none (by simp [rdRow_length]; omega), List.getElem?_eq_none (by simp [rdRow_length]; omega)]

theorem rdVal_at {E : List (Nat × Nat)} {t R : Nat} (ht : t < E.length) : 
    rdVal R E t (E.getD t (0, 0)).1 = .slice (some ⟨R, offs E (E.getD t (0, 0)).1, none⟩) (cnt (E.take t) (E.getD t (0, 0)).1) (cnt E (E.getD t (0, 0)).1) ∧
    rdVal R E (t + 1) (E.getD t (0, 0)).1 = .slice (some ⟨R, offs E (E.getD t (0, 0)).1, none⟩) (cnt (E.take t) (E.getD t (0, 0)).1 + 1) (cnt E (E.getD t (0, 0)).1) ∧
    cnt (E.take t) (E.getD t (0, 0)).1 + 1 ≤ cnt E (E.getD t (0, 0)).1 := by
  have h1 := cnt_next ht (E.getD t (0, 0)).1
  have h2 := cnt_take_le E (t + 1) (E.getD t (0, 0)).1
  rw [if_pos rfl] at h1
  have h3 : ¬ cnt E (E.getD t (0, 0)).1 = 0 := by omega
  refine ⟨by unfold rdVal; rw [if_neg h3], by unfold rdVal; rw [if_neg h3, h1], by omega⟩

/-- append of one element where there is room, as a step of a region that draws. -/
theorem step_append_one {P : Program} {ops : Array Oper} {o : Oper} {a : Act} {w : World} {K : Act → World → Prop} {Q : Exit → Act → World → Prop} {X : Prop}
    (hg : o.guard = none) (s x : Operand) (t : TypeId) (hop : o.op = Op.call { callee := Callee.builtin Builtin.append, args := #[s, x], argTypes := #[t, t] })
    (e : TypeId) (z : Value) (bytes : Nat) (h1 : P.underlying t = some (.slice e)) (hinfo : (P.info? e).map (fun i => (i.zero, i.size, i.bytes)) = some (some z, 1, bytes))
    (b off n cap : Nat) (hs : a.eval s = .slice (some ⟨b, off, none⟩) n cap) (xb : Nat) (u : Value) (hx : a.eval x = .slice (some ⟨xb, 0, none⟩) 1 1) (hc : w.cell? ⟨xb, 0, none⟩ = some u) (h1c : u.oneCell' = true)
    (hroom : n + 1 ≤ cap) (old : Value) (hsp : w.cell? ⟨b, off + n, none⟩ = some old) (hfr : w.frozen? ⟨b, off + n, none⟩ = false)
    (hK : K (a.put o.dst (.slice (some ⟨b, off, none⟩) (n + 1) cap)) (w.setCell ⟨b, off + n, none⟩ u)) :
    if Region.wanted o (yielded ops a.tmps) = true then Oper.wp P o a w K Q else X := by
  obtain ⟨i, h2, h3, h4, h5⟩ := info_parts hinfo
  refine step_append_room hg s x t hop e i 1 h1 h2 h4 b off n cap hs ⟨xb, 0, none⟩ 1 1 [u] hx rfl ?_ (one_one _ h1c) hroom ?_ ?_
  · intro j v hj
    match j, hj with
    | 0, hj => simp at hj; subst hj; simpa [Addr.add] using hc
  · intro j hj
    simp at hj
    subst hj
    simp [hsp, hfr]
  · simpa [World.setCells] using hK

set_option maxHeartbeats 2000000 in
theorem grouped_any (w : World) (n : Nat) (E : List (Nat × Nat)) (eo : Option Addr) (ecap c0 : Nat) (hE : w.ownsRow 0 3 1 (.slice eo (2 * E.length) ecap) (2 * E.length) (flat E)) (hC : Row w c0 3 (cntVals n E))
    (hn : n ≤ 24) (hE1 : ∀ p ∈ E, p.1 < n) (hEl : E.length ≤ 1000) :
    Calls Yamd.prog 38 #[.slice eo (2 * E.length) ecap, .slice (some ⟨c0, 0, none⟩) n n] w fun e w' =>
      (∃ g, e = .returned (.slice (some ⟨g, 0, none⟩) n n) ∧ Readers w' w'.heap.size g n (rdrs E)) ∧ Below w.heap.size w w' := by
  go_enter Yamd.func38, Yamd.ntmps38
  go_wp2_with (first | (at_make; refine wpList_make_row _ rfl (.tmp 12) (.tmp 12) 38 rfl 3 (.int .i64 0) Yamd.underlying38 8 Yamd.info3 rfl .i64 .i64 _ _ E.length rfl rfl (by omega) (by omega) (by omega) (by unfold maxLen; omega) ?_; intro w1 hR1 hk1 hsz1) | (at_make; refine wpList_make_row _ rfl (.tmp 15) (.tmp 15) 51 rfl 38 (.slice none 0 0) Yamd.underlying51 24 Yamd.info38 rfl .i64 .i64 _ _ n rfl rfl (by omega) (by omega) (by omega) (by unfold maxLen; omega) ?_; intro w2 hG2 hk2 hsz2))
  rw [hsz1] at hG2
  have hb1 : Below w.heap.size w w1 := hk1.below (Nat.le_refl _) (by simp)
  have hb2 : Below w.heap.size w w2 := hb1.trans (hk2.below (by omega) (by simp))
  have hR2 : Row w2 w.heap.size 3 (zeros (.int .i64 0) E.length) := hR1.kept hk2 (by simp)
  clear hR1 hk1 hk2 hb1 hsz1 hsz2
  rw [← rdRow_zero w.heap.size E 0 n] at hG2
  go_loopw [5, 19] (fun rm i wr => ∃ (d o : Nat), d ≤ n ∧ i = .int .i64 d ∧ rm = .slice (some ⟨w.heap.size, o, none⟩) (E.length - offs E d) (E.length - offs E d) ∧ (offs E d < E.length → o = offs E d) ∧
      Row wr (w.heap.size + 1) 38 (rdRow w.heap.size E 0 n d) ∧ Row wr w.heap.size 3 (zeros (.int .i64 0) E.length) ∧ Below w.heap.size w wr) (fun _ i _ => n - (intOf i).toNat)
  case atStart => exact ⟨0, 0, Nat.zero_le _, rfl, by rw [offs_zero]; rfl, fun _ => (offs_zero E).symm, hG2, hR2, hb2⟩
  case round =>
    clear hG2 hR2 hb2
    obtain ⟨d, o, hd, rfl, rfl, ho, hG, hR, hb⟩ := hrel
    by_cases hlt : d < n
    · have h1 : wr.cell? ⟨c0, d, none⟩ = some (.int .i64 (cnt E d : Nat)) := cell_later hb (hC.cell (cntVals_get n E d hlt))
      have hoc := offs_cnt_le E d
      have hos := offs_succ E d
      have HOS : Hid (offs E (d + 1) = offs E d + cnt E d) := hos
      clear hos
      have HG : Hid (Row wr (w.heap.size + 1) 38 (rdRow w.heap.size E 0 n d)) := hG
      have gc := hG.cell (rdRow_get w.heap.size E 0 n d d hlt)
      have gf := hG.free d
      simp only [Nat.lt_irrefl, if_false] at gc
      clear hG
      by_cases hc : cnt E d = 0
      · have HC0 : Hid (cnt E d = 0) := hc
        rw [hc] at h1 hoc
        clear hc
        go_wp2
        go_roundw
        case rel =>
          have e1 : offs E (d + 1) = offs E d := by rw [HOS.out, HC0.out]; rfl
          exact ⟨d + 1, o, by omega, by go_num, by rw [e1], by rw [e1]; exact ho, by rw [rdRow_skip _ _ _ _ _ HC0.out]; exact HG.out, hR, hb⟩
        case measure => simp [intOf]; omega
      · have hc0 : decide (0 < (cnt E d : Int)) = true := by simp; omega
        obtain rfl := ho (by omega)
        have hpos : 0 < cnt E d := by omega
        clear ho hc
        obtain ⟨c, hcc⟩ : ∃ c, c = cnt E d := ⟨_, rfl⟩
        obtain ⟨f, hff⟩ : ∃ f, f = offs E d := ⟨_, rfl⟩
        have HCC : Hid (c = cnt E d) := hcc
        have HFF : Hid (f = offs E d) := hff
        rw [← hcc] at h1 hoc hc0 hpos HOS
        rw [← hff] at hoc HOS ⊢
        clear hcc hff
        have hc1 : decide (0 < c) = true := by simpa using hpos
        have hI0 : (0 : Int) ≤ (c : Int) := by omega
        have hI1 : (c : Int) ≤ ((E.length - f : Nat) : Int) := by omega
        have hI2 : c ≤ E.length - f := by omega
        have hJ0 : (0 : Int) ≤ (d : Int) := by omega
        have hJ1 : (d : Int) < (n : Int) := by omega
        go_wp2
        go_region
        go_wp2
        go_roundw
        case rel =>
          refine ⟨d + 1, if E.length - f = c then f else f + c, by omega, by go_num, ?_, ?_, ?_, ?_, ?_⟩
          · rw [HOS.out, Nat.sub_sub]; split <;> rfl
          · rw [HOS.out]; intro h; rw [if_neg (by omega)]
          · have h2 := HG.out.set d (rdVal w.heap.size E 0 d)
            rw [rdRow_put _ _ _ _ _ hlt, rdVal_zero _ _ _ (by rw [← HCC.out]; exact hpos), ← HCC.out, ← HFF.out] at h2
            exact h2
          · exact hR.other (by show w.heap.size + 1 ≠ w.heap.size; omega) _
          · exact (hb.setCell (p := ⟨w.heap.size + 1, d, none⟩) (by simp) _).drew
        case measure => simp [intOf]; omega
    · have hdn : d = n := by omega
      subst hdn
      clear ho
      go_wp2
      go_loopw [9] (fun i wx => ∃ (t q : Nat) (rm : List Value), t ≤ E.length ∧ q = 2 * t ∧ i = .int .i64 (q : Nat) ∧ Row wx (w.heap.size + 1) 38 (rdRow w.heap.size E t d d) ∧ Row wx w.heap.size 3 rm ∧ rm.length = E.length ∧ Placed E t d rm ∧ Below w.heap.size w wx)
        (fun i _ => 2 * E.length - (intOf i).toNat)
      case atStart => exact ⟨0, 0, _, Nat.zero_le _, rfl, rfl, hG, hR, zeros_length _ _, placed_start _ _ _, hb⟩
      case round =>
        clear hG hR hb
        obtain ⟨t, q, rm, ht, hq, rfl, hG, hR, hrl, hP, hb⟩ := hrel
        by_cases htl : t < E.length
        · have hGl := hG.lt
          obtain ⟨ge, ecap', hee, _, hgel⟩ := hE.form (by omega)
          simp only [Value.slice.injEq, true_and] at hee
          obtain ⟨rfl, rfl⟩ := hee
          obtain ⟨ef1, ef2⟩ := flat_get E t htl
          have ec1 := cell_later hb ((hE.cellAt (2 * t) (by omega)).trans ef1)
          have ec2 := cell_later hb ((hE.cellAt (2 * t + 1) (by omega)).trans ef2)
          obtain ⟨rv1, rv2, hroom⟩ := rdVal_at (R := w.heap.size) htl
          have hpn : (E.getD t (0, 0)).1 < d := hE1 _ (getD_mem E _ t htl)
          have gc := hG.cell (rdRow_get w.heap.size E t d d _ hpn)
          rw [if_pos hpn, rv1] at gc
          have gf := hG.free (E.getD t (0, 0)).1
          have hoc := offs_cnt_le E (E.getD t (0, 0)).1
          have HPn : Hid _ := placed_next hP htl hrl
          have HGn : Hid _ := rdRow_next (R := w.heap.size) htl hpn
          rw [rv2] at HGn
          have HRV : Hid _ := rv2
          obtain ⟨old, hold⟩ : ∃ old, rm[offs E (E.getD t (0, 0)).1 + cnt (E.take t) (E.getD t (0, 0)).1]? = some old := ⟨_, List.getElem?_eq_getElem (by omega)⟩
          have rc := hR.cell hold
          have rf := hR.free (offs E (E.getD t (0, 0)).1 + cnt (E.take t) (E.getD t (0, 0)).1)
          clear hP hold rv1 rv2 ef1 ef2 HRV
          generalize hp : E.getD t (0, 0) = p at *
          obtain ⟨pd, pi⟩ := p
          simp only at *
          generalize hcc : cnt (E.take t) pd = c at *
          generalize hff : offs E pd = f at *
          generalize hmm : cnt E pd = m at *
          have HH : Hid (_ ∧ _ ∧ _ ∧ _) := ⟨hp, hcc, hff, hmm⟩
          clear hp hcc hff hmm
          rw [← hq] at ec1 ec2
          have HQ : Hid (q = 2 * t) := hq
          have hqq : q + 1 < 2 * E.length := by omega
          clear hq
          have hI1 : (0 : Int) ≤ (q : Int) := by omega
          have hI2 : (q : Int) < 2 * (E.length : Int) := by omega
          have hI3 : (0 : Int) ≤ (q : Int) + 1 := by omega
          have hI4 : (q : Int) + 1 < 2 * (E.length : Int) := by omega
          have hI5 : (0 : Int) ≤ (pd : Int) := by omega
          have hI6 : (pd : Int) < (d : Int) := by omega
          have hW : IntKind.i64.wrap ((q : Int) + 1) = (q : Int) + 1 := by rw [IntKind.wrap_i64]; omega
          have hRl := hR.lt
          have hge2 : ge < wr.heap.size := by omega
          have HRC : Hid (∀ o, (wr.alloc o).cell? ⟨w.heap.size, f + c, none⟩ = some old) := fun o => (World.cell?_alloc_lt (w := wr) o (a := ⟨w.heap.size, f + c, none⟩) hRl).trans rc
          have HRF : Hid (∀ o, (wr.alloc o).frozen? ⟨w.heap.size, f + c, none⟩ = false) := fun o => (World.frozen?_of_block (Below.heap_alloc wr o w.heap.size hRl)).trans rf
          have HHG : Hid (_ ∧ _) := ⟨hG, hR⟩
          clear hG hR hE hC hE1
          go_wp2
          go_region
          go_wp2
          go_roundw
          case rel =>
            obtain ⟨hp, hcc, hff, hmm⟩ := HH.out
            obtain ⟨hG, hR⟩ := HHG.out
            have hq := HQ.out
            have hR5 := ((hR.set (f + c) (.int .i64 (pi : Nat))).other (a := ⟨w.heap.size + 1, pd, none⟩) (by show w.heap.size + 1 ≠ w.heap.size; omega) (.slice (some ⟨w.heap.size, f, none⟩) (c + 1) m)).alloc (.cells #[.int .i64 (pi : Nat)] 3)
            have hG5 := ((hG.other (a := ⟨w.heap.size, f + c, none⟩) (by show w.heap.size ≠ w.heap.size + 1; omega) (.int .i64 (pi : Nat))).set pd (.slice (some ⟨w.heap.size, f, none⟩) (c + 1) m)).alloc (.cells #[.int .i64 (pi : Nat)] 3)
            have hb5 := (((hb.setCell (p := ⟨w.heap.size, f + c, none⟩) (by simp) (.int .i64 (pi : Nat))).setCell (p := ⟨w.heap.size + 1, pd, none⟩) (by simp) (.slice (some ⟨w.heap.size, f, none⟩) (c + 1) m)).alloc (by simp [World.setCell]; omega) (.cells #[.int .i64 (pi : Nat)] 3)).drew
            rw [HGn.out] at hG5
            exact ⟨t + 1, q + 2, rm.set (f + c) (.int .i64 (pi : Nat)), by omega, by omega, by go_num, hG5, hR5, by simpa using hrl, HPn.out, hb5⟩
          case measure => simp [intOf]; omega
        · have hte : t = E.length := by omega
          subst hte
          have hbs := hb.size
          have hGl := hG.lt
          have hRl := hR.lt
          have hqe : (q : Int) = 2 * (E.length : Int) := by omega
          clear hq
          go_wp2
          go_ret
          refine ⟨⟨w.heap.size + 1, rfl, hGl, fun j hj => ?_⟩, hb⟩
          refine ⟨_, hG.cell (rdRow_get _ _ _ _ _ j hj), ?_⟩
          rw [if_pos hj]
          unfold rdVal
          have e1 : E.take E.length = E := List.take_length
          rw [e1]
          by_cases hc : cnt E j = 0
          · rw [if_pos hc]
            exact .inl ⟨rfl, List.length_eq_zero_iff.1 (by rw [rdrs_length]; exact hc)⟩
          · rw [if_neg hc]
            refine .inr ⟨w.heap.size, offs E j, cnt E j, by rw [rdrs_length], hRl, fun k hk => ?_⟩
            rw [rdrs_length] at hk
            have := hP j hj k (by rw [e1]; exact hk)
            rw [e1] at this
            exact hR.cell this
end Go.Proofs.Ygdamg
