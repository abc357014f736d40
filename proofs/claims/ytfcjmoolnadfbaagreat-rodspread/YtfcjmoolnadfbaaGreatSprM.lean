/- What RodSpread asks, in plain terms. -/
import Derived.Test.YtfcjmoolnadfbaaGreatSprA
set_option linter.unusedVariables false
namespace Go.V
theorem spread_of {x y r : Nat} (hx : 1 ≤ x ∧ x ≤ 4) (hy : 1 ≤ y ∧ y ≤ 5) (hr : r ≤ 3) : spreadOk x y r (covT x y r) (covT x y (r + 1)) = true := by
  have h := spread_all
  unfold spreadAll at h
  have h1 := List.all_eq_true.1 h (x - 1) (List.mem_range.2 (by omega))
  have h2 := List.all_eq_true.1 h1 (y - 1) (List.mem_range.2 (by omega))
  have h3 := List.all_eq_true.1 h2 r (List.mem_range.2 (by omega))
  rw [show x - 1 + 1 = x by omega, show y - 1 + 1 = y by omega] at h3
  exact h3
structure CovFacts (C Rw r T : Nat) : Prop where
  rng : 1 ≤ T ∧ T ≤ 30
  is : covOk C Rw r T = true
  no : ∀ m, m < T → 1 ≤ m → covOk C Rw r m = false
  ne : covL C Rw r T ≠ []
theorem cov_facts {C Rw r T : Nat} (h : coverGood C Rw r T = true) : CovFacts C Rw r T := by
  unfold coverGood at h
  simp only [Bool.and_eq_true, decide_eq_true_eq, Bool.not_eq_true', List.all_eq_true, List.mem_range, Bool.or_eq_true] at h
  obtain ⟨⟨⟨⟨h1, h2⟩, h3⟩, h4⟩, h5⟩ := h
  exact ⟨⟨h1, h2⟩, h3, fun m hm h1 => by
    rcases h4 m hm with e | e
    · omega
    · simpa using e, fun e => by rw [e] at h5; cases h5⟩
structure SpreadFacts (C Rw r T T' : Nat) : Prop where
  cov : CovFacts C Rw r T
  le : (scatB C Rw r).length ≤ (tipsL C Rw r T).length
  one : 1 ≤ (scatB C Rw r).length
  wide : (scatB C Rw r).length ≤ (scatB (C + 1) Rw r).length
  blind : ∀ w : Int, -1 ≤ w → w < min (((tipsL C Rw r T).length : Nat) : Int) 8 → blindGood C Rw (tipsL C Rw r T) r w = true
  pairs : pairsGood (scatB C Rw r) C r = true
  inb : ∀ c ∈ scatB C Rw r, hasC (C : Int) (Rw : Int) c = true
  more : r = 3 ∨ (CovFacts C Rw (r + 1) T' ∧ (tipsL C Rw (r + 1) T').length ≤ (tipsL C Rw r T).length)
theorem spread_facts {C Rw r T T' : Nat} (h : spreadOk C Rw r T T' = true) : SpreadFacts C Rw r T T' := by
  unfold spreadOk at h
  simp only [Bool.and_eq_true, decide_eq_true_eq, Bool.or_eq_true] at h
  obtain ⟨⟨⟨⟨⟨⟨⟨h1, h2⟩, h3⟩, h4⟩, h5⟩, h6⟩, h7⟩, h8⟩ := h
  refine ⟨cov_facts h1, h2, h3, h4, fun w hw1 hw2 => ?_, h6, fun c hc => List.all_eq_true.1 h7 c hc, h8.imp id fun h => ⟨cov_facts h.1, h.2⟩⟩
  have := List.all_eq_true.1 h5 (w + 1).toNat (List.mem_range.2 (by omega))
  rwa [show (((w + 1).toNat : Nat) : Int) - 1 = w by omega] at this
theorem rodsBut_zero (tips : List Cell) (r : Nat) (w : Int) : rodsBut tips r w 0 = [] := rfl
theorem rodsBut_in {tips : List Cell} {r : Nat} {w : Int} {i : Nat} {t : Cell} (ht : tips[i]? = some t) (h : (i : Int) ≠ w) : rodsBut tips r w (i + 1) = rodsBut tips r w i ++ [⟨t, (r : Int), 0⟩] := by
  unfold rodsBut; rw [List.range_succ, List.filterMap_append]; simp [h, ht]
theorem rodsBut_out {tips : List Cell} {r : Nat} {w : Int} {i : Nat} (h : ¬ (i : Int) ≠ w) : rodsBut tips r w (i + 1) = rodsBut tips r w i := by
  have h' : (i : Int) = w := by omega
  unfold rodsBut; rw [List.range_succ, List.filterMap_append]; simp [h']
theorem rodsBut_mem {tips : List Cell} {r : Nat} {w : Int} {i : Nat} {x : Rod} (h : x ∈ rodsBut tips r w i) : ∃ t ∈ tips, x = ⟨t, (r : Int), 0⟩ := by
  unfold rodsBut at h
  obtain ⟨j, _, hj⟩ := List.mem_filterMap.1 h
  split at hj
  · cases hj
  · cases e : tips[j]? with
    | none => rw [e] at hj; cases hj
    | some t => rw [e] at hj; simp only [Option.map_some, Option.some.injEq] at hj; exact ⟨t, List.mem_of_getElem? e, hj.symm⟩
theorem rodsBut_len (tips : List Cell) (r : Nat) (w : Int) (i : Nat) : (rodsBut tips r w i).length ≤ i := by
  unfold rodsBut; exact Nat.le_trans (List.length_filterMap_le _ _) (by simp)
theorem tips_at {C Rw r T : Nat} {t : Cell} (h : t ∈ tipsL C Rw r T) : ∃ k, k < C * Rw ∧ t = cellAt C k := by
  unfold tipsL filtC at h
  obtain ⟨k, hk, rfl⟩ := List.mem_map.1 h
  exact ⟨k, List.mem_range.1 (List.mem_filter.1 hk).1, rfl⟩
theorem cellAt_has {C Rw k : Nat} (hC : 1 ≤ C) (h : k < C * Rw) : hasC (C : Int) (Rw : Int) (cellAt C k) = true := by
  rw [hasC_iff]
  have h1 : k % C < C := Nat.mod_lt _ hC
  have h2 : k / C < Rw := Nat.div_lt_of_lt_mul h
  simp only [cellAt]
  generalize k % C = u at *; generalize k / C = v at *; omega
theorem rodsBut_ok {C Rw r T i : Nat} {w : Int} (hc : 1 ≤ C ∧ C ≤ 5 ∧ 1 ≤ Rw ∧ Rw ≤ 5) (hr : r ≤ 3) : ∀ x ∈ rodsBut (tipsL C Rw r T) r w i, RodOk x := fun x hx => by
  obtain ⟨t, ht, rfl⟩ := rodsBut_mem hx
  obtain ⟨k, hk, rfl⟩ := tips_at ht
  exact ⟨cellAt_Sm hc.2.1 hc.2.2.2 hk, by simp only []; omega, by simp only []; omega, Int.le_refl 0, by show (0 : Int) ≤ 9; decide⟩
theorem rodsBut_chk {C Rw r T i : Nat} {w : Int} (hc : 1 ≤ C ∧ C ≤ 5 ∧ 1 ≤ Rw ∧ Rw ≤ 5) (hr : r ≤ 3) (h8 : (rodsBut (tipsL C Rw r T) r w i).length ≤ 8) : chkBin (C : Int) (Rw : Int) (rodsBut (tipsL C Rw r T) r w i) = 0 := by
  have h1 : (rodsBut (tipsL C Rw r T) r w i).all (fun x => hasC (C : Int) (Rw : Int) x.tip) = true := by
    rw [List.all_eq_true]
    intro x hx
    obtain ⟨t, ht, rfl⟩ := rodsBut_mem hx
    obtain ⟨k, hk, rfl⟩ := tips_at ht
    exact cellAt_has hc.1 hk
  have h2 : (rodsBut (tipsL C Rw r T) r w i).all rngR = true := by
    rw [List.all_eq_true]
    intro x hx
    obtain ⟨t, ht, rfl⟩ := rodsBut_mem hx
    simp [rngR]; omega
  unfold chkBin
  rw [if_neg (by omega), if_neg (by rw [h1]; decide), if_neg (by rw [h2]; decide)]
theorem blind_use {C Rw r : Nat} {tips : List Cell} {w : Int} (h : blindGood C Rw tips r w = true) (h8 : ¬ 8 < (((rodsBut tips r w tips.length).length : Nat) : Int)) : (decide (((filtC C (blindP C (rodsBut tips r w tips.length)) (C * Rw)).length : Int) = 0) != decide (w < 0)) = false := by
  unfold blindGood at h
  simp only [Bool.or_eq_true, decide_eq_true_eq] at h
  have h1 := h.resolve_left (by omega)
  have e : decide (((filtC C (blindP C (rodsBut tips r w tips.length)) (C * Rw)).length : Int) = 0) = (filtC C (blindP C (rodsBut tips r w tips.length)) (C * Rw)).isEmpty := by
    cases filtC C (blindP C (rodsBut tips r w tips.length)) (C * Rw) <;> simp
    omega
  rw [e]
  have h2 := beq_iff_eq.1 h1
  rw [h2]; simp
theorem pairs_use {l : List Cell} {C r i j : Nat} {c d : Cell} (h : pairsGood l C r = true) (hi : l[i]? = some c) (hj : (l.take i)[j]? = some d) : ¬ dist c d ≤ 2 * (r : Int) ∧ d.row * (C : Int) + d.col < c.row * (C : Int) + c.col := by
  have hil := (List.getElem?_eq_some_iff.1 hi).1
  have hjl := (List.getElem?_eq_some_iff.1 hj).1
  rw [List.length_take] at hjl
  have hj' : l[j]? = some d := by rw [List.getElem?_take_of_lt (by omega)] at hj; exact hj
  have h1 := List.all_eq_true.1 h i (List.mem_range.2 hil)
  have h2 := List.all_eq_true.1 h1 j (List.mem_range.2 (by omega))
  rw [hi, hj'] at h2
  simpa using h2
theorem has_Sm {C Rw : Nat} (hc : C ≤ 5 ∧ Rw ≤ 5) {c : Cell} (h : hasC (C : Int) (Rw : Int) c = true) : Sm c := by
  rw [hasC_iff] at h; unfold Sm; omega
end Go.V
