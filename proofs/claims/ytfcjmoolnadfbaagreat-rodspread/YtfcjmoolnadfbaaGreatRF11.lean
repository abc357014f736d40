/- Contracts of functions of package rod, printed by vgen: part RF11. -/
import Derived.Test.YtfcjmoolnadfbaaGreatProg
import Derived.Test.YtfcjmoolnadfbaaGreatRSpec
import Derived.Test.YtfcjmoolnadfbaaGreatRF1
import Derived.Test.YtfcjmoolnadfbaaGreatRF2
import Derived.Test.YtfcjmoolnadfbaaGreatRF3
import Derived.Test.YtfcjmoolnadfbaaGreatRF4
import Derived.Test.YtfcjmoolnadfbaaGreatVLate
import Derived.Test.YtfcjmoolnadfbaaGreatSSpec
import Derived.Test.YtfcjmoolnadfbaaGreatSort
import Derived.Test.YtfcjmoolnadfbaaGreatRF5
import Derived.Test.YtfcjmoolnadfbaaGreatRF6
import Derived.Test.YtfcjmoolnadfbaaGreatRF7
import Derived.Test.YtfcjmoolnadfbaaGreatVTbl
import Derived.Test.YtfcjmoolnadfbaaGreatShelfB
import Derived.Test.YtfcjmoolnadfbaaGreatRF8
import Derived.Test.YtfcjmoolnadfbaaGreatSortC
import Derived.Test.YtfcjmoolnadfbaaGreatRF9
import Derived.Test.YtfcjmoolnadfbaaGreatRF10
import Derived.Test.YtfcjmoolnadfbaaGreatSprM
import Derived.KernelRfl
set_option linter.unusedVariables false
set_option linter.unusedSimpArgs false
namespace Go.Proofs.YtfcjmoolnadfbaaGreat
open Go.V
theorem fn_10 : fnOk Tryz.prog 10 = true := by kernel_rfl
theorem fn_11 : fnOk Tryz.prog 11 = true := by kernel_rfl
theorem fn_12 : fnOk Tryz.prog 12 = true := by kernel_rfl
theorem fn_13 : fnOk Tryz.prog 13 = true := by kernel_rfl
theorem fn_14 : fnOk Tryz.prog 14 = true := by kernel_rfl
theorem ub_4 : Program.underlying Tryz.prog 4 = some .bool := by kernel_rfl
theorem ui_3 : Program.underlying Tryz.prog 3 = some (.int .i64) := by kernel_rfl
theorem us_5 : (Program.underlying Tryz.prog 5).isSome = true := by kernel_rfl
set_option maxHeartbeats 1000000 in
theorem spread_ct (g : Hp) {p q s : Nat} (hp : p < 256) (hq : q < 256) (hs : s < 256) : Ct Tryz.prog 3 [.int .u8 (p : Int), .int .u8 (q : Int), .int .u8 (s : Int)].toArray g [] (fun v rs => v = .bool true ∧ rs = []) := by
  obtain ⟨x, hx⟩ : ∃ x : Nat, x = 1 + p % 4 := ⟨_, rfl⟩
  obtain ⟨y, hy⟩ : ∃ y : Nat, y = 1 + q % 5 := ⟨_, rfl⟩
  obtain ⟨r, hr0⟩ : ∃ r : Nat, r = s % 4 := ⟨_, rfl⟩
  have hxx : 1 ≤ x ∧ x ≤ 4 := by omega
  have hyy : 1 ≤ y ∧ y ≤ 5 := by omega
  have hr3 : r ≤ 3 := by omega
  have hc : 1 ≤ x ∧ x ≤ 5 ∧ 1 ≤ y ∧ y ≤ 5 := by omega
  have hc1 : 1 ≤ x + 1 ∧ x + 1 ≤ 5 ∧ 1 ≤ y ∧ y ≤ 5 := by omega
  obtain ⟨T1, hT1⟩ : ∃ T1, T1 = covT x y r := ⟨_, rfl⟩
  obtain ⟨T2, hT2⟩ : ∃ T2, T2 = covT x y (r + 1) := ⟨_, rfl⟩
  have hsf : SpreadFacts x y r T1 T2 := by rw [hT1, hT2]; exact spread_facts (spread_of hxx hyy hr3)
  have hw25 : x * y ≤ 25 := Nat.mul_le_mul hc.2.1 hc.2.2.2
  have htl : (filtC x (covP (covL x y r T1)) (x * y)).length ≤ x * y := filtC_len _ _ _
  have hlen1 : (scatB x y (r : Int)).length ≤ (filtC x (covP (covL x y r T1)) (x * y)).length := hsf.le
  have hlen2 : 1 ≤ (scatB x y (r : Int)).length := hsf.one
  have hlen3 : (scatB x y (r : Int)).length ≤ (scatB (x + 1) y (r : Int)).length := hsf.wide
  refine Ct.of_body (N := 194) (l := [.int .u8 (p : Int), .int .u8 (q : Int), .int .u8 (s : Int)]) Tryz.func3 rfl rfl (Nat.le_of_ble_eq_true rfl) fun n0 => ?_
  refine .seq ?_
  refine .region ?_
  refine .y (.assign rfl) trivial rfl rfl ?_
  refine .nil ?_
  refine .seq ?_
  refine .region ?_
  refine .y (.move rfl) trivial rfl rfl ?_
  refine .y (.convu (m := (p : Int)) rfl us_5 ui_3 (by rw [IntKind.wrap_i64]; omega)) trivial rfl rfl ?_
  refine .y (.rem rfl rfl (by omega)) trivial rfl rfl ?_
  refine .y (.to (v' := .int .i64 (x : Int)) (.add rfl rfl (by omega)) (congrArg _ (by omega))) trivial rfl rfl ?_
  refine .y (.move rfl) trivial rfl rfl ?_
  refine .y (.convu (m := (q : Int)) rfl us_5 ui_3 (by rw [IntKind.wrap_i64]; omega)) trivial rfl rfl ?_
  refine .y (.rem rfl rfl (by omega)) trivial rfl rfl ?_
  refine .y (.to (v' := .int .i64 (y : Int)) (.add rfl rfl (by omega)) (congrArg _ (by omega))) trivial rfl rfl ?_
  refine .y (.move rfl) trivial rfl rfl ?_
  refine .y (.convu (m := (s : Int)) rfl us_5 ui_3 (by rw [IntKind.wrap_i64]; omega)) trivial rfl rfl ?_
  refine .y (.to (v' := .int .i64 (r : Int)) (.rem rfl rfl (by omega)) (congrArg _ (by omega))) trivial rfl rfl ?_
  refine .y (.assign rfl) trivial rfl rfl ?_
  refine .y (.assign rfl) trivial rfl rfl ?_
  refine .y (.assign rfl) trivial rfl rfl ?_
  refine .nil ?_
  refine .seq ?_
  refine .region ?_
  refine .y (.move rfl) trivial rfl rfl ?_
  refine .y (.move rfl) trivial rfl rfl ?_
  refine .y (.move rfl) trivial rfl rfl ?_
  refine .c (.call rfl rfl fn_9) trivial rfl rfl (fun own ho hd => Cover_ct _ (C := x) (Rw := y) (r := r) (Tn := T1) hc hr3 hsf.cov.rng hsf.cov.is hsf.cov.no hsf.cov.ne) ?_
  rintro _ _ ⟨a1, c1, rfl, rfl, hf1⟩
  refine .y (.move rfl) trivial rfl rfl ?_
  refine .y (.extract rfl rfl) trivial rfl rfl ?_
  refine .y (.extract rfl rfl) trivial rfl rfl ?_
  refine .y (.assign rfl) trivial rfl rfl ?_
  refine .y (.assign rfl) trivial rfl rfl ?_
  refine .nil ?_
  refine .seq ?_
  refine .region ?_
  refine .y (.move rfl) trivial rfl rfl ?_
  refine .y (.move rfl) trivial rfl rfl ?_
  refine .y (.move rfl) trivial rfl rfl ?_
  refine .c (.call rfl rfl fn_10) trivial rfl rfl (fun own ho hd => Scattered_ct _ (C := x) (Rw := y) (r := r) hc hr3) ?_
  rintro _ _ ⟨a2, c2, rfl, rfl, hf2⟩
  refine .y (.move rfl) trivial rfl rfl ?_
  refine .y (.extract rfl rfl) trivial rfl rfl ?_
  refine .y (.extract rfl rfl) trivial rfl rfl ?_
  refine .y (.assign rfl) trivial rfl rfl ?_
  refine .y (.assign rfl) trivial rfl rfl ?_
  refine .nil ?_
  refine .seq ?_
  refine .region ?_
  refine .y (.move rfl) trivial rfl rfl ?_
  refine .y (.to (v' := .int .i64 (((x + 1) : Nat) : Int)) (.add rfl rfl (by omega)) (congrArg _ (by omega))) trivial rfl rfl ?_
  refine .y (.move rfl) trivial rfl rfl ?_
  refine .y (.move rfl) trivial rfl rfl ?_
  refine .c (.call rfl rfl fn_10) trivial rfl rfl (fun own ho hd => Scattered_ct _ (C := x + 1) (Rw := y) (r := r) hc1 hr3) ?_
  rintro _ _ ⟨a3, c3, rfl, rfl, hf3⟩
  refine .y (.move rfl) trivial rfl rfl ?_
  refine .y (.extract rfl rfl) trivial rfl rfl ?_
  refine .y (.extract rfl rfl) trivial rfl rfl ?_
  refine .y (.assign rfl) trivial rfl rfl ?_
  refine .y (.assign rfl) trivial rfl rfl ?_
  refine .nil ?_
  refine .seq ?_
  refine .seq ?_
  refine .region ?_
  refine .y (.move rfl) trivial rfl rfl ?_
  refine .y (.to (.neq rfl rfl) (v' := .bool false) rfl) trivial rfl rfl ?_
  refine .y (.move rfl) trivial rfl rfl ?_
  refine .y (.move rfl) ⟨_, rfl, rfl⟩ rfl rfl ?_
  refine .y (.to (.neq rfl rfl) (v' := .bool false) rfl) ⟨_, rfl, rfl⟩ rfl rfl ?_
  refine .y (.pick_f rfl rfl) trivial rfl rfl ?_
  refine .y (.move rfl) trivial rfl rfl ?_
  refine .y (.move rfl) ⟨_, rfl, rfl⟩ rfl rfl ?_
  refine .y (.to (.neq rfl rfl) (v' := .bool false) rfl) ⟨_, rfl, rfl⟩ rfl rfl ?_
  refine .y (.pick_f rfl rfl) trivial rfl rfl ?_
  refine .y (.move rfl) trivial rfl rfl ?_
  refine .y (.move rfl) ⟨_, rfl, rfl⟩ rfl rfl ?_
  refine .y (.len rfl sl_22) ⟨_, rfl, rfl⟩ rfl rfl ?_
  refine .y (.move rfl) ⟨_, rfl, rfl⟩ rfl rfl ?_
  refine .y (.len rfl sl_22) ⟨_, rfl, rfl⟩ rfl rfl ?_
  refine .y (.to (v' := .bool false) (.gtr rfl rfl) (congrArg Value.bool (decide_eq_false (by omega)))) ⟨_, rfl, rfl⟩ rfl rfl ?_
  refine .y (.pick_f rfl rfl) trivial rfl rfl ?_
  refine .y (.move rfl) trivial rfl rfl ?_
  refine .y (.move rfl) ⟨_, rfl, rfl⟩ rfl rfl ?_
  refine .y (.len rfl sl_22) ⟨_, rfl, rfl⟩ rfl rfl ?_
  refine .y (.to (v' := .bool false) (.lss rfl rfl) (congrArg Value.bool (decide_eq_false (by omega)))) ⟨_, rfl, rfl⟩ rfl rfl ?_
  refine .y (.pick_f rfl rfl) trivial rfl rfl ?_
  refine .y (.move rfl) trivial rfl rfl ?_
  refine .y (.move rfl) ⟨_, rfl, rfl⟩ rfl rfl ?_
  refine .y (.len rfl sl_22) ⟨_, rfl, rfl⟩ rfl rfl ?_
  refine .y (.move rfl) ⟨_, rfl, rfl⟩ rfl rfl ?_
  refine .y (.len rfl sl_22) ⟨_, rfl, rfl⟩ rfl rfl ?_
  refine .y (.to (v' := .bool false) (.lss rfl rfl) (congrArg Value.bool (decide_eq_false (by omega)))) ⟨_, rfl, rfl⟩ rfl rfl ?_
  refine .y (.pick_f rfl rfl) trivial rfl rfl ?_
  refine .nil ?_
  refine .cond_f rfl ?_
  refine .skip ?_
  refine .seq ?_
  refine .seq ?_
  refine .region ?_
  refine .y (.assign rfl) trivial rfl rfl ?_
  refine .nil ?_
  refine .block ?_
  refine T.loop (ι := { zz : Int // -1 ≤ zz ∧ zz ≤ 8 ∧ zz ≤ ((filtC x (covP (covL x y r T1)) (x * y)).length : Int) }) (fun zz => ([(16, .int .i64 zz.1), (7, .int .i64 (x : Int)), (8, .int .i64 (y : Int)), (9, .int .i64 (r : Int)), (10, .slice a1 ((filtC x (covP (covL x y r T1)) (x * y)).length) c1), (12, .slice a2 ((scatB x y (r : Int)).length) c2)], [SlD eCell a3 (scatB (x + 1) y (r : Int)), SlD eCell a2 (scatB x y (r : Int)), SlO eCell 30 a1 c1 (filtC x (covP (covL x y r T1)) (x * y))])) (fun zz => (8 - zz.1).toNat) ⟨((-1)), ⟨by omega, by omega, by omega⟩⟩ (.one rfl (.one rfl (.one rfl (.one rfl (.one rfl (.one rfl (.nil))))))) (.refl _) ?_
  rintro ⟨w, hP0⟩
  show T _ [(16, .int .i64 w), (7, .int .i64 (x : Int)), (8, .int .i64 (y : Int)), (9, .int .i64 (r : Int)), (10, .slice a1 ((filtC x (covP (covL x y r T1)) (x * y)).length) c1), (12, .slice a2 ((scatB x y (r : Int)).length) c2)] [SlD eCell a3 (scatB (x + 1) y (r : Int)), SlD eCell a2 (scatB x y (r : Int)), SlO eCell 30 a1 c1 (filtC x (covP (covL x y r T1)) (x * y))] _ _
  refine .seq ?_
  refine .seq ?_
  refine .region ?_
  refine .y (.move rfl) trivial rfl rfl ?_
  refine .y (.move rfl) trivial rfl rfl ?_
  refine .y (.len rfl sl_22) trivial rfl rfl ?_
  refine .y (.mini rfl rfl) trivial rfl rfl ?_
  refine .y (.lss rfl rfl) trivial rfl rfl ?_
  refine .nil ?_
  refine .ite rfl (fun h1 => ?_) (fun h1 => ?_)
  · refine .skip ?_
    refine .seq ?_
    refine .block ?_
    refine .seq ?_
    refine .region ?_
    refine .y (.move rfl) trivial rfl rfl ?_
    refine .y (.move rfl) trivial rfl rfl ?_
    refine .y (.build rfl pl_28 zr_28 rfl) trivial rfl rfl ?_
    refine .n (.alloc zr_28) trivial rfl rfl fun B1 => ?_
    refine .cons trivial (.store 0 rfl rfl rfl sz_28 rfl rfl (Nat.le_of_ble_eq_true rfl) rfl ?_)
    refine .nil ?_
    refine .seq ?_
    refine .seq ?_
    refine .region ?_
    refine .y (.move rfl) trivial rfl rfl ?_
    refine .y (.len rfl sl_22) trivial rfl rfl ?_
    refine .y (.move rfl) trivial rfl rfl ?_
    refine .nil ?_
    refine .block ?_
    refine T.loop (ι := { zz : Nat × List Rod × Option Addr × Nat // zz.1 ≤ (filtC x (covP (covL x y r T1)) (x * y)).length ∧ zz.2.1 = rodsBut (filtC x (covP (covL x y r T1)) (x * y)) r w zz.1 ∧ SlOk zz.2.2.1 zz.2.2.2 }) (fun zz => ([(101, .int .i64 (zz.1.1 : Int)), (7, .int .i64 (x : Int)), (8, .int .i64 (y : Int)), (9, .int .i64 (r : Int)), (10, .slice a1 ((filtC x (covP (covL x y r T1)) (x * y)).length) c1), (12, .slice a2 ((scatB x y (r : Int)).length) c2), (16, .int .i64 w), (17, .pointer (some ⟨B1, 0, none⟩)), (99, .slice a1 ((filtC x (covP (covL x y r T1)) (x * y)).length) c1), (100, .int .i64 ((filtC x (covP (covL x y r T1)) (x * y)).length : Int))], [SlO eRod 32 zz.1.2.2.1 zz.1.2.2.2 zz.1.2.1, As.one B1 (.cells #[.int .i64 (x : Int), .int .i64 (y : Int), .slice zz.1.2.2.1 zz.1.2.1.length zz.1.2.2.2] 28 (0, 0)), SlD eCell a3 (scatB (x + 1) y (r : Int)), SlD eCell a2 (scatB x y (r : Int)), SlO eCell 30 a1 c1 (filtC x (covP (covL x y r T1)) (x * y))])) (fun zz => (filtC x (covP (covL x y r T1)) (x * y)).length - zz.1.1) ⟨(0, [], none, 0), ⟨Nat.zero_le _, rfl, .nil⟩⟩ (.one rfl (.one rfl (.one rfl (.one rfl (.one rfl (.one rfl (.one rfl (.one rfl (.one rfl (.one rfl (.nil))))))))))) (.nilSl (.refl _)) ?_
    rintro ⟨⟨i, rods, a, c⟩, hP2⟩
    dsimp only at hP2
    show T _ [(101, .int .i64 (i : Int)), (7, .int .i64 (x : Int)), (8, .int .i64 (y : Int)), (9, .int .i64 (r : Int)), (10, .slice a1 ((filtC x (covP (covL x y r T1)) (x * y)).length) c1), (12, .slice a2 ((scatB x y (r : Int)).length) c2), (16, .int .i64 w), (17, .pointer (some ⟨B1, 0, none⟩)), (99, .slice a1 ((filtC x (covP (covL x y r T1)) (x * y)).length) c1), (100, .int .i64 ((filtC x (covP (covL x y r T1)) (x * y)).length : Int))] [SlO eRod 32 a c rods, As.one B1 (.cells #[.int .i64 (x : Int), .int .i64 (y : Int), .slice a rods.length c] 28 (0, 0)), SlD eCell a3 (scatB (x + 1) y (r : Int)), SlD eCell a2 (scatB x y (r : Int)), SlO eCell 30 a1 c1 (filtC x (covP (covL x y r T1)) (x * y))] _ _
    have hrl : rods.length ≤ i := by rw [hP2.2.1]; exact rodsBut_len _ _ _ _
    refine .seq ?_
    refine .region ?_
    refine .y (.lss rfl rfl) trivial rfl rfl ?_
    refine .nil ?_
    refine .seq ?_
    refine .ite rfl (fun h2 => ?_) (fun h2 => ?_)
    · refine .skip ?_
      refine .seq ?_
      refine .block ?_
      refine .seq ?_
      refine .region ?_
      refine .y (.move rfl) trivial rfl rfl ?_
      have hbhx1 : i < (filtC x (covP (covL x y r T1)) (x * y)).length := by omega
      obtain ⟨x1, hx1⟩ : ∃ x1, (filtC x (covP (covL x y r T1)) (x * y))[i]? = some x1 := ⟨_, List.getElem?_eq_getElem hbhx1⟩
      refine .y (.indexE (E := eCell) rfl rfl (.own 4 rfl) rfl sl_22 sz_30 (by omega)) trivial rfl rfl ?_
      refine .y (.loadE (E := eCell) rfl (.own 4 rfl) ag_30 sz_30 (by decide) (eCell.rd0 hx1 (by decide) (by decide) rfl)) trivial rfl rfl ?_
      refine .n (.alloc zr_30) trivial rfl rfl fun B2 => ?_
      refine .y (.assign rfl) trivial rfl rfl ?_
      refine .cons trivial (.store 0 rfl rfl rfl sz_30 rfl rfl (Nat.le_of_ble_eq_true rfl) rfl ?_)
      refine .nil ?_
      refine .seq ?_
      refine .region ?_
      refine .y (.move rfl) trivial rfl rfl ?_
      refine .y (.move rfl) trivial rfl rfl ?_
      refine .y (.neq rfl rfl) trivial rfl rfl ?_
      refine .nil ?_
      refine .ite rfl (fun h3 => ?_) (fun h3 => ?_)
      · refine .region ?_
        refine .y (.fieldAddr rfl fl_28_2) trivial rfl rfl ?_
        refine .y (.load rfl (.own 2 rfl) ag_26 sz_26 rfl) trivial rfl rfl ?_
        refine .y (.load rfl (.own 0 rfl) ag_30 sz_30 rfl) trivial rfl rfl ?_
        refine .y (.move rfl) trivial rfl rfl ?_
        refine .y (.to (v' := .agg #[.int .i64 x1.col, .int .i64 x1.row, .int .i64 (r : Int), .int .i64 0]) (.build rfl pl_32 zr_32 rfl) rfl) trivial rfl rfl ?_
        refine .n (.lit (cells := #[.int .i64 x1.col, .int .i64 x1.row, .int .i64 (r : Int), .int .i64 0]) #[.int .i64 0, .int .i64 0, .int .i64 0, .int .i64 0] lz_32_1 rfl sl_26 sz_32 zr_32 rfl rfl rfl) trivial rfl rfl fun B3 => ?_
        refine .cons trivial (.app (E := eRod) (ys := [⟨⟨x1.col, x1.row⟩, (r : Int), 0⟩]) 2 el_26 rfl rfl rfl rfl rfl (.of_cells (.own 0 rfl)) (fun h => by cases h) (by first | omega | (simp; omega) | (simp [*]; omega)) (by first | omega | (simp; omega) | (simp [*]; omega)) rfl fun a4 c4 oka4 => ?_)
        refine .y (.fieldAddr rfl fl_28_2) trivial rfl rfl ?_
        refine .cons trivial (.store 3 rfl rfl rfl sz_26 rfl rfl (Nat.le_of_ble_eq_true rfl) rfl ?_)
        refine .nil ?_
        refine .region ?_
        refine .y (.add rfl rfl (by omega)) trivial rfl rfl ?_
        refine .y (.move rfl) trivial rfl rfl ?_
        refine .nil ?_
        refine ⟨⟨(i + 1, rods ++ ([⟨⟨x1.col, x1.row⟩, (r : Int), 0⟩]), a4, c4), ?_⟩, ?_, (.one rfl (.one rfl (.one rfl (.one rfl (.one rfl (.one rfl (.one rfl (.one rfl (.one rfl (.one rfl (.nil))))))))))), (.pick 2 rfl (.pick 2 rfl (.pick 2 rfl (.pick 2 rfl (.pick 2 rfl (.nil _))))))⟩
        · exact ⟨by omega, by rw [rodsBut_in hx1 h3, ← hP2.2.1], by assumption⟩
        · show (filtC x (covP (covL x y r T1)) (x * y)).length - (i + 1) < (filtC x (covP (covL x y r T1)) (x * y)).length - i; omega
      · refine .skip ?_
        refine .region ?_
        refine .y (.add rfl rfl (by omega)) trivial rfl rfl ?_
        refine .y (.move rfl) trivial rfl rfl ?_
        refine .nil ?_
        refine ⟨⟨(i + 1, rods, a, c), ?_⟩, ?_, (.one rfl (.one rfl (.one rfl (.one rfl (.one rfl (.one rfl (.one rfl (.one rfl (.one rfl (.one rfl (.nil))))))))))), (.pick 1 rfl (.pick 1 rfl (.pick 1 rfl (.pick 1 rfl (.pick 1 rfl (.nil _))))))⟩
        · exact ⟨by omega, by rw [rodsBut_out h3, ← hP2.2.1], hP2.2.2⟩
        · show (filtC x (covP (covL x y r T1)) (x * y)).length - (i + 1) < (filtC x (covP (covL x y r T1)) (x * y)).length - i; omega
    · have hrods : rods = rodsBut (filtC x (covP (covL x y r T1)) (x * y)) r w (filtC x (covP (covL x y r T1)) (x * y)).length := by
        rw [hP2.2.1]; congr 1; omega
      refine .exit ?_
      refine inB_hit ?_
      refine .seq ?_
      refine .seq ?_
      refine .region ?_
      refine .y (.fieldAddr rfl fl_28_2) trivial rfl rfl ?_
      refine .y (.load rfl (.own 1 rfl) ag_26 sz_26 rfl) trivial rfl rfl ?_
      refine .y (.len rfl sl_26) trivial rfl rfl ?_
      refine .y (.gtr rfl rfl) trivial rfl rfl ?_
      refine .nil ?_
      refine .ite rfl (fun h4 => ?_) (fun h4 => ?_)
      · refine .exit ?_
        refine inB_hit ?_
        refine .region ?_
        refine .y (.move rfl) trivial rfl rfl ?_
        refine .y (.add rfl rfl (by omega)) trivial rfl rfl ?_
        refine .y (.assign rfl) trivial rfl rfl ?_
        refine .nil ?_
        refine ⟨⟨(w + 1), ?_⟩, ?_, (.one rfl (.one rfl (.one rfl (.one rfl (.one rfl (.one rfl (.nil))))))), (.pick 2 rfl (.pick 2 rfl (.pick 2 rfl (.nil _))))⟩
        · exact ⟨by omega, by omega, by omega⟩
        · show (8 - (w + 1)).toNat < (8 - w).toNat; omega
      · have hv8 : ∀ x ∈ rods, RodOk x := by rw [hrods]; exact rodsBut_ok hc hr3
        have hck8 : chkBin (x : Int) (y : Int) rods = 0 := by
          have h8 : (rodsBut (tipsL x y r T1) r w (filtC x (covP (covL x y r T1)) (x * y)).length).length ≤ 8 := by
            rw [show tipsL x y r T1 = (filtC x (covP (covL x y r T1)) (x * y)) from rfl, ← hrods]; omega
          rw [hrods]; exact rodsBut_chk hc hr3 h8
        refine .skip ?_
        refine .seq ?_
        refine .region ?_
        refine .y (.load rfl (.own 1 rfl) ag_28 sz_28 rfl) trivial rfl rfl ?_
        refine .c (.call rfl rfl fn_11) trivial rfl rfl (fun own ho hd => Blind_ct _ hc (rods := rods) (SlAt.in_own 0 rfl ho hd) (by omega) hv8 hck8) ?_
        rintro _ _ ⟨a5, c5, rfl, rfl, hf4⟩
        refine .y (.move rfl) trivial rfl rfl ?_
        refine .y (.extract rfl rfl) trivial rfl rfl ?_
        refine .y (.extract rfl rfl) trivial rfl rfl ?_
        refine .y (.assign rfl) trivial rfl rfl ?_
        refine .y (.assign rfl) trivial rfl rfl ?_
        refine .nil ?_
        refine .seq ?_
        refine .region ?_
        refine .y (.move rfl) trivial rfl rfl ?_
        refine .y (.to (.neq rfl rfl) (v' := .bool false) rfl) trivial rfl rfl ?_
        refine .y (.move rfl) trivial rfl rfl ?_
        refine .y (.move rfl) ⟨_, rfl, rfl⟩ rfl rfl ?_
        refine .y (.len rfl sl_22) ⟨_, rfl, rfl⟩ rfl rfl ?_
        refine .y (.eql rfl rfl) ⟨_, rfl, rfl⟩ rfl rfl ?_
        refine .y (.move rfl) ⟨_, rfl, rfl⟩ rfl rfl ?_
        refine .y (.lss rfl rfl) ⟨_, rfl, rfl⟩ rfl rfl ?_
        refine .y (.to (v' := .bool false) (.neqb rfl rfl ub_4) (congrArg Value.bool (by rw [hrods]; exact blind_use (hsf.blind w (by omega) (by show w < min (((filtC x (covP (covL x y r T1)) (x * y)).length : Nat) : Int) 8; omega)) (by rw [hrods] at h4; exact h4)))) ⟨_, rfl, rfl⟩ rfl rfl ?_
        refine .y (.pick_f rfl rfl) trivial rfl rfl ?_
        refine .nil ?_
        refine .cond_f rfl ?_
        refine .skip ?_
        refine .region ?_
        refine .y (.move rfl) trivial rfl rfl ?_
        refine .y (.add rfl rfl (by omega)) trivial rfl rfl ?_
        refine .y (.assign rfl) trivial rfl rfl ?_
        refine .nil ?_
        refine ⟨⟨(w + 1), ?_⟩, ?_, (.one rfl (.one rfl (.one rfl (.one rfl (.one rfl (.one rfl (.nil))))))), (.pick 3 rfl (.pick 3 rfl (.pick 3 rfl (.nil _))))⟩
        · exact ⟨by omega, by omega, by omega⟩
        · show (8 - (w + 1)).toNat < (8 - w).toNat; omega
  · refine .exit ?_
    refine inB_hit ?_
    refine .seq ?_
    refine .seq ?_
    refine .region ?_
    refine .y (.move rfl) trivial rfl rfl ?_
    refine .y (.len rfl sl_22) trivial rfl rfl ?_
    refine .y (.move rfl) trivial rfl rfl ?_
    refine .nil ?_
    refine .block ?_
    refine T.loop (ι := { zz : Nat // zz ≤ (scatB x y (r : Int)).length }) (fun zz => ([(139, .int .i64 (zz.1 : Int)), (7, .int .i64 (x : Int)), (8, .int .i64 (y : Int)), (9, .int .i64 (r : Int)), (10, .slice a1 ((filtC x (covP (covL x y r T1)) (x * y)).length) c1), (12, .slice a2 ((scatB x y (r : Int)).length) c2), (137, .slice a2 ((scatB x y (r : Int)).length) c2), (138, .int .i64 ((scatB x y (r : Int)).length : Int))], [SlD eCell a3 (scatB (x + 1) y (r : Int)), SlD eCell a2 (scatB x y (r : Int)), SlO eCell 30 a1 c1 (filtC x (covP (covL x y r T1)) (x * y))])) (fun zz => (scatB x y (r : Int)).length - zz.1) ⟨(0), Nat.zero_le _⟩ (.one rfl (.one rfl (.one rfl (.one rfl (.one rfl (.one rfl (.one rfl (.one rfl (.nil))))))))) (.refl _) ?_
    rintro ⟨i, hP4⟩
    show T _ [(139, .int .i64 (i : Int)), (7, .int .i64 (x : Int)), (8, .int .i64 (y : Int)), (9, .int .i64 (r : Int)), (10, .slice a1 ((filtC x (covP (covL x y r T1)) (x * y)).length) c1), (12, .slice a2 ((scatB x y (r : Int)).length) c2), (137, .slice a2 ((scatB x y (r : Int)).length) c2), (138, .int .i64 ((scatB x y (r : Int)).length : Int))] [SlD eCell a3 (scatB (x + 1) y (r : Int)), SlD eCell a2 (scatB x y (r : Int)), SlO eCell 30 a1 c1 (filtC x (covP (covL x y r T1)) (x * y))] _ _
    refine .seq ?_
    refine .region ?_
    refine .y (.lss rfl rfl) trivial rfl rfl ?_
    refine .nil ?_
    refine .seq ?_
    refine .ite rfl (fun h5 => ?_) (fun h5 => ?_)
    · refine .skip ?_
      refine .seq ?_
      refine .block ?_
      refine .seq ?_
      refine .region ?_
      refine .y (.move rfl) trivial rfl rfl ?_
      have hbhx2 : i < (scatB x y (r : Int)).length := by omega
      obtain ⟨x2, hx2⟩ : ∃ x2, (scatB x y (r : Int))[i]? = some x2 := ⟨_, List.getElem?_eq_getElem hbhx2⟩
      have hsm2 : Sm x2 := has_Sm ⟨hc.2.1, hc.2.2.2⟩ (hsf.inb _ (List.mem_of_getElem? hx2))
      have hc2 := hx2
      refine .y (.indexE (E := eCell) rfl rfl (.rd 1 rfl) rfl sl_22 sz_30 (by omega)) trivial rfl rfl ?_
      refine .y (.loadE (E := eCell) rfl (.rd 1 rfl) ag_30 sz_30 (by decide) (eCell.rd0 hx2 (by decide) (by decide) rfl)) trivial rfl rfl ?_
      refine .n (.alloc zr_30) trivial rfl rfl fun B4 => ?_
      refine .y (.assign rfl) trivial rfl rfl ?_
      refine .cons trivial (.store 0 rfl rfl rfl sz_30 rfl rfl (Nat.le_of_ble_eq_true rfl) rfl ?_)
      refine .nil ?_
      refine .seq ?_
      refine .region ?_
      refine .y (.move rfl) trivial rfl rfl ?_
      refine .y (.move rfl) trivial rfl rfl ?_
      refine .y (.to (v' := .slice a2 (((scatB x y (r : Int)).take i).length) c2) (.sliceHi rfl rfl sl_22 sz_30 ⟨by omega, by omega⟩) (by rw [List.length_take, Nat.min_eq_left (by omega)]; rfl)) trivial rfl rfl ?_
      refine .y (.len rfl sl_22) trivial rfl rfl ?_
      refine .y (.move rfl) trivial rfl rfl ?_
      refine .nil ?_
      refine .block ?_
      refine T.loop (ι := { zz : Nat // zz ≤ ((scatB x y (r : Int)).take i).length }) (fun zz => ([(148, .int .i64 (zz.1 : Int)), (7, .int .i64 (x : Int)), (8, .int .i64 (y : Int)), (9, .int .i64 (r : Int)), (10, .slice a1 ((filtC x (covP (covL x y r T1)) (x * y)).length) c1), (12, .slice a2 ((scatB x y (r : Int)).length) c2), (23, .pointer (some ⟨B4, 0, none⟩)), (137, .slice a2 ((scatB x y (r : Int)).length) c2), (138, .int .i64 ((scatB x y (r : Int)).length : Int)), (139, .int .i64 (i : Int)), (146, .slice a2 (((scatB x y (r : Int)).take i).length) c2), (147, .int .i64 (((scatB x y (r : Int)).take i).length : Int))], [As.one B4 (.cells #[.int .i64 x2.col, .int .i64 x2.row] 30 (0, 0)), SlD eCell a3 (scatB (x + 1) y (r : Int)), SlD eCell a2 (scatB x y (r : Int)), SlO eCell 30 a1 c1 (filtC x (covP (covL x y r T1)) (x * y))])) (fun zz => ((scatB x y (r : Int)).take i).length - zz.1) ⟨(0), Nat.zero_le _⟩ (.one rfl (.one rfl (.one rfl (.one rfl (.one rfl (.one rfl (.one rfl (.one rfl (.one rfl (.one rfl (.one rfl (.one rfl (.nil))))))))))))) (.refl _) ?_
      rintro ⟨j, hP6⟩
      show T _ [(148, .int .i64 (j : Int)), (7, .int .i64 (x : Int)), (8, .int .i64 (y : Int)), (9, .int .i64 (r : Int)), (10, .slice a1 ((filtC x (covP (covL x y r T1)) (x * y)).length) c1), (12, .slice a2 ((scatB x y (r : Int)).length) c2), (23, .pointer (some ⟨B4, 0, none⟩)), (137, .slice a2 ((scatB x y (r : Int)).length) c2), (138, .int .i64 ((scatB x y (r : Int)).length : Int)), (139, .int .i64 (i : Int)), (146, .slice a2 (((scatB x y (r : Int)).take i).length) c2), (147, .int .i64 (((scatB x y (r : Int)).take i).length : Int))] [As.one B4 (.cells #[.int .i64 x2.col, .int .i64 x2.row] 30 (0, 0)), SlD eCell a3 (scatB (x + 1) y (r : Int)), SlD eCell a2 (scatB x y (r : Int)), SlO eCell 30 a1 c1 (filtC x (covP (covL x y r T1)) (x * y))] _ _
      refine .seq ?_
      refine .region ?_
      refine .y (.lss rfl rfl) trivial rfl rfl ?_
      refine .nil ?_
      refine .seq ?_
      refine .ite rfl (fun h6 => ?_) (fun h6 => ?_)
      · refine .skip ?_
        refine .seq ?_
        refine .block ?_
        refine .seq ?_
        refine .region ?_
        have hbhx3 : j < ((scatB x y (r : Int)).take i).length := by omega
        obtain ⟨x3, hx3⟩ : ∃ x3, ((scatB x y (r : Int)).take i)[j]? = some x3 := ⟨_, List.getElem?_eq_getElem hbhx3⟩
        have hsm3 : Sm x3 := has_Sm ⟨hc.2.1, hc.2.2.2⟩ (hsf.inb _ (List.mem_of_mem_take (List.mem_of_getElem? hx3)))
        have hpu := pairs_use hsf.pairs hc2 hx3
        have htk : ((scatB x y (r : Int)).take i).length ≤ (scatB x y (r : Int)).length := by rw [List.length_take]; omega
        refine .y (.indexE (E := eCell) rfl rfl (.take (.rd 2 rfl) i) rfl sl_22 sz_30 (by omega)) trivial rfl rfl ?_
        refine .y (.loadE (E := eCell) rfl (.take (.rd 2 rfl) i) ag_30 sz_30 (by decide) (eCell.rd0 hx3 (by decide) (by decide) rfl)) trivial rfl rfl ?_
        refine .n (.alloc zr_30) trivial rfl rfl fun B5 => ?_
        refine .cons trivial (.store 0 rfl rfl rfl sz_30 rfl rfl (Nat.le_of_ble_eq_true rfl) rfl ?_)
        refine .nil ?_
        refine .seq ?_
        refine T.dr (N := 194) [(2, (fun v rs => v = .int .i64 (dist x2 x3) ∧ rs = [])), (10, (fun v rs => v = .int .i64 (x3.row * (x : Int) + x3.col) ∧ rs = []))] [0, 0, 3, 0, 8, 31, 63, 127, 255, 127, 1023, 127, 2175, 127, 16383, 32767, 65535] 14 (by kernel_rfl) flw rfl (Nat.le_of_ble_eq_true rfl) ?_
        refine .y (.load rfl (.own 1 rfl) ag_30 sz_30 rfl) trivial ?_
        refine .y (.load rfl (.own 0 rfl) ag_30 sz_30 rfl) trivial ?_
        refine .c (.call rfl rfl fn_12) trivial (fun own ho hd => lawfrom_ct _ (by first | assumption | exact (show RodOk _ from (by assumption)).1 | exact (getRod hv (by assumption)).1 | exact cellAt_Sm hc.2.1 hc.2.2.2 (by assumption)) (by first | assumption | exact (show RodOk _ from (by assumption)).1 | exact (getRod hv (by assumption)).1 | exact cellAt_Sm hc.2.1 hc.2.2.2 (by assumption))) ?_
        rintro _ _ ⟨rfl, rfl⟩
        refine .y (.move rfl) trivial ?_
        refine .y (.mul rfl rfl (by omega)) trivial ?_
        refine .y (.to (v' := .bool false) (.leq rfl rfl) (congrArg Value.bool (decide_eq_false hpu.1))) trivial ?_
        refine .y (.move rfl) trivial ?_
        refine .y (.move rfl) ⟨_, rfl, rfl⟩ ?_
        refine .y (.build rfl pl_28 zr_28 rfl) ⟨_, rfl, rfl⟩ ?_
        refine .y (.load rfl (.own 0 rfl) ag_30 sz_30 rfl) ⟨_, rfl, rfl⟩ ?_
        refine .c (.call rfl rfl fn_13) ⟨_, rfl, rfl⟩ (fun own ho hd => spot_ct _ (by first | assumption | exact (show RodOk _ from (by assumption)).1 | exact (getRod hv (by assumption)).1 | exact cellAt_Sm hc.2.1 hc.2.2.2 (by assumption)) (by omega)) ?_
        rintro _ _ ⟨rfl, rfl⟩
        refine .y (.move rfl) ⟨_, rfl, rfl⟩ ?_
        refine .y (.build rfl pl_28 zr_28 rfl) ⟨_, rfl, rfl⟩ ?_
        refine .y (.load rfl (.own 1 rfl) ag_30 sz_30 rfl) ⟨_, rfl, rfl⟩ ?_
        refine .nil ?_
        refine .c (.call rfl rfl fn_13) ⟨_, rfl, rfl⟩ rfl rfl (fun own ho hd => spot_ct _ (by first | assumption | exact (show RodOk _ from (by assumption)).1 | exact (getRod hv (by assumption)).1 | exact cellAt_Sm hc.2.1 hc.2.2.2 (by assumption)) (by omega)) ?_
        rintro _ _ ⟨rfl, rfl⟩
        refine .y (.to (v' := .bool false) (.geq rfl rfl) (congrArg Value.bool (decide_eq_false (by have := hpu.2; omega)))) ⟨_, rfl, rfl⟩ rfl rfl ?_
        refine .y (.pick_f rfl rfl) trivial rfl rfl ?_
        refine .nil ?_
        refine .cond_f rfl ?_
        refine .skip ?_
        refine .region ?_
        refine .y (.add rfl rfl (by omega)) trivial rfl rfl ?_
        refine .y (.move rfl) trivial rfl rfl ?_
        refine .nil ?_
        refine ⟨⟨(j + 1), ?_⟩, ?_, (.one rfl (.one rfl (.one rfl (.one rfl (.one rfl (.one rfl (.one rfl (.one rfl (.one rfl (.one rfl (.one rfl (.one rfl (.nil))))))))))))), (.pick 1 rfl (.pick 1 rfl (.pick 1 rfl (.pick 1 rfl (.nil _)))))⟩
        · show _ ≤ _; omega
        · show ((scatB x y (r : Int)).take i).length - (j + 1) < ((scatB x y (r : Int)).take i).length - j; omega
      · refine .exit ?_
        refine inB_hit ?_
        refine .region ?_
        refine .y (.add rfl rfl (by omega)) trivial rfl rfl ?_
        refine .y (.move rfl) trivial rfl rfl ?_
        refine .nil ?_
        refine ⟨⟨(i + 1), ?_⟩, ?_, (.one rfl (.one rfl (.one rfl (.one rfl (.one rfl (.one rfl (.one rfl (.one rfl (.nil))))))))), (.pick 1 rfl (.pick 1 rfl (.pick 1 rfl (.nil _))))⟩
        · show _ ≤ _; omega
        · show (scatB x y (r : Int)).length - (i + 1) < (scatB x y (r : Int)).length - i; omega
    · refine .exit ?_
      refine inB_hit ?_
      refine .seq ?_
      refine .seq ?_
      refine .region ?_
      refine .y (.move rfl) trivial rfl rfl ?_
      refine .y (.eql rfl rfl) trivial rfl rfl ?_
      refine .nil ?_
      refine .ite rfl (fun h7 => ?_) (fun h7 => ?_)
      · refine .seq ?_
        refine .region ?_
        refine .c (.call rfl rfl fn_14) trivial rfl rfl (fun own ho hd => awake_ct _ ) ?_
        rintro _ _ ⟨rfl, rfl⟩
        refine .y (.assign rfl) trivial rfl rfl ?_
        refine .nil ?_
        refine .ret ?_
        refine ⟨.inr rfl, _, _, (.nil _), fun own' ho => .one rfl rfl, ?_⟩
        first | exact ⟨rfl, rfl⟩ | (refine ⟨?_, rfl⟩; simp [*])
      · obtain ⟨hcov2, hlen4⟩ := hsf.more.resolve_left (fun e => h7 (by rw [e]; rfl))
        refine .skip ?_
        refine .seq ?_
        refine .region ?_
        refine .y (.move rfl) trivial rfl rfl ?_
        refine .y (.move rfl) trivial rfl rfl ?_
        refine .y (.move rfl) trivial rfl rfl ?_
        refine .y (.to (v' := .int .i64 (((r + 1) : Nat) : Int)) (.add rfl rfl (by omega)) (congrArg _ (by omega))) trivial rfl rfl ?_
        refine .c (.call rfl rfl fn_9) trivial rfl rfl (fun own ho hd => Cover_ct _ (C := x) (Rw := y) (r := (r + 1)) (Tn := T2) hc (by omega) hcov2.rng hcov2.is hcov2.no hcov2.ne) ?_
        rintro _ _ ⟨a6, c6, rfl, rfl, hf5⟩
        refine .y (.move rfl) trivial rfl rfl ?_
        refine .y (.extract rfl rfl) trivial rfl rfl ?_
        refine .y (.extract rfl rfl) trivial rfl rfl ?_
        refine .y (.assign rfl) trivial rfl rfl ?_
        refine .y (.assign rfl) trivial rfl rfl ?_
        refine .nil ?_
        refine .seq ?_
        refine .region ?_
        refine .y (.move rfl) trivial rfl rfl ?_
        refine .y (.to (.eql rfl rfl) (v' := .bool true) rfl) trivial rfl rfl ?_
        refine .y (.move rfl) trivial rfl rfl ?_
        refine .y (.move rfl) ⟨_, rfl, rfl⟩ rfl rfl ?_
        refine .y (.len rfl sl_22) ⟨_, rfl, rfl⟩ rfl rfl ?_
        refine .y (.move rfl) ⟨_, rfl, rfl⟩ rfl rfl ?_
        refine .y (.len rfl sl_22) ⟨_, rfl, rfl⟩ rfl rfl ?_
        refine .y (.to (v' := .bool true) (.leq rfl rfl) (congrArg Value.bool (decide_eq_true (Int.ofNat_le.2 hlen4)))) ⟨_, rfl, rfl⟩ rfl rfl ?_
        refine .y (.pick_t rfl rfl) trivial rfl rfl ?_
        refine .y (.move rfl) trivial rfl rfl ?_
        refine .c (.call rfl rfl fn_14) ⟨_, rfl, rfl⟩ rfl rfl (fun own ho hd => awake_ct _ ) ?_
        rintro _ _ ⟨rfl, rfl⟩
        refine .y (.pick_t rfl rfl) trivial rfl rfl ?_
        refine .y (.assign rfl) trivial rfl rfl ?_
        refine .nil ?_
        refine .ret ?_
        refine ⟨.inr rfl, _, _, (.nil _), fun own' ho => .one rfl rfl, ?_⟩
        first | exact ⟨rfl, rfl⟩ | (refine ⟨?_, rfl⟩; simp [*])
end Go.Proofs.YtfcjmoolnadfbaaGreat
