/- Contracts of functions of package rod, printed by vgen: part RF5. -/
import Derived.Test.YtfcjmoolnadfbaaGreatProg
import Derived.Test.YtfcjmoolnadfbaaGreatRSpec
import Derived.Test.YtfcjmoolnadfbaaGreatRF1
import Derived.Test.YtfcjmoolnadfbaaGreatRF2
import Derived.Test.YtfcjmoolnadfbaaGreatRF3
import Derived.Test.YtfcjmoolnadfbaaGreatRF4
import Derived.Test.YtfcjmoolnadfbaaGreatVLate
import Derived.Test.YtfcjmoolnadfbaaGreatSSpec
import Derived.Test.YtfcjmoolnadfbaaGreatSort
import Derived.KernelRfl
set_option linter.unusedVariables false
set_option linter.unusedSimpArgs false
namespace Go.Proofs.YtfcjmoolnadfbaaGreat
open Go.V
theorem ag_78 : agOf Tryz.prog 78 = some true := by kernel_rfl
theorem ai_121 : arrI Tryz.prog 121 25 = true := by kernel_rfl
theorem el_26 : ElOk Tryz.prog 26 32 4 32 (.agg #[.int .i64 0, .int .i64 0, .int .i64 0, .int .i64 0]) := ⟨by kernel_rfl, by kernel_rfl, rfl⟩
theorem fl_124_0 : fldOf Tryz.prog 124 0 = some 0 := by kernel_rfl
theorem fl_78_0 : fldOf Tryz.prog 78 0 = some 0 := by kernel_rfl
theorem fl_78_1 : fldOf Tryz.prog 78 1 = some 1 := by kernel_rfl
theorem fn_101 : fnOk Tryz.prog 101 = true := by kernel_rfl
theorem fn_102 : fnOk Tryz.prog 102 = true := by kernel_rfl
theorem fn_128 : fnOk Tryz.prog 128 = true := by kernel_rfl
theorem fn_133 : fnOk Tryz.prog 133 = true := by kernel_rfl
theorem fn_134 : fnOk Tryz.prog 134 = true := by kernel_rfl
theorem fn_145 : fnOk Tryz.prog 145 = true := by kernel_rfl
theorem fn_194 : fnOk Tryz.prog 194 = true := by kernel_rfl
theorem fn_55 : fnOk Tryz.prog 55 = true := by kernel_rfl
theorem fn_70 : fnOk Tryz.prog 70 = true := by kernel_rfl
theorem fn_77 : fnOk Tryz.prog 77 = true := by kernel_rfl
theorem fn_78 : fnOk Tryz.prog 78 = true := by kernel_rfl
theorem fn_79 : fnOk Tryz.prog 79 = true := by kernel_rfl
theorem fn_80 : fnOk Tryz.prog 80 = true := by kernel_rfl
theorem fn_81 : fnOk Tryz.prog 81 = true := by kernel_rfl
theorem fn_82 : fnOk Tryz.prog 82 = true := by kernel_rfl
theorem lz_32_1 : ((Array.range (1 * 4)).map ((.agg #[.int .i64 0, .int .i64 0, .int .i64 0, .int .i64 0] : Value).cells[· % (.agg #[.int .i64 0, .int .i64 0, .int .i64 0, .int .i64 0] : Value).cells.size]!)) = #[.int .i64 0, .int .i64 0, .int .i64 0, .int .i64 0] := by kernel_rfl
theorem lz_32_4 : ((Array.range (4 * 4)).map ((.agg #[.int .i64 0, .int .i64 0, .int .i64 0, .int .i64 0] : Value).cells[· % (.agg #[.int .i64 0, .int .i64 0, .int .i64 0, .int .i64 0] : Value).cells.size]!)) = #[.int .i64 0, .int .i64 0, .int .i64 0, .int .i64 0, .int .i64 0, .int .i64 0, .int .i64 0, .int .i64 0, .int .i64 0, .int .i64 0, .int .i64 0, .int .i64 0, .int .i64 0, .int .i64 0, .int .i64 0, .int .i64 0] := by kernel_rfl
theorem pl_32 : plOf Tryz.prog 32 = some [(0, 2), (2, 1), (3, 1)] := by kernel_rfl
theorem pl_78 : plOf Tryz.prog 78 = some [(0, 1), (1, 1)] := by kernel_rfl
theorem sz_78 : szOf Tryz.prog 78 = some 2 := by kernel_rfl
theorem zr_78 : zeroOf Tryz.prog 78 = some (.agg #[.int .i64 0, .int .i64 0]) := by kernel_rfl
theorem Warm_ct (g : Hp) {C Rw : Nat} {ra : Option Addr} {rc : Nat} {rods : List Rod} (hc : 1 ≤ C ∧ C ≤ 5 ∧ 1 ≤ Rw ∧ Rw ≤ 5) (hr : SlR eRod g ra rods) (hl : rods.length ≤ 8) (hv : ∀ r ∈ rods, RodOk r) (hck : chkBin (C : Int) (Rw : Int) rods = 0) (hfit : fitsL C Rw rods (mostTo C rods (fun _ => true) (C * Rw)) (fun _ => true) = true) : Ct Tryz.prog 35 [.agg #[.int .i64 (C : Int), .int .i64 (Rw : Int), .slice ra rods.length rc]].toArray g [] (fun v rs => ∃ (a : Option Addr) (c : Nat), v = .tuple #[.slice a ((filtC C (aloneB C Rw rods (mostTo C rods (fun _ => true) (C * Rw))) (C * Rw)).length) c, .int .i64 0] ∧ rs = [SlO eCell 30 a c (filtC C (aloneB C Rw rods (mostTo C rods (fun _ => true) (C * Rw))) (C * Rw))] ∧ SlOk a c) := by
  refine Ct.of_body (N := 29) (l := [.agg #[.int .i64 (C : Int), .int .i64 (Rw : Int), .slice ra rods.length rc]]) Tryz.func35 rfl rfl (Nat.le_of_ble_eq_true rfl) fun n0 => ?_
  refine .seq ?_
  refine .region ?_
  refine .n (.box rfl) trivial rfl rfl fun B1 => ?_
  refine .y (.assign rfl) trivial rfl rfl ?_
  refine .y (.assign rfl) trivial rfl rfl ?_
  refine .nil ?_
  refine .seq ?_
  refine .region ?_
  refine .y (.load rfl (.own 0 rfl) ag_28 sz_28 rfl) trivial rfl rfl ?_
  refine .c (.call rfl rfl fn_69) trivial rfl rfl (fun own ho hd => told_ct _ hc (rods := rods) (SlR.up hr) hl hv hck hfit) ?_
  rintro _ _ ⟨F1, M1, ms1, rfl, rfl, hf1⟩
  refine .y (.move rfl) trivial rfl rfl ?_
  refine .y (.extract rfl rfl) trivial rfl rfl ?_
  refine .y (.extract rfl rfl) trivial rfl rfl ?_
  refine .n (.alloc zr_115) trivial rfl rfl fun B2 => ?_
  refine .cons trivial (.store 0 rfl rfl rfl sz_115 rfl rfl (Nat.le_of_ble_eq_true rfl) rfl ?_)
  refine .y (.assign rfl) trivial rfl rfl ?_
  refine .nil ?_
  refine .seq ?_
  refine .seq ?_
  refine .region ?_
  refine .y (.move rfl) trivial rfl rfl ?_
  refine .y (.to (.neq rfl rfl) (v' := .bool false) rfl) trivial rfl rfl ?_
  refine .nil ?_
  refine .cond_f rfl ?_
  refine .skip ?_
  refine .seq ?_
  refine .region ?_
  refine .n (.alloc zr_22) trivial rfl rfl fun B3 => ?_
  refine .nil ?_
  refine .seq ?_
  refine .seq ?_
  refine .region ?_
  refine .y (.load rfl (.own 4 rfl) ag_28 sz_28 rfl) trivial rfl rfl ?_
  refine .c (.call rfl rfl fn_52) trivial rfl rfl (fun own ho hd => cells_ct _ ) ?_
  rintro _ _ ⟨B4, rfl, rfl⟩
  refine .nil ?_
  refine .block ?_
  refine T.range (N := C * Rw) (enc := fun k1 => [.int .i64 (k1 : Int), .agg #[.int .i64 ((cellAt C k1).col), .int .i64 ((cellAt C k1).row)]]) (r := [As.one B4 (.cells #[.int .i64 (C : Int), .int .i64 (Rw : Int), .slice ra rods.length rc] 28 (0, 0))]) (fun k1 => [BoxS eCell 22 30 B3 (filtC C (aloneB C Rw rods (mostTo C rods (fun _ => true) (C * Rw))) k1), As.one B2 (.cells #[.pointer (some ⟨F1, 0, none⟩)] 115 (0, 0)), As.one F1 (.cells (fieldC C Rw ra rods.length rc (mostTo C rods (fun _ => true) (C * Rw)) M1).toArray 124 (0, 0)), MapO vN M1 ms1, As.one B1 (.cells #[.int .i64 (C : Int), .int .i64 (Rw : Int), .slice ra rods.length rc] 28 (0, 0))]) (fun _ _ => False) rfl fn_123 (fun own ho hd => cells1_it _ (one_in 0 rfl ho hd) (by first | assumption | omega)) (.boxS (by first | assumption | exact .nil) (.pick 1 rfl (.nilSl (.pick 1 rfl (.pick 1 rfl (.pick 1 rfl (.pick 1 rfl (.pick 0 rfl (.refl _))))))))) (fun _ => rfl) (fun p hp => by simp at hp; show p < 29; omega) (fun l1 k1 hk1 => ?_) ?_ ?_
  · have h25k1 : k1 < 25 := Nat.lt_of_lt_of_le hk1 (Nat.mul_le_mul hc.2.1 hc.2.2.2)
    refine .boxS fun a1 c1 oka1 => ?_
    refine .region ?_
    refine .n (.alloc zr_30) trivial rfl rfl fun B5 => ?_
    refine .cons trivial (.store 0 rfl rfl rfl sz_30 rfl rfl (Nat.le_of_ble_eq_true rfl) rfl ?_)
    refine .nil ?_
    refine ⟨rfl, ?_⟩
    refine .block ?_
    refine .seq ?_
    refine .region ?_
    refine .y (.load rfl (.own 3 rfl) ag_115 sz_115 rfl) trivial rfl rfl ?_
    refine .y (.load rfl (.own 0 rfl) ag_30 sz_30 rfl) trivial rfl rfl ?_
    refine .c (.call rfl rfl fn_82) trivial rfl rfl (fun own ho hd => alone_ct _ (i := k1) (one_in 4 rfl ho hd) (MapR.in_own 5 rfl ho hd) (mostTo_len ..) (by assumption) (by assumption)) ?_
    rintro _ _ ⟨rfl, rfl⟩
    refine .nil ?_
    refine .cond rfl (fun h1 => ?_) (fun h1 => ?_)
    · refine .region ?_
      refine .y (.load rfl (.own 1 rfl) ag_22 sz_22 rfl) trivial rfl rfl ?_
      refine .y (.load rfl (.own 0 rfl) ag_30 sz_30 rfl) trivial rfl rfl ?_
      refine .n (.lit #[.int .i64 0, .int .i64 0] lz_30_1 rfl sl_22 sz_30 zr_30 rfl rfl rfl) trivial rfl rfl fun B6 => ?_
      refine .cons trivial (.app (E := eCell) (ys := [(cellAt C k1)]) 3 el_22 rfl rfl rfl rfl rfl (.of_cells (.own 0 rfl)) (fun h => by cases h) (by have := filtC_len C (aloneB C Rw rods (mostTo C rods (fun _ => true) (C * Rw))) k1; simp; omega) (by have := filtC_len C (aloneB C Rw rods (mostTo C rods (fun _ => true) (C * Rw))) k1; simp; omega) rfl fun a2 c2 oka2 => ?_)
      refine .cons trivial (.store 2 rfl rfl rfl sz_22 rfl rfl (Nat.le_of_ble_eq_true rfl) rfl ?_)
      refine .nil ?_
      show RSub [BoxS eCell 22 30 B3 (filtC C (aloneB C Rw rods (mostTo C rods (fun _ => true) (C * Rw))) (k1 + 1)), As.one B2 (.cells #[.pointer (some ⟨F1, 0, none⟩)] 115 (0, 0)), As.one F1 (.cells (fieldC C Rw ra rods.length rc (mostTo C rods (fun _ => true) (C * Rw)) M1).toArray 124 (0, 0)), MapO vN M1 ms1, As.one B1 (.cells #[.int .i64 (C : Int), .int .i64 (Rw : Int), .slice ra rods.length rc] 28 (0, 0))] _
      rw [filtC_in (by assumption)]
      exact (.boxS (by first | assumption | exact .nil) (.pick 2 rfl (.pick 2 rfl (.pick 2 rfl (.pick 2 rfl (.pick 2 rfl (.pick 2 rfl (.nil _))))))))
    · refine .skip ?_
      show RSub [BoxS eCell 22 30 B3 (filtC C (aloneB C Rw rods (mostTo C rods (fun _ => true) (C * Rw))) (k1 + 1)), As.one B2 (.cells #[.pointer (some ⟨F1, 0, none⟩)] 115 (0, 0)), As.one F1 (.cells (fieldC C Rw ra rods.length rc (mostTo C rods (fun _ => true) (C * Rw)) M1).toArray 124 (0, 0)), MapO vN M1 ms1, As.one B1 (.cells #[.int .i64 (C : Int), .int .i64 (Rw : Int), .slice ra rods.length rc] 28 (0, 0))] _
      rw [filtC_out (by simp [*])]
      exact (.boxS (by first | assumption | exact .nil) (.pick 1 rfl (.pick 1 rfl (.pick 1 rfl (.pick 1 rfl (.pick 1 rfl (.pick 1 rfl (.nil _))))))))
  · refine .boxS fun a3 c3 oka3 => ?_
    refine .seq ?_
    refine .region ?_
    refine .y (.load rfl (.own 0 rfl) ag_22 sz_22 rfl) trivial rfl rfl ?_
    refine .y (.assign rfl) trivial rfl rfl ?_
    refine .y (.assign rfl) trivial rfl rfl ?_
    refine .nil ?_
    refine .ret ?_
    refine ⟨.inr rfl, _, _, (.pick 1 rfl (.nil _)), fun own' ho => .two rfl rfl rfl, ?_⟩
    exact ⟨_, _, rfl, rfl, by assumption⟩
  · exact fun _ _ h => h.elim
theorem Least_ct (g : Hp) {C Rw : Nat} {ra : Option Addr} {rc : Nat} {rods : List Rod} (hc : 1 ≤ C ∧ C ≤ 5 ∧ 1 ≤ Rw ∧ Rw ≤ 5) (hr : SlR eRod g ra rods) (hl : rods.length ≤ 8) (hv : ∀ r ∈ rods, RodOk r) (hck : chkBin (C : Int) (Rw : Int) rods = 0) (hfit : fitsL C Rw rods (mostTo C rods (fun _ => true) (C * Rw)) (fun _ => true) = true) : Ct Tryz.prog 21 [.agg #[.int .i64 (C : Int), .int .i64 (Rw : Int), .slice ra rods.length rc]].toArray g [] (fun v rs => ∃ (a : Option Addr) (c : Nat), v = .tuple #[.slice a (((leastTo C Rw rods (mostTo C rods (fun _ => true) (C * Rw)) (C * Rw)).take (C * Rw)).length) c, .int .i64 0] ∧ rs = [SlO eInt 3 a c ((leastTo C Rw rods (mostTo C rods (fun _ => true) (C * Rw)) (C * Rw)).take (C * Rw))] ∧ SlOk a c) := by
  refine Ct.of_body (N := 35) (l := [.agg #[.int .i64 (C : Int), .int .i64 (Rw : Int), .slice ra rods.length rc]]) Tryz.func21 rfl rfl (Nat.le_of_ble_eq_true rfl) fun n0 => ?_
  refine .seq ?_
  refine .region ?_
  refine .n (.box rfl) trivial rfl rfl fun B1 => ?_
  refine .y (.assign rfl) trivial rfl rfl ?_
  refine .y (.assign rfl) trivial rfl rfl ?_
  refine .nil ?_
  refine .seq ?_
  refine .region ?_
  refine .y (.load rfl (.own 0 rfl) ag_28 sz_28 rfl) trivial rfl rfl ?_
  refine .c (.call rfl rfl fn_69) trivial rfl rfl (fun own ho hd => told_ct _ hc (rods := rods) (SlR.up hr) hl hv hck hfit) ?_
  rintro _ _ ⟨F1, M1, ms1, rfl, rfl, hf1⟩
  refine .y (.move rfl) trivial rfl rfl ?_
  refine .y (.extract rfl rfl) trivial rfl rfl ?_
  refine .y (.extract rfl rfl) trivial rfl rfl ?_
  refine .n (.alloc zr_115) trivial rfl rfl fun B2 => ?_
  refine .cons trivial (.store 0 rfl rfl rfl sz_115 rfl rfl (Nat.le_of_ble_eq_true rfl) rfl ?_)
  refine .y (.assign rfl) trivial rfl rfl ?_
  refine .nil ?_
  refine .seq ?_
  refine .seq ?_
  refine .region ?_
  refine .y (.move rfl) trivial rfl rfl ?_
  refine .y (.to (.neq rfl rfl) (v' := .bool false) rfl) trivial rfl rfl ?_
  refine .nil ?_
  refine .cond_f rfl ?_
  refine .skip ?_
  refine .seq ?_
  refine .region ?_
  refine .n (.alloc zr_121) trivial rfl rfl fun B3 => ?_
  refine .nil ?_
  refine .seq ?_
  refine .seq ?_
  refine .region ?_
  refine .y (.load rfl (.own 4 rfl) ag_28 sz_28 rfl) trivial rfl rfl ?_
  refine .c (.call rfl rfl fn_52) trivial rfl rfl (fun own ho hd => cells_ct _ ) ?_
  rintro _ _ ⟨B4, rfl, rfl⟩
  refine .nil ?_
  refine .block ?_
  refine T.range (N := C * Rw) (enc := fun k1 => [.int .i64 (k1 : Int), .agg #[.int .i64 ((cellAt C k1).col), .int .i64 ((cellAt C k1).row)]]) (r := [As.one B4 (.cells #[.int .i64 (C : Int), .int .i64 (Rw : Int), .slice ra rods.length rc] 28 (0, 0))]) (fun k1 => [As.one B3 (.cells ((leastTo C Rw rods (mostTo C rods (fun _ => true) (C * Rw)) k1).map argI).toArray 121 (0, 0)), As.one B2 (.cells #[.pointer (some ⟨F1, 0, none⟩)] 115 (0, 0)), As.one F1 (.cells (fieldC C Rw ra rods.length rc (mostTo C rods (fun _ => true) (C * Rw)) M1).toArray 124 (0, 0)), MapO vN M1 ms1, As.one B1 (.cells #[.int .i64 (C : Int), .int .i64 (Rw : Int), .slice ra rods.length rc] 28 (0, 0))]) (fun _ _ => False) rfl fn_123 (fun own ho hd => cells1_it _ (one_in 0 rfl ho hd) (by first | assumption | omega)) (.pick 1 rfl (.pick 1 rfl (.pick 1 rfl (.pick 1 rfl (.pick 1 rfl (.refl _)))))) (fun _ => rfl) (fun p hp => by simp at hp; show p < 35; omega) (fun l1 k1 hk1 => ?_) ?_ ?_
  · have h25k1 : k1 < 25 := Nat.lt_of_lt_of_le hk1 (Nat.mul_le_mul hc.2.1 hc.2.2.2)
    refine .seq ?_
    refine .region ?_
    refine .y (.assign rfl) trivial rfl rfl ?_
    refine .nil ?_
    refine .region ?_
    refine .n (.alloc zr_30) trivial rfl rfl fun B5 => ?_
    refine .cons trivial (.store 0 rfl rfl rfl sz_30 rfl rfl (Nat.le_of_ble_eq_true rfl) rfl ?_)
    refine .nil ?_
    refine ⟨rfl, ?_⟩
    refine .block ?_
    refine .seq ?_
    refine .region ?_
    refine .y (.load rfl (.own 2 rfl) ag_115 sz_115 rfl) trivial rfl rfl ?_
    refine .y (.load rfl (.own 0 rfl) ag_30 sz_30 rfl) trivial rfl rfl ?_
    refine .c (.call rfl rfl fn_82) trivial rfl rfl (fun own ho hd => alone_ct _ (i := k1) (one_in 3 rfl ho hd) (MapR.in_own 4 rfl ho hd) (mostTo_len ..) (by assumption) (by assumption)) ?_
    rintro _ _ ⟨rfl, rfl⟩
    refine .nil ?_
    refine .cond rfl (fun h1 => ?_) (fun h1 => ?_)
    · refine .region ?_
      refine .y (.move rfl) trivial rfl rfl ?_
      refine .y (.load rfl (.own 2 rfl) ag_115 sz_115 rfl) trivial rfl rfl ?_
      refine .y (.move rfl) trivial rfl rfl ?_
      refine .y (.nilCheck rfl) trivial rfl rfl ?_
      refine .y (.fieldAddr rfl fl_124_1) trivial rfl rfl ?_
      refine .y (.indexAddrA rfl rfl ar_121 sz_3 (by omega)) trivial rfl rfl ?_
      obtain ⟨x1, hx1⟩ : ∃ x1, (mostTo C rods (fun _ => true) (C * Rw))[k1]? = some x1 := ⟨_, List.getElem?_eq_getElem (show k1 < (mostTo C rods (fun _ => true) (C * Rw)).length from (by first | omega | (simp; omega) | exact Nat.le_trans (membI_len _) (by decide) | (simp [*]; done) | (simp [*]; omega)))⟩
      refine .y (.load (v := .int .i64 x1) rfl (.own 3 rfl) ag_3 sz_3 (rdF_at hx1 (by simp) _)) trivial rfl rfl ?_
      refine .y (.indexAddrA rfl rfl ar_121 sz_3 (by omega)) trivial rfl rfl ?_
      refine .cons trivial (.storeA (xs := leastTo C Rw rods (mostTo C rods (fun _ => true) (C * Rw)) k1) (k := k1) 1 rfl rfl rfl sz_3 (by simp) (by first | omega | (simp; omega) | exact Nat.le_trans (membI_len _) (by decide) | (simp [*]; done) | (simp [*]; omega)) rfl ?_)
      refine .nil ?_
      show RSub [As.one B3 (.cells ((leastTo C Rw rods (mostTo C rods (fun _ => true) (C * Rw)) (k1 + 1)).map argI).toArray 121 (0, 0)), As.one B2 (.cells #[.pointer (some ⟨F1, 0, none⟩)] 115 (0, 0)), As.one F1 (.cells (fieldC C Rw ra rods.length rc (mostTo C rods (fun _ => true) (C * Rw)) M1).toArray 124 (0, 0)), MapO vN M1 ms1, As.one B1 (.cells #[.int .i64 (C : Int), .int .i64 (Rw : Int), .slice ra rods.length rc] 28 (0, 0))] _
      rw [← leastTo_in (by assumption) (by assumption)]
      exact (.pick 1 rfl (.pick 1 rfl (.pick 1 rfl (.pick 1 rfl (.pick 1 rfl (.nil _))))))
    · refine .skip ?_
      show RSub [As.one B3 (.cells ((leastTo C Rw rods (mostTo C rods (fun _ => true) (C * Rw)) (k1 + 1)).map argI).toArray 121 (0, 0)), As.one B2 (.cells #[.pointer (some ⟨F1, 0, none⟩)] 115 (0, 0)), As.one F1 (.cells (fieldC C Rw ra rods.length rc (mostTo C rods (fun _ => true) (C * Rw)) M1).toArray 124 (0, 0)), MapO vN M1 ms1, As.one B1 (.cells #[.int .i64 (C : Int), .int .i64 (Rw : Int), .slice ra rods.length rc] 28 (0, 0))] _
      rw [leastTo_out (by simp [*])]
      exact (.pick 1 rfl (.pick 1 rfl (.pick 1 rfl (.pick 1 rfl (.pick 1 rfl (.nil _))))))
  · skip
    refine .seq ?_
    refine .region ?_
    refine .y (.load rfl (.own 4 rfl) ag_28 sz_28 rfl) trivial rfl rfl ?_
    refine .y (.load rfl (.own 0 rfl) ag_121 sz_121 (rdArr (by first | omega | (simp; omega) | exact Nat.le_trans (membI_len _) (by decide) | (simp [*]; done) | (simp [*]; omega)))) trivial rfl rfl ?_
    refine .c (.call rfl rfl fn_76) trivial rfl rfl (fun own ho hd => list_ct _ hc (leastTo_len ..)) ?_
    rintro _ _ ⟨a'1, c'1, rfl, rfl, hf2⟩
    refine .y (.assign rfl) trivial rfl rfl ?_
    refine .y (.assign rfl) trivial rfl rfl ?_
    refine .nil ?_
    refine .ret ?_
    refine ⟨.inr rfl, _, _, (.pick 0 rfl (.nil _)), fun own' ho => .two rfl rfl rfl, ?_⟩
    exact ⟨_, _, rfl, rfl, by assumption⟩
  · exact fun _ _ h => h.elim
theorem Open_ct (g : Hp) {C Rw : Nat} {ra : Option Addr} {rc : Nat} {rods : List Rod} (hc : 1 ≤ C ∧ C ≤ 5 ∧ 1 ≤ Rw ∧ Rw ≤ 5) (hr : SlR eRod g ra rods) (hl : rods.length ≤ 8) (hv : ∀ r ∈ rods, RodOk r) (hck : chkBin (C : Int) (Rw : Int) rods = 0) (hfit : fitsL C Rw rods (mostTo C rods (fun _ => true) (C * Rw)) (fun _ => true) = true) : Ct Tryz.prog 34 [.agg #[.int .i64 (C : Int), .int .i64 (Rw : Int), .slice ra rods.length rc]].toArray g [] (fun v rs => ∃ (a : Option Addr) (c : Nat), v = .tuple #[.slice a ((filtC C (openB C Rw rods (mostTo C rods (fun _ => true) (C * Rw))) (C * Rw)).length) c, .int .i64 0] ∧ rs = [SlO eCell 30 a c (filtC C (openB C Rw rods (mostTo C rods (fun _ => true) (C * Rw))) (C * Rw))] ∧ SlOk a c) := by
  refine Ct.of_body (N := 39) (l := [.agg #[.int .i64 (C : Int), .int .i64 (Rw : Int), .slice ra rods.length rc]]) Tryz.func34 rfl rfl (Nat.le_of_ble_eq_true rfl) fun n0 => ?_
  refine .seq ?_
  refine .region ?_
  refine .n (.box rfl) trivial rfl rfl fun B1 => ?_
  refine .y (.assign rfl) trivial rfl rfl ?_
  refine .y (.assign rfl) trivial rfl rfl ?_
  refine .nil ?_
  refine .seq ?_
  refine .region ?_
  refine .y (.load rfl (.own 0 rfl) ag_28 sz_28 rfl) trivial rfl rfl ?_
  refine .c (.call rfl rfl fn_69) trivial rfl rfl (fun own ho hd => told_ct _ hc (rods := rods) (SlR.up hr) hl hv hck hfit) ?_
  rintro _ _ ⟨F1, M1, ms1, rfl, rfl, hf1⟩
  refine .y (.move rfl) trivial rfl rfl ?_
  refine .y (.extract rfl rfl) trivial rfl rfl ?_
  refine .y (.extract rfl rfl) trivial rfl rfl ?_
  refine .n (.alloc zr_115) trivial rfl rfl fun B2 => ?_
  refine .cons trivial (.store 0 rfl rfl rfl sz_115 rfl rfl (Nat.le_of_ble_eq_true rfl) rfl ?_)
  refine .y (.assign rfl) trivial rfl rfl ?_
  refine .nil ?_
  refine .seq ?_
  refine .seq ?_
  refine .region ?_
  refine .y (.move rfl) trivial rfl rfl ?_
  refine .y (.to (.neq rfl rfl) (v' := .bool false) rfl) trivial rfl rfl ?_
  refine .nil ?_
  refine .cond_f rfl ?_
  refine .skip ?_
  refine .seq ?_
  refine .region ?_
  refine .n (.alloc zr_22) trivial rfl rfl fun B3 => ?_
  refine .nil ?_
  refine .seq ?_
  refine .seq ?_
  refine .region ?_
  refine .y (.load rfl (.own 4 rfl) ag_28 sz_28 rfl) trivial rfl rfl ?_
  refine .c (.call rfl rfl fn_52) trivial rfl rfl (fun own ho hd => cells_ct _ ) ?_
  rintro _ _ ⟨B4, rfl, rfl⟩
  refine .nil ?_
  refine .block ?_
  refine T.range (N := C * Rw) (enc := fun k1 => [.int .i64 (k1 : Int), .agg #[.int .i64 ((cellAt C k1).col), .int .i64 ((cellAt C k1).row)]]) (r := [As.one B4 (.cells #[.int .i64 (C : Int), .int .i64 (Rw : Int), .slice ra rods.length rc] 28 (0, 0))]) (fun k1 => [BoxS eCell 22 30 B3 (filtC C (openB C Rw rods (mostTo C rods (fun _ => true) (C * Rw))) k1), As.one B2 (.cells #[.pointer (some ⟨F1, 0, none⟩)] 115 (0, 0)), As.one F1 (.cells (fieldC C Rw ra rods.length rc (mostTo C rods (fun _ => true) (C * Rw)) M1).toArray 124 (0, 0)), MapO vN M1 ms1, As.one B1 (.cells #[.int .i64 (C : Int), .int .i64 (Rw : Int), .slice ra rods.length rc] 28 (0, 0))]) (fun _ _ => False) rfl fn_123 (fun own ho hd => cells1_it _ (one_in 0 rfl ho hd) (by first | assumption | omega)) (.boxS (by first | assumption | exact .nil) (.pick 1 rfl (.nilSl (.pick 1 rfl (.pick 1 rfl (.pick 1 rfl (.pick 1 rfl (.pick 0 rfl (.refl _))))))))) (fun _ => rfl) (fun p hp => by simp at hp; show p < 39; omega) (fun l1 k1 hk1 => ?_) ?_ ?_
  · have h25k1 : k1 < 25 := Nat.lt_of_lt_of_le hk1 (Nat.mul_le_mul hc.2.1 hc.2.2.2)
    refine .boxS fun a1 c1 oka1 => ?_
    refine .seq ?_
    refine .region ?_
    refine .y (.assign rfl) trivial rfl rfl ?_
    refine .nil ?_
    refine .region ?_
    refine .n (.alloc zr_30) trivial rfl rfl fun B5 => ?_
    refine .cons trivial (.store 0 rfl rfl rfl sz_30 rfl rfl (Nat.le_of_ble_eq_true rfl) rfl ?_)
    refine .nil ?_
    refine ⟨rfl, ?_⟩
    refine .block ?_
    refine .seq ?_
    refine .region ?_
    refine .y (.load rfl (.own 3 rfl) ag_115 sz_115 rfl) trivial rfl rfl ?_
    refine .y (.move rfl) trivial rfl rfl ?_
    refine .y (.nilCheck rfl) trivial rfl rfl ?_
    refine .y (.fieldAddr rfl fl_124_1) trivial rfl rfl ?_
    refine .y (.indexAddrA rfl rfl ar_121 sz_3 (by omega)) trivial rfl rfl ?_
    obtain ⟨x1, hx1⟩ : ∃ x1, (mostTo C rods (fun _ => true) (C * Rw))[k1]? = some x1 := ⟨_, List.getElem?_eq_getElem (show k1 < (mostTo C rods (fun _ => true) (C * Rw)).length from (by first | omega | (simp; omega) | exact Nat.le_trans (membI_len _) (by decide) | (simp [*]; done) | (simp [*]; omega)))⟩
    refine .y (.load (v := .int .i64 x1) rfl (.own 4 rfl) ag_3 sz_3 (rdF_at hx1 (by simp) _)) trivial rfl rfl ?_
    refine .y (.gtr rfl rfl) trivial rfl rfl ?_
    refine .y (.move rfl) trivial rfl rfl ?_
    refine .split 28 rfl (fun hb1 => ?_) (fun hb1 => ?_)
    · refine .y (.load rfl (.own 3 rfl) ag_115 sz_115 rfl) ⟨_, rfl, rfl⟩ rfl rfl ?_
      refine .y (.load rfl (.own 0 rfl) ag_30 sz_30 rfl) ⟨_, rfl, rfl⟩ rfl rfl ?_
      refine .c (.call rfl rfl fn_82) ⟨_, rfl, rfl⟩ rfl rfl (fun own ho hd => alone_ct _ (i := k1) (one_in 4 rfl ho hd) (MapR.in_own 5 rfl ho hd) (mostTo_len ..) (by assumption) (by assumption)) ?_
      rintro _ _ ⟨rfl, rfl⟩
      refine .y (.not rfl) ⟨_, rfl, rfl⟩ rfl rfl ?_
      refine .y (.pick_t rfl rfl) trivial rfl rfl ?_
      refine .nil ?_
      refine .cond rfl (fun h1 => ?_) (fun h1 => ?_)
      · refine .region ?_
        refine .y (.load rfl (.own 1 rfl) ag_22 sz_22 rfl) trivial rfl rfl ?_
        refine .y (.load rfl (.own 0 rfl) ag_30 sz_30 rfl) trivial rfl rfl ?_
        refine .n (.lit #[.int .i64 0, .int .i64 0] lz_30_1 rfl sl_22 sz_30 zr_30 rfl rfl rfl) trivial rfl rfl fun B6 => ?_
        refine .cons trivial (.app (E := eCell) (ys := [(cellAt C k1)]) 3 el_22 rfl rfl rfl rfl rfl (.of_cells (.own 0 rfl)) (fun h => by cases h) (by have := filtC_len C (openB C Rw rods (mostTo C rods (fun _ => true) (C * Rw))) k1; simp; omega) (by have := filtC_len C (openB C Rw rods (mostTo C rods (fun _ => true) (C * Rw))) k1; simp; omega) rfl fun a2 c2 oka2 => ?_)
        refine .cons trivial (.store 2 rfl rfl rfl sz_22 rfl rfl (Nat.le_of_ble_eq_true rfl) rfl ?_)
        refine .nil ?_
        show RSub [BoxS eCell 22 30 B3 (filtC C (openB C Rw rods (mostTo C rods (fun _ => true) (C * Rw))) (k1 + 1)), As.one B2 (.cells #[.pointer (some ⟨F1, 0, none⟩)] 115 (0, 0)), As.one F1 (.cells (fieldC C Rw ra rods.length rc (mostTo C rods (fun _ => true) (C * Rw)) M1).toArray 124 (0, 0)), MapO vN M1 ms1, As.one B1 (.cells #[.int .i64 (C : Int), .int .i64 (Rw : Int), .slice ra rods.length rc] 28 (0, 0))] _
        rw [filtC_in (openB_t hx1 (by first | assumption | exact of_decide_eq_true (by assumption)) (by simp_all))]
        exact (.boxS (by first | assumption | exact .nil) (.pick 2 rfl (.pick 2 rfl (.pick 2 rfl (.pick 2 rfl (.pick 2 rfl (.pick 2 rfl (.nil _))))))))
      · refine .skip ?_
        show RSub [BoxS eCell 22 30 B3 (filtC C (openB C Rw rods (mostTo C rods (fun _ => true) (C * Rw))) (k1 + 1)), As.one B2 (.cells #[.pointer (some ⟨F1, 0, none⟩)] 115 (0, 0)), As.one F1 (.cells (fieldC C Rw ra rods.length rc (mostTo C rods (fun _ => true) (C * Rw)) M1).toArray 124 (0, 0)), MapO vN M1 ms1, As.one B1 (.cells #[.int .i64 (C : Int), .int .i64 (Rw : Int), .slice ra rods.length rc] 28 (0, 0))] _
        rw [filtC_out (openB_f hx1 (by simp_all))]
        exact (.boxS (by first | assumption | exact .nil) (.pick 1 rfl (.pick 1 rfl (.pick 1 rfl (.pick 1 rfl (.pick 1 rfl (.pick 1 rfl (.nil _))))))))
    · refine .skip ⟨_, rfl, rfl⟩ rfl ?_
      refine .skip ⟨_, rfl, rfl⟩ rfl ?_
      refine .skip ⟨_, rfl, rfl⟩ rfl ?_
      refine .skip ⟨_, rfl, rfl⟩ rfl ?_
      refine .y (.pick_f rfl rfl) trivial rfl rfl ?_
      refine .nil ?_
      refine .cond_f rfl ?_
      refine .skip ?_
      show RSub [BoxS eCell 22 30 B3 (filtC C (openB C Rw rods (mostTo C rods (fun _ => true) (C * Rw))) (k1 + 1)), As.one B2 (.cells #[.pointer (some ⟨F1, 0, none⟩)] 115 (0, 0)), As.one F1 (.cells (fieldC C Rw ra rods.length rc (mostTo C rods (fun _ => true) (C * Rw)) M1).toArray 124 (0, 0)), MapO vN M1 ms1, As.one B1 (.cells #[.int .i64 (C : Int), .int .i64 (Rw : Int), .slice ra rods.length rc] 28 (0, 0))] _
      rw [filtC_out (openB_f hx1 (by simp_all))]
      exact (.boxS (by first | assumption | exact .nil) (.pick 1 rfl (.pick 1 rfl (.pick 1 rfl (.pick 1 rfl (.pick 1 rfl (.pick 1 rfl (.nil _))))))))
  · refine .boxS fun a3 c3 oka3 => ?_
    refine .seq ?_
    refine .region ?_
    refine .y (.load rfl (.own 0 rfl) ag_22 sz_22 rfl) trivial rfl rfl ?_
    refine .y (.assign rfl) trivial rfl rfl ?_
    refine .y (.assign rfl) trivial rfl rfl ?_
    refine .nil ?_
    refine .ret ?_
    refine ⟨.inr rfl, _, _, (.pick 1 rfl (.nil _)), fun own' ho => .two rfl rfl rfl, ?_⟩
    exact ⟨_, _, rfl, rfl, by assumption⟩
  · exact fun _ _ h => h.elim
theorem lowered_ct (g : Hp) {C Rw : Nat} {ra : Option Addr} {rn rc : Nat} {top : List Int} {F M : Nat} {tip : Cell} {reach most : Int} (hc : 1 ≤ C ∧ C ≤ 5 ∧ 1 ≤ Rw ∧ Rw ≤ 5) (hF : g F = some (.cells (fieldC C Rw ra rn rc top M).toArray 124 (0, 0))) (ht : top.length = 25) (htb : ∀ x ∈ top, 0 ≤ x ∧ x ≤ 9) (hp : Sm tip) (hr : 0 ≤ reach ∧ reach ≤ 100) (hm : 0 ≤ most ∧ most ≤ 100) : Ct Tryz.prog 194 [.pointer (some ⟨F, 0, none⟩), .agg #[.int .i64 tip.col, .int .i64 tip.row], .int .i64 reach, .int .i64 most].toArray g [] (fun v rs => v = .agg ((lowTo C top tip reach most (C * Rw)).map argI).toArray ∧ rs = []) := by
  refine Ct.of_body (N := 40) (l := [.pointer (some ⟨F, 0, none⟩), .agg #[.int .i64 tip.col, .int .i64 tip.row], .int .i64 reach, .int .i64 most]) Tryz.func194 rfl rfl (Nat.le_of_ble_eq_true rfl) fun n0 => ?_
  refine .seq ?_
  refine .region ?_
  refine .n (.box rfl) trivial rfl rfl fun B1 => ?_
  refine .n (.box rfl) trivial rfl rfl fun B2 => ?_
  refine .n (.box rfl) trivial rfl rfl fun B3 => ?_
  refine .n (.alloc zr_121) trivial rfl rfl fun B4 => ?_
  refine .nil ?_
  refine .seq ?_
  refine .region ?_
  refine .y (.move rfl) trivial rfl rfl ?_
  refine .y (.nilCheck rfl) trivial rfl rfl ?_
  refine .y (.fieldAddr rfl fl_124_1) trivial rfl rfl ?_
  refine .y (.load rfl (.g hF) ag_121 sz_121 (rdF_top ht)) trivial rfl rfl ?_
  refine .n (.alloc zr_121) trivial rfl rfl fun B5 => ?_
  refine .cons trivial (.storeAll (xs := List.replicate 25 (0 : Int)) (ys := top) 0 rfl rfl rfl sz_121 (by first | omega | (simp; omega) | exact Nat.le_trans (membI_len _) (by decide) | (simp [*]; done) | (simp [*]; omega)) (by first | omega | (simp; omega) | exact Nat.le_trans (membI_len _) (by decide) | (simp [*]; done) | (simp [*]; omega)) rfl ?_)
  refine .nil ?_
  refine .seq ?_
  refine .seq ?_
  refine .region ?_
  refine .y (.move rfl) trivial rfl rfl ?_
  refine .y (.nilCheck rfl) trivial rfl rfl ?_
  refine .y (.fieldAddr rfl fl_124_0) trivial rfl rfl ?_
  refine .y (.load rfl (.g hF) ag_28 sz_28 rdF_bin) trivial rfl rfl ?_
  refine .c (.call rfl rfl fn_52) trivial rfl rfl (fun own ho hd => cells_ct _ ) ?_
  rintro _ _ ⟨B6, rfl, rfl⟩
  refine .nil ?_
  refine .block ?_
  refine T.range (N := C * Rw) (enc := fun k1 => [.int .i64 (k1 : Int), .agg #[.int .i64 ((cellAt C k1).col), .int .i64 ((cellAt C k1).row)]]) (r := [As.one B6 (.cells #[.int .i64 (C : Int), .int .i64 (Rw : Int), .slice ra rn rc] 28 (0, 0))]) (fun k1 => [As.one B5 (.cells ((lowTo C top tip reach most k1).map argI).toArray 121 (0, 0)), As.one B4 (.cells ((List.replicate 25 (0 : Int)).map argI).toArray 121 (0, 0)), As.one B3 (.cells #[.int .i64 most] 3 (0, 0)), As.one B2 (.cells #[.int .i64 reach] 3 (0, 0)), As.one B1 (.cells #[.int .i64 tip.col, .int .i64 tip.row] 30 (0, 0))]) (fun _ _ => False) rfl fn_123 (fun own ho hd => cells1_it _ (one_in 0 rfl ho hd) (by first | assumption | omega)) (.pickc 1 rfl (fun h hh => by rw [lowTo_zero ht]; exact hh) (.pick 1 rfl (.pick 1 rfl (.pick 1 rfl (.pick 1 rfl (.pick 0 rfl (.refl _))))))) (fun _ => rfl) (fun p hp => by simp at hp; show p < 40; omega) (fun l1 k1 hk1 => ?_) ?_ ?_
  · have h25k1 : k1 < 25 := Nat.lt_of_lt_of_le hk1 (Nat.mul_le_mul hc.2.1 hc.2.2.2)
    refine .seq ?_
    refine .region ?_
    refine .y (.assign rfl) trivial rfl rfl ?_
    refine .nil ?_
    refine .region ?_
    refine .n (.alloc zr_30) trivial rfl rfl fun B7 => ?_
    refine .cons trivial (.store 0 rfl rfl rfl sz_30 rfl rfl (Nat.le_of_ble_eq_true rfl) rfl ?_)
    refine .nil ?_
    refine ⟨rfl, ?_⟩
    refine .block ?_
    refine .seq ?_
    refine .region ?_
    refine .y (.load rfl (.own 0 rfl) ag_30 sz_30 rfl) trivial rfl rfl ?_
    refine .y (.load rfl (.own 5 rfl) ag_30 sz_30 rfl) trivial rfl rfl ?_
    refine .c (.call rfl rfl fn_53) trivial rfl rfl (fun own ho hd => from_ct _ (by first | assumption | exact (show RodOk _ from (by assumption)).1 | exact (getRod hv (by assumption)).1 | exact cellAt_Sm hc.2.1 hc.2.2.2 (by assumption)) (by first | assumption | exact (show RodOk _ from (by assumption)).1 | exact (getRod hv (by assumption)).1 | exact cellAt_Sm hc.2.1 hc.2.2.2 (by assumption))) ?_
    rintro _ _ ⟨rfl, rfl⟩
    refine .y (.assign rfl) trivial rfl rfl ?_
    refine .nil ?_
    refine .seq ?_
    refine .region ?_
    refine .y (.move rfl) trivial rfl rfl ?_
    refine .y (.load rfl (.own 4 rfl) ag_3 sz_3 rfl) trivial rfl rfl ?_
    refine .y (.leq rfl rfl) trivial rfl rfl ?_
    refine .nil ?_
    refine .ite rfl (fun h1 => ?_) (fun h1 => ?_)
    · refine T.dr (N := 40) [] [0, 0, 2, 6, 0, 0, 48, 126, 255, 511] 8 (by kernel_rfl) flw rfl (Nat.le_of_ble_eq_true rfl) ?_
      refine .y (.move rfl) trivial ?_
      refine .y (.move rfl) trivial ?_
      refine .y (.indexAddrA rfl rfl ar_121 sz_3 (by omega)) trivial ?_
      obtain ⟨x1, hx1⟩ : ∃ x1, (lowTo C top tip reach most k1)[k1]? = some x1 := ⟨_, List.getElem?_eq_getElem (show k1 < (lowTo C top tip reach most k1).length from (by first | omega | (simp; omega) | exact Nat.le_trans (membI_len _) (by decide) | (simp [*]; done) | (simp [*]; omega)))⟩
      refine .y (.loadA (xs := lowTo C top tip reach most k1) (i := k1) rfl (.own 1 rfl) ag_3 sz_3 (by simp) hx1) trivial ?_
      refine .y (.load rfl (.own 3 rfl) ag_3 sz_3 rfl) trivial ?_
      refine .y (.move rfl) trivial ?_
      refine .y (.add rfl rfl (by have := dist_bd (cellAt_Sm hc.2.1 hc.2.2.2 hk1) hp; omega)) trivial ?_
      refine .y (.mini rfl rfl) trivial ?_
      refine .nil ?_
      refine .y (.indexAddrA rfl rfl ar_121 sz_3 (by omega)) trivial rfl rfl ?_
      refine .cons trivial (.storeA (xs := lowTo C top tip reach most k1) (k := k1) 1 rfl rfl rfl sz_3 (by simp) (by first | omega | (simp; omega) | exact Nat.le_trans (membI_len _) (by decide) | (simp [*]; done) | (simp [*]; omega)) rfl ?_)
      refine .nil ?_
      show RSub [As.one B5 (.cells ((lowTo C top tip reach most (k1 + 1)).map argI).toArray 121 (0, 0)), As.one B4 (.cells ((List.replicate 25 (0 : Int)).map argI).toArray 121 (0, 0)), As.one B3 (.cells #[.int .i64 most] 3 (0, 0)), As.one B2 (.cells #[.int .i64 reach] 3 (0, 0)), As.one B1 (.cells #[.int .i64 tip.col, .int .i64 tip.row] 30 (0, 0))] _
      rw [← lowTo_in (by assumption) (by assumption)]
      exact (.pick 1 rfl (.pick 1 rfl (.pick 1 rfl (.pick 1 rfl (.pick 1 rfl (.nil _))))))
    · refine .skip ?_
      show RSub [As.one B5 (.cells ((lowTo C top tip reach most (k1 + 1)).map argI).toArray 121 (0, 0)), As.one B4 (.cells ((List.replicate 25 (0 : Int)).map argI).toArray 121 (0, 0)), As.one B3 (.cells #[.int .i64 most] 3 (0, 0)), As.one B2 (.cells #[.int .i64 reach] 3 (0, 0)), As.one B1 (.cells #[.int .i64 tip.col, .int .i64 tip.row] 30 (0, 0))] _
      rw [lowTo_out (by assumption)]
      exact (.pick 1 rfl (.pick 1 rfl (.pick 1 rfl (.pick 1 rfl (.pick 1 rfl (.nil _))))))
  · skip
    refine .seq ?_
    refine .region ?_
    refine .y (.load rfl (.own 0 rfl) ag_121 sz_121 (rdArr (by first | omega | (simp; omega) | exact Nat.le_trans (membI_len _) (by decide) | (simp [*]; done) | (simp [*]; omega)))) trivial rfl rfl ?_
    refine .cons trivial (.storeAll (xs := List.replicate 25 (0 : Int)) (ys := lowTo C top tip reach most (C * Rw)) 1 rfl rfl rfl sz_121 (by first | omega | (simp; omega) | exact Nat.le_trans (membI_len _) (by decide) | (simp [*]; done) | (simp [*]; omega)) (by first | omega | (simp; omega) | exact Nat.le_trans (membI_len _) (by decide) | (simp [*]; done) | (simp [*]; omega)) rfl ?_)
    refine .nil ?_
    refine .ret ?_
    refine ⟨.inr rfl, _, _, (.nil _), fun own' ho => .one2 rfl (.c rfl (own_get 1 rfl ho) ag_121 sz_121 (rdArr (by first | omega | (simp; omega) | exact Nat.le_trans (membI_len _) (by decide) | (simp [*]; done) | (simp [*]; omega)))), ?_⟩
    first | exact ⟨rfl, rfl⟩ | (refine ⟨?_, rfl⟩; simp [*])
  · exact fun _ _ h => h.elim
theorem leaves_ct (g : Hp) {C Rw : Nat} {ra : Option Addr} {rc : Nat} {top : List Int} {F M : Nat} {tip : Cell} {reach : Int} {rods : List Rod} (hc : 1 ≤ C ∧ C ≤ 5 ∧ 1 ≤ Rw ∧ Rw ≤ 5) (hF : g F = some (.cells (fieldC C Rw ra rods.length rc top M).toArray 124 (0, 0))) (ht : top.length = 25) (htb : ∀ x ∈ top, 0 ≤ x ∧ x ≤ 9) (hp : Sm tip) (hre : 0 ≤ reach ∧ reach ≤ 100) (hr : SlR eRod g ra rods) (hl : rods.length ≤ 8) (hv : ∀ r ∈ rods, RodOk r) (hfit : fitsL C Rw rods top (fun _ => true) = true) : Ct Tryz.prog 128 [.pointer (some ⟨F, 0, none⟩), .agg #[.int .i64 tip.col, .int .i64 tip.row], .int .i64 reach].toArray g [] (fun v rs => v = .agg #[.int .i64 ((leavesLo C Rw rods top tip reach : Nat) : Int), .int .i64 ((leavesHi C Rw rods top tip reach : Nat) : Int)] ∧ rs = []) := by
  refine Ct.of_body (N := 39) (l := [.pointer (some ⟨F, 0, none⟩), .agg #[.int .i64 tip.col, .int .i64 tip.row], .int .i64 reach]) Tryz.func128 rfl rfl (Nat.le_of_ble_eq_true rfl) fun n0 => ?_
  refine .seq ?_
  refine .region ?_
  refine .n (.box rfl) trivial rfl rfl fun B1 => ?_
  refine .n (.alloc zr_78) trivial rfl rfl fun B2 => ?_
  refine .nil ?_
  refine .seq ?_
  refine .region ?_
  refine .y (.assign rfl) trivial rfl rfl ?_
  refine .nil ?_
  refine .seq ?_
  refine .block ?_
  refine T.loop (ι := { zz : Nat // 0 ≤ zz ∧ zz ≤ 9 ∧ ∀ m, 0 ≤ m → m < zz → leastP C Rw rods top tip reach m = false }) (fun zz => ([(7, .int .i64 (zz.1 : Int)), (0, .pointer (some ⟨F, 0, none⟩)), (2, .int .i64 reach), (4, .pointer (some ⟨B1, 0, none⟩)), (6, .pointer (some ⟨B2, 0, none⟩))], [As.one B2 (.cells #[.int .i64 0, .int .i64 0] 78 (0, 0)), As.one B1 (.cells #[.int .i64 tip.col, .int .i64 tip.row] 30 (0, 0))])) (fun zz => 9 - zz.1) ⟨(0), by simp⟩ (.one rfl (.one rfl (.one rfl (.one rfl (.one rfl (.nil)))))) (.refl _) ?_
  rintro ⟨n, hP0⟩
  show T _ [(7, .int .i64 (n : Int)), (0, .pointer (some ⟨F, 0, none⟩)), (2, .int .i64 reach), (4, .pointer (some ⟨B1, 0, none⟩)), (6, .pointer (some ⟨B2, 0, none⟩))] [As.one B2 (.cells #[.int .i64 0, .int .i64 0] 78 (0, 0)), As.one B1 (.cells #[.int .i64 tip.col, .int .i64 tip.row] 30 (0, 0))] _ _
  refine .seq ?_
  refine .seq ?_
  refine T.dr (N := 39) [(8, (fun v rs => v = .agg ((lowTo C top tip reach (n : Int) (C * Rw)).map argI).toArray ∧ rs = [])), (9, (fun v rs => v = .agg #[.func (.func 131) #[] #[]] ∧ rs = []))] [0, 1, 3, 7, 0, 0, 0, 0, 240, 496, 1023, 2047] 10 (by kernel_rfl) flw rfl (Nat.le_of_ble_eq_true rfl) ?_
  refine .y (.move rfl) trivial ?_
  refine .y (.nilCheck rfl) trivial ?_
  refine .y (.fieldAddr rfl fl_124_0) trivial ?_
  refine .y (.load rfl (.g hF) ag_28 sz_28 rdF_bin) trivial ?_
  refine .y (.move rfl) trivial ?_
  refine .y (.load rfl (.own 1 rfl) ag_30 sz_30 rfl) trivial ?_
  refine .y (.move rfl) trivial ?_
  refine .y (.move rfl) trivial ?_
  refine .c (.call rfl rfl fn_194) trivial (fun own ho hd => lowered_ct _ hc (Hp.up hF) ht (by first | assumption | exact (fun x hx => mostTo_bd hc.2.1 hc.2.2.2 (Nat.le_refl _) hv x hx)) (by first | assumption | exact (show RodOk _ from (by assumption)).1 | exact (getRod hv (by assumption)).1 | exact cellAt_Sm hc.2.1 hc.2.2.2 (by assumption)) (by omega) (by omega)) ?_
  rintro _ _ ⟨rfl, rfl⟩
  refine .c (.call rfl rfl fn_75) trivial (fun own ho hd => all_ct _ ) ?_
  rintro _ _ ⟨rfl, rfl⟩
  refine .nil ?_
  refine .c (.call rfl rfl fn_74) trivial rfl rfl (fun own ho hd => fits_ct _ fn_131 (fun g' hg x hx => all1_ct g') hc (rods := rods) (SlR.up hr) hl hv (lowTo_len ..) (fun x hx => by have := lowTo_bd (fun i hi => cellAt_Sm hc.2.1 hc.2.2.2 hi) hp (by omega) htb x hx; omega)) ?_
  rintro _ _ ⟨rfl, rfl⟩
  refine .y (.not rfl) trivial rfl rfl ?_
  refine .nil ?_
  refine .cond rfl (fun h1 => ?_) (fun h1 => ?_)
  · refine .skip ?_
    refine .block ?_
    refine .region ?_
    refine .y (.move rfl) trivial rfl rfl ?_
    refine .y (.add rfl rfl (by omega)) trivial rfl rfl ?_
    refine .y (.assign rfl) trivial rfl rfl ?_
    refine .nil ?_
    refine ⟨⟨(n + 1), ?_⟩, ?_, (.one rfl (.one rfl (.one rfl (.one rfl (.one rfl (.nil)))))), (.refl _)⟩
    · exact first_step hP0 (leastP_nine hc hp htb ht hfit) (by simpa [leastP] using h1)
    · have := first_step hP0 (leastP_nine hc hp htb ht hfit) (by simpa [leastP] using h1); show 9 - (n + 1) < 9 - n; omega
  · refine .exit ?_
    refine inB_hit ?_
    refine .seq ?_
    refine .region ?_
    refine .y (.move rfl) trivial rfl rfl ?_
    refine .y (.assign rfl) trivial rfl rfl ?_
    refine .nil ?_
    refine .seq ?_
    refine .block ?_
    refine T.loop (ι := { zz : Nat // n ≤ zz ∧ zz ≤ 9 ∧ ∀ j, n ≤ j → j < zz → mostP C Rw top tip reach j = false }) (fun zz => ([(8, .int .i64 (zz.1 : Int)), (0, .pointer (some ⟨F, 0, none⟩)), (2, .int .i64 reach), (4, .pointer (some ⟨B1, 0, none⟩)), (6, .pointer (some ⟨B2, 0, none⟩)), (7, .int .i64 (n : Int))], [As.one B2 (.cells #[.int .i64 0, .int .i64 0] 78 (0, 0)), As.one B1 (.cells #[.int .i64 tip.col, .int .i64 tip.row] 30 (0, 0))])) (fun zz => 9 - zz.1) ⟨(n), ⟨Nat.le_refl _, hP0.2.1, fun j h1 h2 => by omega⟩⟩ (.one rfl (.one rfl (.one rfl (.one rfl (.one rfl (.one rfl (.nil))))))) (.refl _) ?_
    rintro ⟨m, hP2⟩
    show T _ [(8, .int .i64 (m : Int)), (0, .pointer (some ⟨F, 0, none⟩)), (2, .int .i64 reach), (4, .pointer (some ⟨B1, 0, none⟩)), (6, .pointer (some ⟨B2, 0, none⟩)), (7, .int .i64 (n : Int))] [As.one B2 (.cells #[.int .i64 0, .int .i64 0] 78 (0, 0)), As.one B1 (.cells #[.int .i64 tip.col, .int .i64 tip.row] 30 (0, 0))] _ _
    refine .seq ?_
    refine .seq ?_
    refine T.dr (N := 39) [(4, (fun v rs => v = .agg ((lowTo C top tip reach (m : Int) (C * Rw)).map argI).toArray ∧ rs = []))] [0, 0, 0, 0, 15, 0, 32, 96, 224, 511] 9 (by kernel_rfl) flw rfl (Nat.le_of_ble_eq_true rfl) ?_
    refine .y (.move rfl) trivial ?_
    refine .y (.load rfl (.own 1 rfl) ag_30 sz_30 rfl) trivial ?_
    refine .y (.move rfl) trivial ?_
    refine .y (.move rfl) trivial ?_
    refine .c (.call rfl rfl fn_194) trivial (fun own ho hd => lowered_ct _ hc (Hp.up hF) ht (by first | assumption | exact (fun x hx => mostTo_bd hc.2.1 hc.2.2.2 (Nat.le_refl _) hv x hx)) (by first | assumption | exact (show RodOk _ from (by assumption)).1 | exact (getRod hv (by assumption)).1 | exact cellAt_Sm hc.2.1 hc.2.2.2 (by assumption)) (by omega) (by omega)) ?_
    rintro _ _ ⟨rfl, rfl⟩
    refine .y (.move rfl) trivial ?_
    refine .y (.nilCheck rfl) trivial ?_
    refine .y (.fieldAddr rfl fl_124_1) trivial ?_
    refine .y (.load rfl (.g hF) ag_121 sz_121 (rdF_top ht)) trivial ?_
    refine .nil ?_
    refine .y (.neA (xs := lowTo C top tip reach (m : Int) (C * Rw)) (ys := top) rfl rfl ai_121 (by first | omega | (simp; omega) | exact Nat.le_trans (membI_len _) (by decide) | (simp [*]; done) | (simp [*]; omega)) (by first | omega | (simp; omega) | exact Nat.le_trans (membI_len _) (by decide) | (simp [*]; done) | (simp [*]; omega))) trivial rfl rfl ?_
    refine .nil ?_
    refine .ite rfl (fun h2 => ?_) (fun h2 => ?_)
    · refine .skip ?_
      refine .block ?_
      refine .region ?_
      refine .y (.move rfl) trivial rfl rfl ?_
      refine .y (.add rfl rfl (by omega)) trivial rfl rfl ?_
      refine .y (.assign rfl) trivial rfl rfl ?_
      refine .nil ?_
      refine ⟨⟨(m + 1), ?_⟩, ?_, (.one rfl (.one rfl (.one rfl (.one rfl (.one rfl (.one rfl (.nil))))))), (.refl _)⟩
      · exact first_step hP2 (mostP_nine hc hp htb ht) (by simpa [mostP] using h2)
      · have := first_step hP2 (mostP_nine hc hp htb ht) (by simpa [mostP] using h2); show 9 - (m + 1) < 9 - m; omega
    · refine .exit ?_
      refine inB_hit ?_
      refine .seq ?_
      refine .region ?_
      refine .y (.move rfl) trivial rfl rfl ?_
      refine .y (.move rfl) trivial rfl rfl ?_
      refine .y (.build rfl pl_78 zr_78 rfl) trivial rfl rfl ?_
      refine .cons trivial (.store 0 rfl rfl rfl sz_78 rfl rfl (Nat.le_of_ble_eq_true rfl) rfl ?_)
      refine .nil ?_
      refine .ret ?_
      refine ⟨.inr rfl, _, _, (.nil _), fun own' ho => .one2 rfl (.c rfl (own_get 0 rfl ho) ag_78 sz_78 rfl), ?_⟩
      have e1 : leavesLo C Rw rods top tip reach = n := first_done hP0 (by simpa [leastP] using h1)
      have e2 : leavesHi C Rw rods top tip reach = m := by rw [leavesHi, e1]; exact first_done hP2 (by simpa [mostP] using h2)
      rw [e1, e2]; exact ⟨rfl, rfl⟩
theorem reach0_ct (g : Hp) {cols rows : Int} {ra : Option Addr} {rn rc : Nat} {a : Cell} {reach : Int} (hc : 1 ≤ cols ∧ cols ≤ 5 ∧ 1 ≤ rows ∧ rows ≤ 5) (hct : hasC cols rows a = true) (hre : 0 ≤ reach ∧ reach ≤ 3) : Ct Tryz.prog 122 [.agg #[.int .i64 cols, .int .i64 rows, .slice ra rn rc], .agg #[.int .i64 a.col, .int .i64 a.row], .int .i64 reach].toArray g [] (fun v rs => v = .int .i64 0 ∧ rs = []) := by
  have h := reach_ct g (ra := ra) (rn := rn) (rc := rc) (a := a) (reach := reach) hc
  rw [reachE_ok hct hre] at h; exact h
theorem Leaves_ct (g : Hp) {C Rw : Nat} {ra : Option Addr} {rc : Nat} {rods : List Rod} {tip : Cell} {reach : Int} (hc : 1 ≤ C ∧ C ≤ 5 ∧ 1 ≤ Rw ∧ Rw ≤ 5) (hr : SlR eRod g ra rods) (hl : rods.length ≤ 8) (hv : ∀ r ∈ rods, RodOk r) (hck : chkBin (C : Int) (Rw : Int) rods = 0) (hfit : fitsL C Rw rods (mostTo C rods (fun _ => true) (C * Rw)) (fun _ => true) = true) (hct : hasC (C : Int) (Rw : Int) tip = true) (hre : 0 ≤ reach ∧ reach ≤ 3) : Ct Tryz.prog 65 [.agg #[.int .i64 (C : Int), .int .i64 (Rw : Int), .slice ra rods.length rc], .agg #[.int .i64 tip.col, .int .i64 tip.row], .int .i64 reach].toArray g [] (fun v rs => v = .tuple #[.agg #[.int .i64 (((leavesLo C Rw rods (mostTo C rods (fun _ => true) (C * Rw)) tip reach) : Nat) : Int), .int .i64 (((leavesHi C Rw rods (mostTo C rods (fun _ => true) (C * Rw)) tip reach) : Nat) : Int)], .int .i64 0] ∧ rs = []) := by
  have hp : Sm tip := by have := hasC_iff.1 hct; unfold Sm; omega
  have h122 := reachE_ok hct hre
  refine Ct.of_body (N := 27) (l := [.agg #[.int .i64 (C : Int), .int .i64 (Rw : Int), .slice ra rods.length rc], .agg #[.int .i64 tip.col, .int .i64 tip.row], .int .i64 reach]) Tryz.func65 rfl rfl (Nat.le_of_ble_eq_true rfl) fun n0 => ?_
  refine .seq ?_
  refine .region ?_
  refine .n (.box rfl) trivial rfl rfl fun B1 => ?_
  refine .n (.box rfl) trivial rfl rfl fun B2 => ?_
  refine .n (.alloc zr_78) trivial rfl rfl fun B3 => ?_
  refine .y (.assign rfl) trivial rfl rfl ?_
  refine .nil ?_
  refine .seq ?_
  refine T.dr (N := 27) [(4, (fun v rs => v = .int .i64 0 ∧ rs = [])), (5, (fun v rs => ∃ (F : Nat) (M : Nat) (ms : List (Cell × Nat)), v = .tuple #[.pointer (some ⟨F, 0, none⟩), .int .i64 0] ∧ rs = [As.one F (.cells (fieldC C Rw ra rods.length rc (mostTo C rods (fun _ => true) (C * Rw)) M).toArray 124 (0, 0)), MapO vN M ms] ∧ ExpOk C Rw rods (mostTo C rods (fun _ => true) (C * Rw)) (C * Rw) 0 ms))] [0, 0, 0, 0, 14, 31, 63, 127, 127, 255, 1023] 10 (by kernel_rfl) flw rfl (Nat.le_of_ble_eq_true rfl) ?_
  refine .y (.load rfl (.own 2 rfl) ag_28 sz_28 rfl) trivial ?_
  refine .y (.load rfl (.own 2 rfl) ag_28 sz_28 rfl) trivial ?_
  refine .y (.load rfl (.own 1 rfl) ag_30 sz_30 rfl) trivial ?_
  refine .y (.move rfl) trivial ?_
  refine .c (.call rfl rfl fn_122) trivial (fun own ho hd => reach0_ct _ (a := tip) (by omega) hct (by omega)) ?_
  rintro _ _ ⟨rfl, rfl⟩
  refine .c (.call rfl rfl fn_69) trivial (fun own ho hd => told_ct _ hc (rods := rods) (SlR.up hr) hl hv hck hfit) ?_
  rintro _ _ ⟨F1, M1, ms1, rfl, rfl, hf1⟩
  refine .y (.move rfl) trivial ?_
  refine .y (.extract rfl rfl) trivial ?_
  refine .y (.extract rfl rfl) trivial ?_
  refine .y (.assign rfl) trivial ?_
  refine .nil ?_
  refine .y (.assign rfl) trivial rfl rfl ?_
  refine .nil ?_
  refine .seq ?_
  refine .seq ?_
  refine .region ?_
  refine .y (.move rfl) trivial rfl rfl ?_
  refine .y (.to (.neq rfl rfl) (v' := .bool false) rfl) trivial rfl rfl ?_
  refine .nil ?_
  refine .cond_f rfl ?_
  refine .skip ?_
  refine .seq ?_
  refine .region ?_
  refine .y (.move rfl) trivial rfl rfl ?_
  refine .y (.load rfl (.own 3 rfl) ag_30 sz_30 rfl) trivial rfl rfl ?_
  refine .y (.move rfl) trivial rfl rfl ?_
  refine .c (.call rfl rfl fn_128) trivial rfl rfl (fun own ho hd => leaves_ct _ hc (one_in 0 rfl ho hd) (mostTo_len ..) (by first | assumption | exact (fun x hx => mostTo_bd hc.2.1 hc.2.2.2 (Nat.le_refl _) hv x hx)) (by first | assumption | exact (show RodOk _ from (by assumption)).1 | exact (getRod hv (by assumption)).1 | exact cellAt_Sm hc.2.1 hc.2.2.2 (by assumption)) (by omega) (rods := rods) (SlR.up hr) hl hv (by assumption)) ?_
  rintro _ _ ⟨rfl, rfl⟩
  refine .cons trivial (.store 2 rfl rfl rfl sz_78 rfl rfl (Nat.le_of_ble_eq_true rfl) rfl ?_)
  refine .y (.assign rfl) trivial rfl rfl ?_
  refine .nil ?_
  refine .ret ?_
  refine ⟨.inr rfl, _, _, (.nil _), fun own' ho => .two2 rfl (.c rfl (own_get 2 rfl ho) ag_78 sz_78 rfl) (.t rfl), ?_⟩
  first | exact ⟨rfl, rfl⟩ | (refine ⟨?_, rfl⟩; simp [*])
theorem Next_ct (g : Hp) {C Rw : Nat} {ra : Option Addr} {rc : Nat} {rods : List Rod} {reach : Int} (hc : 1 ≤ C ∧ C ≤ 5 ∧ 1 ≤ Rw ∧ Rw ≤ 5) (hr : SlR eRod g ra rods) (hl : rods.length ≤ 8) (hv : ∀ r ∈ rods, RodOk r) (hck : chkBin (C : Int) (Rw : Int) rods = 0) (hfit : fitsL C Rw rods (mostTo C rods (fun _ => true) (C * Rw)) (fun _ => true) = true) (hre : 0 ≤ reach ∧ reach ≤ 3) : Ct Tryz.prog 66 [.agg #[.int .i64 (C : Int), .int .i64 (Rw : Int), .slice ra rods.length rc], .int .i64 reach].toArray g [] (fun v rs => v = .tuple #[.agg #[.int .i64 ((nextC C Rw rods (mostTo C rods (fun _ => true) (C * Rw)) reach).col), .int .i64 ((nextC C Rw rods (mostTo C rods (fun _ => true) (C * Rw)) reach).row)], .int .i64 (nextE C Rw rods (mostTo C rods (fun _ => true) (C * Rw)) reach)] ∧ rs = []) := by
  have hct : hasC (C : Int) (Rw : Int) ⟨0, 0⟩ = true := by rw [hasC_iff]; simp only []; omega
  refine Ct.of_body (N := 52) (l := [.agg #[.int .i64 (C : Int), .int .i64 (Rw : Int), .slice ra rods.length rc], .int .i64 reach]) Tryz.func66 rfl rfl (Nat.le_of_ble_eq_true rfl) fun n0 => ?_
  refine .seq ?_
  refine .region ?_
  refine .n (.box rfl) trivial rfl rfl fun B1 => ?_
  refine .n (.box rfl) trivial rfl rfl fun B2 => ?_
  refine .n (.alloc zr_30) trivial rfl rfl fun B3 => ?_
  refine .y (.assign rfl) trivial rfl rfl ?_
  refine .nil ?_
  refine .seq ?_
  refine T.any #[false, false, false, false, false, false, false, false, false, false, false, false] rfl 12 rfl flw ?_
  refine .use fun F hF => ?_
  have s1_4095 : ∀ (F_5 : Nat) (M_5 : Nat) (ms_5 : List (Cell × Nat)) (hf_5 : ExpOk C Rw rods (mostTo C rods (fun _ => true) (C * Rw)) (C * Rw) 0 ms_5) (B_9 : Nat), F 0 #[true, true, true, true, true, true, true, true, true, true, true, true] [(2, .pointer (some ⟨B1, 0, none⟩)), (3, .pointer (some ⟨B2, 0, none⟩)), (4, .pointer (some ⟨B3, 0, none⟩)), (6, .pointer (some ⟨B_9, 0, none⟩)), (7, .int .i64 0)] [As.one B_9 (.cells #[.pointer (some ⟨F_5, 0, none⟩)] 115 (0, 0)), As.one F_5 (.cells (fieldC C Rw ra rods.length rc (mostTo C rods (fun _ => true) (C * Rw)) M_5).toArray 124 (0, 0)), MapO vN M_5 ms_5, As.one B3 (.cells #[.int .i64 0, .int .i64 0] 30 (0, 0)), As.one B2 (.cells #[.int .i64 reach] 3 (0, 0)), As.one B1 (.cells #[.int .i64 (C : Int), .int .i64 (Rw : Int), .slice ra rods.length rc] 28 (0, 0))] := by
    intro F_5 M_5 ms_5 hf_5 B_9
    subst hF
    refine .done (by kernel_rfl) ?_
    refine .seq ?_
    refine .seq ?_
    refine .region ?_
    refine .y (.move rfl) trivial rfl rfl ?_
    refine .y (.to (.neq rfl rfl) (v' := .bool false) rfl) trivial rfl rfl ?_
    refine .nil ?_
    refine .cond_f rfl ?_
    refine .skip ?_
    refine .seq ?_
    refine .region ?_
    refine .y (.build rfl pl_30 zr_30 rfl) trivial rfl rfl ?_
    refine .n (.alloc zr_3) trivial rfl rfl fun B4 => ?_
    refine .n (.alloc zr_30) trivial rfl rfl fun B5 => ?_
    refine .cons trivial (.store 1 rfl rfl rfl sz_3 rfl rfl (Nat.le_of_ble_eq_true rfl) rfl ?_)
    refine .cons trivial (.store 0 rfl rfl rfl sz_30 rfl rfl (Nat.le_of_ble_eq_true rfl) rfl ?_)
    refine .nil ?_
    refine .seq ?_
    refine .seq ?_
    refine .region ?_
    refine .y (.load rfl (.own 7 rfl) ag_28 sz_28 rfl) trivial rfl rfl ?_
    refine .c (.call rfl rfl fn_52) trivial rfl rfl (fun own ho hd => cells_ct _ ) ?_
    rintro _ _ ⟨B6, rfl, rfl⟩
    refine .nil ?_
    refine .block ?_
    refine T.range (N := C * Rw) (enc := fun k1 => [.int .i64 (k1 : Int), .agg #[.int .i64 ((cellAt C k1).col), .int .i64 ((cellAt C k1).row)]]) (r := [As.one B6 (.cells #[.int .i64 (C : Int), .int .i64 (Rw : Int), .slice ra rods.length rc] 28 (0, 0))]) (fun k1 => [As.one B5 (.cells #[.int .i64 ((nextTo C Rw rods (mostTo C rods (fun _ => true) (C * Rw)) reach k1).2.col), .int .i64 ((nextTo C Rw rods (mostTo C rods (fun _ => true) (C * Rw)) reach k1).2.row)] 30 (0, 0)), As.one B4 (.cells #[.int .i64 ((nextTo C Rw rods (mostTo C rods (fun _ => true) (C * Rw)) reach k1).1)] 3 (0, 0)), As.one B_9 (.cells #[.pointer (some ⟨F_5, 0, none⟩)] 115 (0, 0)), As.one F_5 (.cells (fieldC C Rw ra rods.length rc (mostTo C rods (fun _ => true) (C * Rw)) M_5).toArray 124 (0, 0)), MapO vN M_5 ms_5, As.one B3 (.cells #[.int .i64 0, .int .i64 0] 30 (0, 0)), As.one B2 (.cells #[.int .i64 reach] 3 (0, 0)), As.one B1 (.cells #[.int .i64 (C : Int), .int .i64 (Rw : Int), .slice ra rods.length rc] 28 (0, 0))]) (fun _ _ => False) rfl fn_123 (fun own ho hd => cells1_it _ (one_in 0 rfl ho hd) (by first | assumption | omega)) (.pick 1 rfl (.pick 1 rfl (.pick 1 rfl (.pick 1 rfl (.pick 1 rfl (.pick 1 rfl (.pick 1 rfl (.pick 1 rfl (.refl _))))))))) (fun _ => rfl) (fun p hp => by simp at hp; show p < 52; omega) (fun l1 k1 hk1 => ?_) ?_ ?_
    · have h25k1 : k1 < 25 := Nat.lt_of_lt_of_le hk1 (Nat.mul_le_mul hc.2.1 hc.2.2.2)
      refine .region ?_
      refine .n (.alloc zr_30) trivial rfl rfl fun B7 => ?_
      refine .cons trivial (.store 0 rfl rfl rfl sz_30 rfl rfl (Nat.le_of_ble_eq_true rfl) rfl ?_)
      refine .nil ?_
      refine ⟨rfl, ?_⟩
      refine .block ?_
      refine .seq ?_
      refine .region ?_
      refine .y (.load rfl (.own 3 rfl) ag_115 sz_115 rfl) trivial rfl rfl ?_
      refine .y (.load rfl (.own 0 rfl) ag_30 sz_30 rfl) trivial rfl rfl ?_
      refine .y (.load rfl (.own 7 rfl) ag_3 sz_3 rfl) trivial rfl rfl ?_
      refine .c (.call rfl rfl fn_128) trivial rfl rfl (fun own ho hd => leaves_ct _ hc (one_in 4 rfl ho hd) (mostTo_len ..) (by first | assumption | exact (fun x hx => mostTo_bd hc.2.1 hc.2.2.2 (Nat.le_refl _) hv x hx)) (by first | assumption | exact (show RodOk _ from (by assumption)).1 | exact (getRod hv (by assumption)).1 | exact cellAt_Sm hc.2.1 hc.2.2.2 (by assumption)) (by omega) (rods := rods) (SlR.up hr) hl hv (by assumption)) ?_
      rintro _ _ ⟨rfl, rfl⟩
      refine .n (.alloc zr_78) trivial rfl rfl fun B8 => ?_
      refine .cons trivial (.store 0 rfl rfl rfl sz_78 rfl rfl (Nat.le_of_ble_eq_true rfl) rfl ?_)
      refine .nil ?_
      refine .seq ?_
      refine .region ?_
      refine .y (.fieldAddr rfl fl_78_1) trivial rfl rfl ?_
      refine .y (.load rfl (.own 0 rfl) ag_3 sz_3 rfl) trivial rfl rfl ?_
      refine .y (.fieldAddr rfl fl_78_0) trivial rfl rfl ?_
      refine .y (.load rfl (.own 0 rfl) ag_3 sz_3 rfl) trivial rfl rfl ?_
      refine .y (.sub rfl rfl (by have h1 := leavesLo_le (C := C) (Rw := Rw) (rods := rods) (top := (mostTo C rods (fun _ => true) (C * Rw))) (tip := cellAt C k1) (reach := reach); have h2 := leavesHi_le (C := C) (Rw := Rw) (rods := rods) (top := (mostTo C rods (fun _ => true) (C * Rw))) (tip := cellAt C k1) (reach := reach); omega)) trivial rfl rfl ?_
      refine .y (.load rfl (.own 3 rfl) ag_3 sz_3 rfl) trivial rfl rfl ?_
      refine .y (.gtr rfl rfl) trivial rfl rfl ?_
      refine .nil ?_
      refine .ite rfl (fun h1 => ?_) (fun h1 => ?_)
      · refine T.any #[false, false, false, false, false, false, false, false] rfl 8 rfl flw ?_
        refine .use fun F hF => ?_
        have s2_255 : F 0 #[true, true, true, true, true, true, true, true] [] [As.one B8 (.cells #[.int .i64 ((leavesLo C Rw rods (mostTo C rods (fun _ => true) (C * Rw)) (cellAt C k1) reach : Nat) : Int), .int .i64 ((leavesHi C Rw rods (mostTo C rods (fun _ => true) (C * Rw)) (cellAt C k1) reach : Nat) : Int)] 78 (0, 0)), As.one B7 (.cells #[.int .i64 ((cellAt C k1).col), .int .i64 ((cellAt C k1).row)] 30 (0, 0)), As.one B5 (.cells #[.int .i64 ((cellAt C k1).col), .int .i64 ((cellAt C k1).row)] 30 (0, 0)), As.one B4 (.cells #[.int .i64 (((leavesHi C Rw rods (mostTo C rods (fun _ => true) (C * Rw)) (cellAt C k1) reach : Nat) : Int) - ((leavesLo C Rw rods (mostTo C rods (fun _ => true) (C * Rw)) (cellAt C k1) reach : Nat) : Int))] 3 (0, 0)), As.one B_9 (.cells #[.pointer (some ⟨F_5, 0, none⟩)] 115 (0, 0)), As.one F_5 (.cells (fieldC C Rw ra rods.length rc (mostTo C rods (fun _ => true) (C * Rw)) M_5).toArray 124 (0, 0)), MapO vN M_5 ms_5, As.one B3 (.cells #[.int .i64 0, .int .i64 0] 30 (0, 0)), As.one B2 (.cells #[.int .i64 reach] 3 (0, 0)), As.one B1 (.cells #[.int .i64 (C : Int), .int .i64 (Rw : Int), .slice ra rods.length rc] 28 (0, 0))] := by
          subst hF
          refine .done (by kernel_rfl) ?_
          show RSub [As.one B5 (.cells #[.int .i64 ((nextTo C Rw rods (mostTo C rods (fun _ => true) (C * Rw)) reach (k1 + 1)).2.col), .int .i64 ((nextTo C Rw rods (mostTo C rods (fun _ => true) (C * Rw)) reach (k1 + 1)).2.row)] 30 (0, 0)), As.one B4 (.cells #[.int .i64 ((nextTo C Rw rods (mostTo C rods (fun _ => true) (C * Rw)) reach (k1 + 1)).1)] 3 (0, 0)), As.one B_9 (.cells #[.pointer (some ⟨F_5, 0, none⟩)] 115 (0, 0)), As.one F_5 (.cells (fieldC C Rw ra rods.length rc (mostTo C rods (fun _ => true) (C * Rw)) M_5).toArray 124 (0, 0)), MapO vN M_5 ms_5, As.one B3 (.cells #[.int .i64 0, .int .i64 0] 30 (0, 0)), As.one B2 (.cells #[.int .i64 reach] 3 (0, 0)), As.one B1 (.cells #[.int .i64 (C : Int), .int .i64 (Rw : Int), .slice ra rods.length rc] 28 (0, 0))] _
          rw [nextTo_in (by assumption)]
          exact (.pick 2 rfl (.pick 2 rfl (.pick 2 rfl (.pick 2 rfl (.pick 2 rfl (.pick 2 rfl (.pick 2 rfl (.pick 2 rfl (.nil _)))))))))
        have s2_127 : F 1 #[true, true, true, true, true, true, true, false] [(9, .pointer (some ⟨B5, 0, none⟩)), (47, .agg #[.int .i64 ((cellAt C k1).col), .int .i64 ((cellAt C k1).row)])] [As.one B8 (.cells #[.int .i64 ((leavesLo C Rw rods (mostTo C rods (fun _ => true) (C * Rw)) (cellAt C k1) reach : Nat) : Int), .int .i64 ((leavesHi C Rw rods (mostTo C rods (fun _ => true) (C * Rw)) (cellAt C k1) reach : Nat) : Int)] 78 (0, 0)), As.one B7 (.cells #[.int .i64 ((cellAt C k1).col), .int .i64 ((cellAt C k1).row)] 30 (0, 0)), As.one B5 (.cells #[.int .i64 ((nextTo C Rw rods (mostTo C rods (fun _ => true) (C * Rw)) reach k1).2.col), .int .i64 ((nextTo C Rw rods (mostTo C rods (fun _ => true) (C * Rw)) reach k1).2.row)] 30 (0, 0)), As.one B4 (.cells #[.int .i64 (((leavesHi C Rw rods (mostTo C rods (fun _ => true) (C * Rw)) (cellAt C k1) reach : Nat) : Int) - ((leavesLo C Rw rods (mostTo C rods (fun _ => true) (C * Rw)) (cellAt C k1) reach : Nat) : Int))] 3 (0, 0)), As.one B_9 (.cells #[.pointer (some ⟨F_5, 0, none⟩)] 115 (0, 0)), As.one F_5 (.cells (fieldC C Rw ra rods.length rc (mostTo C rods (fun _ => true) (C * Rw)) M_5).toArray 124 (0, 0)), MapO vN M_5 ms_5, As.one B3 (.cells #[.int .i64 0, .int .i64 0] 30 (0, 0)), As.one B2 (.cells #[.int .i64 reach] 3 (0, 0)), As.one B1 (.cells #[.int .i64 (C : Int), .int .i64 (Rw : Int), .slice ra rods.length rc] 28 (0, 0))] := by
          subst hF
          refine .step (l := [7]) (by kernel_rfl) (by decide) ⟨.run rfl trivial ?_, trivial⟩
          · refine .store 2 rfl rfl rfl sz_30 rfl rfl (Nat.le_of_ble_eq_true rfl) rfl ?_
            exact .weak (.nil) (.refl _) (s2_255)
        have s2_63 : F 2 #[true, true, true, true, true, true, false, false] [(8, .pointer (some ⟨B4, 0, none⟩)), (9, .pointer (some ⟨B5, 0, none⟩)), (46, .int .i64 (((leavesHi C Rw rods (mostTo C rods (fun _ => true) (C * Rw)) (cellAt C k1) reach : Nat) : Int) - ((leavesLo C Rw rods (mostTo C rods (fun _ => true) (C * Rw)) (cellAt C k1) reach : Nat) : Int))), (47, .agg #[.int .i64 ((cellAt C k1).col), .int .i64 ((cellAt C k1).row)])] [As.one B8 (.cells #[.int .i64 ((leavesLo C Rw rods (mostTo C rods (fun _ => true) (C * Rw)) (cellAt C k1) reach : Nat) : Int), .int .i64 ((leavesHi C Rw rods (mostTo C rods (fun _ => true) (C * Rw)) (cellAt C k1) reach : Nat) : Int)] 78 (0, 0)), As.one B7 (.cells #[.int .i64 ((cellAt C k1).col), .int .i64 ((cellAt C k1).row)] 30 (0, 0)), As.one B5 (.cells #[.int .i64 ((nextTo C Rw rods (mostTo C rods (fun _ => true) (C * Rw)) reach k1).2.col), .int .i64 ((nextTo C Rw rods (mostTo C rods (fun _ => true) (C * Rw)) reach k1).2.row)] 30 (0, 0)), As.one B4 (.cells #[.int .i64 ((nextTo C Rw rods (mostTo C rods (fun _ => true) (C * Rw)) reach k1).1)] 3 (0, 0)), As.one B_9 (.cells #[.pointer (some ⟨F_5, 0, none⟩)] 115 (0, 0)), As.one F_5 (.cells (fieldC C Rw ra rods.length rc (mostTo C rods (fun _ => true) (C * Rw)) M_5).toArray 124 (0, 0)), MapO vN M_5 ms_5, As.one B3 (.cells #[.int .i64 0, .int .i64 0] 30 (0, 0)), As.one B2 (.cells #[.int .i64 reach] 3 (0, 0)), As.one B1 (.cells #[.int .i64 (C : Int), .int .i64 (Rw : Int), .slice ra rods.length rc] 28 (0, 0))] := by
          subst hF
          refine .step (l := [6]) (by kernel_rfl) (by decide) ⟨.run rfl trivial ?_, trivial⟩
          · refine .store 3 rfl rfl rfl sz_3 rfl rfl (Nat.le_of_ble_eq_true rfl) rfl ?_
            exact .weak (.one rfl (.one rfl (.nil))) (.refl _) (s2_127)
        have s2_95 : F 2 #[true, true, true, true, true, false, true, false] [(9, .pointer (some ⟨B5, 0, none⟩)), (11, .pointer (some ⟨B7, 0, none⟩))] [As.one B8 (.cells #[.int .i64 ((leavesLo C Rw rods (mostTo C rods (fun _ => true) (C * Rw)) (cellAt C k1) reach : Nat) : Int), .int .i64 ((leavesHi C Rw rods (mostTo C rods (fun _ => true) (C * Rw)) (cellAt C k1) reach : Nat) : Int)] 78 (0, 0)), As.one B7 (.cells #[.int .i64 ((cellAt C k1).col), .int .i64 ((cellAt C k1).row)] 30 (0, 0)), As.one B5 (.cells #[.int .i64 ((nextTo C Rw rods (mostTo C rods (fun _ => true) (C * Rw)) reach k1).2.col), .int .i64 ((nextTo C Rw rods (mostTo C rods (fun _ => true) (C * Rw)) reach k1).2.row)] 30 (0, 0)), As.one B4 (.cells #[.int .i64 (((leavesHi C Rw rods (mostTo C rods (fun _ => true) (C * Rw)) (cellAt C k1) reach : Nat) : Int) - ((leavesLo C Rw rods (mostTo C rods (fun _ => true) (C * Rw)) (cellAt C k1) reach : Nat) : Int))] 3 (0, 0)), As.one B_9 (.cells #[.pointer (some ⟨F_5, 0, none⟩)] 115 (0, 0)), As.one F_5 (.cells (fieldC C Rw ra rods.length rc (mostTo C rods (fun _ => true) (C * Rw)) M_5).toArray 124 (0, 0)), MapO vN M_5 ms_5, As.one B3 (.cells #[.int .i64 0, .int .i64 0] 30 (0, 0)), As.one B2 (.cells #[.int .i64 reach] 3 (0, 0)), As.one B1 (.cells #[.int .i64 (C : Int), .int .i64 (Rw : Int), .slice ra rods.length rc] 28 (0, 0))] := by
          subst hF
          refine .step (l := [5]) (by kernel_rfl) (by decide) ⟨.run rfl trivial ?_, trivial⟩
          · refine .y (.load rfl (.own 1 rfl) ag_30 sz_30 rfl) rfl rfl ?_
            exact .weak (.one rfl (.one rfl (.nil))) (.refl _) (s2_127)
        have s2_31 : F 3 #[true, true, true, true, true, false, false, false] [(8, .pointer (some ⟨B4, 0, none⟩)), (9, .pointer (some ⟨B5, 0, none⟩)), (11, .pointer (some ⟨B7, 0, none⟩)), (46, .int .i64 (((leavesHi C Rw rods (mostTo C rods (fun _ => true) (C * Rw)) (cellAt C k1) reach : Nat) : Int) - ((leavesLo C Rw rods (mostTo C rods (fun _ => true) (C * Rw)) (cellAt C k1) reach : Nat) : Int)))] [As.one B8 (.cells #[.int .i64 ((leavesLo C Rw rods (mostTo C rods (fun _ => true) (C * Rw)) (cellAt C k1) reach : Nat) : Int), .int .i64 ((leavesHi C Rw rods (mostTo C rods (fun _ => true) (C * Rw)) (cellAt C k1) reach : Nat) : Int)] 78 (0, 0)), As.one B7 (.cells #[.int .i64 ((cellAt C k1).col), .int .i64 ((cellAt C k1).row)] 30 (0, 0)), As.one B5 (.cells #[.int .i64 ((nextTo C Rw rods (mostTo C rods (fun _ => true) (C * Rw)) reach k1).2.col), .int .i64 ((nextTo C Rw rods (mostTo C rods (fun _ => true) (C * Rw)) reach k1).2.row)] 30 (0, 0)), As.one B4 (.cells #[.int .i64 ((nextTo C Rw rods (mostTo C rods (fun _ => true) (C * Rw)) reach k1).1)] 3 (0, 0)), As.one B_9 (.cells #[.pointer (some ⟨F_5, 0, none⟩)] 115 (0, 0)), As.one F_5 (.cells (fieldC C Rw ra rods.length rc (mostTo C rods (fun _ => true) (C * Rw)) M_5).toArray 124 (0, 0)), MapO vN M_5 ms_5, As.one B3 (.cells #[.int .i64 0, .int .i64 0] 30 (0, 0)), As.one B2 (.cells #[.int .i64 reach] 3 (0, 0)), As.one B1 (.cells #[.int .i64 (C : Int), .int .i64 (Rw : Int), .slice ra rods.length rc] 28 (0, 0))] := by
          subst hF
          refine .step (l := [5, 6]) (by kernel_rfl) (by decide) ⟨.run rfl trivial ?_, .run rfl trivial ?_, trivial⟩
          · refine .y (.load rfl (.own 1 rfl) ag_30 sz_30 rfl) rfl rfl ?_
            exact .weak (.one rfl (.one rfl (.one rfl (.one rfl (.nil))))) (.refl _) (s2_63)
          · refine .store 3 rfl rfl rfl sz_3 rfl rfl (Nat.le_of_ble_eq_true rfl) rfl ?_
            exact .weak (.one rfl (.one rfl (.nil))) (.refl _) (s2_95)
        have s2_47 : F 3 #[true, true, true, true, false, true, false, false] [(8, .pointer (some ⟨B4, 0, none⟩)), (9, .pointer (some ⟨B5, 0, none⟩)), (43, .int .i64 ((leavesHi C Rw rods (mostTo C rods (fun _ => true) (C * Rw)) (cellAt C k1) reach : Nat) : Int)), (45, .int .i64 ((leavesLo C Rw rods (mostTo C rods (fun _ => true) (C * Rw)) (cellAt C k1) reach : Nat) : Int)), (47, .agg #[.int .i64 ((cellAt C k1).col), .int .i64 ((cellAt C k1).row)])] [As.one B8 (.cells #[.int .i64 ((leavesLo C Rw rods (mostTo C rods (fun _ => true) (C * Rw)) (cellAt C k1) reach : Nat) : Int), .int .i64 ((leavesHi C Rw rods (mostTo C rods (fun _ => true) (C * Rw)) (cellAt C k1) reach : Nat) : Int)] 78 (0, 0)), As.one B7 (.cells #[.int .i64 ((cellAt C k1).col), .int .i64 ((cellAt C k1).row)] 30 (0, 0)), As.one B5 (.cells #[.int .i64 ((nextTo C Rw rods (mostTo C rods (fun _ => true) (C * Rw)) reach k1).2.col), .int .i64 ((nextTo C Rw rods (mostTo C rods (fun _ => true) (C * Rw)) reach k1).2.row)] 30 (0, 0)), As.one B4 (.cells #[.int .i64 ((nextTo C Rw rods (mostTo C rods (fun _ => true) (C * Rw)) reach k1).1)] 3 (0, 0)), As.one B_9 (.cells #[.pointer (some ⟨F_5, 0, none⟩)] 115 (0, 0)), As.one F_5 (.cells (fieldC C Rw ra rods.length rc (mostTo C rods (fun _ => true) (C * Rw)) M_5).toArray 124 (0, 0)), MapO vN M_5 ms_5, As.one B3 (.cells #[.int .i64 0, .int .i64 0] 30 (0, 0)), As.one B2 (.cells #[.int .i64 reach] 3 (0, 0)), As.one B1 (.cells #[.int .i64 (C : Int), .int .i64 (Rw : Int), .slice ra rods.length rc] 28 (0, 0))] := by
          subst hF
          refine .step (l := [4]) (by kernel_rfl) (by decide) ⟨.run rfl trivial ?_, trivial⟩
          · refine .y (.sub rfl rfl (by have h1 := leavesLo_le (C := C) (Rw := Rw) (rods := rods) (top := (mostTo C rods (fun _ => true) (C * Rw))) (tip := cellAt C k1) (reach := reach); have h2 := leavesHi_le (C := C) (Rw := Rw) (rods := rods) (top := (mostTo C rods (fun _ => true) (C * Rw))) (tip := cellAt C k1) (reach := reach); omega)) rfl rfl ?_
            exact .weak (.one rfl (.one rfl (.one rfl (.one rfl (.nil))))) (.refl _) (s2_63)
        have s2_15 : F 4 #[true, true, true, true, false, false, false, false] [(8, .pointer (some ⟨B4, 0, none⟩)), (9, .pointer (some ⟨B5, 0, none⟩)), (11, .pointer (some ⟨B7, 0, none⟩)), (43, .int .i64 ((leavesHi C Rw rods (mostTo C rods (fun _ => true) (C * Rw)) (cellAt C k1) reach : Nat) : Int)), (45, .int .i64 ((leavesLo C Rw rods (mostTo C rods (fun _ => true) (C * Rw)) (cellAt C k1) reach : Nat) : Int))] [As.one B8 (.cells #[.int .i64 ((leavesLo C Rw rods (mostTo C rods (fun _ => true) (C * Rw)) (cellAt C k1) reach : Nat) : Int), .int .i64 ((leavesHi C Rw rods (mostTo C rods (fun _ => true) (C * Rw)) (cellAt C k1) reach : Nat) : Int)] 78 (0, 0)), As.one B7 (.cells #[.int .i64 ((cellAt C k1).col), .int .i64 ((cellAt C k1).row)] 30 (0, 0)), As.one B5 (.cells #[.int .i64 ((nextTo C Rw rods (mostTo C rods (fun _ => true) (C * Rw)) reach k1).2.col), .int .i64 ((nextTo C Rw rods (mostTo C rods (fun _ => true) (C * Rw)) reach k1).2.row)] 30 (0, 0)), As.one B4 (.cells #[.int .i64 ((nextTo C Rw rods (mostTo C rods (fun _ => true) (C * Rw)) reach k1).1)] 3 (0, 0)), As.one B_9 (.cells #[.pointer (some ⟨F_5, 0, none⟩)] 115 (0, 0)), As.one F_5 (.cells (fieldC C Rw ra rods.length rc (mostTo C rods (fun _ => true) (C * Rw)) M_5).toArray 124 (0, 0)), MapO vN M_5 ms_5, As.one B3 (.cells #[.int .i64 0, .int .i64 0] 30 (0, 0)), As.one B2 (.cells #[.int .i64 reach] 3 (0, 0)), As.one B1 (.cells #[.int .i64 (C : Int), .int .i64 (Rw : Int), .slice ra rods.length rc] 28 (0, 0))] := by
          subst hF
          refine .step (l := [4, 5]) (by kernel_rfl) (by decide) ⟨.run rfl trivial ?_, .run rfl trivial ?_, trivial⟩
          · refine .y (.sub rfl rfl (by have h1 := leavesLo_le (C := C) (Rw := Rw) (rods := rods) (top := (mostTo C rods (fun _ => true) (C * Rw))) (tip := cellAt C k1) (reach := reach); have h2 := leavesHi_le (C := C) (Rw := Rw) (rods := rods) (top := (mostTo C rods (fun _ => true) (C * Rw))) (tip := cellAt C k1) (reach := reach); omega)) rfl rfl ?_
            exact .weak (.one rfl (.one rfl (.one rfl (.one rfl (.nil))))) (.refl _) (s2_31)
          · refine .y (.load rfl (.own 1 rfl) ag_30 sz_30 rfl) rfl rfl ?_
            exact .weak (.one rfl (.one rfl (.one rfl (.one rfl (.one rfl (.nil)))))) (.refl _) (s2_47)
        have s2_39 : F 4 #[true, true, true, false, false, true, false, false] [(8, .pointer (some ⟨B4, 0, none⟩)), (9, .pointer (some ⟨B5, 0, none⟩)), (43, .int .i64 ((leavesHi C Rw rods (mostTo C rods (fun _ => true) (C * Rw)) (cellAt C k1) reach : Nat) : Int)), (44, .pointer (some ⟨B8, 0, none⟩)), (47, .agg #[.int .i64 ((cellAt C k1).col), .int .i64 ((cellAt C k1).row)])] [As.one B8 (.cells #[.int .i64 ((leavesLo C Rw rods (mostTo C rods (fun _ => true) (C * Rw)) (cellAt C k1) reach : Nat) : Int), .int .i64 ((leavesHi C Rw rods (mostTo C rods (fun _ => true) (C * Rw)) (cellAt C k1) reach : Nat) : Int)] 78 (0, 0)), As.one B7 (.cells #[.int .i64 ((cellAt C k1).col), .int .i64 ((cellAt C k1).row)] 30 (0, 0)), As.one B5 (.cells #[.int .i64 ((nextTo C Rw rods (mostTo C rods (fun _ => true) (C * Rw)) reach k1).2.col), .int .i64 ((nextTo C Rw rods (mostTo C rods (fun _ => true) (C * Rw)) reach k1).2.row)] 30 (0, 0)), As.one B4 (.cells #[.int .i64 ((nextTo C Rw rods (mostTo C rods (fun _ => true) (C * Rw)) reach k1).1)] 3 (0, 0)), As.one B_9 (.cells #[.pointer (some ⟨F_5, 0, none⟩)] 115 (0, 0)), As.one F_5 (.cells (fieldC C Rw ra rods.length rc (mostTo C rods (fun _ => true) (C * Rw)) M_5).toArray 124 (0, 0)), MapO vN M_5 ms_5, As.one B3 (.cells #[.int .i64 0, .int .i64 0] 30 (0, 0)), As.one B2 (.cells #[.int .i64 reach] 3 (0, 0)), As.one B1 (.cells #[.int .i64 (C : Int), .int .i64 (Rw : Int), .slice ra rods.length rc] 28 (0, 0))] := by
          subst hF
          refine .step (l := [3]) (by kernel_rfl) (by decide) ⟨.run rfl trivial ?_, trivial⟩
          · refine .y (.load rfl (.own 0 rfl) ag_3 sz_3 rfl) rfl rfl ?_
            exact .weak (.one rfl (.one rfl (.one rfl (.one rfl (.one rfl (.nil)))))) (.refl _) (s2_47)
        have s2_45 : F 4 #[true, false, true, true, false, true, false, false] [(8, .pointer (some ⟨B4, 0, none⟩)), (9, .pointer (some ⟨B5, 0, none⟩)), (42, .pointer (some ⟨B8, 1, none⟩)), (45, .int .i64 ((leavesLo C Rw rods (mostTo C rods (fun _ => true) (C * Rw)) (cellAt C k1) reach : Nat) : Int)), (47, .agg #[.int .i64 ((cellAt C k1).col), .int .i64 ((cellAt C k1).row)])] [As.one B8 (.cells #[.int .i64 ((leavesLo C Rw rods (mostTo C rods (fun _ => true) (C * Rw)) (cellAt C k1) reach : Nat) : Int), .int .i64 ((leavesHi C Rw rods (mostTo C rods (fun _ => true) (C * Rw)) (cellAt C k1) reach : Nat) : Int)] 78 (0, 0)), As.one B7 (.cells #[.int .i64 ((cellAt C k1).col), .int .i64 ((cellAt C k1).row)] 30 (0, 0)), As.one B5 (.cells #[.int .i64 ((nextTo C Rw rods (mostTo C rods (fun _ => true) (C * Rw)) reach k1).2.col), .int .i64 ((nextTo C Rw rods (mostTo C rods (fun _ => true) (C * Rw)) reach k1).2.row)] 30 (0, 0)), As.one B4 (.cells #[.int .i64 ((nextTo C Rw rods (mostTo C rods (fun _ => true) (C * Rw)) reach k1).1)] 3 (0, 0)), As.one B_9 (.cells #[.pointer (some ⟨F_5, 0, none⟩)] 115 (0, 0)), As.one F_5 (.cells (fieldC C Rw ra rods.length rc (mostTo C rods (fun _ => true) (C * Rw)) M_5).toArray 124 (0, 0)), MapO vN M_5 ms_5, As.one B3 (.cells #[.int .i64 0, .int .i64 0] 30 (0, 0)), As.one B2 (.cells #[.int .i64 reach] 3 (0, 0)), As.one B1 (.cells #[.int .i64 (C : Int), .int .i64 (Rw : Int), .slice ra rods.length rc] 28 (0, 0))] := by
          subst hF
          refine .step (l := [1]) (by kernel_rfl) (by decide) ⟨.run rfl trivial ?_, trivial⟩
          · refine .y (.load rfl (.own 0 rfl) ag_3 sz_3 rfl) rfl rfl ?_
            exact .weak (.one rfl (.one rfl (.one rfl (.one rfl (.one rfl (.nil)))))) (.refl _) (s2_47)
        have s2_7 : F 5 #[true, true, true, false, false, false, false, false] [(8, .pointer (some ⟨B4, 0, none⟩)), (9, .pointer (some ⟨B5, 0, none⟩)), (11, .pointer (some ⟨B7, 0, none⟩)), (43, .int .i64 ((leavesHi C Rw rods (mostTo C rods (fun _ => true) (C * Rw)) (cellAt C k1) reach : Nat) : Int)), (44, .pointer (some ⟨B8, 0, none⟩))] [As.one B8 (.cells #[.int .i64 ((leavesLo C Rw rods (mostTo C rods (fun _ => true) (C * Rw)) (cellAt C k1) reach : Nat) : Int), .int .i64 ((leavesHi C Rw rods (mostTo C rods (fun _ => true) (C * Rw)) (cellAt C k1) reach : Nat) : Int)] 78 (0, 0)), As.one B7 (.cells #[.int .i64 ((cellAt C k1).col), .int .i64 ((cellAt C k1).row)] 30 (0, 0)), As.one B5 (.cells #[.int .i64 ((nextTo C Rw rods (mostTo C rods (fun _ => true) (C * Rw)) reach k1).2.col), .int .i64 ((nextTo C Rw rods (mostTo C rods (fun _ => true) (C * Rw)) reach k1).2.row)] 30 (0, 0)), As.one B4 (.cells #[.int .i64 ((nextTo C Rw rods (mostTo C rods (fun _ => true) (C * Rw)) reach k1).1)] 3 (0, 0)), As.one B_9 (.cells #[.pointer (some ⟨F_5, 0, none⟩)] 115 (0, 0)), As.one F_5 (.cells (fieldC C Rw ra rods.length rc (mostTo C rods (fun _ => true) (C * Rw)) M_5).toArray 124 (0, 0)), MapO vN M_5 ms_5, As.one B3 (.cells #[.int .i64 0, .int .i64 0] 30 (0, 0)), As.one B2 (.cells #[.int .i64 reach] 3 (0, 0)), As.one B1 (.cells #[.int .i64 (C : Int), .int .i64 (Rw : Int), .slice ra rods.length rc] 28 (0, 0))] := by
          subst hF
          refine .step (l := [3, 5]) (by kernel_rfl) (by decide) ⟨.run rfl trivial ?_, .run rfl trivial ?_, trivial⟩
          · refine .y (.load rfl (.own 0 rfl) ag_3 sz_3 rfl) rfl rfl ?_
            exact .weak (.one rfl (.one rfl (.one rfl (.one rfl (.one rfl (.nil)))))) (.refl _) (s2_15)
          · refine .y (.load rfl (.own 1 rfl) ag_30 sz_30 rfl) rfl rfl ?_
            exact .weak (.one rfl (.one rfl (.one rfl (.one rfl (.one rfl (.nil)))))) (.refl _) (s2_39)
        have s2_35 : F 5 #[true, true, false, false, false, true, false, false] [(8, .pointer (some ⟨B4, 0, none⟩)), (9, .pointer (some ⟨B5, 0, none⟩)), (12, .pointer (some ⟨B8, 0, none⟩)), (43, .int .i64 ((leavesHi C Rw rods (mostTo C rods (fun _ => true) (C * Rw)) (cellAt C k1) reach : Nat) : Int)), (47, .agg #[.int .i64 ((cellAt C k1).col), .int .i64 ((cellAt C k1).row)])] [As.one B8 (.cells #[.int .i64 ((leavesLo C Rw rods (mostTo C rods (fun _ => true) (C * Rw)) (cellAt C k1) reach : Nat) : Int), .int .i64 ((leavesHi C Rw rods (mostTo C rods (fun _ => true) (C * Rw)) (cellAt C k1) reach : Nat) : Int)] 78 (0, 0)), As.one B7 (.cells #[.int .i64 ((cellAt C k1).col), .int .i64 ((cellAt C k1).row)] 30 (0, 0)), As.one B5 (.cells #[.int .i64 ((nextTo C Rw rods (mostTo C rods (fun _ => true) (C * Rw)) reach k1).2.col), .int .i64 ((nextTo C Rw rods (mostTo C rods (fun _ => true) (C * Rw)) reach k1).2.row)] 30 (0, 0)), As.one B4 (.cells #[.int .i64 ((nextTo C Rw rods (mostTo C rods (fun _ => true) (C * Rw)) reach k1).1)] 3 (0, 0)), As.one B_9 (.cells #[.pointer (some ⟨F_5, 0, none⟩)] 115 (0, 0)), As.one F_5 (.cells (fieldC C Rw ra rods.length rc (mostTo C rods (fun _ => true) (C * Rw)) M_5).toArray 124 (0, 0)), MapO vN M_5 ms_5, As.one B3 (.cells #[.int .i64 0, .int .i64 0] 30 (0, 0)), As.one B2 (.cells #[.int .i64 reach] 3 (0, 0)), As.one B1 (.cells #[.int .i64 (C : Int), .int .i64 (Rw : Int), .slice ra rods.length rc] 28 (0, 0))] := by
          subst hF
          refine .step (l := [2]) (by kernel_rfl) (by decide) ⟨.run rfl trivial ?_, trivial⟩
          · refine .y (.fieldAddr rfl fl_78_0) rfl rfl ?_
            exact .weak (.one rfl (.one rfl (.one rfl (.one rfl (.one rfl (.nil)))))) (.refl _) (s2_39)
        have s2_13 : F 5 #[true, false, true, true, false, false, false, false] [(8, .pointer (some ⟨B4, 0, none⟩)), (9, .pointer (some ⟨B5, 0, none⟩)), (11, .pointer (some ⟨B7, 0, none⟩)), (42, .pointer (some ⟨B8, 1, none⟩)), (45, .int .i64 ((leavesLo C Rw rods (mostTo C rods (fun _ => true) (C * Rw)) (cellAt C k1) reach : Nat) : Int))] [As.one B8 (.cells #[.int .i64 ((leavesLo C Rw rods (mostTo C rods (fun _ => true) (C * Rw)) (cellAt C k1) reach : Nat) : Int), .int .i64 ((leavesHi C Rw rods (mostTo C rods (fun _ => true) (C * Rw)) (cellAt C k1) reach : Nat) : Int)] 78 (0, 0)), As.one B7 (.cells #[.int .i64 ((cellAt C k1).col), .int .i64 ((cellAt C k1).row)] 30 (0, 0)), As.one B5 (.cells #[.int .i64 ((nextTo C Rw rods (mostTo C rods (fun _ => true) (C * Rw)) reach k1).2.col), .int .i64 ((nextTo C Rw rods (mostTo C rods (fun _ => true) (C * Rw)) reach k1).2.row)] 30 (0, 0)), As.one B4 (.cells #[.int .i64 ((nextTo C Rw rods (mostTo C rods (fun _ => true) (C * Rw)) reach k1).1)] 3 (0, 0)), As.one B_9 (.cells #[.pointer (some ⟨F_5, 0, none⟩)] 115 (0, 0)), As.one F_5 (.cells (fieldC C Rw ra rods.length rc (mostTo C rods (fun _ => true) (C * Rw)) M_5).toArray 124 (0, 0)), MapO vN M_5 ms_5, As.one B3 (.cells #[.int .i64 0, .int .i64 0] 30 (0, 0)), As.one B2 (.cells #[.int .i64 reach] 3 (0, 0)), As.one B1 (.cells #[.int .i64 (C : Int), .int .i64 (Rw : Int), .slice ra rods.length rc] 28 (0, 0))] := by
          subst hF
          refine .step (l := [1, 5]) (by kernel_rfl) (by decide) ⟨.run rfl trivial ?_, .run rfl trivial ?_, trivial⟩
          · refine .y (.load rfl (.own 0 rfl) ag_3 sz_3 rfl) rfl rfl ?_
            exact .weak (.one rfl (.one rfl (.one rfl (.one rfl (.one rfl (.nil)))))) (.refl _) (s2_15)
          · refine .y (.load rfl (.own 1 rfl) ag_30 sz_30 rfl) rfl rfl ?_
            exact .weak (.one rfl (.one rfl (.one rfl (.one rfl (.one rfl (.nil)))))) (.refl _) (s2_45)
        have s2_37 : F 5 #[true, false, true, false, false, true, false, false] [(8, .pointer (some ⟨B4, 0, none⟩)), (9, .pointer (some ⟨B5, 0, none⟩)), (42, .pointer (some ⟨B8, 1, none⟩)), (44, .pointer (some ⟨B8, 0, none⟩)), (47, .agg #[.int .i64 ((cellAt C k1).col), .int .i64 ((cellAt C k1).row)])] [As.one B8 (.cells #[.int .i64 ((leavesLo C Rw rods (mostTo C rods (fun _ => true) (C * Rw)) (cellAt C k1) reach : Nat) : Int), .int .i64 ((leavesHi C Rw rods (mostTo C rods (fun _ => true) (C * Rw)) (cellAt C k1) reach : Nat) : Int)] 78 (0, 0)), As.one B7 (.cells #[.int .i64 ((cellAt C k1).col), .int .i64 ((cellAt C k1).row)] 30 (0, 0)), As.one B5 (.cells #[.int .i64 ((nextTo C Rw rods (mostTo C rods (fun _ => true) (C * Rw)) reach k1).2.col), .int .i64 ((nextTo C Rw rods (mostTo C rods (fun _ => true) (C * Rw)) reach k1).2.row)] 30 (0, 0)), As.one B4 (.cells #[.int .i64 ((nextTo C Rw rods (mostTo C rods (fun _ => true) (C * Rw)) reach k1).1)] 3 (0, 0)), As.one B_9 (.cells #[.pointer (some ⟨F_5, 0, none⟩)] 115 (0, 0)), As.one F_5 (.cells (fieldC C Rw ra rods.length rc (mostTo C rods (fun _ => true) (C * Rw)) M_5).toArray 124 (0, 0)), MapO vN M_5 ms_5, As.one B3 (.cells #[.int .i64 0, .int .i64 0] 30 (0, 0)), As.one B2 (.cells #[.int .i64 reach] 3 (0, 0)), As.one B1 (.cells #[.int .i64 (C : Int), .int .i64 (Rw : Int), .slice ra rods.length rc] 28 (0, 0))] := by
          subst hF
          refine .step (l := [1, 3]) (by kernel_rfl) (by decide) ⟨.run rfl trivial ?_, .run rfl trivial ?_, trivial⟩
          · refine .y (.load rfl (.own 0 rfl) ag_3 sz_3 rfl) rfl rfl ?_
            exact .weak (.one rfl (.one rfl (.one rfl (.one rfl (.one rfl (.nil)))))) (.refl _) (s2_39)
          · refine .y (.load rfl (.own 0 rfl) ag_3 sz_3 rfl) rfl rfl ?_
            exact .weak (.one rfl (.one rfl (.one rfl (.one rfl (.one rfl (.nil)))))) (.refl _) (s2_45)
        have s2_44 : F 5 #[false, false, true, true, false, true, false, false] [(8, .pointer (some ⟨B4, 0, none⟩)), (9, .pointer (some ⟨B5, 0, none⟩)), (12, .pointer (some ⟨B8, 0, none⟩)), (45, .int .i64 ((leavesLo C Rw rods (mostTo C rods (fun _ => true) (C * Rw)) (cellAt C k1) reach : Nat) : Int)), (47, .agg #[.int .i64 ((cellAt C k1).col), .int .i64 ((cellAt C k1).row)])] [As.one B8 (.cells #[.int .i64 ((leavesLo C Rw rods (mostTo C rods (fun _ => true) (C * Rw)) (cellAt C k1) reach : Nat) : Int), .int .i64 ((leavesHi C Rw rods (mostTo C rods (fun _ => true) (C * Rw)) (cellAt C k1) reach : Nat) : Int)] 78 (0, 0)), As.one B7 (.cells #[.int .i64 ((cellAt C k1).col), .int .i64 ((cellAt C k1).row)] 30 (0, 0)), As.one B5 (.cells #[.int .i64 ((nextTo C Rw rods (mostTo C rods (fun _ => true) (C * Rw)) reach k1).2.col), .int .i64 ((nextTo C Rw rods (mostTo C rods (fun _ => true) (C * Rw)) reach k1).2.row)] 30 (0, 0)), As.one B4 (.cells #[.int .i64 ((nextTo C Rw rods (mostTo C rods (fun _ => true) (C * Rw)) reach k1).1)] 3 (0, 0)), As.one B_9 (.cells #[.pointer (some ⟨F_5, 0, none⟩)] 115 (0, 0)), As.one F_5 (.cells (fieldC C Rw ra rods.length rc (mostTo C rods (fun _ => true) (C * Rw)) M_5).toArray 124 (0, 0)), MapO vN M_5 ms_5, As.one B3 (.cells #[.int .i64 0, .int .i64 0] 30 (0, 0)), As.one B2 (.cells #[.int .i64 reach] 3 (0, 0)), As.one B1 (.cells #[.int .i64 (C : Int), .int .i64 (Rw : Int), .slice ra rods.length rc] 28 (0, 0))] := by
          subst hF
          refine .step (l := [0]) (by kernel_rfl) (by decide) ⟨.run rfl trivial ?_, trivial⟩
          · refine .y (.fieldAddr rfl fl_78_1) rfl rfl ?_
            exact .weak (.one rfl (.one rfl (.one rfl (.one rfl (.one rfl (.nil)))))) (.refl _) (s2_45)
        have s2_3 : F 6 #[true, true, false, false, false, false, false, false] [(8, .pointer (some ⟨B4, 0, none⟩)), (9, .pointer (some ⟨B5, 0, none⟩)), (11, .pointer (some ⟨B7, 0, none⟩)), (12, .pointer (some ⟨B8, 0, none⟩)), (43, .int .i64 ((leavesHi C Rw rods (mostTo C rods (fun _ => true) (C * Rw)) (cellAt C k1) reach : Nat) : Int))] [As.one B8 (.cells #[.int .i64 ((leavesLo C Rw rods (mostTo C rods (fun _ => true) (C * Rw)) (cellAt C k1) reach : Nat) : Int), .int .i64 ((leavesHi C Rw rods (mostTo C rods (fun _ => true) (C * Rw)) (cellAt C k1) reach : Nat) : Int)] 78 (0, 0)), As.one B7 (.cells #[.int .i64 ((cellAt C k1).col), .int .i64 ((cellAt C k1).row)] 30 (0, 0)), As.one B5 (.cells #[.int .i64 ((nextTo C Rw rods (mostTo C rods (fun _ => true) (C * Rw)) reach k1).2.col), .int .i64 ((nextTo C Rw rods (mostTo C rods (fun _ => true) (C * Rw)) reach k1).2.row)] 30 (0, 0)), As.one B4 (.cells #[.int .i64 ((nextTo C Rw rods (mostTo C rods (fun _ => true) (C * Rw)) reach k1).1)] 3 (0, 0)), As.one B_9 (.cells #[.pointer (some ⟨F_5, 0, none⟩)] 115 (0, 0)), As.one F_5 (.cells (fieldC C Rw ra rods.length rc (mostTo C rods (fun _ => true) (C * Rw)) M_5).toArray 124 (0, 0)), MapO vN M_5 ms_5, As.one B3 (.cells #[.int .i64 0, .int .i64 0] 30 (0, 0)), As.one B2 (.cells #[.int .i64 reach] 3 (0, 0)), As.one B1 (.cells #[.int .i64 (C : Int), .int .i64 (Rw : Int), .slice ra rods.length rc] 28 (0, 0))] := by
          subst hF
          refine .step (l := [2, 5]) (by kernel_rfl) (by decide) ⟨.run rfl trivial ?_, .run rfl trivial ?_, trivial⟩
          · refine .y (.fieldAddr rfl fl_78_0) rfl rfl ?_
            exact .weak (.one rfl (.one rfl (.one rfl (.one rfl (.one rfl (.nil)))))) (.refl _) (s2_7)
          · refine .y (.load rfl (.own 1 rfl) ag_30 sz_30 rfl) rfl rfl ?_
            exact .weak (.one rfl (.one rfl (.one rfl (.one rfl (.one rfl (.nil)))))) (.refl _) (s2_35)
        have s2_5 : F 6 #[true, false, true, false, false, false, false, false] [(8, .pointer (some ⟨B4, 0, none⟩)), (9, .pointer (some ⟨B5, 0, none⟩)), (11, .pointer (some ⟨B7, 0, none⟩)), (42, .pointer (some ⟨B8, 1, none⟩)), (44, .pointer (some ⟨B8, 0, none⟩))] [As.one B8 (.cells #[.int .i64 ((leavesLo C Rw rods (mostTo C rods (fun _ => true) (C * Rw)) (cellAt C k1) reach : Nat) : Int), .int .i64 ((leavesHi C Rw rods (mostTo C rods (fun _ => true) (C * Rw)) (cellAt C k1) reach : Nat) : Int)] 78 (0, 0)), As.one B7 (.cells #[.int .i64 ((cellAt C k1).col), .int .i64 ((cellAt C k1).row)] 30 (0, 0)), As.one B5 (.cells #[.int .i64 ((nextTo C Rw rods (mostTo C rods (fun _ => true) (C * Rw)) reach k1).2.col), .int .i64 ((nextTo C Rw rods (mostTo C rods (fun _ => true) (C * Rw)) reach k1).2.row)] 30 (0, 0)), As.one B4 (.cells #[.int .i64 ((nextTo C Rw rods (mostTo C rods (fun _ => true) (C * Rw)) reach k1).1)] 3 (0, 0)), As.one B_9 (.cells #[.pointer (some ⟨F_5, 0, none⟩)] 115 (0, 0)), As.one F_5 (.cells (fieldC C Rw ra rods.length rc (mostTo C rods (fun _ => true) (C * Rw)) M_5).toArray 124 (0, 0)), MapO vN M_5 ms_5, As.one B3 (.cells #[.int .i64 0, .int .i64 0] 30 (0, 0)), As.one B2 (.cells #[.int .i64 reach] 3 (0, 0)), As.one B1 (.cells #[.int .i64 (C : Int), .int .i64 (Rw : Int), .slice ra rods.length rc] 28 (0, 0))] := by
          subst hF
          refine .step (l := [1, 3, 5]) (by kernel_rfl) (by decide) ⟨.run rfl trivial ?_, .run rfl trivial ?_, .run rfl trivial ?_, trivial⟩
          · refine .y (.load rfl (.own 0 rfl) ag_3 sz_3 rfl) rfl rfl ?_
            exact .weak (.one rfl (.one rfl (.one rfl (.one rfl (.one rfl (.nil)))))) (.refl _) (s2_7)
          · refine .y (.load rfl (.own 0 rfl) ag_3 sz_3 rfl) rfl rfl ?_
            exact .weak (.one rfl (.one rfl (.one rfl (.one rfl (.one rfl (.nil)))))) (.refl _) (s2_13)
          · refine .y (.load rfl (.own 1 rfl) ag_30 sz_30 rfl) rfl rfl ?_
            exact .weak (.one rfl (.one rfl (.one rfl (.one rfl (.one rfl (.nil)))))) (.refl _) (s2_37)
        have s2_33 : F 6 #[true, false, false, false, false, true, false, false] [(8, .pointer (some ⟨B4, 0, none⟩)), (9, .pointer (some ⟨B5, 0, none⟩)), (12, .pointer (some ⟨B8, 0, none⟩)), (42, .pointer (some ⟨B8, 1, none⟩)), (47, .agg #[.int .i64 ((cellAt C k1).col), .int .i64 ((cellAt C k1).row)])] [As.one B8 (.cells #[.int .i64 ((leavesLo C Rw rods (mostTo C rods (fun _ => true) (C * Rw)) (cellAt C k1) reach : Nat) : Int), .int .i64 ((leavesHi C Rw rods (mostTo C rods (fun _ => true) (C * Rw)) (cellAt C k1) reach : Nat) : Int)] 78 (0, 0)), As.one B7 (.cells #[.int .i64 ((cellAt C k1).col), .int .i64 ((cellAt C k1).row)] 30 (0, 0)), As.one B5 (.cells #[.int .i64 ((nextTo C Rw rods (mostTo C rods (fun _ => true) (C * Rw)) reach k1).2.col), .int .i64 ((nextTo C Rw rods (mostTo C rods (fun _ => true) (C * Rw)) reach k1).2.row)] 30 (0, 0)), As.one B4 (.cells #[.int .i64 ((nextTo C Rw rods (mostTo C rods (fun _ => true) (C * Rw)) reach k1).1)] 3 (0, 0)), As.one B_9 (.cells #[.pointer (some ⟨F_5, 0, none⟩)] 115 (0, 0)), As.one F_5 (.cells (fieldC C Rw ra rods.length rc (mostTo C rods (fun _ => true) (C * Rw)) M_5).toArray 124 (0, 0)), MapO vN M_5 ms_5, As.one B3 (.cells #[.int .i64 0, .int .i64 0] 30 (0, 0)), As.one B2 (.cells #[.int .i64 reach] 3 (0, 0)), As.one B1 (.cells #[.int .i64 (C : Int), .int .i64 (Rw : Int), .slice ra rods.length rc] 28 (0, 0))] := by
          subst hF
          refine .step (l := [1, 2]) (by kernel_rfl) (by decide) ⟨.run rfl trivial ?_, .run rfl trivial ?_, trivial⟩
          · refine .y (.load rfl (.own 0 rfl) ag_3 sz_3 rfl) rfl rfl ?_
            exact .weak (.one rfl (.one rfl (.one rfl (.one rfl (.one rfl (.nil)))))) (.refl _) (s2_35)
          · refine .y (.fieldAddr rfl fl_78_0) rfl rfl ?_
            exact .weak (.one rfl (.one rfl (.one rfl (.one rfl (.one rfl (.nil)))))) (.refl _) (s2_37)
        have s2_12 : F 6 #[false, false, true, true, false, false, false, false] [(8, .pointer (some ⟨B4, 0, none⟩)), (9, .pointer (some ⟨B5, 0, none⟩)), (11, .pointer (some ⟨B7, 0, none⟩)), (12, .pointer (some ⟨B8, 0, none⟩)), (45, .int .i64 ((leavesLo C Rw rods (mostTo C rods (fun _ => true) (C * Rw)) (cellAt C k1) reach : Nat) : Int))] [As.one B8 (.cells #[.int .i64 ((leavesLo C Rw rods (mostTo C rods (fun _ => true) (C * Rw)) (cellAt C k1) reach : Nat) : Int), .int .i64 ((leavesHi C Rw rods (mostTo C rods (fun _ => true) (C * Rw)) (cellAt C k1) reach : Nat) : Int)] 78 (0, 0)), As.one B7 (.cells #[.int .i64 ((cellAt C k1).col), .int .i64 ((cellAt C k1).row)] 30 (0, 0)), As.one B5 (.cells #[.int .i64 ((nextTo C Rw rods (mostTo C rods (fun _ => true) (C * Rw)) reach k1).2.col), .int .i64 ((nextTo C Rw rods (mostTo C rods (fun _ => true) (C * Rw)) reach k1).2.row)] 30 (0, 0)), As.one B4 (.cells #[.int .i64 ((nextTo C Rw rods (mostTo C rods (fun _ => true) (C * Rw)) reach k1).1)] 3 (0, 0)), As.one B_9 (.cells #[.pointer (some ⟨F_5, 0, none⟩)] 115 (0, 0)), As.one F_5 (.cells (fieldC C Rw ra rods.length rc (mostTo C rods (fun _ => true) (C * Rw)) M_5).toArray 124 (0, 0)), MapO vN M_5 ms_5, As.one B3 (.cells #[.int .i64 0, .int .i64 0] 30 (0, 0)), As.one B2 (.cells #[.int .i64 reach] 3 (0, 0)), As.one B1 (.cells #[.int .i64 (C : Int), .int .i64 (Rw : Int), .slice ra rods.length rc] 28 (0, 0))] := by
          subst hF
          refine .step (l := [0, 5]) (by kernel_rfl) (by decide) ⟨.run rfl trivial ?_, .run rfl trivial ?_, trivial⟩
          · refine .y (.fieldAddr rfl fl_78_1) rfl rfl ?_
            exact .weak (.one rfl (.one rfl (.one rfl (.one rfl (.one rfl (.nil)))))) (.refl _) (s2_13)
          · refine .y (.load rfl (.own 1 rfl) ag_30 sz_30 rfl) rfl rfl ?_
            exact .weak (.one rfl (.one rfl (.one rfl (.one rfl (.one rfl (.nil)))))) (.refl _) (s2_44)
        have s2_36 : F 6 #[false, false, true, false, false, true, false, false] [(8, .pointer (some ⟨B4, 0, none⟩)), (9, .pointer (some ⟨B5, 0, none⟩)), (12, .pointer (some ⟨B8, 0, none⟩)), (44, .pointer (some ⟨B8, 0, none⟩)), (47, .agg #[.int .i64 ((cellAt C k1).col), .int .i64 ((cellAt C k1).row)])] [As.one B8 (.cells #[.int .i64 ((leavesLo C Rw rods (mostTo C rods (fun _ => true) (C * Rw)) (cellAt C k1) reach : Nat) : Int), .int .i64 ((leavesHi C Rw rods (mostTo C rods (fun _ => true) (C * Rw)) (cellAt C k1) reach : Nat) : Int)] 78 (0, 0)), As.one B7 (.cells #[.int .i64 ((cellAt C k1).col), .int .i64 ((cellAt C k1).row)] 30 (0, 0)), As.one B5 (.cells #[.int .i64 ((nextTo C Rw rods (mostTo C rods (fun _ => true) (C * Rw)) reach k1).2.col), .int .i64 ((nextTo C Rw rods (mostTo C rods (fun _ => true) (C * Rw)) reach k1).2.row)] 30 (0, 0)), As.one B4 (.cells #[.int .i64 ((nextTo C Rw rods (mostTo C rods (fun _ => true) (C * Rw)) reach k1).1)] 3 (0, 0)), As.one B_9 (.cells #[.pointer (some ⟨F_5, 0, none⟩)] 115 (0, 0)), As.one F_5 (.cells (fieldC C Rw ra rods.length rc (mostTo C rods (fun _ => true) (C * Rw)) M_5).toArray 124 (0, 0)), MapO vN M_5 ms_5, As.one B3 (.cells #[.int .i64 0, .int .i64 0] 30 (0, 0)), As.one B2 (.cells #[.int .i64 reach] 3 (0, 0)), As.one B1 (.cells #[.int .i64 (C : Int), .int .i64 (Rw : Int), .slice ra rods.length rc] 28 (0, 0))] := by
          subst hF
          refine .step (l := [0, 3]) (by kernel_rfl) (by decide) ⟨.run rfl trivial ?_, .run rfl trivial ?_, trivial⟩
          · refine .y (.fieldAddr rfl fl_78_1) rfl rfl ?_
            exact .weak (.one rfl (.one rfl (.one rfl (.one rfl (.one rfl (.nil)))))) (.refl _) (s2_37)
          · refine .y (.load rfl (.own 0 rfl) ag_3 sz_3 rfl) rfl rfl ?_
            exact .weak (.one rfl (.one rfl (.one rfl (.one rfl (.one rfl (.nil)))))) (.refl _) (s2_44)
        have s2_1 : F 7 #[true, false, false, false, false, false, false, false] [(8, .pointer (some ⟨B4, 0, none⟩)), (9, .pointer (some ⟨B5, 0, none⟩)), (11, .pointer (some ⟨B7, 0, none⟩)), (12, .pointer (some ⟨B8, 0, none⟩)), (42, .pointer (some ⟨B8, 1, none⟩))] [As.one B8 (.cells #[.int .i64 ((leavesLo C Rw rods (mostTo C rods (fun _ => true) (C * Rw)) (cellAt C k1) reach : Nat) : Int), .int .i64 ((leavesHi C Rw rods (mostTo C rods (fun _ => true) (C * Rw)) (cellAt C k1) reach : Nat) : Int)] 78 (0, 0)), As.one B7 (.cells #[.int .i64 ((cellAt C k1).col), .int .i64 ((cellAt C k1).row)] 30 (0, 0)), As.one B5 (.cells #[.int .i64 ((nextTo C Rw rods (mostTo C rods (fun _ => true) (C * Rw)) reach k1).2.col), .int .i64 ((nextTo C Rw rods (mostTo C rods (fun _ => true) (C * Rw)) reach k1).2.row)] 30 (0, 0)), As.one B4 (.cells #[.int .i64 ((nextTo C Rw rods (mostTo C rods (fun _ => true) (C * Rw)) reach k1).1)] 3 (0, 0)), As.one B_9 (.cells #[.pointer (some ⟨F_5, 0, none⟩)] 115 (0, 0)), As.one F_5 (.cells (fieldC C Rw ra rods.length rc (mostTo C rods (fun _ => true) (C * Rw)) M_5).toArray 124 (0, 0)), MapO vN M_5 ms_5, As.one B3 (.cells #[.int .i64 0, .int .i64 0] 30 (0, 0)), As.one B2 (.cells #[.int .i64 reach] 3 (0, 0)), As.one B1 (.cells #[.int .i64 (C : Int), .int .i64 (Rw : Int), .slice ra rods.length rc] 28 (0, 0))] := by
          subst hF
          refine .step (l := [1, 2, 5]) (by kernel_rfl) (by decide) ⟨.run rfl trivial ?_, .run rfl trivial ?_, .run rfl trivial ?_, trivial⟩
          · refine .y (.load rfl (.own 0 rfl) ag_3 sz_3 rfl) rfl rfl ?_
            exact .weak (.one rfl (.one rfl (.one rfl (.one rfl (.one rfl (.nil)))))) (.refl _) (s2_3)
          · refine .y (.fieldAddr rfl fl_78_0) rfl rfl ?_
            exact .weak (.one rfl (.one rfl (.one rfl (.one rfl (.one rfl (.nil)))))) (.refl _) (s2_5)
          · refine .y (.load rfl (.own 1 rfl) ag_30 sz_30 rfl) rfl rfl ?_
            exact .weak (.one rfl (.one rfl (.one rfl (.one rfl (.one rfl (.nil)))))) (.refl _) (s2_33)
        have s2_4 : F 7 #[false, false, true, false, false, false, false, false] [(8, .pointer (some ⟨B4, 0, none⟩)), (9, .pointer (some ⟨B5, 0, none⟩)), (11, .pointer (some ⟨B7, 0, none⟩)), (12, .pointer (some ⟨B8, 0, none⟩)), (44, .pointer (some ⟨B8, 0, none⟩))] [As.one B8 (.cells #[.int .i64 ((leavesLo C Rw rods (mostTo C rods (fun _ => true) (C * Rw)) (cellAt C k1) reach : Nat) : Int), .int .i64 ((leavesHi C Rw rods (mostTo C rods (fun _ => true) (C * Rw)) (cellAt C k1) reach : Nat) : Int)] 78 (0, 0)), As.one B7 (.cells #[.int .i64 ((cellAt C k1).col), .int .i64 ((cellAt C k1).row)] 30 (0, 0)), As.one B5 (.cells #[.int .i64 ((nextTo C Rw rods (mostTo C rods (fun _ => true) (C * Rw)) reach k1).2.col), .int .i64 ((nextTo C Rw rods (mostTo C rods (fun _ => true) (C * Rw)) reach k1).2.row)] 30 (0, 0)), As.one B4 (.cells #[.int .i64 ((nextTo C Rw rods (mostTo C rods (fun _ => true) (C * Rw)) reach k1).1)] 3 (0, 0)), As.one B_9 (.cells #[.pointer (some ⟨F_5, 0, none⟩)] 115 (0, 0)), As.one F_5 (.cells (fieldC C Rw ra rods.length rc (mostTo C rods (fun _ => true) (C * Rw)) M_5).toArray 124 (0, 0)), MapO vN M_5 ms_5, As.one B3 (.cells #[.int .i64 0, .int .i64 0] 30 (0, 0)), As.one B2 (.cells #[.int .i64 reach] 3 (0, 0)), As.one B1 (.cells #[.int .i64 (C : Int), .int .i64 (Rw : Int), .slice ra rods.length rc] 28 (0, 0))] := by
          subst hF
          refine .step (l := [0, 3, 5]) (by kernel_rfl) (by decide) ⟨.run rfl trivial ?_, .run rfl trivial ?_, .run rfl trivial ?_, trivial⟩
          · refine .y (.fieldAddr rfl fl_78_1) rfl rfl ?_
            exact .weak (.one rfl (.one rfl (.one rfl (.one rfl (.one rfl (.nil)))))) (.refl _) (s2_5)
          · refine .y (.load rfl (.own 0 rfl) ag_3 sz_3 rfl) rfl rfl ?_
            exact .weak (.one rfl (.one rfl (.one rfl (.one rfl (.one rfl (.nil)))))) (.refl _) (s2_12)
          · refine .y (.load rfl (.own 1 rfl) ag_30 sz_30 rfl) rfl rfl ?_
            exact .weak (.one rfl (.one rfl (.one rfl (.one rfl (.one rfl (.nil)))))) (.refl _) (s2_36)
        have s2_32 : F 7 #[false, false, false, false, false, true, false, false] [(8, .pointer (some ⟨B4, 0, none⟩)), (9, .pointer (some ⟨B5, 0, none⟩)), (12, .pointer (some ⟨B8, 0, none⟩)), (47, .agg #[.int .i64 ((cellAt C k1).col), .int .i64 ((cellAt C k1).row)])] [As.one B8 (.cells #[.int .i64 ((leavesLo C Rw rods (mostTo C rods (fun _ => true) (C * Rw)) (cellAt C k1) reach : Nat) : Int), .int .i64 ((leavesHi C Rw rods (mostTo C rods (fun _ => true) (C * Rw)) (cellAt C k1) reach : Nat) : Int)] 78 (0, 0)), As.one B7 (.cells #[.int .i64 ((cellAt C k1).col), .int .i64 ((cellAt C k1).row)] 30 (0, 0)), As.one B5 (.cells #[.int .i64 ((nextTo C Rw rods (mostTo C rods (fun _ => true) (C * Rw)) reach k1).2.col), .int .i64 ((nextTo C Rw rods (mostTo C rods (fun _ => true) (C * Rw)) reach k1).2.row)] 30 (0, 0)), As.one B4 (.cells #[.int .i64 ((nextTo C Rw rods (mostTo C rods (fun _ => true) (C * Rw)) reach k1).1)] 3 (0, 0)), As.one B_9 (.cells #[.pointer (some ⟨F_5, 0, none⟩)] 115 (0, 0)), As.one F_5 (.cells (fieldC C Rw ra rods.length rc (mostTo C rods (fun _ => true) (C * Rw)) M_5).toArray 124 (0, 0)), MapO vN M_5 ms_5, As.one B3 (.cells #[.int .i64 0, .int .i64 0] 30 (0, 0)), As.one B2 (.cells #[.int .i64 reach] 3 (0, 0)), As.one B1 (.cells #[.int .i64 (C : Int), .int .i64 (Rw : Int), .slice ra rods.length rc] 28 (0, 0))] := by
          subst hF
          refine .step (l := [0, 2]) (by kernel_rfl) (by decide) ⟨.run rfl trivial ?_, .run rfl trivial ?_, trivial⟩
          · refine .y (.fieldAddr rfl fl_78_1) rfl rfl ?_
            exact .weak (.one rfl (.one rfl (.one rfl (.one rfl (.one rfl (.nil)))))) (.refl _) (s2_33)
          · refine .y (.fieldAddr rfl fl_78_0) rfl rfl ?_
            exact .weak (.one rfl (.one rfl (.one rfl (.one rfl (.one rfl (.nil)))))) (.refl _) (s2_36)
        have s2_0 : F 8 #[false, false, false, false, false, false, false, false] [(8, .pointer (some ⟨B4, 0, none⟩)), (9, .pointer (some ⟨B5, 0, none⟩)), (11, .pointer (some ⟨B7, 0, none⟩)), (12, .pointer (some ⟨B8, 0, none⟩))] [As.one B8 (.cells #[.int .i64 ((leavesLo C Rw rods (mostTo C rods (fun _ => true) (C * Rw)) (cellAt C k1) reach : Nat) : Int), .int .i64 ((leavesHi C Rw rods (mostTo C rods (fun _ => true) (C * Rw)) (cellAt C k1) reach : Nat) : Int)] 78 (0, 0)), As.one B7 (.cells #[.int .i64 ((cellAt C k1).col), .int .i64 ((cellAt C k1).row)] 30 (0, 0)), As.one B5 (.cells #[.int .i64 ((nextTo C Rw rods (mostTo C rods (fun _ => true) (C * Rw)) reach k1).2.col), .int .i64 ((nextTo C Rw rods (mostTo C rods (fun _ => true) (C * Rw)) reach k1).2.row)] 30 (0, 0)), As.one B4 (.cells #[.int .i64 ((nextTo C Rw rods (mostTo C rods (fun _ => true) (C * Rw)) reach k1).1)] 3 (0, 0)), As.one B_9 (.cells #[.pointer (some ⟨F_5, 0, none⟩)] 115 (0, 0)), As.one F_5 (.cells (fieldC C Rw ra rods.length rc (mostTo C rods (fun _ => true) (C * Rw)) M_5).toArray 124 (0, 0)), MapO vN M_5 ms_5, As.one B3 (.cells #[.int .i64 0, .int .i64 0] 30 (0, 0)), As.one B2 (.cells #[.int .i64 reach] 3 (0, 0)), As.one B1 (.cells #[.int .i64 (C : Int), .int .i64 (Rw : Int), .slice ra rods.length rc] 28 (0, 0))] := by
          subst hF
          refine .step (l := [0, 2, 5]) (by kernel_rfl) (by decide) ⟨.run rfl trivial ?_, .run rfl trivial ?_, .run rfl trivial ?_, trivial⟩
          · refine .y (.fieldAddr rfl fl_78_1) rfl rfl ?_
            exact .weak (.one rfl (.one rfl (.one rfl (.one rfl (.one rfl (.nil)))))) (.refl _) (s2_1)
          · refine .y (.fieldAddr rfl fl_78_0) rfl rfl ?_
            exact .weak (.one rfl (.one rfl (.one rfl (.one rfl (.one rfl (.nil)))))) (.refl _) (s2_4)
          · refine .y (.load rfl (.own 1 rfl) ag_30 sz_30 rfl) rfl rfl ?_
            exact .weak (.one rfl (.one rfl (.one rfl (.one rfl (.nil))))) (.refl _) (s2_32)
        subst hF; exact .weak (.one rfl (.one rfl (.one rfl (.one rfl (.nil))))) (.refl _) s2_0
      · refine .skip ?_
        show RSub [As.one B5 (.cells #[.int .i64 ((nextTo C Rw rods (mostTo C rods (fun _ => true) (C * Rw)) reach (k1 + 1)).2.col), .int .i64 ((nextTo C Rw rods (mostTo C rods (fun _ => true) (C * Rw)) reach (k1 + 1)).2.row)] 30 (0, 0)), As.one B4 (.cells #[.int .i64 ((nextTo C Rw rods (mostTo C rods (fun _ => true) (C * Rw)) reach (k1 + 1)).1)] 3 (0, 0)), As.one B_9 (.cells #[.pointer (some ⟨F_5, 0, none⟩)] 115 (0, 0)), As.one F_5 (.cells (fieldC C Rw ra rods.length rc (mostTo C rods (fun _ => true) (C * Rw)) M_5).toArray 124 (0, 0)), MapO vN M_5 ms_5, As.one B3 (.cells #[.int .i64 0, .int .i64 0] 30 (0, 0)), As.one B2 (.cells #[.int .i64 reach] 3 (0, 0)), As.one B1 (.cells #[.int .i64 (C : Int), .int .i64 (Rw : Int), .slice ra rods.length rc] 28 (0, 0))] _
        rw [nextTo_out (by assumption)]
        exact (.pick 2 rfl (.pick 2 rfl (.pick 2 rfl (.pick 2 rfl (.pick 2 rfl (.pick 2 rfl (.pick 2 rfl (.pick 2 rfl (.nil _)))))))))
    · skip
      refine .seq ?_
      refine .seq ?_
      refine .region ?_
      refine .y (.load rfl (.own 1 rfl) ag_3 sz_3 rfl) trivial rfl rfl ?_
      refine .y (.eql rfl rfl) trivial rfl rfl ?_
      refine .nil ?_
      refine .ite rfl (fun h2 => ?_) (fun h2 => ?_)
      · refine .seq ?_
        refine .region ?_
        refine .y (.build rfl pl_30 zr_30 rfl) trivial rfl rfl ?_
        refine .cons trivial (.store 5 rfl rfl rfl sz_30 rfl rfl (Nat.le_of_ble_eq_true rfl) rfl ?_)
        refine .y (.assign rfl) trivial rfl rfl ?_
        refine .nil ?_
        refine .ret ?_
        refine ⟨.inr rfl, _, _, (.nil _), fun own' ho => .two2 rfl (.c rfl (own_get 5 rfl ho) ag_30 sz_30 rfl) (.t rfl), ?_⟩
        have e1 : nextC C Rw rods (mostTo C rods (fun _ => true) (C * Rw)) reach = _ := if_pos h2
        have e2 : nextE C Rw rods (mostTo C rods (fun _ => true) (C * Rw)) reach = _ := if_pos h2
        rw [e1, e2]; exact ⟨rfl, rfl⟩
      · refine .skip ?_
        refine .seq ?_
        refine .region ?_
        refine .y (.load rfl (.own 0 rfl) ag_30 sz_30 rfl) trivial rfl rfl ?_
        refine .cons trivial (.store 5 rfl rfl rfl sz_30 rfl rfl (Nat.le_of_ble_eq_true rfl) rfl ?_)
        refine .y (.assign rfl) trivial rfl rfl ?_
        refine .nil ?_
        refine .ret ?_
        refine ⟨.inr rfl, _, _, (.nil _), fun own' ho => .two2 rfl (.c rfl (own_get 5 rfl ho) ag_30 sz_30 rfl) (.t rfl), ?_⟩
        have e1 : nextC C Rw rods (mostTo C rods (fun _ => true) (C * Rw)) reach = _ := if_neg h2
        have e2 : nextE C Rw rods (mostTo C rods (fun _ => true) (C * Rw)) reach = _ := if_neg h2
        rw [e1, e2]; exact ⟨rfl, rfl⟩
    · exact fun _ _ h => h.elim
  have s1_2047 : ∀ (F_5 : Nat) (M_5 : Nat) (ms_5 : List (Cell × Nat)) (hf_5 : ExpOk C Rw rods (mostTo C rods (fun _ => true) (C * Rw)) (C * Rw) 0 ms_5) (B_9 : Nat), F 1 #[true, true, true, true, true, true, true, true, true, true, true, false] [(2, .pointer (some ⟨B1, 0, none⟩)), (3, .pointer (some ⟨B2, 0, none⟩)), (4, .pointer (some ⟨B3, 0, none⟩)), (6, .pointer (some ⟨B_9, 0, none⟩)), (21, .int .i64 0)] [As.one B_9 (.cells #[.pointer (some ⟨F_5, 0, none⟩)] 115 (0, 0)), As.one F_5 (.cells (fieldC C Rw ra rods.length rc (mostTo C rods (fun _ => true) (C * Rw)) M_5).toArray 124 (0, 0)), MapO vN M_5 ms_5, As.one B3 (.cells #[.int .i64 0, .int .i64 0] 30 (0, 0)), As.one B2 (.cells #[.int .i64 reach] 3 (0, 0)), As.one B1 (.cells #[.int .i64 (C : Int), .int .i64 (Rw : Int), .slice ra rods.length rc] 28 (0, 0))] := by
    intro F_5 M_5 ms_5 hf_5 B_9
    subst hF
    refine .step (l := [11]) (by kernel_rfl) (by decide) ⟨.run rfl trivial ?_, trivial⟩
    · refine .y (.assign rfl) rfl rfl ?_
      exact .weak (.one rfl (.one rfl (.one rfl (.one rfl (.one rfl (.nil)))))) (.refl _) (s1_4095 F_5 M_5 ms_5 hf_5 B_9)
  have s1_1023 : ∀ (F_5 : Nat) (M_5 : Nat) (ms_5 : List (Cell × Nat)) (hf_5 : ExpOk C Rw rods (mostTo C rods (fun _ => true) (C * Rw)) (C * Rw) 0 ms_5) (B_9 : Nat), F 2 #[true, true, true, true, true, true, true, true, true, true, false, false] [(2, .pointer (some ⟨B1, 0, none⟩)), (3, .pointer (some ⟨B2, 0, none⟩)), (4, .pointer (some ⟨B3, 0, none⟩)), (6, .pointer (some ⟨B_9, 0, none⟩)), (20, .pointer (some ⟨F_5, 0, none⟩)), (21, .int .i64 0)] [As.one B_9 (.cells #[.pointer none] 115 (0, 0)), As.one F_5 (.cells (fieldC C Rw ra rods.length rc (mostTo C rods (fun _ => true) (C * Rw)) M_5).toArray 124 (0, 0)), MapO vN M_5 ms_5, As.one B3 (.cells #[.int .i64 0, .int .i64 0] 30 (0, 0)), As.one B2 (.cells #[.int .i64 reach] 3 (0, 0)), As.one B1 (.cells #[.int .i64 (C : Int), .int .i64 (Rw : Int), .slice ra rods.length rc] 28 (0, 0))] := by
    intro F_5 M_5 ms_5 hf_5 B_9
    subst hF
    refine .step (l := [10]) (by kernel_rfl) (by decide) ⟨.run rfl trivial ?_, trivial⟩
    · refine .store 0 rfl rfl rfl sz_115 rfl rfl (Nat.le_of_ble_eq_true rfl) rfl ?_
      exact .weak (.one rfl (.one rfl (.one rfl (.one rfl (.one rfl (.nil)))))) (.refl _) (s1_2047 F_5 M_5 ms_5 hf_5 B_9)
  have s1_1791 : ∀ (F_5 : Nat) (M_5 : Nat) (ms_5 : List (Cell × Nat)) (hf_5 : ExpOk C Rw rods (mostTo C rods (fun _ => true) (C * Rw)) (C * Rw) 0 ms_5) (B_9 : Nat), F 2 #[true, true, true, true, true, true, true, true, false, true, true, false] [(2, .pointer (some ⟨B1, 0, none⟩)), (3, .pointer (some ⟨B2, 0, none⟩)), (4, .pointer (some ⟨B3, 0, none⟩)), (6, .pointer (some ⟨B_9, 0, none⟩)), (13, .tuple #[.pointer (some ⟨F_5, 0, none⟩), .int .i64 0])] [As.one B_9 (.cells #[.pointer (some ⟨F_5, 0, none⟩)] 115 (0, 0)), As.one F_5 (.cells (fieldC C Rw ra rods.length rc (mostTo C rods (fun _ => true) (C * Rw)) M_5).toArray 124 (0, 0)), MapO vN M_5 ms_5, As.one B3 (.cells #[.int .i64 0, .int .i64 0] 30 (0, 0)), As.one B2 (.cells #[.int .i64 reach] 3 (0, 0)), As.one B1 (.cells #[.int .i64 (C : Int), .int .i64 (Rw : Int), .slice ra rods.length rc] 28 (0, 0))] := by
    intro F_5 M_5 ms_5 hf_5 B_9
    subst hF
    refine .step (l := [8]) (by kernel_rfl) (by decide) ⟨.run rfl trivial ?_, trivial⟩
    · refine .y (.extract rfl rfl) rfl rfl ?_
      exact .weak (.one rfl (.one rfl (.one rfl (.one rfl (.one rfl (.nil)))))) (.refl _) (s1_2047 F_5 M_5 ms_5 hf_5 B_9)
  have s1_511 : ∀ (F_5 : Nat) (M_5 : Nat) (ms_5 : List (Cell × Nat)) (hf_5 : ExpOk C Rw rods (mostTo C rods (fun _ => true) (C * Rw)) (C * Rw) 0 ms_5), F 3 #[true, true, true, true, true, true, true, true, true, false, false, false] [(2, .pointer (some ⟨B1, 0, none⟩)), (3, .pointer (some ⟨B2, 0, none⟩)), (4, .pointer (some ⟨B3, 0, none⟩)), (20, .pointer (some ⟨F_5, 0, none⟩)), (21, .int .i64 0)] [As.one F_5 (.cells (fieldC C Rw ra rods.length rc (mostTo C rods (fun _ => true) (C * Rw)) M_5).toArray 124 (0, 0)), MapO vN M_5 ms_5, As.one B3 (.cells #[.int .i64 0, .int .i64 0] 30 (0, 0)), As.one B2 (.cells #[.int .i64 reach] 3 (0, 0)), As.one B1 (.cells #[.int .i64 (C : Int), .int .i64 (Rw : Int), .slice ra rods.length rc] 28 (0, 0))] := by
    intro F_5 M_5 ms_5 hf_5
    subst hF
    refine .step (l := [9]) (by kernel_rfl) (by decide) ⟨.run rfl trivial ?_, trivial⟩
    · refine .n (.alloc zr_115) rfl rfl fun B_9 => ?_
      exact .weak (.one rfl (.one rfl (.one rfl (.one rfl (.one rfl (.one rfl (.nil))))))) (.refl _) (s1_1023 F_5 M_5 ms_5 hf_5 B_9)
  have s1_767 : ∀ (F_5 : Nat) (M_5 : Nat) (ms_5 : List (Cell × Nat)) (hf_5 : ExpOk C Rw rods (mostTo C rods (fun _ => true) (C * Rw)) (C * Rw) 0 ms_5) (B_9 : Nat), F 3 #[true, true, true, true, true, true, true, true, false, true, false, false] [(2, .pointer (some ⟨B1, 0, none⟩)), (3, .pointer (some ⟨B2, 0, none⟩)), (4, .pointer (some ⟨B3, 0, none⟩)), (6, .pointer (some ⟨B_9, 0, none⟩)), (13, .tuple #[.pointer (some ⟨F_5, 0, none⟩), .int .i64 0]), (20, .pointer (some ⟨F_5, 0, none⟩))] [As.one B_9 (.cells #[.pointer none] 115 (0, 0)), As.one F_5 (.cells (fieldC C Rw ra rods.length rc (mostTo C rods (fun _ => true) (C * Rw)) M_5).toArray 124 (0, 0)), MapO vN M_5 ms_5, As.one B3 (.cells #[.int .i64 0, .int .i64 0] 30 (0, 0)), As.one B2 (.cells #[.int .i64 reach] 3 (0, 0)), As.one B1 (.cells #[.int .i64 (C : Int), .int .i64 (Rw : Int), .slice ra rods.length rc] 28 (0, 0))] := by
    intro F_5 M_5 ms_5 hf_5 B_9
    subst hF
    refine .step (l := [8, 10]) (by kernel_rfl) (by decide) ⟨.run rfl trivial ?_, .run rfl trivial ?_, trivial⟩
    · refine .y (.extract rfl rfl) rfl rfl ?_
      exact .weak (.one rfl (.one rfl (.one rfl (.one rfl (.one rfl (.one rfl (.nil))))))) (.refl _) (s1_1023 F_5 M_5 ms_5 hf_5 B_9)
    · refine .store 0 rfl rfl rfl sz_115 rfl rfl (Nat.le_of_ble_eq_true rfl) rfl ?_
      exact .weak (.one rfl (.one rfl (.one rfl (.one rfl (.one rfl (.nil)))))) (.refl _) (s1_1791 F_5 M_5 ms_5 hf_5 B_9)
  have s1_895 : ∀ (F_5 : Nat) (M_5 : Nat) (ms_5 : List (Cell × Nat)) (hf_5 : ExpOk C Rw rods (mostTo C rods (fun _ => true) (C * Rw)) (C * Rw) 0 ms_5) (B_9 : Nat), F 3 #[true, true, true, true, true, true, true, false, true, true, false, false] [(2, .pointer (some ⟨B1, 0, none⟩)), (3, .pointer (some ⟨B2, 0, none⟩)), (4, .pointer (some ⟨B3, 0, none⟩)), (6, .pointer (some ⟨B_9, 0, none⟩)), (13, .tuple #[.pointer (some ⟨F_5, 0, none⟩), .int .i64 0]), (21, .int .i64 0)] [As.one B_9 (.cells #[.pointer none] 115 (0, 0)), As.one F_5 (.cells (fieldC C Rw ra rods.length rc (mostTo C rods (fun _ => true) (C * Rw)) M_5).toArray 124 (0, 0)), MapO vN M_5 ms_5, As.one B3 (.cells #[.int .i64 0, .int .i64 0] 30 (0, 0)), As.one B2 (.cells #[.int .i64 reach] 3 (0, 0)), As.one B1 (.cells #[.int .i64 (C : Int), .int .i64 (Rw : Int), .slice ra rods.length rc] 28 (0, 0))] := by
    intro F_5 M_5 ms_5 hf_5 B_9
    subst hF
    refine .step (l := [7]) (by kernel_rfl) (by decide) ⟨.run rfl trivial ?_, trivial⟩
    · refine .y (.extract rfl rfl) rfl rfl ?_
      exact .weak (.one rfl (.one rfl (.one rfl (.one rfl (.one rfl (.one rfl (.nil))))))) (.refl _) (s1_1023 F_5 M_5 ms_5 hf_5 B_9)
  have s1_255 : ∀ (F_5 : Nat) (M_5 : Nat) (ms_5 : List (Cell × Nat)) (hf_5 : ExpOk C Rw rods (mostTo C rods (fun _ => true) (C * Rw)) (C * Rw) 0 ms_5), F 4 #[true, true, true, true, true, true, true, true, false, false, false, false] [(2, .pointer (some ⟨B1, 0, none⟩)), (3, .pointer (some ⟨B2, 0, none⟩)), (4, .pointer (some ⟨B3, 0, none⟩)), (13, .tuple #[.pointer (some ⟨F_5, 0, none⟩), .int .i64 0]), (20, .pointer (some ⟨F_5, 0, none⟩))] [As.one F_5 (.cells (fieldC C Rw ra rods.length rc (mostTo C rods (fun _ => true) (C * Rw)) M_5).toArray 124 (0, 0)), MapO vN M_5 ms_5, As.one B3 (.cells #[.int .i64 0, .int .i64 0] 30 (0, 0)), As.one B2 (.cells #[.int .i64 reach] 3 (0, 0)), As.one B1 (.cells #[.int .i64 (C : Int), .int .i64 (Rw : Int), .slice ra rods.length rc] 28 (0, 0))] := by
    intro F_5 M_5 ms_5 hf_5
    subst hF
    refine .step (l := [8, 9]) (by kernel_rfl) (by decide) ⟨.run rfl trivial ?_, .run rfl trivial ?_, trivial⟩
    · refine .y (.extract rfl rfl) rfl rfl ?_
      exact .weak (.one rfl (.one rfl (.one rfl (.one rfl (.one rfl (.nil)))))) (.refl _) (s1_511 F_5 M_5 ms_5 hf_5)
    · refine .n (.alloc zr_115) rfl rfl fun B_9 => ?_
      exact .weak (.one rfl (.one rfl (.one rfl (.one rfl (.one rfl (.one rfl (.nil))))))) (.refl _) (s1_767 F_5 M_5 ms_5 hf_5 B_9)
  have s1_383 : ∀ (F_5 : Nat) (M_5 : Nat) (ms_5 : List (Cell × Nat)) (hf_5 : ExpOk C Rw rods (mostTo C rods (fun _ => true) (C * Rw)) (C * Rw) 0 ms_5), F 4 #[true, true, true, true, true, true, true, false, true, false, false, false] [(2, .pointer (some ⟨B1, 0, none⟩)), (3, .pointer (some ⟨B2, 0, none⟩)), (4, .pointer (some ⟨B3, 0, none⟩)), (13, .tuple #[.pointer (some ⟨F_5, 0, none⟩), .int .i64 0]), (21, .int .i64 0)] [As.one F_5 (.cells (fieldC C Rw ra rods.length rc (mostTo C rods (fun _ => true) (C * Rw)) M_5).toArray 124 (0, 0)), MapO vN M_5 ms_5, As.one B3 (.cells #[.int .i64 0, .int .i64 0] 30 (0, 0)), As.one B2 (.cells #[.int .i64 reach] 3 (0, 0)), As.one B1 (.cells #[.int .i64 (C : Int), .int .i64 (Rw : Int), .slice ra rods.length rc] 28 (0, 0))] := by
    intro F_5 M_5 ms_5 hf_5
    subst hF
    refine .step (l := [7, 9]) (by kernel_rfl) (by decide) ⟨.run rfl trivial ?_, .run rfl trivial ?_, trivial⟩
    · refine .y (.extract rfl rfl) rfl rfl ?_
      exact .weak (.one rfl (.one rfl (.one rfl (.one rfl (.one rfl (.nil)))))) (.refl _) (s1_511 F_5 M_5 ms_5 hf_5)
    · refine .n (.alloc zr_115) rfl rfl fun B_9 => ?_
      exact .weak (.one rfl (.one rfl (.one rfl (.one rfl (.one rfl (.one rfl (.nil))))))) (.refl _) (s1_895 F_5 M_5 ms_5 hf_5 B_9)
  have s1_639 : ∀ (F_5 : Nat) (M_5 : Nat) (ms_5 : List (Cell × Nat)) (hf_5 : ExpOk C Rw rods (mostTo C rods (fun _ => true) (C * Rw)) (C * Rw) 0 ms_5) (B_9 : Nat), F 4 #[true, true, true, true, true, true, true, false, false, true, false, false] [(2, .pointer (some ⟨B1, 0, none⟩)), (3, .pointer (some ⟨B2, 0, none⟩)), (4, .pointer (some ⟨B3, 0, none⟩)), (6, .pointer (some ⟨B_9, 0, none⟩)), (13, .tuple #[.pointer (some ⟨F_5, 0, none⟩), .int .i64 0])] [As.one B_9 (.cells #[.pointer none] 115 (0, 0)), As.one F_5 (.cells (fieldC C Rw ra rods.length rc (mostTo C rods (fun _ => true) (C * Rw)) M_5).toArray 124 (0, 0)), MapO vN M_5 ms_5, As.one B3 (.cells #[.int .i64 0, .int .i64 0] 30 (0, 0)), As.one B2 (.cells #[.int .i64 reach] 3 (0, 0)), As.one B1 (.cells #[.int .i64 (C : Int), .int .i64 (Rw : Int), .slice ra rods.length rc] 28 (0, 0))] := by
    intro F_5 M_5 ms_5 hf_5 B_9
    subst hF
    refine .step (l := [7, 8]) (by kernel_rfl) (by decide) ⟨.run rfl trivial ?_, .run rfl trivial ?_, trivial⟩
    · refine .y (.extract rfl rfl) rfl rfl ?_
      exact .weak (.one rfl (.one rfl (.one rfl (.one rfl (.one rfl (.one rfl (.nil))))))) (.refl _) (s1_767 F_5 M_5 ms_5 hf_5 B_9)
    · refine .y (.extract rfl rfl) rfl rfl ?_
      exact .weak (.one rfl (.one rfl (.one rfl (.one rfl (.one rfl (.one rfl (.nil))))))) (.refl _) (s1_895 F_5 M_5 ms_5 hf_5 B_9)
  have s1_127 : ∀ (F_5 : Nat) (M_5 : Nat) (ms_5 : List (Cell × Nat)) (hf_5 : ExpOk C Rw rods (mostTo C rods (fun _ => true) (C * Rw)) (C * Rw) 0 ms_5), F 5 #[true, true, true, true, true, true, true, false, false, false, false, false] [(2, .pointer (some ⟨B1, 0, none⟩)), (3, .pointer (some ⟨B2, 0, none⟩)), (4, .pointer (some ⟨B3, 0, none⟩)), (13, .tuple #[.pointer (some ⟨F_5, 0, none⟩), .int .i64 0])] [As.one F_5 (.cells (fieldC C Rw ra rods.length rc (mostTo C rods (fun _ => true) (C * Rw)) M_5).toArray 124 (0, 0)), MapO vN M_5 ms_5, As.one B3 (.cells #[.int .i64 0, .int .i64 0] 30 (0, 0)), As.one B2 (.cells #[.int .i64 reach] 3 (0, 0)), As.one B1 (.cells #[.int .i64 (C : Int), .int .i64 (Rw : Int), .slice ra rods.length rc] 28 (0, 0))] := by
    intro F_5 M_5 ms_5 hf_5
    subst hF
    refine .step (l := [7, 8, 9]) (by kernel_rfl) (by decide) ⟨.run rfl trivial ?_, .run rfl trivial ?_, .run rfl trivial ?_, trivial⟩
    · refine .y (.extract rfl rfl) rfl rfl ?_
      exact .weak (.one rfl (.one rfl (.one rfl (.one rfl (.one rfl (.nil)))))) (.refl _) (s1_255 F_5 M_5 ms_5 hf_5)
    · refine .y (.extract rfl rfl) rfl rfl ?_
      exact .weak (.one rfl (.one rfl (.one rfl (.one rfl (.one rfl (.nil)))))) (.refl _) (s1_383 F_5 M_5 ms_5 hf_5)
    · refine .n (.alloc zr_115) rfl rfl fun B_9 => ?_
      exact .weak (.one rfl (.one rfl (.one rfl (.one rfl (.one rfl (.nil)))))) (.refl _) (s1_639 F_5 M_5 ms_5 hf_5 B_9)
  have s1_575 : ∀ (F_5 : Nat) (M_5 : Nat) (ms_5 : List (Cell × Nat)) (hf_5 : ExpOk C Rw rods (mostTo C rods (fun _ => true) (C * Rw)) (C * Rw) 0 ms_5) (B_9 : Nat), F 5 #[true, true, true, true, true, true, false, false, false, true, false, false] [(2, .pointer (some ⟨B1, 0, none⟩)), (3, .pointer (some ⟨B2, 0, none⟩)), (4, .pointer (some ⟨B3, 0, none⟩)), (6, .pointer (some ⟨B_9, 0, none⟩)), (19, .tuple #[.pointer (some ⟨F_5, 0, none⟩), .int .i64 0])] [As.one B_9 (.cells #[.pointer none] 115 (0, 0)), As.one F_5 (.cells (fieldC C Rw ra rods.length rc (mostTo C rods (fun _ => true) (C * Rw)) M_5).toArray 124 (0, 0)), MapO vN M_5 ms_5, As.one B3 (.cells #[.int .i64 0, .int .i64 0] 30 (0, 0)), As.one B2 (.cells #[.int .i64 reach] 3 (0, 0)), As.one B1 (.cells #[.int .i64 (C : Int), .int .i64 (Rw : Int), .slice ra rods.length rc] 28 (0, 0))] := by
    intro F_5 M_5 ms_5 hf_5 B_9
    subst hF
    refine .step (l := [6]) (by kernel_rfl) (by decide) ⟨.run rfl trivial ?_, trivial⟩
    · refine .y (.move rfl) rfl rfl ?_
      exact .weak (.one rfl (.one rfl (.one rfl (.one rfl (.one rfl (.nil)))))) (.refl _) (s1_639 F_5 M_5 ms_5 hf_5 B_9)
  have s1_63 : ∀ (F_5 : Nat) (M_5 : Nat) (ms_5 : List (Cell × Nat)) (hf_5 : ExpOk C Rw rods (mostTo C rods (fun _ => true) (C * Rw)) (C * Rw) 0 ms_5), F 6 #[true, true, true, true, true, true, false, false, false, false, false, false] [(2, .pointer (some ⟨B1, 0, none⟩)), (3, .pointer (some ⟨B2, 0, none⟩)), (4, .pointer (some ⟨B3, 0, none⟩)), (19, .tuple #[.pointer (some ⟨F_5, 0, none⟩), .int .i64 0])] [As.one F_5 (.cells (fieldC C Rw ra rods.length rc (mostTo C rods (fun _ => true) (C * Rw)) M_5).toArray 124 (0, 0)), MapO vN M_5 ms_5, As.one B3 (.cells #[.int .i64 0, .int .i64 0] 30 (0, 0)), As.one B2 (.cells #[.int .i64 reach] 3 (0, 0)), As.one B1 (.cells #[.int .i64 (C : Int), .int .i64 (Rw : Int), .slice ra rods.length rc] 28 (0, 0))] := by
    intro F_5 M_5 ms_5 hf_5
    subst hF
    refine .step (l := [6, 9]) (by kernel_rfl) (by decide) ⟨.run rfl trivial ?_, .run rfl trivial ?_, trivial⟩
    · refine .y (.move rfl) rfl rfl ?_
      exact .weak (.one rfl (.one rfl (.one rfl (.one rfl (.nil))))) (.refl _) (s1_127 F_5 M_5 ms_5 hf_5)
    · refine .n (.alloc zr_115) rfl rfl fun B_9 => ?_
      exact .weak (.one rfl (.one rfl (.one rfl (.one rfl (.one rfl (.nil)))))) (.refl _) (s1_575 F_5 M_5 ms_5 hf_5 B_9)
  have s1_543 : ∀ (B_9 : Nat), F 6 #[true, true, true, true, true, false, false, false, false, true, false, false] [(2, .pointer (some ⟨B1, 0, none⟩)), (3, .pointer (some ⟨B2, 0, none⟩)), (4, .pointer (some ⟨B3, 0, none⟩)), (6, .pointer (some ⟨B_9, 0, none⟩)), (14, .agg #[.int .i64 (C : Int), .int .i64 (Rw : Int), .slice ra rods.length rc]), (18, .int .i64 0)] [As.one B_9 (.cells #[.pointer none] 115 (0, 0)), As.one B3 (.cells #[.int .i64 0, .int .i64 0] 30 (0, 0)), As.one B2 (.cells #[.int .i64 reach] 3 (0, 0)), As.one B1 (.cells #[.int .i64 (C : Int), .int .i64 (Rw : Int), .slice ra rods.length rc] 28 (0, 0))] := by
    intro B_9
    subst hF
    refine .step (l := [5]) (by kernel_rfl) (by decide) ⟨.run rfl trivial ?_, trivial⟩
    · refine .c (.call rfl rfl fn_69) rfl rfl (fun own ho hd => told_ct _ hc (rods := rods) (SlR.up hr) hl hv hck hfit) ?_
      rintro _ _ ⟨F_5, M_5, ms_5, rfl, rfl, hf_5⟩
      exact .weak (.one rfl (.one rfl (.one rfl (.one rfl (.one rfl (.nil)))))) (.pick 2 rfl (.refl _)) (s1_575 F_5 M_5 ms_5 hf_5 B_9)
  have s1_31 : F 7 #[true, true, true, true, true, false, false, false, false, false, false, false] [(2, .pointer (some ⟨B1, 0, none⟩)), (3, .pointer (some ⟨B2, 0, none⟩)), (4, .pointer (some ⟨B3, 0, none⟩)), (14, .agg #[.int .i64 (C : Int), .int .i64 (Rw : Int), .slice ra rods.length rc]), (18, .int .i64 0)] [As.one B3 (.cells #[.int .i64 0, .int .i64 0] 30 (0, 0)), As.one B2 (.cells #[.int .i64 reach] 3 (0, 0)), As.one B1 (.cells #[.int .i64 (C : Int), .int .i64 (Rw : Int), .slice ra rods.length rc] 28 (0, 0))] := by
    subst hF
    refine .step (l := [5, 9]) (by kernel_rfl) (by decide) ⟨.run rfl trivial ?_, .run rfl trivial ?_, trivial⟩
    · refine .c (.call rfl rfl fn_69) rfl rfl (fun own ho hd => told_ct _ hc (rods := rods) (SlR.up hr) hl hv hck hfit) ?_
      rintro _ _ ⟨F_5, M_5, ms_5, rfl, rfl, hf_5⟩
      exact .weak (.one rfl (.one rfl (.one rfl (.one rfl (.nil))))) (.refl _) (s1_63 F_5 M_5 ms_5 hf_5)
    · refine .n (.alloc zr_115) rfl rfl fun B_9 => ?_
      exact .weak (.one rfl (.one rfl (.one rfl (.one rfl (.one rfl (.one rfl (.nil))))))) (.refl _) (s1_543 B_9)
  have s1_527 : ∀ (B_9 : Nat), F 7 #[true, true, true, true, false, false, false, false, false, true, false, false] [(2, .pointer (some ⟨B1, 0, none⟩)), (3, .pointer (some ⟨B2, 0, none⟩)), (4, .pointer (some ⟨B3, 0, none⟩)), (6, .pointer (some ⟨B_9, 0, none⟩)), (14, .agg #[.int .i64 (C : Int), .int .i64 (Rw : Int), .slice ra rods.length rc]), (15, .agg #[.int .i64 (C : Int), .int .i64 (Rw : Int), .slice ra rods.length rc]), (16, .agg #[.int .i64 0, .int .i64 0]), (17, .int .i64 reach)] [As.one B_9 (.cells #[.pointer none] 115 (0, 0)), As.one B3 (.cells #[.int .i64 0, .int .i64 0] 30 (0, 0)), As.one B2 (.cells #[.int .i64 reach] 3 (0, 0)), As.one B1 (.cells #[.int .i64 (C : Int), .int .i64 (Rw : Int), .slice ra rods.length rc] 28 (0, 0))] := by
    intro B_9
    subst hF
    refine .step (l := [4]) (by kernel_rfl) (by decide) ⟨.run rfl trivial ?_, trivial⟩
    · refine .c (.call rfl rfl fn_122) rfl rfl (fun own ho hd => reach0_ct _ (a := ⟨0, 0⟩) (by omega) hct (by omega)) ?_
      rintro _ _ ⟨rfl, rfl⟩
      exact .weak (.one rfl (.one rfl (.one rfl (.one rfl (.one rfl (.one rfl (.nil))))))) (.refl _) (s1_543 B_9)
  have s1_542 : ∀ (B_9 : Nat), F 7 #[false, true, true, true, true, false, false, false, false, true, false, false] [(2, .pointer (some ⟨B1, 0, none⟩)), (3, .pointer (some ⟨B2, 0, none⟩)), (4, .pointer (some ⟨B3, 0, none⟩)), (6, .pointer (some ⟨B_9, 0, none⟩)), (18, .int .i64 0)] [As.one B_9 (.cells #[.pointer none] 115 (0, 0)), As.one B3 (.cells #[.int .i64 0, .int .i64 0] 30 (0, 0)), As.one B2 (.cells #[.int .i64 reach] 3 (0, 0)), As.one B1 (.cells #[.int .i64 (C : Int), .int .i64 (Rw : Int), .slice ra rods.length rc] 28 (0, 0))] := by
    intro B_9
    subst hF
    refine .step (l := [0]) (by kernel_rfl) (by decide) ⟨.run rfl trivial ?_, trivial⟩
    · refine .y (.load rfl (.own 3 rfl) ag_28 sz_28 rfl) rfl rfl ?_
      exact .weak (.one rfl (.one rfl (.one rfl (.one rfl (.one rfl (.one rfl (.nil))))))) (.refl _) (s1_543 B_9)
  have s1_15 : F 8 #[true, true, true, true, false, false, false, false, false, false, false, false] [(2, .pointer (some ⟨B1, 0, none⟩)), (3, .pointer (some ⟨B2, 0, none⟩)), (4, .pointer (some ⟨B3, 0, none⟩)), (14, .agg #[.int .i64 (C : Int), .int .i64 (Rw : Int), .slice ra rods.length rc]), (15, .agg #[.int .i64 (C : Int), .int .i64 (Rw : Int), .slice ra rods.length rc]), (16, .agg #[.int .i64 0, .int .i64 0]), (17, .int .i64 reach)] [As.one B3 (.cells #[.int .i64 0, .int .i64 0] 30 (0, 0)), As.one B2 (.cells #[.int .i64 reach] 3 (0, 0)), As.one B1 (.cells #[.int .i64 (C : Int), .int .i64 (Rw : Int), .slice ra rods.length rc] 28 (0, 0))] := by
    subst hF
    refine .step (l := [4, 9]) (by kernel_rfl) (by decide) ⟨.run rfl trivial ?_, .run rfl trivial ?_, trivial⟩
    · refine .c (.call rfl rfl fn_122) rfl rfl (fun own ho hd => reach0_ct _ (a := ⟨0, 0⟩) (by omega) hct (by omega)) ?_
      rintro _ _ ⟨rfl, rfl⟩
      exact .weak (.one rfl (.one rfl (.one rfl (.one rfl (.one rfl (.nil)))))) (.refl _) (s1_31)
    · refine .n (.alloc zr_115) rfl rfl fun B_9 => ?_
      exact .weak (.one rfl (.one rfl (.one rfl (.one rfl (.one rfl (.one rfl (.one rfl (.one rfl (.nil))))))))) (.refl _) (s1_527 B_9)
  have s1_519 : ∀ (B_9 : Nat), F 8 #[true, true, true, false, false, false, false, false, false, true, false, false] [(2, .pointer (some ⟨B1, 0, none⟩)), (3, .pointer (some ⟨B2, 0, none⟩)), (4, .pointer (some ⟨B3, 0, none⟩)), (6, .pointer (some ⟨B_9, 0, none⟩)), (14, .agg #[.int .i64 (C : Int), .int .i64 (Rw : Int), .slice ra rods.length rc]), (15, .agg #[.int .i64 (C : Int), .int .i64 (Rw : Int), .slice ra rods.length rc]), (16, .agg #[.int .i64 0, .int .i64 0])] [As.one B_9 (.cells #[.pointer none] 115 (0, 0)), As.one B3 (.cells #[.int .i64 0, .int .i64 0] 30 (0, 0)), As.one B2 (.cells #[.int .i64 reach] 3 (0, 0)), As.one B1 (.cells #[.int .i64 (C : Int), .int .i64 (Rw : Int), .slice ra rods.length rc] 28 (0, 0))] := by
    intro B_9
    subst hF
    refine .step (l := [3]) (by kernel_rfl) (by decide) ⟨.run rfl trivial ?_, trivial⟩
    · refine .y (.load rfl (.own 2 rfl) ag_3 sz_3 rfl) rfl rfl ?_
      exact .weak (.one rfl (.one rfl (.one rfl (.one rfl (.one rfl (.one rfl (.one rfl (.one rfl (.nil))))))))) (.refl _) (s1_527 B_9)
  have s1_523 : ∀ (B_9 : Nat), F 8 #[true, true, false, true, false, false, false, false, false, true, false, false] [(2, .pointer (some ⟨B1, 0, none⟩)), (3, .pointer (some ⟨B2, 0, none⟩)), (4, .pointer (some ⟨B3, 0, none⟩)), (6, .pointer (some ⟨B_9, 0, none⟩)), (14, .agg #[.int .i64 (C : Int), .int .i64 (Rw : Int), .slice ra rods.length rc]), (15, .agg #[.int .i64 (C : Int), .int .i64 (Rw : Int), .slice ra rods.length rc]), (17, .int .i64 reach)] [As.one B_9 (.cells #[.pointer none] 115 (0, 0)), As.one B3 (.cells #[.int .i64 0, .int .i64 0] 30 (0, 0)), As.one B2 (.cells #[.int .i64 reach] 3 (0, 0)), As.one B1 (.cells #[.int .i64 (C : Int), .int .i64 (Rw : Int), .slice ra rods.length rc] 28 (0, 0))] := by
    intro B_9
    subst hF
    refine .step (l := [2]) (by kernel_rfl) (by decide) ⟨.run rfl trivial ?_, trivial⟩
    · refine .y (.build rfl pl_30 zr_30 rfl) rfl rfl ?_
      exact .weak (.one rfl (.one rfl (.one rfl (.one rfl (.one rfl (.one rfl (.one rfl (.one rfl (.nil))))))))) (.refl _) (s1_527 B_9)
  have s1_525 : ∀ (B_9 : Nat), F 8 #[true, false, true, true, false, false, false, false, false, true, false, false] [(2, .pointer (some ⟨B1, 0, none⟩)), (3, .pointer (some ⟨B2, 0, none⟩)), (4, .pointer (some ⟨B3, 0, none⟩)), (6, .pointer (some ⟨B_9, 0, none⟩)), (14, .agg #[.int .i64 (C : Int), .int .i64 (Rw : Int), .slice ra rods.length rc]), (16, .agg #[.int .i64 0, .int .i64 0]), (17, .int .i64 reach)] [As.one B_9 (.cells #[.pointer none] 115 (0, 0)), As.one B3 (.cells #[.int .i64 0, .int .i64 0] 30 (0, 0)), As.one B2 (.cells #[.int .i64 reach] 3 (0, 0)), As.one B1 (.cells #[.int .i64 (C : Int), .int .i64 (Rw : Int), .slice ra rods.length rc] 28 (0, 0))] := by
    intro B_9
    subst hF
    refine .step (l := [1]) (by kernel_rfl) (by decide) ⟨.run rfl trivial ?_, trivial⟩
    · refine .y (.load rfl (.own 3 rfl) ag_28 sz_28 rfl) rfl rfl ?_
      exact .weak (.one rfl (.one rfl (.one rfl (.one rfl (.one rfl (.one rfl (.one rfl (.one rfl (.nil))))))))) (.refl _) (s1_527 B_9)
  have s1_30 : F 8 #[false, true, true, true, true, false, false, false, false, false, false, false] [(2, .pointer (some ⟨B1, 0, none⟩)), (3, .pointer (some ⟨B2, 0, none⟩)), (4, .pointer (some ⟨B3, 0, none⟩)), (18, .int .i64 0)] [As.one B3 (.cells #[.int .i64 0, .int .i64 0] 30 (0, 0)), As.one B2 (.cells #[.int .i64 reach] 3 (0, 0)), As.one B1 (.cells #[.int .i64 (C : Int), .int .i64 (Rw : Int), .slice ra rods.length rc] 28 (0, 0))] := by
    subst hF
    refine .step (l := [0, 9]) (by kernel_rfl) (by decide) ⟨.run rfl trivial ?_, .run rfl trivial ?_, trivial⟩
    · refine .y (.load rfl (.own 2 rfl) ag_28 sz_28 rfl) rfl rfl ?_
      exact .weak (.one rfl (.one rfl (.one rfl (.one rfl (.one rfl (.nil)))))) (.refl _) (s1_31)
    · refine .n (.alloc zr_115) rfl rfl fun B_9 => ?_
      exact .weak (.one rfl (.one rfl (.one rfl (.one rfl (.one rfl (.nil)))))) (.refl _) (s1_542 B_9)
  have s1_526 : ∀ (B_9 : Nat), F 8 #[false, true, true, true, false, false, false, false, false, true, false, false] [(2, .pointer (some ⟨B1, 0, none⟩)), (3, .pointer (some ⟨B2, 0, none⟩)), (4, .pointer (some ⟨B3, 0, none⟩)), (6, .pointer (some ⟨B_9, 0, none⟩)), (15, .agg #[.int .i64 (C : Int), .int .i64 (Rw : Int), .slice ra rods.length rc]), (16, .agg #[.int .i64 0, .int .i64 0]), (17, .int .i64 reach)] [As.one B_9 (.cells #[.pointer none] 115 (0, 0)), As.one B3 (.cells #[.int .i64 0, .int .i64 0] 30 (0, 0)), As.one B2 (.cells #[.int .i64 reach] 3 (0, 0)), As.one B1 (.cells #[.int .i64 (C : Int), .int .i64 (Rw : Int), .slice ra rods.length rc] 28 (0, 0))] := by
    intro B_9
    subst hF
    refine .step (l := [0, 4]) (by kernel_rfl) (by decide) ⟨.run rfl trivial ?_, .run rfl trivial ?_, trivial⟩
    · refine .y (.load rfl (.own 3 rfl) ag_28 sz_28 rfl) rfl rfl ?_
      exact .weak (.one rfl (.one rfl (.one rfl (.one rfl (.one rfl (.one rfl (.one rfl (.one rfl (.nil))))))))) (.refl _) (s1_527 B_9)
    · refine .c (.call rfl rfl fn_122) rfl rfl (fun own ho hd => reach0_ct _ (a := ⟨0, 0⟩) (by omega) hct (by omega)) ?_
      rintro _ _ ⟨rfl, rfl⟩
      exact .weak (.one rfl (.one rfl (.one rfl (.one rfl (.one rfl (.nil)))))) (.refl _) (s1_542 B_9)
  have s1_7 : F 9 #[true, true, true, false, false, false, false, false, false, false, false, false] [(2, .pointer (some ⟨B1, 0, none⟩)), (3, .pointer (some ⟨B2, 0, none⟩)), (4, .pointer (some ⟨B3, 0, none⟩)), (14, .agg #[.int .i64 (C : Int), .int .i64 (Rw : Int), .slice ra rods.length rc]), (15, .agg #[.int .i64 (C : Int), .int .i64 (Rw : Int), .slice ra rods.length rc]), (16, .agg #[.int .i64 0, .int .i64 0])] [As.one B3 (.cells #[.int .i64 0, .int .i64 0] 30 (0, 0)), As.one B2 (.cells #[.int .i64 reach] 3 (0, 0)), As.one B1 (.cells #[.int .i64 (C : Int), .int .i64 (Rw : Int), .slice ra rods.length rc] 28 (0, 0))] := by
    subst hF
    refine .step (l := [3, 9]) (by kernel_rfl) (by decide) ⟨.run rfl trivial ?_, .run rfl trivial ?_, trivial⟩
    · refine .y (.load rfl (.own 1 rfl) ag_3 sz_3 rfl) rfl rfl ?_
      exact .weak (.one rfl (.one rfl (.one rfl (.one rfl (.one rfl (.one rfl (.one rfl (.nil)))))))) (.refl _) (s1_15)
    · refine .n (.alloc zr_115) rfl rfl fun B_9 => ?_
      exact .weak (.one rfl (.one rfl (.one rfl (.one rfl (.one rfl (.one rfl (.one rfl (.nil)))))))) (.refl _) (s1_519 B_9)
  have s1_11 : F 9 #[true, true, false, true, false, false, false, false, false, false, false, false] [(2, .pointer (some ⟨B1, 0, none⟩)), (3, .pointer (some ⟨B2, 0, none⟩)), (4, .pointer (some ⟨B3, 0, none⟩)), (14, .agg #[.int .i64 (C : Int), .int .i64 (Rw : Int), .slice ra rods.length rc]), (15, .agg #[.int .i64 (C : Int), .int .i64 (Rw : Int), .slice ra rods.length rc]), (17, .int .i64 reach)] [As.one B3 (.cells #[.int .i64 0, .int .i64 0] 30 (0, 0)), As.one B2 (.cells #[.int .i64 reach] 3 (0, 0)), As.one B1 (.cells #[.int .i64 (C : Int), .int .i64 (Rw : Int), .slice ra rods.length rc] 28 (0, 0))] := by
    subst hF
    refine .step (l := [2, 9]) (by kernel_rfl) (by decide) ⟨.run rfl trivial ?_, .run rfl trivial ?_, trivial⟩
    · refine .y (.build rfl pl_30 zr_30 rfl) rfl rfl ?_
      exact .weak (.one rfl (.one rfl (.one rfl (.one rfl (.one rfl (.one rfl (.one rfl (.nil)))))))) (.refl _) (s1_15)
    · refine .n (.alloc zr_115) rfl rfl fun B_9 => ?_
      exact .weak (.one rfl (.one rfl (.one rfl (.one rfl (.one rfl (.one rfl (.one rfl (.nil)))))))) (.refl _) (s1_523 B_9)
  have s1_515 : ∀ (B_9 : Nat), F 9 #[true, true, false, false, false, false, false, false, false, true, false, false] [(2, .pointer (some ⟨B1, 0, none⟩)), (3, .pointer (some ⟨B2, 0, none⟩)), (4, .pointer (some ⟨B3, 0, none⟩)), (6, .pointer (some ⟨B_9, 0, none⟩)), (14, .agg #[.int .i64 (C : Int), .int .i64 (Rw : Int), .slice ra rods.length rc]), (15, .agg #[.int .i64 (C : Int), .int .i64 (Rw : Int), .slice ra rods.length rc])] [As.one B_9 (.cells #[.pointer none] 115 (0, 0)), As.one B3 (.cells #[.int .i64 0, .int .i64 0] 30 (0, 0)), As.one B2 (.cells #[.int .i64 reach] 3 (0, 0)), As.one B1 (.cells #[.int .i64 (C : Int), .int .i64 (Rw : Int), .slice ra rods.length rc] 28 (0, 0))] := by
    intro B_9
    subst hF
    refine .step (l := [2, 3]) (by kernel_rfl) (by decide) ⟨.run rfl trivial ?_, .run rfl trivial ?_, trivial⟩
    · refine .y (.build rfl pl_30 zr_30 rfl) rfl rfl ?_
      exact .weak (.one rfl (.one rfl (.one rfl (.one rfl (.one rfl (.one rfl (.one rfl (.nil)))))))) (.refl _) (s1_519 B_9)
    · refine .y (.load rfl (.own 2 rfl) ag_3 sz_3 rfl) rfl rfl ?_
      exact .weak (.one rfl (.one rfl (.one rfl (.one rfl (.one rfl (.one rfl (.one rfl (.nil)))))))) (.refl _) (s1_523 B_9)
  have s1_13 : F 9 #[true, false, true, true, false, false, false, false, false, false, false, false] [(2, .pointer (some ⟨B1, 0, none⟩)), (3, .pointer (some ⟨B2, 0, none⟩)), (4, .pointer (some ⟨B3, 0, none⟩)), (14, .agg #[.int .i64 (C : Int), .int .i64 (Rw : Int), .slice ra rods.length rc]), (16, .agg #[.int .i64 0, .int .i64 0]), (17, .int .i64 reach)] [As.one B3 (.cells #[.int .i64 0, .int .i64 0] 30 (0, 0)), As.one B2 (.cells #[.int .i64 reach] 3 (0, 0)), As.one B1 (.cells #[.int .i64 (C : Int), .int .i64 (Rw : Int), .slice ra rods.length rc] 28 (0, 0))] := by
    subst hF
    refine .step (l := [1, 9]) (by kernel_rfl) (by decide) ⟨.run rfl trivial ?_, .run rfl trivial ?_, trivial⟩
    · refine .y (.load rfl (.own 2 rfl) ag_28 sz_28 rfl) rfl rfl ?_
      exact .weak (.one rfl (.one rfl (.one rfl (.one rfl (.one rfl (.one rfl (.one rfl (.nil)))))))) (.refl _) (s1_15)
    · refine .n (.alloc zr_115) rfl rfl fun B_9 => ?_
      exact .weak (.one rfl (.one rfl (.one rfl (.one rfl (.one rfl (.one rfl (.one rfl (.nil)))))))) (.refl _) (s1_525 B_9)
  have s1_517 : ∀ (B_9 : Nat), F 9 #[true, false, true, false, false, false, false, false, false, true, false, false] [(2, .pointer (some ⟨B1, 0, none⟩)), (3, .pointer (some ⟨B2, 0, none⟩)), (4, .pointer (some ⟨B3, 0, none⟩)), (6, .pointer (some ⟨B_9, 0, none⟩)), (14, .agg #[.int .i64 (C : Int), .int .i64 (Rw : Int), .slice ra rods.length rc]), (16, .agg #[.int .i64 0, .int .i64 0])] [As.one B_9 (.cells #[.pointer none] 115 (0, 0)), As.one B3 (.cells #[.int .i64 0, .int .i64 0] 30 (0, 0)), As.one B2 (.cells #[.int .i64 reach] 3 (0, 0)), As.one B1 (.cells #[.int .i64 (C : Int), .int .i64 (Rw : Int), .slice ra rods.length rc] 28 (0, 0))] := by
    intro B_9
    subst hF
    refine .step (l := [1, 3]) (by kernel_rfl) (by decide) ⟨.run rfl trivial ?_, .run rfl trivial ?_, trivial⟩
    · refine .y (.load rfl (.own 3 rfl) ag_28 sz_28 rfl) rfl rfl ?_
      exact .weak (.one rfl (.one rfl (.one rfl (.one rfl (.one rfl (.one rfl (.one rfl (.nil)))))))) (.refl _) (s1_519 B_9)
    · refine .y (.load rfl (.own 2 rfl) ag_3 sz_3 rfl) rfl rfl ?_
      exact .weak (.one rfl (.one rfl (.one rfl (.one rfl (.one rfl (.one rfl (.one rfl (.nil)))))))) (.refl _) (s1_525 B_9)
  have s1_521 : ∀ (B_9 : Nat), F 9 #[true, false, false, true, false, false, false, false, false, true, false, false] [(2, .pointer (some ⟨B1, 0, none⟩)), (3, .pointer (some ⟨B2, 0, none⟩)), (4, .pointer (some ⟨B3, 0, none⟩)), (6, .pointer (some ⟨B_9, 0, none⟩)), (14, .agg #[.int .i64 (C : Int), .int .i64 (Rw : Int), .slice ra rods.length rc]), (17, .int .i64 reach)] [As.one B_9 (.cells #[.pointer none] 115 (0, 0)), As.one B3 (.cells #[.int .i64 0, .int .i64 0] 30 (0, 0)), As.one B2 (.cells #[.int .i64 reach] 3 (0, 0)), As.one B1 (.cells #[.int .i64 (C : Int), .int .i64 (Rw : Int), .slice ra rods.length rc] 28 (0, 0))] := by
    intro B_9
    subst hF
    refine .step (l := [1, 2]) (by kernel_rfl) (by decide) ⟨.run rfl trivial ?_, .run rfl trivial ?_, trivial⟩
    · refine .y (.load rfl (.own 3 rfl) ag_28 sz_28 rfl) rfl rfl ?_
      exact .weak (.one rfl (.one rfl (.one rfl (.one rfl (.one rfl (.one rfl (.one rfl (.nil)))))))) (.refl _) (s1_523 B_9)
    · refine .y (.build rfl pl_30 zr_30 rfl) rfl rfl ?_
      exact .weak (.one rfl (.one rfl (.one rfl (.one rfl (.one rfl (.one rfl (.one rfl (.nil)))))))) (.refl _) (s1_525 B_9)
  have s1_14 : F 9 #[false, true, true, true, false, false, false, false, false, false, false, false] [(2, .pointer (some ⟨B1, 0, none⟩)), (3, .pointer (some ⟨B2, 0, none⟩)), (4, .pointer (some ⟨B3, 0, none⟩)), (15, .agg #[.int .i64 (C : Int), .int .i64 (Rw : Int), .slice ra rods.length rc]), (16, .agg #[.int .i64 0, .int .i64 0]), (17, .int .i64 reach)] [As.one B3 (.cells #[.int .i64 0, .int .i64 0] 30 (0, 0)), As.one B2 (.cells #[.int .i64 reach] 3 (0, 0)), As.one B1 (.cells #[.int .i64 (C : Int), .int .i64 (Rw : Int), .slice ra rods.length rc] 28 (0, 0))] := by
    subst hF
    refine .step (l := [0, 4, 9]) (by kernel_rfl) (by decide) ⟨.run rfl trivial ?_, .run rfl trivial ?_, .run rfl trivial ?_, trivial⟩
    · refine .y (.load rfl (.own 2 rfl) ag_28 sz_28 rfl) rfl rfl ?_
      exact .weak (.one rfl (.one rfl (.one rfl (.one rfl (.one rfl (.one rfl (.one rfl (.nil)))))))) (.refl _) (s1_15)
    · refine .c (.call rfl rfl fn_122) rfl rfl (fun own ho hd => reach0_ct _ (a := ⟨0, 0⟩) (by omega) hct (by omega)) ?_
      rintro _ _ ⟨rfl, rfl⟩
      exact .weak (.one rfl (.one rfl (.one rfl (.one rfl (.nil))))) (.refl _) (s1_30)
    · refine .n (.alloc zr_115) rfl rfl fun B_9 => ?_
      exact .weak (.one rfl (.one rfl (.one rfl (.one rfl (.one rfl (.one rfl (.one rfl (.nil)))))))) (.refl _) (s1_526 B_9)
  have s1_518 : ∀ (B_9 : Nat), F 9 #[false, true, true, false, false, false, false, false, false, true, false, false] [(2, .pointer (some ⟨B1, 0, none⟩)), (3, .pointer (some ⟨B2, 0, none⟩)), (4, .pointer (some ⟨B3, 0, none⟩)), (6, .pointer (some ⟨B_9, 0, none⟩)), (15, .agg #[.int .i64 (C : Int), .int .i64 (Rw : Int), .slice ra rods.length rc]), (16, .agg #[.int .i64 0, .int .i64 0])] [As.one B_9 (.cells #[.pointer none] 115 (0, 0)), As.one B3 (.cells #[.int .i64 0, .int .i64 0] 30 (0, 0)), As.one B2 (.cells #[.int .i64 reach] 3 (0, 0)), As.one B1 (.cells #[.int .i64 (C : Int), .int .i64 (Rw : Int), .slice ra rods.length rc] 28 (0, 0))] := by
    intro B_9
    subst hF
    refine .step (l := [0, 3]) (by kernel_rfl) (by decide) ⟨.run rfl trivial ?_, .run rfl trivial ?_, trivial⟩
    · refine .y (.load rfl (.own 3 rfl) ag_28 sz_28 rfl) rfl rfl ?_
      exact .weak (.one rfl (.one rfl (.one rfl (.one rfl (.one rfl (.one rfl (.one rfl (.nil)))))))) (.refl _) (s1_519 B_9)
    · refine .y (.load rfl (.own 2 rfl) ag_3 sz_3 rfl) rfl rfl ?_
      exact .weak (.one rfl (.one rfl (.one rfl (.one rfl (.one rfl (.one rfl (.one rfl (.nil)))))))) (.refl _) (s1_526 B_9)
  have s1_522 : ∀ (B_9 : Nat), F 9 #[false, true, false, true, false, false, false, false, false, true, false, false] [(2, .pointer (some ⟨B1, 0, none⟩)), (3, .pointer (some ⟨B2, 0, none⟩)), (4, .pointer (some ⟨B3, 0, none⟩)), (6, .pointer (some ⟨B_9, 0, none⟩)), (15, .agg #[.int .i64 (C : Int), .int .i64 (Rw : Int), .slice ra rods.length rc]), (17, .int .i64 reach)] [As.one B_9 (.cells #[.pointer none] 115 (0, 0)), As.one B3 (.cells #[.int .i64 0, .int .i64 0] 30 (0, 0)), As.one B2 (.cells #[.int .i64 reach] 3 (0, 0)), As.one B1 (.cells #[.int .i64 (C : Int), .int .i64 (Rw : Int), .slice ra rods.length rc] 28 (0, 0))] := by
    intro B_9
    subst hF
    refine .step (l := [0, 2]) (by kernel_rfl) (by decide) ⟨.run rfl trivial ?_, .run rfl trivial ?_, trivial⟩
    · refine .y (.load rfl (.own 3 rfl) ag_28 sz_28 rfl) rfl rfl ?_
      exact .weak (.one rfl (.one rfl (.one rfl (.one rfl (.one rfl (.one rfl (.one rfl (.nil)))))))) (.refl _) (s1_523 B_9)
    · refine .y (.build rfl pl_30 zr_30 rfl) rfl rfl ?_
      exact .weak (.one rfl (.one rfl (.one rfl (.one rfl (.one rfl (.one rfl (.one rfl (.nil)))))))) (.refl _) (s1_526 B_9)
  have s1_524 : ∀ (B_9 : Nat), F 9 #[false, false, true, true, false, false, false, false, false, true, false, false] [(2, .pointer (some ⟨B1, 0, none⟩)), (3, .pointer (some ⟨B2, 0, none⟩)), (4, .pointer (some ⟨B3, 0, none⟩)), (6, .pointer (some ⟨B_9, 0, none⟩)), (16, .agg #[.int .i64 0, .int .i64 0]), (17, .int .i64 reach)] [As.one B_9 (.cells #[.pointer none] 115 (0, 0)), As.one B3 (.cells #[.int .i64 0, .int .i64 0] 30 (0, 0)), As.one B2 (.cells #[.int .i64 reach] 3 (0, 0)), As.one B1 (.cells #[.int .i64 (C : Int), .int .i64 (Rw : Int), .slice ra rods.length rc] 28 (0, 0))] := by
    intro B_9
    subst hF
    refine .step (l := [0, 1]) (by kernel_rfl) (by decide) ⟨.run rfl trivial ?_, .run rfl trivial ?_, trivial⟩
    · refine .y (.load rfl (.own 3 rfl) ag_28 sz_28 rfl) rfl rfl ?_
      exact .weak (.one rfl (.one rfl (.one rfl (.one rfl (.one rfl (.one rfl (.one rfl (.nil)))))))) (.refl _) (s1_525 B_9)
    · refine .y (.load rfl (.own 3 rfl) ag_28 sz_28 rfl) rfl rfl ?_
      exact .weak (.one rfl (.one rfl (.one rfl (.one rfl (.one rfl (.one rfl (.one rfl (.nil)))))))) (.refl _) (s1_526 B_9)
  have s1_3 : F 10 #[true, true, false, false, false, false, false, false, false, false, false, false] [(2, .pointer (some ⟨B1, 0, none⟩)), (3, .pointer (some ⟨B2, 0, none⟩)), (4, .pointer (some ⟨B3, 0, none⟩)), (14, .agg #[.int .i64 (C : Int), .int .i64 (Rw : Int), .slice ra rods.length rc]), (15, .agg #[.int .i64 (C : Int), .int .i64 (Rw : Int), .slice ra rods.length rc])] [As.one B3 (.cells #[.int .i64 0, .int .i64 0] 30 (0, 0)), As.one B2 (.cells #[.int .i64 reach] 3 (0, 0)), As.one B1 (.cells #[.int .i64 (C : Int), .int .i64 (Rw : Int), .slice ra rods.length rc] 28 (0, 0))] := by
    subst hF
    refine .step (l := [2, 3, 9]) (by kernel_rfl) (by decide) ⟨.run rfl trivial ?_, .run rfl trivial ?_, .run rfl trivial ?_, trivial⟩
    · refine .y (.build rfl pl_30 zr_30 rfl) rfl rfl ?_
      exact .weak (.one rfl (.one rfl (.one rfl (.one rfl (.one rfl (.one rfl (.nil))))))) (.refl _) (s1_7)
    · refine .y (.load rfl (.own 1 rfl) ag_3 sz_3 rfl) rfl rfl ?_
      exact .weak (.one rfl (.one rfl (.one rfl (.one rfl (.one rfl (.one rfl (.nil))))))) (.refl _) (s1_11)
    · refine .n (.alloc zr_115) rfl rfl fun B_9 => ?_
      exact .weak (.one rfl (.one rfl (.one rfl (.one rfl (.one rfl (.one rfl (.nil))))))) (.refl _) (s1_515 B_9)
  have s1_5 : F 10 #[true, false, true, false, false, false, false, false, false, false, false, false] [(2, .pointer (some ⟨B1, 0, none⟩)), (3, .pointer (some ⟨B2, 0, none⟩)), (4, .pointer (some ⟨B3, 0, none⟩)), (14, .agg #[.int .i64 (C : Int), .int .i64 (Rw : Int), .slice ra rods.length rc]), (16, .agg #[.int .i64 0, .int .i64 0])] [As.one B3 (.cells #[.int .i64 0, .int .i64 0] 30 (0, 0)), As.one B2 (.cells #[.int .i64 reach] 3 (0, 0)), As.one B1 (.cells #[.int .i64 (C : Int), .int .i64 (Rw : Int), .slice ra rods.length rc] 28 (0, 0))] := by
    subst hF
    refine .step (l := [1, 3, 9]) (by kernel_rfl) (by decide) ⟨.run rfl trivial ?_, .run rfl trivial ?_, .run rfl trivial ?_, trivial⟩
    · refine .y (.load rfl (.own 2 rfl) ag_28 sz_28 rfl) rfl rfl ?_
      exact .weak (.one rfl (.one rfl (.one rfl (.one rfl (.one rfl (.one rfl (.nil))))))) (.refl _) (s1_7)
    · refine .y (.load rfl (.own 1 rfl) ag_3 sz_3 rfl) rfl rfl ?_
      exact .weak (.one rfl (.one rfl (.one rfl (.one rfl (.one rfl (.one rfl (.nil))))))) (.refl _) (s1_13)
    · refine .n (.alloc zr_115) rfl rfl fun B_9 => ?_
      exact .weak (.one rfl (.one rfl (.one rfl (.one rfl (.one rfl (.one rfl (.nil))))))) (.refl _) (s1_517 B_9)
  have s1_9 : F 10 #[true, false, false, true, false, false, false, false, false, false, false, false] [(2, .pointer (some ⟨B1, 0, none⟩)), (3, .pointer (some ⟨B2, 0, none⟩)), (4, .pointer (some ⟨B3, 0, none⟩)), (14, .agg #[.int .i64 (C : Int), .int .i64 (Rw : Int), .slice ra rods.length rc]), (17, .int .i64 reach)] [As.one B3 (.cells #[.int .i64 0, .int .i64 0] 30 (0, 0)), As.one B2 (.cells #[.int .i64 reach] 3 (0, 0)), As.one B1 (.cells #[.int .i64 (C : Int), .int .i64 (Rw : Int), .slice ra rods.length rc] 28 (0, 0))] := by
    subst hF
    refine .step (l := [1, 2, 9]) (by kernel_rfl) (by decide) ⟨.run rfl trivial ?_, .run rfl trivial ?_, .run rfl trivial ?_, trivial⟩
    · refine .y (.load rfl (.own 2 rfl) ag_28 sz_28 rfl) rfl rfl ?_
      exact .weak (.one rfl (.one rfl (.one rfl (.one rfl (.one rfl (.one rfl (.nil))))))) (.refl _) (s1_11)
    · refine .y (.build rfl pl_30 zr_30 rfl) rfl rfl ?_
      exact .weak (.one rfl (.one rfl (.one rfl (.one rfl (.one rfl (.one rfl (.nil))))))) (.refl _) (s1_13)
    · refine .n (.alloc zr_115) rfl rfl fun B_9 => ?_
      exact .weak (.one rfl (.one rfl (.one rfl (.one rfl (.one rfl (.one rfl (.nil))))))) (.refl _) (s1_521 B_9)
  have s1_513 : ∀ (B_9 : Nat), F 10 #[true, false, false, false, false, false, false, false, false, true, false, false] [(2, .pointer (some ⟨B1, 0, none⟩)), (3, .pointer (some ⟨B2, 0, none⟩)), (4, .pointer (some ⟨B3, 0, none⟩)), (6, .pointer (some ⟨B_9, 0, none⟩)), (14, .agg #[.int .i64 (C : Int), .int .i64 (Rw : Int), .slice ra rods.length rc])] [As.one B_9 (.cells #[.pointer none] 115 (0, 0)), As.one B3 (.cells #[.int .i64 0, .int .i64 0] 30 (0, 0)), As.one B2 (.cells #[.int .i64 reach] 3 (0, 0)), As.one B1 (.cells #[.int .i64 (C : Int), .int .i64 (Rw : Int), .slice ra rods.length rc] 28 (0, 0))] := by
    intro B_9
    subst hF
    refine .step (l := [1, 2, 3]) (by kernel_rfl) (by decide) ⟨.run rfl trivial ?_, .run rfl trivial ?_, .run rfl trivial ?_, trivial⟩
    · refine .y (.load rfl (.own 3 rfl) ag_28 sz_28 rfl) rfl rfl ?_
      exact .weak (.one rfl (.one rfl (.one rfl (.one rfl (.one rfl (.one rfl (.nil))))))) (.refl _) (s1_515 B_9)
    · refine .y (.build rfl pl_30 zr_30 rfl) rfl rfl ?_
      exact .weak (.one rfl (.one rfl (.one rfl (.one rfl (.one rfl (.one rfl (.nil))))))) (.refl _) (s1_517 B_9)
    · refine .y (.load rfl (.own 2 rfl) ag_3 sz_3 rfl) rfl rfl ?_
      exact .weak (.one rfl (.one rfl (.one rfl (.one rfl (.one rfl (.one rfl (.nil))))))) (.refl _) (s1_521 B_9)
  have s1_6 : F 10 #[false, true, true, false, false, false, false, false, false, false, false, false] [(2, .pointer (some ⟨B1, 0, none⟩)), (3, .pointer (some ⟨B2, 0, none⟩)), (4, .pointer (some ⟨B3, 0, none⟩)), (15, .agg #[.int .i64 (C : Int), .int .i64 (Rw : Int), .slice ra rods.length rc]), (16, .agg #[.int .i64 0, .int .i64 0])] [As.one B3 (.cells #[.int .i64 0, .int .i64 0] 30 (0, 0)), As.one B2 (.cells #[.int .i64 reach] 3 (0, 0)), As.one B1 (.cells #[.int .i64 (C : Int), .int .i64 (Rw : Int), .slice ra rods.length rc] 28 (0, 0))] := by
    subst hF
    refine .step (l := [0, 3, 9]) (by kernel_rfl) (by decide) ⟨.run rfl trivial ?_, .run rfl trivial ?_, .run rfl trivial ?_, trivial⟩
    · refine .y (.load rfl (.own 2 rfl) ag_28 sz_28 rfl) rfl rfl ?_
      exact .weak (.one rfl (.one rfl (.one rfl (.one rfl (.one rfl (.one rfl (.nil))))))) (.refl _) (s1_7)
    · refine .y (.load rfl (.own 1 rfl) ag_3 sz_3 rfl) rfl rfl ?_
      exact .weak (.one rfl (.one rfl (.one rfl (.one rfl (.one rfl (.one rfl (.nil))))))) (.refl _) (s1_14)
    · refine .n (.alloc zr_115) rfl rfl fun B_9 => ?_
      exact .weak (.one rfl (.one rfl (.one rfl (.one rfl (.one rfl (.one rfl (.nil))))))) (.refl _) (s1_518 B_9)
  have s1_10 : F 10 #[false, true, false, true, false, false, false, false, false, false, false, false] [(2, .pointer (some ⟨B1, 0, none⟩)), (3, .pointer (some ⟨B2, 0, none⟩)), (4, .pointer (some ⟨B3, 0, none⟩)), (15, .agg #[.int .i64 (C : Int), .int .i64 (Rw : Int), .slice ra rods.length rc]), (17, .int .i64 reach)] [As.one B3 (.cells #[.int .i64 0, .int .i64 0] 30 (0, 0)), As.one B2 (.cells #[.int .i64 reach] 3 (0, 0)), As.one B1 (.cells #[.int .i64 (C : Int), .int .i64 (Rw : Int), .slice ra rods.length rc] 28 (0, 0))] := by
    subst hF
    refine .step (l := [0, 2, 9]) (by kernel_rfl) (by decide) ⟨.run rfl trivial ?_, .run rfl trivial ?_, .run rfl trivial ?_, trivial⟩
    · refine .y (.load rfl (.own 2 rfl) ag_28 sz_28 rfl) rfl rfl ?_
      exact .weak (.one rfl (.one rfl (.one rfl (.one rfl (.one rfl (.one rfl (.nil))))))) (.refl _) (s1_11)
    · refine .y (.build rfl pl_30 zr_30 rfl) rfl rfl ?_
      exact .weak (.one rfl (.one rfl (.one rfl (.one rfl (.one rfl (.one rfl (.nil))))))) (.refl _) (s1_14)
    · refine .n (.alloc zr_115) rfl rfl fun B_9 => ?_
      exact .weak (.one rfl (.one rfl (.one rfl (.one rfl (.one rfl (.one rfl (.nil))))))) (.refl _) (s1_522 B_9)
  have s1_514 : ∀ (B_9 : Nat), F 10 #[false, true, false, false, false, false, false, false, false, true, false, false] [(2, .pointer (some ⟨B1, 0, none⟩)), (3, .pointer (some ⟨B2, 0, none⟩)), (4, .pointer (some ⟨B3, 0, none⟩)), (6, .pointer (some ⟨B_9, 0, none⟩)), (15, .agg #[.int .i64 (C : Int), .int .i64 (Rw : Int), .slice ra rods.length rc])] [As.one B_9 (.cells #[.pointer none] 115 (0, 0)), As.one B3 (.cells #[.int .i64 0, .int .i64 0] 30 (0, 0)), As.one B2 (.cells #[.int .i64 reach] 3 (0, 0)), As.one B1 (.cells #[.int .i64 (C : Int), .int .i64 (Rw : Int), .slice ra rods.length rc] 28 (0, 0))] := by
    intro B_9
    subst hF
    refine .step (l := [0, 2, 3]) (by kernel_rfl) (by decide) ⟨.run rfl trivial ?_, .run rfl trivial ?_, .run rfl trivial ?_, trivial⟩
    · refine .y (.load rfl (.own 3 rfl) ag_28 sz_28 rfl) rfl rfl ?_
      exact .weak (.one rfl (.one rfl (.one rfl (.one rfl (.one rfl (.one rfl (.nil))))))) (.refl _) (s1_515 B_9)
    · refine .y (.build rfl pl_30 zr_30 rfl) rfl rfl ?_
      exact .weak (.one rfl (.one rfl (.one rfl (.one rfl (.one rfl (.one rfl (.nil))))))) (.refl _) (s1_518 B_9)
    · refine .y (.load rfl (.own 2 rfl) ag_3 sz_3 rfl) rfl rfl ?_
      exact .weak (.one rfl (.one rfl (.one rfl (.one rfl (.one rfl (.one rfl (.nil))))))) (.refl _) (s1_522 B_9)
  have s1_12 : F 10 #[false, false, true, true, false, false, false, false, false, false, false, false] [(2, .pointer (some ⟨B1, 0, none⟩)), (3, .pointer (some ⟨B2, 0, none⟩)), (4, .pointer (some ⟨B3, 0, none⟩)), (16, .agg #[.int .i64 0, .int .i64 0]), (17, .int .i64 reach)] [As.one B3 (.cells #[.int .i64 0, .int .i64 0] 30 (0, 0)), As.one B2 (.cells #[.int .i64 reach] 3 (0, 0)), As.one B1 (.cells #[.int .i64 (C : Int), .int .i64 (Rw : Int), .slice ra rods.length rc] 28 (0, 0))] := by
    subst hF
    refine .step (l := [0, 1, 9]) (by kernel_rfl) (by decide) ⟨.run rfl trivial ?_, .run rfl trivial ?_, .run rfl trivial ?_, trivial⟩
    · refine .y (.load rfl (.own 2 rfl) ag_28 sz_28 rfl) rfl rfl ?_
      exact .weak (.one rfl (.one rfl (.one rfl (.one rfl (.one rfl (.one rfl (.nil))))))) (.refl _) (s1_13)
    · refine .y (.load rfl (.own 2 rfl) ag_28 sz_28 rfl) rfl rfl ?_
      exact .weak (.one rfl (.one rfl (.one rfl (.one rfl (.one rfl (.one rfl (.nil))))))) (.refl _) (s1_14)
    · refine .n (.alloc zr_115) rfl rfl fun B_9 => ?_
      exact .weak (.one rfl (.one rfl (.one rfl (.one rfl (.one rfl (.one rfl (.nil))))))) (.refl _) (s1_524 B_9)
  have s1_516 : ∀ (B_9 : Nat), F 10 #[false, false, true, false, false, false, false, false, false, true, false, false] [(2, .pointer (some ⟨B1, 0, none⟩)), (3, .pointer (some ⟨B2, 0, none⟩)), (4, .pointer (some ⟨B3, 0, none⟩)), (6, .pointer (some ⟨B_9, 0, none⟩)), (16, .agg #[.int .i64 0, .int .i64 0])] [As.one B_9 (.cells #[.pointer none] 115 (0, 0)), As.one B3 (.cells #[.int .i64 0, .int .i64 0] 30 (0, 0)), As.one B2 (.cells #[.int .i64 reach] 3 (0, 0)), As.one B1 (.cells #[.int .i64 (C : Int), .int .i64 (Rw : Int), .slice ra rods.length rc] 28 (0, 0))] := by
    intro B_9
    subst hF
    refine .step (l := [0, 1, 3]) (by kernel_rfl) (by decide) ⟨.run rfl trivial ?_, .run rfl trivial ?_, .run rfl trivial ?_, trivial⟩
    · refine .y (.load rfl (.own 3 rfl) ag_28 sz_28 rfl) rfl rfl ?_
      exact .weak (.one rfl (.one rfl (.one rfl (.one rfl (.one rfl (.one rfl (.nil))))))) (.refl _) (s1_517 B_9)
    · refine .y (.load rfl (.own 3 rfl) ag_28 sz_28 rfl) rfl rfl ?_
      exact .weak (.one rfl (.one rfl (.one rfl (.one rfl (.one rfl (.one rfl (.nil))))))) (.refl _) (s1_518 B_9)
    · refine .y (.load rfl (.own 2 rfl) ag_3 sz_3 rfl) rfl rfl ?_
      exact .weak (.one rfl (.one rfl (.one rfl (.one rfl (.one rfl (.one rfl (.nil))))))) (.refl _) (s1_524 B_9)
  have s1_520 : ∀ (B_9 : Nat), F 10 #[false, false, false, true, false, false, false, false, false, true, false, false] [(2, .pointer (some ⟨B1, 0, none⟩)), (3, .pointer (some ⟨B2, 0, none⟩)), (4, .pointer (some ⟨B3, 0, none⟩)), (6, .pointer (some ⟨B_9, 0, none⟩)), (17, .int .i64 reach)] [As.one B_9 (.cells #[.pointer none] 115 (0, 0)), As.one B3 (.cells #[.int .i64 0, .int .i64 0] 30 (0, 0)), As.one B2 (.cells #[.int .i64 reach] 3 (0, 0)), As.one B1 (.cells #[.int .i64 (C : Int), .int .i64 (Rw : Int), .slice ra rods.length rc] 28 (0, 0))] := by
    intro B_9
    subst hF
    refine .step (l := [0, 1, 2]) (by kernel_rfl) (by decide) ⟨.run rfl trivial ?_, .run rfl trivial ?_, .run rfl trivial ?_, trivial⟩
    · refine .y (.load rfl (.own 3 rfl) ag_28 sz_28 rfl) rfl rfl ?_
      exact .weak (.one rfl (.one rfl (.one rfl (.one rfl (.one rfl (.one rfl (.nil))))))) (.refl _) (s1_521 B_9)
    · refine .y (.load rfl (.own 3 rfl) ag_28 sz_28 rfl) rfl rfl ?_
      exact .weak (.one rfl (.one rfl (.one rfl (.one rfl (.one rfl (.one rfl (.nil))))))) (.refl _) (s1_522 B_9)
    · refine .y (.build rfl pl_30 zr_30 rfl) rfl rfl ?_
      exact .weak (.one rfl (.one rfl (.one rfl (.one rfl (.one rfl (.one rfl (.nil))))))) (.refl _) (s1_524 B_9)
  have s1_1 : F 11 #[true, false, false, false, false, false, false, false, false, false, false, false] [(2, .pointer (some ⟨B1, 0, none⟩)), (3, .pointer (some ⟨B2, 0, none⟩)), (4, .pointer (some ⟨B3, 0, none⟩)), (14, .agg #[.int .i64 (C : Int), .int .i64 (Rw : Int), .slice ra rods.length rc])] [As.one B3 (.cells #[.int .i64 0, .int .i64 0] 30 (0, 0)), As.one B2 (.cells #[.int .i64 reach] 3 (0, 0)), As.one B1 (.cells #[.int .i64 (C : Int), .int .i64 (Rw : Int), .slice ra rods.length rc] 28 (0, 0))] := by
    subst hF
    refine .step (l := [1, 2, 3, 9]) (by kernel_rfl) (by decide) ⟨.run rfl trivial ?_, .run rfl trivial ?_, .run rfl trivial ?_, .run rfl trivial ?_, trivial⟩
    · refine .y (.load rfl (.own 2 rfl) ag_28 sz_28 rfl) rfl rfl ?_
      exact .weak (.one rfl (.one rfl (.one rfl (.one rfl (.one rfl (.nil)))))) (.refl _) (s1_3)
    · refine .y (.build rfl pl_30 zr_30 rfl) rfl rfl ?_
      exact .weak (.one rfl (.one rfl (.one rfl (.one rfl (.one rfl (.nil)))))) (.refl _) (s1_5)
    · refine .y (.load rfl (.own 1 rfl) ag_3 sz_3 rfl) rfl rfl ?_
      exact .weak (.one rfl (.one rfl (.one rfl (.one rfl (.one rfl (.nil)))))) (.refl _) (s1_9)
    · refine .n (.alloc zr_115) rfl rfl fun B_9 => ?_
      exact .weak (.one rfl (.one rfl (.one rfl (.one rfl (.one rfl (.nil)))))) (.refl _) (s1_513 B_9)
  have s1_2 : F 11 #[false, true, false, false, false, false, false, false, false, false, false, false] [(2, .pointer (some ⟨B1, 0, none⟩)), (3, .pointer (some ⟨B2, 0, none⟩)), (4, .pointer (some ⟨B3, 0, none⟩)), (15, .agg #[.int .i64 (C : Int), .int .i64 (Rw : Int), .slice ra rods.length rc])] [As.one B3 (.cells #[.int .i64 0, .int .i64 0] 30 (0, 0)), As.one B2 (.cells #[.int .i64 reach] 3 (0, 0)), As.one B1 (.cells #[.int .i64 (C : Int), .int .i64 (Rw : Int), .slice ra rods.length rc] 28 (0, 0))] := by
    subst hF
    refine .step (l := [0, 2, 3, 9]) (by kernel_rfl) (by decide) ⟨.run rfl trivial ?_, .run rfl trivial ?_, .run rfl trivial ?_, .run rfl trivial ?_, trivial⟩
    · refine .y (.load rfl (.own 2 rfl) ag_28 sz_28 rfl) rfl rfl ?_
      exact .weak (.one rfl (.one rfl (.one rfl (.one rfl (.one rfl (.nil)))))) (.refl _) (s1_3)
    · refine .y (.build rfl pl_30 zr_30 rfl) rfl rfl ?_
      exact .weak (.one rfl (.one rfl (.one rfl (.one rfl (.one rfl (.nil)))))) (.refl _) (s1_6)
    · refine .y (.load rfl (.own 1 rfl) ag_3 sz_3 rfl) rfl rfl ?_
      exact .weak (.one rfl (.one rfl (.one rfl (.one rfl (.one rfl (.nil)))))) (.refl _) (s1_10)
    · refine .n (.alloc zr_115) rfl rfl fun B_9 => ?_
      exact .weak (.one rfl (.one rfl (.one rfl (.one rfl (.one rfl (.nil)))))) (.refl _) (s1_514 B_9)
  have s1_4 : F 11 #[false, false, true, false, false, false, false, false, false, false, false, false] [(2, .pointer (some ⟨B1, 0, none⟩)), (3, .pointer (some ⟨B2, 0, none⟩)), (4, .pointer (some ⟨B3, 0, none⟩)), (16, .agg #[.int .i64 0, .int .i64 0])] [As.one B3 (.cells #[.int .i64 0, .int .i64 0] 30 (0, 0)), As.one B2 (.cells #[.int .i64 reach] 3 (0, 0)), As.one B1 (.cells #[.int .i64 (C : Int), .int .i64 (Rw : Int), .slice ra rods.length rc] 28 (0, 0))] := by
    subst hF
    refine .step (l := [0, 1, 3, 9]) (by kernel_rfl) (by decide) ⟨.run rfl trivial ?_, .run rfl trivial ?_, .run rfl trivial ?_, .run rfl trivial ?_, trivial⟩
    · refine .y (.load rfl (.own 2 rfl) ag_28 sz_28 rfl) rfl rfl ?_
      exact .weak (.one rfl (.one rfl (.one rfl (.one rfl (.one rfl (.nil)))))) (.refl _) (s1_5)
    · refine .y (.load rfl (.own 2 rfl) ag_28 sz_28 rfl) rfl rfl ?_
      exact .weak (.one rfl (.one rfl (.one rfl (.one rfl (.one rfl (.nil)))))) (.refl _) (s1_6)
    · refine .y (.load rfl (.own 1 rfl) ag_3 sz_3 rfl) rfl rfl ?_
      exact .weak (.one rfl (.one rfl (.one rfl (.one rfl (.one rfl (.nil)))))) (.refl _) (s1_12)
    · refine .n (.alloc zr_115) rfl rfl fun B_9 => ?_
      exact .weak (.one rfl (.one rfl (.one rfl (.one rfl (.one rfl (.nil)))))) (.refl _) (s1_516 B_9)
  have s1_8 : F 11 #[false, false, false, true, false, false, false, false, false, false, false, false] [(2, .pointer (some ⟨B1, 0, none⟩)), (3, .pointer (some ⟨B2, 0, none⟩)), (4, .pointer (some ⟨B3, 0, none⟩)), (17, .int .i64 reach)] [As.one B3 (.cells #[.int .i64 0, .int .i64 0] 30 (0, 0)), As.one B2 (.cells #[.int .i64 reach] 3 (0, 0)), As.one B1 (.cells #[.int .i64 (C : Int), .int .i64 (Rw : Int), .slice ra rods.length rc] 28 (0, 0))] := by
    subst hF
    refine .step (l := [0, 1, 2, 9]) (by kernel_rfl) (by decide) ⟨.run rfl trivial ?_, .run rfl trivial ?_, .run rfl trivial ?_, .run rfl trivial ?_, trivial⟩
    · refine .y (.load rfl (.own 2 rfl) ag_28 sz_28 rfl) rfl rfl ?_
      exact .weak (.one rfl (.one rfl (.one rfl (.one rfl (.one rfl (.nil)))))) (.refl _) (s1_9)
    · refine .y (.load rfl (.own 2 rfl) ag_28 sz_28 rfl) rfl rfl ?_
      exact .weak (.one rfl (.one rfl (.one rfl (.one rfl (.one rfl (.nil)))))) (.refl _) (s1_10)
    · refine .y (.build rfl pl_30 zr_30 rfl) rfl rfl ?_
      exact .weak (.one rfl (.one rfl (.one rfl (.one rfl (.one rfl (.nil)))))) (.refl _) (s1_12)
    · refine .n (.alloc zr_115) rfl rfl fun B_9 => ?_
      exact .weak (.one rfl (.one rfl (.one rfl (.one rfl (.one rfl (.nil)))))) (.refl _) (s1_520 B_9)
  have s1_512 : ∀ (B_9 : Nat), F 11 #[false, false, false, false, false, false, false, false, false, true, false, false] [(2, .pointer (some ⟨B1, 0, none⟩)), (3, .pointer (some ⟨B2, 0, none⟩)), (4, .pointer (some ⟨B3, 0, none⟩)), (6, .pointer (some ⟨B_9, 0, none⟩))] [As.one B_9 (.cells #[.pointer none] 115 (0, 0)), As.one B3 (.cells #[.int .i64 0, .int .i64 0] 30 (0, 0)), As.one B2 (.cells #[.int .i64 reach] 3 (0, 0)), As.one B1 (.cells #[.int .i64 (C : Int), .int .i64 (Rw : Int), .slice ra rods.length rc] 28 (0, 0))] := by
    intro B_9
    subst hF
    refine .step (l := [0, 1, 2, 3]) (by kernel_rfl) (by decide) ⟨.run rfl trivial ?_, .run rfl trivial ?_, .run rfl trivial ?_, .run rfl trivial ?_, trivial⟩
    · refine .y (.load rfl (.own 3 rfl) ag_28 sz_28 rfl) rfl rfl ?_
      exact .weak (.one rfl (.one rfl (.one rfl (.one rfl (.one rfl (.nil)))))) (.refl _) (s1_513 B_9)
    · refine .y (.load rfl (.own 3 rfl) ag_28 sz_28 rfl) rfl rfl ?_
      exact .weak (.one rfl (.one rfl (.one rfl (.one rfl (.one rfl (.nil)))))) (.refl _) (s1_514 B_9)
    · refine .y (.build rfl pl_30 zr_30 rfl) rfl rfl ?_
      exact .weak (.one rfl (.one rfl (.one rfl (.one rfl (.one rfl (.nil)))))) (.refl _) (s1_516 B_9)
    · refine .y (.load rfl (.own 2 rfl) ag_3 sz_3 rfl) rfl rfl ?_
      exact .weak (.one rfl (.one rfl (.one rfl (.one rfl (.one rfl (.nil)))))) (.refl _) (s1_520 B_9)
  have s1_0 : F 12 #[false, false, false, false, false, false, false, false, false, false, false, false] [(2, .pointer (some ⟨B1, 0, none⟩)), (3, .pointer (some ⟨B2, 0, none⟩)), (4, .pointer (some ⟨B3, 0, none⟩))] [As.one B3 (.cells #[.int .i64 0, .int .i64 0] 30 (0, 0)), As.one B2 (.cells #[.int .i64 reach] 3 (0, 0)), As.one B1 (.cells #[.int .i64 (C : Int), .int .i64 (Rw : Int), .slice ra rods.length rc] 28 (0, 0))] := by
    subst hF
    refine .step (l := [0, 1, 2, 3, 9]) (by kernel_rfl) (by decide) ⟨.run rfl trivial ?_, .run rfl trivial ?_, .run rfl trivial ?_, .run rfl trivial ?_, .run rfl trivial ?_, trivial⟩
    · refine .y (.load rfl (.own 2 rfl) ag_28 sz_28 rfl) rfl rfl ?_
      exact .weak (.one rfl (.one rfl (.one rfl (.one rfl (.nil))))) (.refl _) (s1_1)
    · refine .y (.load rfl (.own 2 rfl) ag_28 sz_28 rfl) rfl rfl ?_
      exact .weak (.one rfl (.one rfl (.one rfl (.one rfl (.nil))))) (.refl _) (s1_2)
    · refine .y (.build rfl pl_30 zr_30 rfl) rfl rfl ?_
      exact .weak (.one rfl (.one rfl (.one rfl (.one rfl (.nil))))) (.refl _) (s1_4)
    · refine .y (.load rfl (.own 1 rfl) ag_3 sz_3 rfl) rfl rfl ?_
      exact .weak (.one rfl (.one rfl (.one rfl (.one rfl (.nil))))) (.refl _) (s1_8)
    · refine .n (.alloc zr_115) rfl rfl fun B_9 => ?_
      exact .weak (.one rfl (.one rfl (.one rfl (.one rfl (.nil))))) (.refl _) (s1_512 B_9)
  subst hF; exact .weak (.one rfl (.one rfl (.one rfl (.nil)))) (.refl _) s1_0
theorem sets_ct (g : Hp) {F : Nat} : Ct Tryz.prog 79 [.pointer (some ⟨F, 0, none⟩)].toArray g [] (fun v rs => ∃ (B : Nat), v = .func (.func 134) #[] #[.pointer (some ⟨B, 0, none⟩)] ∧ rs = [As.one B (.cells #[.pointer (some ⟨F, 0, none⟩)] 115 (0, 0))]) := by
  refine Ct.of_body (N := 4) (l := [.pointer (some ⟨F, 0, none⟩)]) Tryz.func79 rfl rfl (Nat.le_of_ble_eq_true rfl) fun n0 => ?_
  refine .seq ?_
  refine .region ?_
  refine .n (.box rfl) trivial rfl rfl fun B1 => ?_
  refine .y (.assign rfl) trivial rfl rfl ?_
  refine .nil ?_
  refine .seq ?_
  refine .region ?_
  refine .y (.makeFunc rfl rfl) trivial rfl rfl ?_
  refine .y (.assign rfl) trivial rfl rfl ?_
  refine .nil ?_
  refine .ret ?_
  refine ⟨.inr rfl, _, _, (.pick 0 rfl (.nil _)), fun own' ho => .one rfl rfl, ?_⟩
  exact ⟨_, rfl, rfl⟩
theorem sets1_it (g : Hp) {C Rw : Nat} {ra : Option Addr} {rn rc : Nat} {top : List Int} {F M : Nat} {ms : List (Cell × Nat)} {rods : List Rod} {B : Nat} (hB : g B = some (.cells #[.pointer (some ⟨F, 0, none⟩)] 115 (0, 0))) (hc : 1 ≤ C ∧ C ≤ 5 ∧ 1 ≤ Rw ∧ Rw ≤ 5) (hF : g F = some (.cells (fieldC C Rw ra rn rc top M).toArray 124 (0, 0))) (hM : MapR vN g M ms) (ht : top.length = 25) (hx : ExpOk C Rw rods top (C * Rw) 0 ms) : It Tryz.prog 134 [.pointer (some ⟨B, 0, none⟩)].toArray g (C * Rw) (fun k => [.int .i64 (setE C rods top k)].toArray) := by
  intro l R Rx hY
  refine (Ct.of_body (N := 21) (l := [.func (.yield l) #[] #[], .pointer (some ⟨B, 0, none⟩)]) (rs := [R 0]) Tryz.func134 rfl rfl (Nat.le_of_ble_eq_true rfl) fun n0 => ?_ : Ct Tryz.prog 134 [.func (.yield l) #[] #[], .pointer (some ⟨B, 0, none⟩)].toArray g [R 0] _)
  refine .seq ?_
  refine .region ?_
  refine .n (.box rfl) trivial rfl rfl fun B1 => ?_
  refine .nil ?_
  refine .seq ?_
  refine .region ?_
  refine .y (.load rfl (.g hB) ag_115 sz_115 rfl) trivial rfl rfl ?_
  refine .y (.nilCheck rfl) trivial rfl rfl ?_
  refine .y (.fieldAddr rfl fl_124_0) trivial rfl rfl ?_
  refine .y (.load rfl (.g hF) ag_28 sz_28 rdF_bin) trivial rfl rfl ?_
  refine .c (.call rfl rfl fn_52) trivial rfl rfl (fun own ho hd => cells_ct _ ) ?_
  rintro _ _ ⟨B2, rfl, rfl⟩
  refine .nil ?_
  refine .block ?_
  refine T.range (N := C * Rw) (enc := fun k1 => [.int .i64 (k1 : Int), .agg #[.int .i64 ((cellAt C k1).col), .int .i64 ((cellAt C k1).row)]]) (r := [As.one B2 (.cells #[.int .i64 (C : Int), .int .i64 (Rw : Int), .slice ra rn rc] 28 (0, 0))]) (fun k1 => [As.one B1 (.cells #[.func (.yield l) #[] #[]] 129 (0, 0)), R k1]) (fun e rs2 => e = .ret ∧ RSub [Rx] rs2) rfl fn_123 (fun own ho hd => cells1_it _ (one_in 0 rfl ho hd) (by first | assumption | omega)) (.pick 1 rfl (.pick 1 rfl (.refl _))) (fun _ => rfl) (fun p hp => by simp at hp; show p < 21; omega) (fun l1 k1 hk1 => ?_) ?_ ?_
  · have h25k1 : k1 < 25 := Nat.lt_of_lt_of_le hk1 (Nat.mul_le_mul hc.2.1 hc.2.2.2)
    refine .region ?_
    refine .n (.alloc zr_30) trivial rfl rfl fun B3 => ?_
    refine .cons trivial (.store 0 rfl rfl rfl sz_30 rfl rfl (Nat.le_of_ble_eq_true rfl) rfl ?_)
    refine .nil ?_
    refine ⟨rfl, ?_⟩
    refine .block ?_
    refine .seq ?_
    refine T.dr (N := 21) [] [0, 0, 2, 6, 14, 0, 62, 127, 255] 7 (by kernel_rfl) flw rfl (Nat.le_of_ble_eq_true rfl) ?_
    refine .y (.load rfl (.own 1 rfl) ag_129 sz_129 rfl) trivial ?_
    refine .y (.load rfl (.g hB) ag_115 sz_115 rfl) trivial ?_
    refine .y (.nilCheck rfl) trivial ?_
    refine .y (.fieldAddr rfl fl_124_2) trivial ?_
    refine .y (.load rfl (.g hF) ag_122 sz_122 (rdF_map ht _)) trivial ?_
    refine .y (.load rfl (.own 0 rfl) ag_30 sz_30 rfl) trivial ?_
    refine .y (.lookup (ev := vN) (z := (0 : Nat)) (c := (cellAt C k1)) rfl rfl (.g hM) mp_122 tw_30 zr_3) trivial ?_
    refine .nil ?_
    refine .cons trivial (.yield 2 rfl rfl rfl (by have h := hY k1 hk1; dsimp only at h; rw [show setE C rods top k1 = ((mlook 0 ms (cellAt C k1) : Nat) : Int) from by rw [setE, hx.fin hk1]] at h; exact h) rfl ?_ ?_)
    · refine .y (.not rfl) trivial rfl rfl ?_
      refine .nil ?_
      refine .cond_f rfl ?_
      refine .skip ?_
      exact (.pick 1 rfl (.pick 1 rfl (.nil _)))
    · refine .y (.not rfl) trivial rfl rfl ?_
      refine .nil ?_
      refine .cond_t rfl ?_
      refine .ret ?_
      exact ⟨rfl, (.pick 2 rfl (.nil _))⟩
  · skip
    refine ⟨.inl rfl, _, _, (.pick 1 rfl (.nil _)), fun own' ho => .zero rfl, ?_⟩
    exact .inl rfl
  · rintro _ rs2 ⟨rfl, hs⟩
    refine ⟨.inr rfl, _, _, hs.app _, fun own' ho => .zero rfl, ?_⟩
    exact .inr rfl
theorem appendSeq_ct (g : Hp) {f : FuncId} {q : List Value} {N : Nat} {e : Nat → Int} (hk : fnOk Tryz.prog f = true) (hI : ItB Tryz.prog g f q N (fun k => [.int .i64 (e k)])) (hN : N ≤ 1000000) : Ct Tryz.prog 133 [.slice none 0 0, .func (.func f) #[] q.toArray].toArray g [] (fun v rs => ∃ (a : Option Addr) (c : Nat), v = .slice a ((mapR e N).length) c ∧ rs = [SlO eInt 3 a c (mapR e N)] ∧ SlOk a c) := by
  refine Ct.of_body (N := 13) (l := [.slice none 0 0, .func (.func f) #[] q.toArray]) Tryz.func133 rfl rfl (Nat.le_of_ble_eq_true rfl) fun n0 => ?_
  refine .seq ?_
  refine .region ?_
  refine .n (.box rfl) trivial rfl rfl fun B1 => ?_
  refine .y (.assign rfl) trivial rfl rfl ?_
  refine .nil ?_
  refine .seq ?_
  refine .seq ?_
  refine .region ?_
  refine .y (.move rfl) trivial rfl rfl ?_
  refine .nil ?_
  refine .block ?_
  refine T.range (N := N) (enc := fun k1 => [.int .i64 (e k1)]) (r := []) (fun k1 => [BoxS eInt 39 3 B1 (mapR e k1)]) (fun _ _ => False) rfl hk (fun own ho hd => hI.it) (.boxS (by first | assumption | exact .nil) (.pick 0 rfl (.nilSl (.refl _)))) (fun _ => rfl) (fun p hp => by simp at hp; show p < 13; omega) (fun l1 k1 hk1 => ?_) ?_ ?_
  · refine .boxS fun a1 c1 oka1 => ?_
    refine .region ?_
    refine .y (.assign rfl) trivial rfl rfl ?_
    refine .nil ?_
    refine ⟨rfl, ?_⟩
    refine .block ?_
    refine .region ?_
    refine .y (.load rfl (.own 0 rfl) ag_39 sz_39 rfl) trivial rfl rfl ?_
    refine .y (.move rfl) trivial rfl rfl ?_
    refine .n (.lit #[.int .i64 0] lz_3_1 rfl sl_39 sz_3 zr_3 rfl rfl rfl) trivial rfl rfl fun B2 => ?_
    refine .cons trivial (.app (E := eInt) (ys := [e k1]) 2 el_39 rfl rfl rfl rfl rfl (.of_cells (.own 0 rfl)) (fun h => by cases h) (by simp only [mapR_len, List.length_singleton]; omega) (by simp only [mapR_len, List.length_singleton]; omega) rfl fun a2 c2 oka2 => ?_)
    refine .cons trivial (.store 1 rfl rfl rfl sz_39 rfl rfl (Nat.le_of_ble_eq_true rfl) rfl ?_)
    refine .nil ?_
    show RSub [BoxS eInt 39 3 B1 (mapR e (k1 + 1))] _
    rw [mapR_succ]
    exact (.boxS (by first | assumption | exact .nil) (.pick 1 rfl (.pick 1 rfl (.nil _))))
  · refine .boxS fun a3 c3 oka3 => ?_
    refine .seq ?_
    refine .region ?_
    refine .y (.load rfl (.own 0 rfl) ag_39 sz_39 rfl) trivial rfl rfl ?_
    refine .y (.assign rfl) trivial rfl rfl ?_
    refine .nil ?_
    refine .ret ?_
    refine ⟨.inr rfl, _, _, (.pick 1 rfl (.nil _)), fun own' ho => .one rfl rfl, ?_⟩
    exact ⟨_, _, rfl, rfl, by assumption⟩
  · exact fun _ _ h => h.elim
theorem collect_ct (g : Hp) {f : FuncId} {q : List Value} {N : Nat} {e : Nat → Int} (hk : fnOk Tryz.prog f = true) (hI : ItB Tryz.prog g f q N (fun k => [.int .i64 (e k)])) (hN : N ≤ 1000000) : Ct Tryz.prog 78 [.func (.func f) #[] q.toArray].toArray g [] (fun v rs => ∃ (a : Option Addr) (c : Nat), v = .slice a ((mapR e N).length) c ∧ rs = [SlO eInt 3 a c (mapR e N)] ∧ SlOk a c) := by
  refine Ct.of_body (N := 5) (l := [.func (.func f) #[] q.toArray]) Tryz.func78 rfl rfl (Nat.le_of_ble_eq_true rfl) fun n0 => ?_
  refine .seq ?_
  refine .region ?_
  refine .y (.assign rfl) trivial rfl rfl ?_
  refine .nil ?_
  refine .seq ?_
  refine .region ?_
  refine .y (.move rfl) trivial rfl rfl ?_
  refine .c (.call rfl rfl fn_133) trivial rfl rfl (fun own ho hd => appendSeq_ct _ (e := e) hk hI.up (by first | assumption | omega | (have := Nat.mul_le_mul hc.2.1 hc.2.2.2; omega))) ?_
  rintro _ _ ⟨a1, c1, rfl, rfl, hf1⟩
  refine .y (.assign rfl) trivial rfl rfl ?_
  refine .nil ?_
  refine .ret ?_
  refine ⟨.inr rfl, _, _, (.pick 0 rfl (.nil _)), fun own' ho => .one rfl rfl, ?_⟩
  exact ⟨_, _, rfl, rfl, by assumption⟩
theorem apart1_ct (g : Hp) {B n s : Nat} (hB : g B = some (.cells #[.int .i64 (s : Int)] 3 (0, 0))) (hn : n < 2 ^ 62) (hs : s < 2 ^ 62) : Ct Tryz.prog 80 [.int .i64 (n : Int), .pointer (some ⟨B, 0, none⟩)].toArray g [] (fun v rs => v = .bool (decide ((((membI (n &&& s)).length : Nat) : Int) < 2)) ∧ rs = []) := by
  refine Ct.of_body (N := 10) (l := [.int .i64 (n : Int), .pointer (some ⟨B, 0, none⟩)]) Tryz.func80 rfl rfl (Nat.le_of_ble_eq_true rfl) fun n0 => ?_
  refine .seq ?_
  refine .region ?_
  refine .y (.assign rfl) trivial rfl rfl ?_
  refine .nil ?_
  refine .seq ?_
  refine .region ?_
  refine .y (.move rfl) trivial rfl rfl ?_
  refine .y (.load rfl (.g hB) ag_3 sz_3 rfl) trivial rfl rfl ?_
  refine .y (.andN (a := n) (b := s) rfl rfl ⟨by omega, by omega⟩) trivial rfl rfl ?_
  refine .c (.call rfl rfl fn_55) trivial rfl rfl (fun own ho hd => members_ct _ (s := n &&& s) (Nat.lt_of_le_of_lt Nat.and_le_left hn)) ?_
  rintro _ _ ⟨a1, c1, rfl, rfl, hf1⟩
  refine .y (.len rfl sl_39) trivial rfl rfl ?_
  refine .y (.lss rfl rfl) trivial rfl rfl ?_
  refine .y (.assign rfl) trivial rfl rfl ?_
  refine .nil ?_
  refine .ret ?_
  refine ⟨.inr rfl, _, _, (.nil _), fun own' ho => .one rfl rfl, ?_⟩
  exact ⟨rfl, rfl⟩
theorem apart1_pb {g : Hp} {B s : Nat} {C k : Nat} {rods : List Rod} {top : List Int} (hB : g B = some (.cells #[.int .i64 (s : Int)] 3 (0, 0))) (hl : rods.length ≤ 8) (hs : s < 2 ^ 62) : PureB Tryz.prog g 80 [.pointer (some ⟨B, 0, none⟩)] argI (· ∈ mapR (setE C rods top) k) (apP s) := fun g' hg x hx => by
  obtain ⟨n, hn, rfl⟩ : ∃ n : Nat, n < 2 ^ 62 ∧ x = (n : Int) := by have := setE_bd hl hx; exact ⟨x.toNat, by omega, by omega⟩
  exact (apart1_ct g' (n := n) (s := s) (hg _ _ hB) hn hs).mono fun v rs h => ⟨by rw [h.1]; simp only [apP, Int.toNat_natCast]; congr 1; rw [decide_eq_decide]; omega, h.2⟩
theorem Apart_ct (g : Hp) {C Rw : Nat} {ra : Option Addr} {rc : Nat} {rods : List Rod} (hc : 1 ≤ C ∧ C ≤ 5 ∧ 1 ≤ Rw ∧ Rw ≤ 5) (hr : SlR eRod g ra rods) (hl : rods.length ≤ 8) (hv : ∀ r ∈ rods, RodOk r) (hck : chkBin (C : Int) (Rw : Int) rods = 0) (hfit : fitsL C Rw rods (mostTo C rods (fun _ => true) (C * Rw)) (fun _ => true) = true) : Ct Tryz.prog 19 [.agg #[.int .i64 (C : Int), .int .i64 (Rw : Int), .slice ra rods.length rc]].toArray g [] (fun v rs => ∃ (a : Option Addr) (c : Nat), v = .tuple #[.slice a ((apartTo C Rw rods (mostTo C rods (fun _ => true) (C * Rw)) (2 ^ rods.length)).length) c, .int .i64 0] ∧ rs = [SlO eInt 3 a c (apartTo C Rw rods (mostTo C rods (fun _ => true) (C * Rw)) (2 ^ rods.length))] ∧ SlOk a c) := by
  have h256 : 2 ^ rods.length ≤ 256 := Nat.pow_le_pow_right (by decide) hl (n := 2)
  have h25 : C * Rw ≤ 25 := Nat.mul_le_mul hc.2.1 hc.2.2.2
  refine Ct.of_body (N := 63) (l := [.agg #[.int .i64 (C : Int), .int .i64 (Rw : Int), .slice ra rods.length rc]]) Tryz.func19 rfl rfl (Nat.le_of_ble_eq_true rfl) fun n0 => ?_
  refine .seq ?_
  refine .region ?_
  refine .n (.box rfl) trivial rfl rfl fun B1 => ?_
  refine .y (.assign rfl) trivial rfl rfl ?_
  refine .y (.assign rfl) trivial rfl rfl ?_
  refine .nil ?_
  refine .seq ?_
  refine .region ?_
  refine .y (.load rfl (.own 0 rfl) ag_28 sz_28 rfl) trivial rfl rfl ?_
  refine .c (.call rfl rfl fn_69) trivial rfl rfl (fun own ho hd => told_ct _ hc (rods := rods) (SlR.up hr) hl hv hck hfit) ?_
  rintro _ _ ⟨F1, M1, ms1, rfl, rfl, hf1⟩
  refine .y (.move rfl) trivial rfl rfl ?_
  refine .y (.extract rfl rfl) trivial rfl rfl ?_
  refine .y (.extract rfl rfl) trivial rfl rfl ?_
  refine .y (.assign rfl) trivial rfl rfl ?_
  refine .y (.assign rfl) trivial rfl rfl ?_
  refine .nil ?_
  refine .seq ?_
  refine .seq ?_
  refine .region ?_
  refine .y (.move rfl) trivial rfl rfl ?_
  refine .y (.to (.neq rfl rfl) (v' := .bool false) rfl) trivial rfl rfl ?_
  refine .nil ?_
  refine .cond_f rfl ?_
  refine .skip ?_
  refine .seq ?_
  refine .region ?_
  refine .y (.assign rfl) trivial rfl rfl ?_
  refine .nil ?_
  refine .seq ?_
  refine .seq ?_
  refine .region ?_
  refine .y (.fieldAddr rfl fl_28_2) trivial rfl rfl ?_
  refine .y (.load rfl (.own 2 rfl) ag_26 sz_26 rfl) trivial rfl rfl ?_
  refine .y (.len rfl sl_26) trivial rfl rfl ?_
  refine .y (.shlN (b := rods.length) rfl rfl (by omega)) trivial rfl rfl ?_
  refine .y (.move rfl) trivial rfl rfl ?_
  refine .nil ?_
  refine .block ?_
  refine T.loop (ι := { zz : Nat × List Int × Option Addr × Nat // zz.1 ≤ 2 ^ rods.length ∧ zz.2.1 = apartTo C Rw rods (mostTo C rods (fun _ => true) (C * Rw)) zz.1 ∧ SlOk zz.2.2.1 zz.2.2.2 ∧ zz.2.1.length ≤ 62 }) (fun zz => ([(6, .slice zz.1.2.2.1 zz.1.2.1.length zz.1.2.2.2), (21, .int .i64 (zz.1.1 : Int)), (4, .pointer (some ⟨F1, 0, none⟩)), (20, .int .i64 ((2 ^ rods.length : Nat) : Int))], [SlO eInt 3 zz.1.2.2.1 zz.1.2.2.2 zz.1.2.1, As.one F1 (.cells (fieldC C Rw ra rods.length rc (mostTo C rods (fun _ => true) (C * Rw)) M1).toArray 124 (0, 0)), MapO vN M1 ms1, As.one B1 (.cells #[.int .i64 (C : Int), .int .i64 (Rw : Int), .slice ra rods.length rc] 28 (0, 0))])) (fun zz => 2 ^ rods.length - zz.1.1) ⟨(0, [], none, 0), ⟨Nat.zero_le _, rfl, .nil, by decide⟩⟩ (.one rfl (.one rfl (.one rfl (.one rfl (.nil))))) (.nilSl (.refl _)) ?_
  rintro ⟨⟨n, out, a, c⟩, hP0⟩
  dsimp only at hP0
  show T _ [(6, .slice a out.length c), (21, .int .i64 (n : Int)), (4, .pointer (some ⟨F1, 0, none⟩)), (20, .int .i64 ((2 ^ rods.length : Nat) : Int))] [SlO eInt 3 a c out, As.one F1 (.cells (fieldC C Rw ra rods.length rc (mostTo C rods (fun _ => true) (C * Rw)) M1).toArray 124 (0, 0)), MapO vN M1 ms1, As.one B1 (.cells #[.int .i64 (C : Int), .int .i64 (Rw : Int), .slice ra rods.length rc] 28 (0, 0))] _ _
  refine .seq ?_
  refine .region ?_
  refine .y (.lss rfl rfl) trivial rfl rfl ?_
  refine .nil ?_
  refine .seq ?_
  refine .ite rfl (fun h1 => ?_) (fun h1 => ?_)
  · refine .skip ?_
    refine .seq ?_
    refine .block ?_
    refine .seq ?_
    refine .region ?_
    refine .y (.move rfl) trivial rfl rfl ?_
    refine .n (.alloc zr_3) trivial rfl rfl fun B2 => ?_
    refine .cons trivial (.store 0 rfl rfl rfl sz_3 rfl rfl (Nat.le_of_ble_eq_true rfl) rfl ?_)
    refine .nil ?_
    refine .seq ?_
    refine .seq ?_
    refine T.dr (N := 63) [(5, (fun v rs => v = .int .i64 ((shownTo rods rods.length : Nat) : Int) ∧ rs = [])), (10, (fun v rs => ∃ (B : Nat), v = .func (.func 134) #[] #[.pointer (some ⟨B, 0, none⟩)] ∧ rs = [As.one B (.cells #[.pointer (some ⟨F1, 0, none⟩)] 115 (0, 0))])), (11, (fun v rs => ∃ (a : Option Addr) (c : Nat), v = .slice a ((mapR (setE C rods (mostTo C rods (fun _ => true) (C * Rw))) (C * Rw)).length) c ∧ rs = [SlO eInt 3 a c (mapR (setE C rods (mostTo C rods (fun _ => true) (C * Rw))) (C * Rw))] ∧ SlOk a c))] [0, 0, 2, 6, 14, 30, 63, 127, 255, 511, 1023, 2047, 511, 8191, 16383, 32767] 13 (by kernel_rfl) flw rfl (Nat.le_of_ble_eq_true rfl) ?_
    refine .y (.load rfl (.own 0 rfl) ag_3 sz_3 rfl) trivial ?_
    refine .y (.move rfl) trivial ?_
    refine .y (.nilCheck rfl) trivial ?_
    refine .y (.fieldAddr rfl fl_124_0) trivial ?_
    refine .y (.load rfl (.own 2 rfl) ag_28 sz_28 rdF_bin) trivial ?_
    refine .c (.call rfl rfl fn_70) trivial (fun own ho hd => shown_ct _ (rods := rods) (SlR.up hr) (by omega)) ?_
    rintro _ _ ⟨rfl, rfl⟩
    refine .y (.andNotN (a := n) (b := shownTo rods rods.length) rfl rfl ⟨by omega, by have := shown_lt (rods := rods) rods.length 62 (by omega); omega⟩) trivial ?_
    refine .y (.neq rfl rfl) trivial ?_
    refine .y (.move rfl) trivial ?_
    cases hb1 : (decide (((andn n (shownTo rods rods.length) : Nat) : Int) ≠ 0) : Bool)
    · refine .y (.move rfl) ⟨_, rfl, rfl⟩ ?_
      refine .c (.call rfl rfl fn_79) ⟨_, rfl, rfl⟩ (fun own ho hd => sets_ct _ ) ?_
      rintro _ _ ⟨B3, rfl, rfl⟩
      refine .cf (.call rfl rfl fn_78) ⟨_, rfl, rfl⟩ (fun own ho hd => collect_ct _ (e := setE C rods (mostTo C rods (fun _ => true) (C * Rw))) fn_134 (fun g' hg => sets1_it g' (hg _ _ (one_in 0 rfl ho hd)) hc (hg _ _ (one_in 3 rfl ho hd)) (MapR.mono (MapR.in_own 4 rfl ho hd) hg) (mostTo_len ..) (by assumption)) (by first | assumption | omega | (have := Nat.mul_le_mul hc.2.1 hc.2.2.2; omega))) ?_
      rintro _ _ ⟨a1, c1, rfl, rfl, hf2⟩
      refine .y (.makeFunc rfl rfl) ⟨_, rfl, rfl⟩ ?_
      refine .nil ?_
      refine .c (.call rfl rfl fn_77) ⟨_, rfl, rfl⟩ rfl rfl (fun own ho hd => everyeInt_ct _ fn_80 (xs := mapR (setE C rods (mostTo C rods (fun _ => true) (C * Rw))) (C * Rw)) (SlAt.in_own 0 rfl ho hd) (apart1_pb (s := n) (one_in 2 rfl ho hd) hl (by omega)) (by first | omega | (simp; omega))) ?_
      rintro _ _ ⟨rfl, rfl⟩
      refine .y (.not rfl) ⟨_, rfl, rfl⟩ rfl rfl ?_
      refine .y (.pick_f rfl rfl) trivial rfl rfl ?_
      refine .nil ?_
      refine .cond rfl (fun h2 => ?_) (fun h2 => ?_)
      · refine .exit ?_
        refine inB_hit ?_
        refine .region ?_
        refine .y (.add rfl rfl (by omega)) trivial rfl rfl ?_
        refine .y (.move rfl) trivial rfl rfl ?_
        refine .nil ?_
        refine ⟨⟨(n + 1, out, a, c), ?_⟩, ?_, (.one rfl (.one rfl (.one rfl (.one rfl (.nil))))), (.pick 3 rfl (.pick 3 rfl (.pick 3 rfl (.pick 3 rfl (.nil _)))))⟩
        · exact ⟨by omega, by rw [apart_out (fun e => by first | (rw [apOk_f1 hb1] at e; exact absurd e (by decide)) | (rw [apOk_f2 h2] at e; exact absurd e (by decide)) | (rw [← hP0.2.1]; first | exact betterD hb2 hb3 | exact betterC hb2 h3))]; exact hP0.2.1, hP0.2.2⟩
        · show 2 ^ rods.length - (n + 1) < 2 ^ rods.length - n; omega
      · refine .skip ?_
        refine .seq ?_
        refine .region ?_
        refine .y (.load rfl (.own 2 rfl) ag_3 sz_3 rfl) trivial rfl rfl ?_
        refine .c (.call rfl rfl fn_55) trivial rfl rfl (fun own ho hd => members_ct _ (s := n) (by omega)) ?_
        rintro _ _ ⟨a2, c2, rfl, rfl, hf3⟩
        refine .y (.assign rfl) trivial rfl rfl ?_
        refine .nil ?_
        refine .seq ?_
        refine .region ?_
        refine .y (.move rfl) trivial rfl rfl ?_
        refine .y (.len rfl sl_39) trivial rfl rfl ?_
        refine .y (.move rfl) trivial rfl rfl ?_
        refine .y (.len rfl sl_39) trivial rfl rfl ?_
        refine .y (.gtr rfl rfl) trivial rfl rfl ?_
        refine .y (.move rfl) trivial rfl rfl ?_
        refine .split 47 rfl (fun hb2 => ?_) (fun hb2 => ?_)
        · refine .skip ⟨_, rfl, rfl⟩ rfl ?_
          refine .skip ⟨_, rfl, rfl⟩ rfl ?_
          refine .skip ⟨_, rfl, rfl⟩ rfl ?_
          refine .skip ⟨_, rfl, rfl⟩ rfl ?_
          refine .skip ⟨_, rfl, rfl⟩ rfl ?_
          refine .skip ⟨_, rfl, rfl⟩ rfl ?_
          refine .skip ⟨_, rfl, rfl⟩ rfl ?_
          refine .skip ⟨_, rfl, rfl⟩ rfl ?_
          refine .skip ⟨_, rfl, rfl⟩ rfl ?_
          refine .skip ⟨_, rfl, rfl⟩ rfl ?_
          refine .skip ⟨_, rfl, rfl⟩ rfl ?_
          refine .y (.pick_t rfl rfl) trivial rfl rfl ?_
          refine .nil ?_
          refine .cond_t rfl ?_
          refine .region ?_
          refine .y (.move rfl) trivial rfl rfl ?_
          refine .y (.assign rfl) trivial rfl rfl ?_
          refine .nil ?_
          refine .region ?_
          refine .y (.add rfl rfl (by omega)) trivial rfl rfl ?_
          refine .y (.move rfl) trivial rfl rfl ?_
          refine .nil ?_
          refine ⟨⟨(n + 1, membI n, a2, c2), ?_⟩, ?_, (.one rfl (.one rfl (.one rfl (.one rfl (.nil))))), (.pick 0 rfl (.pick 4 rfl (.pick 4 rfl (.pick 4 rfl (.nil _)))))⟩
          · exact ⟨by omega, by rw [apart_in (apOk_t hb1 h2) (by rw [← hP0.2.1]; first | exact betterA hb2 | exact betterB hb3 h3)], by assumption, membI_len _⟩
          · show 2 ^ rods.length - (n + 1) < 2 ^ rods.length - n; omega
        · refine .y (.move rfl) ⟨_, rfl, rfl⟩ rfl rfl ?_
          refine .y (.len rfl sl_39) ⟨_, rfl, rfl⟩ rfl rfl ?_
          refine .y (.move rfl) ⟨_, rfl, rfl⟩ rfl rfl ?_
          refine .y (.len rfl sl_39) ⟨_, rfl, rfl⟩ rfl rfl ?_
          refine .y (.eql rfl rfl) ⟨_, rfl, rfl⟩ rfl rfl ?_
          refine .y (.move rfl) ⟨_, rfl, rfl⟩ rfl rfl ?_
          refine .split 53 rfl (fun hb3 => ?_) (fun hb3 => ?_)
          · refine .y (.move rfl) ⟨_, rfl, rfl⟩ rfl rfl ?_
            refine .y (.move rfl) ⟨_, rfl, rfl⟩ rfl rfl ?_
            refine .c (.call rfl rfl fn_81) ⟨_, rfl, rfl⟩ rfl rfl (fun own ho hd => compareL_ct _ (xs := membI n) (ys := out) (SlAt.in_own 0 rfl ho hd) (SlAt.in_own 4 rfl ho hd) (by first | omega | (simp; omega) | exact Nat.le_trans (membI_len _) (by decide) | (simp [*]; done) | (simp [*]; omega)) (by first | omega | (simp; omega) | exact Nat.le_trans (membI_len _) (by decide) | (simp [*]; done) | (simp [*]; omega))) ?_
            rintro _ _ ⟨rfl, rfl⟩
            refine .y (.lss rfl rfl) ⟨_, rfl, rfl⟩ rfl rfl ?_
            refine .y (.pick_t rfl rfl) ⟨_, rfl, rfl⟩ rfl rfl ?_
            refine .y (.pick_f rfl rfl) trivial rfl rfl ?_
            refine .nil ?_
            refine .ite rfl (fun h3 => ?_) (fun h3 => ?_)
            · refine .region ?_
              refine .y (.move rfl) trivial rfl rfl ?_
              refine .y (.assign rfl) trivial rfl rfl ?_
              refine .nil ?_
              refine .region ?_
              refine .y (.add rfl rfl (by omega)) trivial rfl rfl ?_
              refine .y (.move rfl) trivial rfl rfl ?_
              refine .nil ?_
              refine ⟨⟨(n + 1, membI n, a2, c2), ?_⟩, ?_, (.one rfl (.one rfl (.one rfl (.one rfl (.nil))))), (.pick 0 rfl (.pick 4 rfl (.pick 4 rfl (.pick 4 rfl (.nil _)))))⟩
              · exact ⟨by omega, by rw [apart_in (apOk_t hb1 h2) (by rw [← hP0.2.1]; first | exact betterA hb2 | exact betterB hb3 h3)], by assumption, membI_len _⟩
              · show 2 ^ rods.length - (n + 1) < 2 ^ rods.length - n; omega
            · refine .skip ?_
              refine .region ?_
              refine .y (.add rfl rfl (by omega)) trivial rfl rfl ?_
              refine .y (.move rfl) trivial rfl rfl ?_
              refine .nil ?_
              refine ⟨⟨(n + 1, out, a, c), ?_⟩, ?_, (.one rfl (.one rfl (.one rfl (.one rfl (.nil))))), (.pick 4 rfl (.pick 4 rfl (.pick 4 rfl (.pick 4 rfl (.nil _)))))⟩
              · exact ⟨by omega, by rw [apart_out (fun e => by first | (rw [apOk_f1 hb1] at e; exact absurd e (by decide)) | (rw [apOk_f2 h2] at e; exact absurd e (by decide)) | (rw [← hP0.2.1]; first | exact betterD hb2 hb3 | exact betterC hb2 h3))]; exact hP0.2.1, hP0.2.2⟩
              · show 2 ^ rods.length - (n + 1) < 2 ^ rods.length - n; omega
          · refine .skip ⟨_, rfl, rfl⟩ rfl ?_
            refine .skip ⟨_, rfl, rfl⟩ rfl ?_
            refine .skip ⟨_, rfl, rfl⟩ rfl ?_
            refine .skip ⟨_, rfl, rfl⟩ rfl ?_
            refine .y (.pick_f rfl rfl) ⟨_, rfl, rfl⟩ rfl rfl ?_
            refine .y (.pick_f rfl rfl) trivial rfl rfl ?_
            refine .nil ?_
            refine .cond_f rfl ?_
            refine .skip ?_
            refine .region ?_
            refine .y (.add rfl rfl (by omega)) trivial rfl rfl ?_
            refine .y (.move rfl) trivial rfl rfl ?_
            refine .nil ?_
            refine ⟨⟨(n + 1, out, a, c), ?_⟩, ?_, (.one rfl (.one rfl (.one rfl (.one rfl (.nil))))), (.pick 4 rfl (.pick 4 rfl (.pick 4 rfl (.pick 4 rfl (.nil _)))))⟩
            · exact ⟨by omega, by rw [apart_out (fun e => by first | (rw [apOk_f1 hb1] at e; exact absurd e (by decide)) | (rw [apOk_f2 h2] at e; exact absurd e (by decide)) | (rw [← hP0.2.1]; first | exact betterD hb2 hb3 | exact betterC hb2 h3))]; exact hP0.2.1, hP0.2.2⟩
            · show 2 ^ rods.length - (n + 1) < 2 ^ rods.length - n; omega
    · refine .skip ⟨_, rfl, rfl⟩ ?_
      refine .skip ⟨_, rfl, rfl⟩ ?_
      refine .skip ⟨_, rfl, rfl⟩ ?_
      refine .skip ⟨_, rfl, rfl⟩ ?_
      refine .nil ?_
      refine .skip ⟨_, rfl, rfl⟩ rfl ?_
      refine .skip ⟨_, rfl, rfl⟩ rfl ?_
      refine .y (.pick_t rfl rfl) trivial rfl rfl ?_
      refine .nil ?_
      refine .cond_t rfl ?_
      refine .exit ?_
      refine inB_hit ?_
      refine .region ?_
      refine .y (.add rfl rfl (by omega)) trivial rfl rfl ?_
      refine .y (.move rfl) trivial rfl rfl ?_
      refine .nil ?_
      refine ⟨⟨(n + 1, out, a, c), ?_⟩, ?_, (.one rfl (.one rfl (.one rfl (.one rfl (.nil))))), (.pick 1 rfl (.pick 1 rfl (.pick 1 rfl (.pick 1 rfl (.nil _)))))⟩
      · exact ⟨by omega, by rw [apart_out (fun e => by first | (rw [apOk_f1 hb1] at e; exact absurd e (by decide)) | (rw [apOk_f2 h2] at e; exact absurd e (by decide)) | (rw [← hP0.2.1]; first | exact betterD hb2 hb3 | exact betterC hb2 h3))]; exact hP0.2.1, hP0.2.2⟩
      · show 2 ^ rods.length - (n + 1) < 2 ^ rods.length - n; omega
  · refine .exit ?_
    refine inB_hit ?_
    refine .seq ?_
    refine .region ?_
    refine .y (.move rfl) trivial rfl rfl ?_
    refine .y (.assign rfl) trivial rfl rfl ?_
    refine .y (.assign rfl) trivial rfl rfl ?_
    refine .nil ?_
    refine .ret ?_
    refine ⟨.inr rfl, _, _, (.pick 0 rfl (.nil _)), fun own' ho => .two rfl rfl rfl, ?_⟩
    obtain rfl : n = 2 ^ rods.length := by omega
    rw [← hP0.2.1]; exact ⟨_, _, rfl, rfl, hP0.2.2.1⟩
theorem Clash_ct (g : Hp) {C Rw : Nat} {ra : Option Addr} {rc : Nat} {rods : List Rod} (hc : 1 ≤ C ∧ C ≤ 5 ∧ 1 ≤ Rw ∧ Rw ≤ 5) (hr : SlR eRod g ra rods) (hl : rods.length ≤ 8) (hv : ∀ r ∈ rods, RodOk r) (hck : chkBin (C : Int) (Rw : Int) rods = 0) (hno : fitsL C Rw rods (mostTo C rods (fun _ => true) (C * Rw)) (fun _ => true) = false) : Ct Tryz.prog 44 [.agg #[.int .i64 (C : Int), .int .i64 (Rw : Int), .slice ra rods.length rc]].toArray g [] (fun v rs => ∃ (a : Option Addr) (c : Nat), v = .tuple #[.slice a ((clashTo C Rw rods 9).length) c, .int .i64 0] ∧ rs = [SlO eInt 3 a c (clashTo C Rw rods 9)] ∧ SlOk a c) := by
  have h256 : 2 ^ rods.length ≤ 256 := Nat.pow_le_pow_right (by decide) hl (n := 2)
  refine Ct.of_body (N := 56) (l := [.agg #[.int .i64 (C : Int), .int .i64 (Rw : Int), .slice ra rods.length rc]]) Tryz.func44 rfl rfl (Nat.le_of_ble_eq_true rfl) fun n0 => ?_
  refine .seq ?_
  refine .region ?_
  refine .n (.box rfl) trivial rfl rfl fun B1 => ?_
  refine .y (.assign rfl) trivial rfl rfl ?_
  refine .y (.assign rfl) trivial rfl rfl ?_
  refine .nil ?_
  refine .scope ?_
  refine .seq ?_
  refine .seq ?_
  refine .region ?_
  refine .y (.load rfl (.own 0 rfl) ag_28 sz_28 rfl) trivial rfl rfl ?_
  refine .c (.call rfl rfl fn_22) trivial rfl rfl (fun own ho hd => Check_ct _ (rods := rods) (SlR.up hr) (by first | omega | simp)) ?_
  rintro _ _ ⟨rfl, rfl⟩
  refine .y (.assign rfl) trivial rfl rfl ?_
  refine .nil ?_
  refine .seq ?_
  refine .region ?_
  refine .y (.move rfl) trivial rfl rfl ?_
  refine .y (.neq rfl rfl) trivial rfl rfl ?_
  refine .nil ?_
  refine .ite rfl (fun h1 => ?_) (fun h1 => ?_)
  · exact absurd hck (by simpa using h1)
  · refine .skip ?_
    refine .seq ?_
    refine .seq ?_
    refine T.dr (N := 56) [(1, (fun v rs => v = .agg #[.func (.func 131) #[] #[]] ∧ rs = []))] [0, 0, 3] 2 (by kernel_rfl) flw rfl (Nat.le_of_ble_eq_true rfl) ?_
    refine .y (.load rfl (.own 0 rfl) ag_28 sz_28 rfl) trivial ?_
    refine .c (.call rfl rfl fn_75) trivial (fun own ho hd => all_ct _ ) ?_
    rintro _ _ ⟨rfl, rfl⟩
    refine .nil ?_
    refine .c (.call rfl rfl fn_101) trivial rfl rfl (fun own ho hd => agree_ct _ fn_131 (fun g' hg x hx => all1_ct g') hc (rods := rods) (SlR.up hr) hl hv) ?_
    rintro _ _ ⟨rfl, rfl⟩
    refine .nil ?_
    refine .cond rfl (fun h2 => ?_) (fun h2 => ?_)
    · exact absurd h2 (by rw [hno]; decide)
    · refine .skip ?_
      refine .seq ?_
      refine .region ?_
      refine .y (.assign rfl) trivial rfl rfl ?_
      refine .nil ?_
      refine .seq ?_
      refine .label ?_
      refine .seq ?_
      refine .seq ?_
      refine .region ?_
      refine .y (.move rfl) trivial rfl rfl ?_
      refine .nil ?_
      refine .block ?_
      refine T.loop (ι := { zz : Nat // zz ≤ 9 ∧ clashTo C Rw rods zz = [] }) (fun zz => ([(5, .slice none 0 0), (17, .int .i64 (zz.1 : Int)), (1, .pointer (some ⟨B1, 0, none⟩))], [As.one B1 (.cells #[.int .i64 (C : Int), .int .i64 (Rw : Int), .slice ra rods.length rc] 28 (0, 0))])) (fun zz => 9 - zz.1) ⟨(0), ⟨by omega, rfl⟩⟩ (.one rfl (.one rfl (.one rfl (.nil)))) (.refl _) ?_
      rintro ⟨m, hP0⟩
      show T _ [(5, .slice none 0 0), (17, .int .i64 (m : Int)), (1, .pointer (some ⟨B1, 0, none⟩))] [As.one B1 (.cells #[.int .i64 (C : Int), .int .i64 (Rw : Int), .slice ra rods.length rc] 28 (0, 0))] _ _
      refine .seq ?_
      refine .region ?_
      refine .y (.lss rfl rfl) trivial rfl rfl ?_
      refine .nil ?_
      refine .seq ?_
      refine .ite rfl (fun h3 => ?_) (fun h3 => ?_)
      · refine .skip ?_
        refine .seq ?_
        refine .block ?_
        refine .seq ?_
        refine .region ?_
        refine .y (.move rfl) trivial rfl rfl ?_
        refine .y (.assign rfl) trivial rfl rfl ?_
        refine .nil ?_
        refine .seq ?_
        refine .seq ?_
        refine .region ?_
        refine .y (.fieldAddr rfl fl_28_2) trivial rfl rfl ?_
        refine .y (.load rfl (.own 0 rfl) ag_26 sz_26 rfl) trivial rfl rfl ?_
        refine .y (.len rfl sl_26) trivial rfl rfl ?_
        refine .y (.shlN (b := rods.length) rfl rfl (by omega)) trivial rfl rfl ?_
        refine .y (.move rfl) trivial rfl rfl ?_
        refine .nil ?_
        refine .block ?_
        refine T.loop (ι := { zz : Nat × List Int × Option Addr × Nat // zz.1 ≤ 2 ^ rods.length ∧ zz.2.1 = clashIn C Rw rods m zz.1 ∧ SlOk zz.2.2.1 zz.2.2.2 ∧ zz.2.1.length ≤ 62 ∧ (zz.2.1 = [] → zz.2.2.1 = none) }) (fun zz => ([(5, .slice zz.1.2.2.1 zz.1.2.1.length zz.1.2.2.2), (24, .int .i64 (zz.1.1 : Int)), (1, .pointer (some ⟨B1, 0, none⟩)), (6, .int .i64 (m : Int)), (17, .int .i64 (m : Int)), (23, .int .i64 ((2 ^ rods.length : Nat) : Int))], [SlO eInt 3 zz.1.2.2.1 zz.1.2.2.2 zz.1.2.1, As.one B1 (.cells #[.int .i64 (C : Int), .int .i64 (Rw : Int), .slice ra rods.length rc] 28 (0, 0))])) (fun zz => 2 ^ rods.length - zz.1.1) ⟨(0, [], none, 0), ⟨Nat.zero_le _, rfl, .nil, by decide, fun _ => rfl⟩⟩ (.one rfl (.one rfl (.one rfl (.one rfl (.one rfl (.one rfl (.nil))))))) (.nilSl (.refl _)) ?_
        rintro ⟨⟨n, out, a, c⟩, hP2⟩
        dsimp only at hP2
        show T _ [(5, .slice a out.length c), (24, .int .i64 (n : Int)), (1, .pointer (some ⟨B1, 0, none⟩)), (6, .int .i64 (m : Int)), (17, .int .i64 (m : Int)), (23, .int .i64 ((2 ^ rods.length : Nat) : Int))] [SlO eInt 3 a c out, As.one B1 (.cells #[.int .i64 (C : Int), .int .i64 (Rw : Int), .slice ra rods.length rc] 28 (0, 0))] _ _
        refine T.pure 0 rfl (fun h hh => SlO.none hh) (fun hnone => ?_)
        refine .seq ?_
        refine .region ?_
        refine .y (.lss rfl rfl) trivial rfl rfl ?_
        refine .nil ?_
        refine .seq ?_
        refine .ite rfl (fun h4 => ?_) (fun h4 => ?_)
        · refine .skip ?_
          refine .seq ?_
          refine .block ?_
          refine .seq ?_
          refine .region ?_
          refine .y (.move rfl) trivial rfl rfl ?_
          refine .y (.assign rfl) trivial rfl rfl ?_
          refine .nil ?_
          refine .seq ?_
          refine .region ?_
          refine .y (.move rfl) trivial rfl rfl ?_
          refine .c (.call rfl rfl fn_55) trivial rfl rfl (fun own ho hd => members_ct _ (s := n) (by omega)) ?_
          rintro _ _ ⟨a1, c1, rfl, rfl, hf1⟩
          refine .y (.assign rfl) trivial rfl rfl ?_
          refine .nil ?_
          refine .seq ?_
          refine T.dr (N := 56) [(10, (fun v rs => v = .int .i64 (cmpL (membI n) out) ∧ rs = [])), (17, (fun v rs => ∃ (B : Nat), v = .agg #[.func (.func 145) #[] #[.pointer (some ⟨B, 0, none⟩)]] ∧ rs = [As.one B (.cells #[.slice a1 (membI n).length c1] 39 (0, 0))]))] [0, 1, 0, 7, 15, 31, 63, 127, 255, 255, 1023, 2047, 4095, 8191, 16383, 32767, 32767, 98303, 262143, 524287, 1048575] 18 (by kernel_rfl) flw rfl (Nat.le_of_ble_eq_true rfl) ?_
          refine .y (.move rfl) trivial ?_
          refine .y (.len rfl sl_39) trivial ?_
          refine .y (.move rfl) trivial ?_
          refine .y (.eql rfl rfl) trivial ?_
          refine .y (.move rfl) trivial ?_
          cases hb1 : (decide (((membI n).length : Int) = (m : Int)) : Bool)
          · refine .skip ⟨_, rfl, rfl⟩ ?_
            refine .skip ⟨_, rfl, rfl⟩ ?_
            refine .skip ⟨_, rfl, rfl⟩ ?_
            refine .skip ⟨_, rfl, rfl⟩ ?_
            refine .skip ⟨_, rfl, rfl⟩ ?_
            refine .skip ⟨_, rfl, rfl⟩ ?_
            refine .skip ⟨_, rfl, rfl⟩ ?_
            refine .skip ⟨_, rfl, rfl⟩ ?_
            refine .y (.pick_f rfl rfl) trivial ?_
            refine .y (.move rfl) trivial ?_
            refine .skip ⟨_, rfl, rfl⟩ ?_
            refine .skip ⟨_, rfl, rfl⟩ ?_
            refine .skip ⟨_, rfl, rfl⟩ ?_
            refine .nil ?_
            refine .skip ⟨_, rfl, rfl⟩ rfl ?_
            refine .skip ⟨_, rfl, rfl⟩ rfl ?_
            refine .y (.pick_f rfl rfl) trivial rfl rfl ?_
            refine .nil ?_
            refine .cond_f rfl ?_
            refine .skip ?_
            refine .region ?_
            refine .y (.add rfl rfl (by omega)) trivial rfl rfl ?_
            refine .y (.move rfl) trivial rfl rfl ?_
            refine .nil ?_
            refine ⟨⟨(n + 1, out, a, c), ?_⟩, ?_, (.one rfl (.one rfl (.one rfl (.one rfl (.one rfl (.one rfl (.nil))))))), (.pick 1 rfl (.pick 1 rfl (.nil _)))⟩
            · exact ⟨by omega, (clash_out (by rw [← hP2.2.1]; first | exact clashB_f1 (by assumption) | exact clashB_f3 (show (!agreeL C Rw rods (inL (membI n))) = false by assumption) | exact clashB_f2 (fun e => by have := hP2.2.2.2.2 e; subst this; simp_all) (by assumption))).symm ▸ hP2.2.1, hP2.2.2⟩
            · show 2 ^ rods.length - (n + 1) < 2 ^ rods.length - n; omega
          · refine .y (.move rfl) ⟨_, rfl, rfl⟩ ?_
            refine .y (.nilSlice rfl rfl sl_39) ⟨_, rfl, rfl⟩ ?_
            refine .y (.move rfl) ⟨_, rfl, rfl⟩ ?_
            cases hb2 : (a.isNone : Bool)
            · refine .y (.move rfl) ⟨_, rfl, rfl⟩ ?_
              refine .y (.move rfl) ⟨_, rfl, rfl⟩ ?_
              refine .c (.call rfl rfl fn_81) ⟨_, rfl, rfl⟩ (fun own ho hd => compareL_ct _ (xs := membI n) (ys := out) (SlAt.in_own 0 rfl ho hd) (SlAt.in_own 1 rfl ho hd) (by first | omega | (simp; omega) | exact Nat.le_trans (membI_len _) (by decide) | (simp [*]; done) | (simp [*]; omega)) (by first | omega | (simp; omega) | exact Nat.le_trans (membI_len _) (by decide) | (simp [*]; done) | (simp [*]; omega))) ?_
              rintro _ _ ⟨rfl, rfl⟩
              refine .y (.lss rfl rfl) ⟨_, rfl, rfl⟩ ?_
              refine .y (.pick_f rfl rfl) ⟨_, rfl, rfl⟩ ?_
              refine .y (.pick_t rfl rfl) trivial ?_
              refine .y (.move rfl) trivial ?_
              cases hb3 : (decide ((cmpL (membI n) out) < 0) : Bool)
              · refine .skip ⟨_, rfl, rfl⟩ ?_
                refine .skip ⟨_, rfl, rfl⟩ ?_
                refine .skip ⟨_, rfl, rfl⟩ ?_
                refine .nil ?_
                refine .skip ⟨_, rfl, rfl⟩ rfl ?_
                refine .skip ⟨_, rfl, rfl⟩ rfl ?_
                refine .y (.pick_f rfl rfl) trivial rfl rfl ?_
                refine .nil ?_
                refine .cond_f rfl ?_
                refine .skip ?_
                refine .region ?_
                refine .y (.add rfl rfl (by omega)) trivial rfl rfl ?_
                refine .y (.move rfl) trivial rfl rfl ?_
                refine .nil ?_
                refine ⟨⟨(n + 1, out, a, c), ?_⟩, ?_, (.one rfl (.one rfl (.one rfl (.one rfl (.one rfl (.one rfl (.nil))))))), (.pick 1 rfl (.pick 1 rfl (.nil _)))⟩
                · exact ⟨by omega, (clash_out (by rw [← hP2.2.1]; first | exact clashB_f1 (by assumption) | exact clashB_f3 (show (!agreeL C Rw rods (inL (membI n))) = false by assumption) | exact clashB_f2 (fun e => by have := hP2.2.2.2.2 e; subst this; simp_all) (by assumption))).symm ▸ hP2.2.1, hP2.2.2⟩
                · show 2 ^ rods.length - (n + 1) < 2 ^ rods.length - n; omega
              · refine .y (.load rfl (.own 2 rfl) ag_28 sz_28 rfl) ⟨_, rfl, rfl⟩ ?_
                refine .y (.move rfl) ⟨_, rfl, rfl⟩ ?_
                refine .c (.call rfl rfl fn_102) ⟨_, rfl, rfl⟩ (fun own ho hd => some_ct _ ) ?_
                rintro _ _ ⟨B2, rfl, rfl⟩
                refine .nil ?_
                refine .c (.call rfl rfl fn_101) ⟨_, rfl, rfl⟩ rfl rfl (fun own ho hd => agree_ct _ fn_145 (fun g' hg z_ hz_ => some1_ct g' (xs := membI n) (hg _ _ (one_in 0 rfl ho hd)) (SlR.mono (SlAt.in_own 1 rfl ho hd) hg) (by first | omega | (simp; omega) | exact Nat.le_trans (membI_len _) (by decide) | (simp [*]; done) | (simp [*]; omega))) hc (rods := rods) (SlR.up hr) hl hv) ?_
                rintro _ _ ⟨rfl, rfl⟩
                refine .y (.not rfl) ⟨_, rfl, rfl⟩ rfl rfl ?_
                refine .y (.pick_t rfl rfl) trivial rfl rfl ?_
                refine .nil ?_
                refine .cond rfl (fun h5 => ?_) (fun h5 => ?_)
                · refine .region ?_
                  refine .y (.move rfl) trivial rfl rfl ?_
                  refine .y (.assign rfl) trivial rfl rfl ?_
                  refine .nil ?_
                  refine .region ?_
                  refine .y (.add rfl rfl (by omega)) trivial rfl rfl ?_
                  refine .y (.move rfl) trivial rfl rfl ?_
                  refine .nil ?_
                  refine ⟨⟨(n + 1, membI n, a1, c1), ?_⟩, ?_, (.one rfl (.one rfl (.one rfl (.one rfl (.one rfl (.one rfl (.nil))))))), (.pick 1 rfl (.pick 2 rfl (.nil _)))⟩
                  · exact ⟨by omega, (clash_in (by rw [← hP2.2.1]; exact clashB_t (by assumption) (by first | exact .inl (hnone (Option.isNone_iff_eq_none.1 (by assumption))) | exact .inr (by assumption)) (by assumption))).symm, by assumption, membI_len _, fun e => absurd e (clash_ne (show (!agreeL C Rw rods (inL (membI n))) = true by assumption))⟩
                  · show 2 ^ rods.length - (n + 1) < 2 ^ rods.length - n; omega
                · refine .skip ?_
                  refine .region ?_
                  refine .y (.add rfl rfl (by omega)) trivial rfl rfl ?_
                  refine .y (.move rfl) trivial rfl rfl ?_
                  refine .nil ?_
                  refine ⟨⟨(n + 1, out, a, c), ?_⟩, ?_, (.one rfl (.one rfl (.one rfl (.one rfl (.one rfl (.one rfl (.nil))))))), (.pick 2 rfl (.pick 2 rfl (.nil _)))⟩
                  · exact ⟨by omega, (clash_out (by rw [← hP2.2.1]; first | exact clashB_f1 (by assumption) | exact clashB_f3 (show (!agreeL C Rw rods (inL (membI n))) = false by assumption) | exact clashB_f2 (fun e => by have := hP2.2.2.2.2 e; subst this; simp_all) (by assumption))).symm ▸ hP2.2.1, hP2.2.2⟩
                  · show 2 ^ rods.length - (n + 1) < 2 ^ rods.length - n; omega
            · refine .skip ⟨_, rfl, rfl⟩ ?_
              refine .skip ⟨_, rfl, rfl⟩ ?_
              refine .skip ⟨_, rfl, rfl⟩ ?_
              refine .skip ⟨_, rfl, rfl⟩ ?_
              refine .y (.pick_t rfl rfl) ⟨_, rfl, rfl⟩ ?_
              refine .y (.pick_t rfl rfl) trivial ?_
              refine .y (.move rfl) trivial ?_
              refine .y (.load rfl (.own 2 rfl) ag_28 sz_28 rfl) ⟨_, rfl, rfl⟩ ?_
              refine .y (.move rfl) ⟨_, rfl, rfl⟩ ?_
              refine .c (.call rfl rfl fn_102) ⟨_, rfl, rfl⟩ (fun own ho hd => some_ct _ ) ?_
              rintro _ _ ⟨B3, rfl, rfl⟩
              refine .nil ?_
              refine .c (.call rfl rfl fn_101) ⟨_, rfl, rfl⟩ rfl rfl (fun own ho hd => agree_ct _ fn_145 (fun g' hg z_ hz_ => some1_ct g' (xs := membI n) (hg _ _ (one_in 0 rfl ho hd)) (SlR.mono (SlAt.in_own 1 rfl ho hd) hg) (by first | omega | (simp; omega) | exact Nat.le_trans (membI_len _) (by decide) | (simp [*]; done) | (simp [*]; omega))) hc (rods := rods) (SlR.up hr) hl hv) ?_
              rintro _ _ ⟨rfl, rfl⟩
              refine .y (.not rfl) ⟨_, rfl, rfl⟩ rfl rfl ?_
              refine .y (.pick_t rfl rfl) trivial rfl rfl ?_
              refine .nil ?_
              refine .cond rfl (fun h6 => ?_) (fun h6 => ?_)
              · refine .region ?_
                refine .y (.move rfl) trivial rfl rfl ?_
                refine .y (.assign rfl) trivial rfl rfl ?_
                refine .nil ?_
                refine .region ?_
                refine .y (.add rfl rfl (by omega)) trivial rfl rfl ?_
                refine .y (.move rfl) trivial rfl rfl ?_
                refine .nil ?_
                refine ⟨⟨(n + 1, membI n, a1, c1), ?_⟩, ?_, (.one rfl (.one rfl (.one rfl (.one rfl (.one rfl (.one rfl (.nil))))))), (.pick 1 rfl (.pick 2 rfl (.nil _)))⟩
                · exact ⟨by omega, (clash_in (by rw [← hP2.2.1]; exact clashB_t (by assumption) (by first | exact .inl (hnone (Option.isNone_iff_eq_none.1 (by assumption))) | exact .inr (by assumption)) (by assumption))).symm, by assumption, membI_len _, fun e => absurd e (clash_ne (show (!agreeL C Rw rods (inL (membI n))) = true by assumption))⟩
                · show 2 ^ rods.length - (n + 1) < 2 ^ rods.length - n; omega
              · refine .skip ?_
                refine .region ?_
                refine .y (.add rfl rfl (by omega)) trivial rfl rfl ?_
                refine .y (.move rfl) trivial rfl rfl ?_
                refine .nil ?_
                refine ⟨⟨(n + 1, out, a, c), ?_⟩, ?_, (.one rfl (.one rfl (.one rfl (.one rfl (.one rfl (.one rfl (.nil))))))), (.pick 2 rfl (.pick 2 rfl (.nil _)))⟩
                · exact ⟨by omega, (clash_out (by rw [← hP2.2.1]; first | exact clashB_f1 (by assumption) | exact clashB_f3 (show (!agreeL C Rw rods (inL (membI n))) = false by assumption) | exact clashB_f2 (fun e => by have := hP2.2.2.2.2 e; subst this; simp_all) (by assumption))).symm ▸ hP2.2.1, hP2.2.2⟩
                · show 2 ^ rods.length - (n + 1) < 2 ^ rods.length - n; omega
        · refine .exit ?_
          refine inB_hit ?_
          refine .seq ?_
          refine .region ?_
          refine .y (.move rfl) trivial rfl rfl ?_
          refine .y (.notNilSlice rfl rfl sl_39) trivial rfl rfl ?_
          refine .nil ?_
          refine .cond rfl (fun h7 => ?_) (fun h7 => ?_)
          · refine .exit ?_
            refine inB_miss (by decide) ?_
            refine inB_hit ?_
            refine .seq ?_
            refine .region ?_
            refine .y (.move rfl) trivial rfl rfl ?_
            refine .y (.assign rfl) trivial rfl rfl ?_
            refine .y (.assign rfl) trivial rfl rfl ?_
            refine .nil ?_
            refine .ret ?_
            refine ⟨.inr rfl, _, _, (.pick 0 rfl (.nil _)), fun own' ho => .two rfl rfl rfl, ?_⟩
            have hn : 2 ^ rods.length = n := by omega
            have e : clashTo C Rw rods 9 = out := by
              rw [clashTo_stop (m := m + 1) (by rw [clashTo_next hP0.2, hn, ← hP2.2.1]; intro e; have := hP2.2.2.2.2 e; subst this; simp_all) 9 (by omega), clashTo_next hP0.2, hn, ← hP2.2.1]
            rw [e]; exact ⟨_, _, rfl, rfl, hP2.2.2.1⟩
          · have ha : a = none := by simpa using h7
            have hn : 2 ^ rods.length = n := by omega
            subst ha
            obtain rfl : c = 0 := hP2.2.2.1.cap rfl
            obtain rfl : out = [] := hnone rfl
            refine .skip ?_
            refine .region ?_
            refine .y (.add rfl rfl (by omega)) trivial rfl rfl ?_
            refine .y (.move rfl) trivial rfl rfl ?_
            refine .nil ?_
            refine ⟨⟨(m + 1), ?_⟩, ?_, (.one rfl (.one rfl (.one rfl (.nil)))), (.pick 1 rfl (.nil _))⟩
            · exact ⟨by omega, by rw [clashTo_next hP0.2, hn]; exact hP2.2.1.symm⟩
            · show 9 - (m + 1) < 9 - m; omega
      · refine .exit ?_
        refine inB_hit ?_
        refine .seq ?_
        refine .region ?_
        refine .y (.move rfl) trivial rfl rfl ?_
        refine .y (.assign rfl) trivial rfl rfl ?_
        refine .y (.assign rfl) trivial rfl rfl ?_
        refine .nil ?_
        refine .ret ?_
        refine ⟨.inr rfl, _, _, (.nilSl (E := eInt) (T := 3) (.nil _)), fun own' ho => .two rfl rfl rfl, ?_⟩
        obtain rfl : m = 9 := by omega
        rw [hP0.2]; exact ⟨_, _, rfl, rfl, .nil⟩
theorem Clash_none (g : Hp) {C Rw : Nat} {ra : Option Addr} {rc : Nat} {rods : List Rod} (hc : 1 ≤ C ∧ C ≤ 5 ∧ 1 ≤ Rw ∧ Rw ≤ 5) (hr : SlR eRod g ra rods) (hl : rods.length ≤ 8) (hv : ∀ r ∈ rods, RodOk r) (hck : chkBin (C : Int) (Rw : Int) rods = 0) (hfit : fitsL C Rw rods (mostTo C rods (fun _ => true) (C * Rw)) (fun _ => true) = true) : Ct Tryz.prog 44 [.agg #[.int .i64 (C : Int), .int .i64 (Rw : Int), .slice ra rods.length rc]].toArray g [] (fun v rs => v = .tuple #[.slice none 0 0, .int .i64 6] ∧ rs = []) := by
  refine Ct.of_body (N := 56) (l := [.agg #[.int .i64 (C : Int), .int .i64 (Rw : Int), .slice ra rods.length rc]]) Tryz.func44 rfl rfl (Nat.le_of_ble_eq_true rfl) fun n0 => ?_
  refine .seq ?_
  refine .region ?_
  refine .n (.box rfl) trivial rfl rfl fun B1 => ?_
  refine .y (.assign rfl) trivial rfl rfl ?_
  refine .y (.assign rfl) trivial rfl rfl ?_
  refine .nil ?_
  refine .scope ?_
  refine .seq ?_
  refine .seq ?_
  refine .region ?_
  refine .y (.load rfl (.own 0 rfl) ag_28 sz_28 rfl) trivial rfl rfl ?_
  refine .c (.call rfl rfl fn_22) trivial rfl rfl (fun own ho hd => Check_ct _ (rods := rods) (SlR.up hr) (by first | omega | simp)) ?_
  rintro _ _ ⟨rfl, rfl⟩
  refine .y (.assign rfl) trivial rfl rfl ?_
  refine .nil ?_
  refine .seq ?_
  refine .region ?_
  refine .y (.move rfl) trivial rfl rfl ?_
  refine .y (.neq rfl rfl) trivial rfl rfl ?_
  refine .nil ?_
  refine .ite rfl (fun h1 => ?_) (fun h1 => ?_)
  · exact absurd hck (by simpa using h1)
  · refine .skip ?_
    refine .seq ?_
    refine .seq ?_
    refine T.dr (N := 56) [(1, (fun v rs => v = .agg #[.func (.func 131) #[] #[]] ∧ rs = []))] [0, 0, 3] 2 (by kernel_rfl) flw rfl (Nat.le_of_ble_eq_true rfl) ?_
    refine .y (.load rfl (.own 0 rfl) ag_28 sz_28 rfl) trivial ?_
    refine .c (.call rfl rfl fn_75) trivial (fun own ho hd => all_ct _ ) ?_
    rintro _ _ ⟨rfl, rfl⟩
    refine .nil ?_
    refine .c (.call rfl rfl fn_101) trivial rfl rfl (fun own ho hd => agree_ct _ fn_131 (fun g' hg x hx => all1_ct g') hc (rods := rods) (SlR.up hr) hl hv) ?_
    rintro _ _ ⟨rfl, rfl⟩
    refine .nil ?_
    refine .cond rfl (fun h2 => ?_) (fun h2 => ?_)
    · refine .seq ?_
      refine .region ?_
      refine .y (.assign rfl) trivial rfl rfl ?_
      refine .y (.assign rfl) trivial rfl rfl ?_
      refine .nil ?_
      refine .ret ?_
      refine ⟨.inr rfl, _, _, (.nil _), fun own' ho => .two rfl rfl rfl, ?_⟩
      exact ⟨rfl, rfl⟩
    · exact absurd hfit (by simpa using h2)
theorem Three_ct (g : Hp) {a : Option Addr} {c : Nat} {xs : List Int} (hs : SlR eInt g a xs) (hl : xs.length ≤ 1000) (hxs : ∀ x ∈ xs, 0 ≤ x ∧ x < 4) : Ct Tryz.prog 64 [.slice a xs.length c].toArray g [] (fun v rs => ∃ (a' : Option Addr) (c' : Nat), v = .agg #[.int .i64 4, .int .i64 3, .slice a' ((xs.map threeAt).length) c'] ∧ rs = [SlO eRod 32 a' c' (xs.map threeAt)] ∧ SlOk a' c') := by
  refine Ct.of_body (N := 34) (l := [.slice a xs.length c]) Tryz.func64 rfl rfl (Nat.le_of_ble_eq_true rfl) fun n0 => ?_
  refine .seq ?_
  refine .region ?_
  refine .n (.alloc zr_28) trivial rfl rfl fun B1 => ?_
  refine .nil ?_
  refine .seq ?_
  refine .region ?_
  refine .y (.build rfl pl_30 zr_30 rfl) trivial rfl rfl ?_
  refine .y (.to (v' := .agg #[.int .i64 1, .int .i64 1, .int .i64 2, .int .i64 3]) (.build rfl pl_32 zr_32 rfl) rfl) trivial rfl rfl ?_
  refine .y (.build rfl pl_30 zr_30 rfl) trivial rfl rfl ?_
  refine .y (.to (v' := .agg #[.int .i64 3, .int .i64 0, .int .i64 1, .int .i64 0]) (.build rfl pl_32 zr_32 rfl) rfl) trivial rfl rfl ?_
  refine .y (.build rfl pl_30 zr_30 rfl) trivial rfl rfl ?_
  refine .y (.to (v' := .agg #[.int .i64 0, .int .i64 2, .int .i64 1, .int .i64 4]) (.build rfl pl_32 zr_32 rfl) rfl) trivial rfl rfl ?_
  refine .y (.build rfl pl_30 zr_30 rfl) trivial rfl rfl ?_
  refine .y (.to (v' := .agg #[.int .i64 0, .int .i64 2, .int .i64 0, .int .i64 0]) (.build rfl pl_32 zr_32 rfl) rfl) trivial rfl rfl ?_
  refine .n (.lit (cells := #[.int .i64 1, .int .i64 1, .int .i64 2, .int .i64 3, .int .i64 3, .int .i64 0, .int .i64 1, .int .i64 0, .int .i64 0, .int .i64 2, .int .i64 1, .int .i64 4, .int .i64 0, .int .i64 2, .int .i64 0, .int .i64 0]) #[.int .i64 0, .int .i64 0, .int .i64 0, .int .i64 0, .int .i64 0, .int .i64 0, .int .i64 0, .int .i64 0, .int .i64 0, .int .i64 0, .int .i64 0, .int .i64 0, .int .i64 0, .int .i64 0, .int .i64 0, .int .i64 0] lz_32_4 rfl sl_26 sz_32 zr_32 rfl rfl rfl) trivial rfl rfl fun B2 => ?_
  refine .y (.assign rfl) trivial rfl rfl ?_
  refine .nil ?_
  refine .seq ?_
  refine .region ?_
  refine .y (.build rfl pl_28 zr_28 rfl) trivial rfl rfl ?_
  refine .n (.alloc zr_28) trivial rfl rfl fun B3 => ?_
  refine .cons trivial (.store 0 rfl rfl rfl sz_28 rfl rfl (Nat.le_of_ble_eq_true rfl) rfl ?_)
  refine .nil ?_
  refine .seq ?_
  refine .seq ?_
  refine .region ?_
  refine .y (.move rfl) trivial rfl rfl ?_
  refine .y (.len rfl sl_39) trivial rfl rfl ?_
  refine .y (.move rfl) trivial rfl rfl ?_
  refine .nil ?_
  refine .block ?_
  refine T.loop (ι := { zz : Nat × List Rod × Option Addr × Nat // zz.1 ≤ xs.length ∧ zz.2.1 = (xs.take zz.1).map threeAt ∧ SlOk zz.2.2.1 zz.2.2.2 }) (fun zz => ([(19, .int .i64 (zz.1.1 : Int)), (2, .pointer (some ⟨B1, 0, none⟩)), (3, .slice (some ⟨B2, 0, none⟩) 4 4), (4, .pointer (some ⟨B3, 0, none⟩)), (17, .slice a xs.length c), (18, .int .i64 (xs.length : Int))], [SlO eRod 32 zz.1.2.2.1 zz.1.2.2.2 zz.1.2.1, As.one B3 (.cells #[.int .i64 4, .int .i64 3, .slice zz.1.2.2.1 zz.1.2.1.length zz.1.2.2.2] 28 (0, 0)), As.one B2 (.cells #[.int .i64 1, .int .i64 1, .int .i64 2, .int .i64 3, .int .i64 3, .int .i64 0, .int .i64 1, .int .i64 0, .int .i64 0, .int .i64 2, .int .i64 1, .int .i64 4, .int .i64 0, .int .i64 2, .int .i64 0, .int .i64 0] 32 (0, 0)), As.one B1 (.cells #[.int .i64 0, .int .i64 0, .slice none 0 0] 28 (0, 0))])) (fun zz => xs.length - zz.1.1) ⟨(0, [], none, 0), ⟨Nat.zero_le _, rfl, .nil⟩⟩ (.one rfl (.one rfl (.one rfl (.one rfl (.one rfl (.one rfl (.nil))))))) (.nilSl (.refl _)) ?_
  rintro ⟨⟨i, out, b, d⟩, hP0⟩
  dsimp only at hP0
  show T _ [(19, .int .i64 (i : Int)), (2, .pointer (some ⟨B1, 0, none⟩)), (3, .slice (some ⟨B2, 0, none⟩) 4 4), (4, .pointer (some ⟨B3, 0, none⟩)), (17, .slice a xs.length c), (18, .int .i64 (xs.length : Int))] [SlO eRod 32 b d out, As.one B3 (.cells #[.int .i64 4, .int .i64 3, .slice b out.length d] 28 (0, 0)), As.one B2 (.cells #[.int .i64 1, .int .i64 1, .int .i64 2, .int .i64 3, .int .i64 3, .int .i64 0, .int .i64 1, .int .i64 0, .int .i64 0, .int .i64 2, .int .i64 1, .int .i64 4, .int .i64 0, .int .i64 2, .int .i64 0, .int .i64 0] 32 (0, 0)), As.one B1 (.cells #[.int .i64 0, .int .i64 0, .slice none 0 0] 28 (0, 0))] _ _
  refine .seq ?_
  refine .region ?_
  refine .y (.lss rfl rfl) trivial rfl rfl ?_
  refine .nil ?_
  refine .seq ?_
  refine .ite rfl (fun h1 => ?_) (fun h1 => ?_)
  · refine .skip ?_
    refine .seq ?_
    refine .block ?_
    refine .seq ?_
    refine .region ?_
    have hbhx1 : i < xs.length := by omega
    obtain ⟨x1, hx1⟩ : ∃ x1, xs[i]? = some x1 := ⟨_, List.getElem?_eq_getElem hbhx1⟩
    refine .y (.indexE (E := eInt) rfl rfl (.g hs) rfl sl_39 sz_3 (by omega)) trivial rfl rfl ?_
    refine .y (.loadE (E := eInt) rfl (.g hs) ag_3 sz_3 (by decide) (eInt.rd0 hx1 (by decide) (by decide) rfl)) trivial rfl rfl ?_
    refine .y (.assign rfl) trivial rfl rfl ?_
    refine .nil ?_
    refine T.dr (N := 34) [] [0, 1, 0, 0, 12, 28, 60, 127, 255, 511] 7 (by kernel_rfl) flw rfl (Nat.le_of_ble_eq_true rfl) ?_
    refine .y (.fieldAddr rfl fl_28_2) trivial ?_
    refine .y (.load rfl (.own 1 rfl) ag_26 sz_26 rfl) trivial ?_
    refine .y (.move rfl) trivial ?_
    refine .y (.move rfl) trivial ?_
    have hbhx2 : Int.toNat x1 < ([⟨⟨1, 1⟩, 2, 3⟩, ⟨⟨3, 0⟩, 1, 0⟩, ⟨⟨0, 2⟩, 1, 4⟩, ⟨⟨0, 2⟩, 0, 0⟩] : List Rod).length := (by have := hxs _ (List.mem_of_getElem? hx1); show _ < 4; omega)
    obtain ⟨x2, hx2⟩ : ∃ x2, ([⟨⟨1, 1⟩, 2, 3⟩, ⟨⟨3, 0⟩, 1, 0⟩, ⟨⟨0, 2⟩, 1, 4⟩, ⟨⟨0, 2⟩, 0, 0⟩] : List Rod)[Int.toNat x1]? = some x2 := ⟨_, List.getElem?_eq_getElem hbhx2⟩
    refine .y (.indexE (E := eRod) (xs := ([⟨⟨1, 1⟩, 2, 3⟩, ⟨⟨3, 0⟩, 1, 0⟩, ⟨⟨0, 2⟩, 1, 4⟩, ⟨⟨0, 2⟩, 0, 0⟩] : List Rod)) rfl rfl (.lit 2 rfl rfl) rfl sl_26 sz_32 ⟨(hxs _ (List.mem_of_getElem? hx1)).1, (hxs _ (List.mem_of_getElem? hx1)).2⟩) trivial ?_
    refine .y (.loadE (E := eRod) (xs := ([⟨⟨1, 1⟩, 2, 3⟩, ⟨⟨3, 0⟩, 1, 0⟩, ⟨⟨0, 2⟩, 1, 4⟩, ⟨⟨0, 2⟩, 0, 0⟩] : List Rod)) rfl (.lit 2 rfl rfl) ag_32 sz_32 (by decide) (eRod.rd0 hx2 (by decide) (by decide) rfl)) trivial ?_
    refine .n (.lit (cells := #[.int .i64 x2.tip.col, .int .i64 x2.tip.row, .int .i64 x2.range, .int .i64 x2.shows]) #[.int .i64 0, .int .i64 0, .int .i64 0, .int .i64 0] lz_32_1 rfl sl_26 sz_32 zr_32 rfl rfl rfl) trivial fun B4 => ?_
    refine .nil ?_
    refine .cons trivial (.app (E := eRod) (ys := [x2]) 1 el_26 rfl rfl rfl rfl rfl (.of_cells (.own 0 rfl)) (fun h => by cases h) (by first | omega | (simp; omega) | (simp [*]; omega)) (by first | omega | (simp; omega) | (simp [*]; omega)) rfl fun a1 c1 oka1 => ?_)
    refine .y (.fieldAddr rfl fl_28_2) trivial rfl rfl ?_
    refine .cons trivial (.store 2 rfl rfl rfl sz_26 rfl rfl (Nat.le_of_ble_eq_true rfl) rfl ?_)
    refine .nil ?_
    refine .region ?_
    refine .y (.add rfl rfl (by omega)) trivial rfl rfl ?_
    refine .y (.move rfl) trivial rfl rfl ?_
    refine .nil ?_
    refine ⟨⟨(i + 1, out ++ ([x2]), a1, c1), ?_⟩, ?_, (.one rfl (.one rfl (.one rfl (.one rfl (.one rfl (.one rfl (.nil))))))), (.pick 1 rfl (.pick 1 rfl (.pick 1 rfl (.pick 1 rfl (.nil _)))))⟩
    · exact ⟨by omega, by rw [three_step hx1 (by assumption), ← hP0.2.1], by assumption⟩
    · show xs.length - (i + 1) < xs.length - i; omega
  · refine .exit ?_
    refine inB_hit ?_
    refine .seq ?_
    refine .region ?_
    refine .y (.load rfl (.own 1 rfl) ag_28 sz_28 rfl) trivial rfl rfl ?_
    refine .cons trivial (.store 3 rfl rfl rfl sz_28 rfl rfl (Nat.le_of_ble_eq_true rfl) rfl ?_)
    refine .nil ?_
    refine .ret ?_
    refine ⟨.inr rfl, _, _, (.pick 0 rfl (.nil _)), fun own' ho => .one2 rfl (.c rfl (own_get 3 rfl ho) ag_28 sz_28 rfl), ?_⟩
    have e : out = xs.map threeAt := by rw [hP0.2.1, List.take_of_length_le (by omega)]
    rw [← e]; exact ⟨_, _, rfl, rfl, hP0.2.2⟩
end Go.Proofs.YtfcjmoolnadfbaaGreat
