/- Contracts of functions of package rod, printed by vgen: part RF1. -/
import Derived.Test.YtfcjmoolnadfbaaGreatProg
import Derived.Test.YtfcjmoolnadfbaaGreatRSpec
import Derived.KernelRfl
set_option linter.unusedVariables false
set_option linter.unusedSimpArgs false
namespace Go.Proofs.YtfcjmoolnadfbaaGreat
open Go.V
theorem ag_104 : agOf Tryz.prog 104 = some false := by kernel_rfl
theorem ag_121 : agOf Tryz.prog 121 = some true := by kernel_rfl
theorem ag_129 : agOf Tryz.prog 129 = some false := by kernel_rfl
theorem ag_131 : agOf Tryz.prog 131 = some true := by kernel_rfl
theorem ag_26 : agOf Tryz.prog 26 = some false := by kernel_rfl
theorem ag_28 : agOf Tryz.prog 28 = some true := by kernel_rfl
theorem ag_3 : agOf Tryz.prog 3 = some false := by kernel_rfl
theorem ag_30 : agOf Tryz.prog 30 = some true := by kernel_rfl
theorem ag_32 : agOf Tryz.prog 32 = some true := by kernel_rfl
theorem ar_121 : arrOf Tryz.prog 121 = some (25, 3) := by kernel_rfl
theorem el_39 : ElOk Tryz.prog 39 3 1 8 (.int .i64 0) := ⟨by kernel_rfl, by kernel_rfl, rfl⟩
theorem fl_131_0 : fldOf Tryz.prog 131 0 = some 0 := by kernel_rfl
theorem fl_28_0 : fldOf Tryz.prog 28 0 = some 0 := by kernel_rfl
theorem fl_28_1 : fldOf Tryz.prog 28 1 = some 1 := by kernel_rfl
theorem fl_28_2 : fldOf Tryz.prog 28 2 = some 2 := by kernel_rfl
theorem fl_30_0 : fldOf Tryz.prog 30 0 = some 0 := by kernel_rfl
theorem fl_30_1 : fldOf Tryz.prog 30 1 = some 1 := by kernel_rfl
theorem fl_32_0 : fldOf Tryz.prog 32 0 = some 0 := by kernel_rfl
theorem fl_32_1 : fldOf Tryz.prog 32 1 = some 2 := by kernel_rfl
theorem fl_32_2 : fldOf Tryz.prog 32 2 = some 3 := by kernel_rfl
theorem flw : (Tryz.prog).follows .mixedOrders = true := by kernel_rfl
theorem fn_123 : fnOk Tryz.prog 123 = true := by kernel_rfl
theorem fn_126 : fnOk Tryz.prog 126 = true := by kernel_rfl
theorem fn_127 : fnOk Tryz.prog 127 = true := by kernel_rfl
theorem fn_129 : fnOk Tryz.prog 129 = true := by kernel_rfl
theorem fn_132 : fnOk Tryz.prog 132 = true := by kernel_rfl
theorem fn_136 : fnOk Tryz.prog 136 = true := by kernel_rfl
theorem fn_137 : fnOk Tryz.prog 137 = true := by kernel_rfl
theorem fn_139 : fnOk Tryz.prog 139 = true := by kernel_rfl
theorem fn_52 : fnOk Tryz.prog 52 = true := by kernel_rfl
theorem fn_53 : fnOk Tryz.prog 53 = true := by kernel_rfl
theorem fn_62 : fnOk Tryz.prog 62 = true := by kernel_rfl
theorem fn_74 : fnOk Tryz.prog 74 = true := by kernel_rfl
theorem fn_83 : fnOk Tryz.prog 83 = true := by kernel_rfl
theorem fn_84 : fnOk Tryz.prog 84 = true := by kernel_rfl
theorem fn_85 : fnOk Tryz.prog 85 = true := by kernel_rfl
theorem fn_86 : fnOk Tryz.prog 86 = true := by kernel_rfl
theorem fn_87 : fnOk Tryz.prog 87 = true := by kernel_rfl
theorem fn_89 : fnOk Tryz.prog 89 = true := by kernel_rfl
theorem fn_91 : fnOk Tryz.prog 91 = true := by kernel_rfl
theorem fn_95 : fnOk Tryz.prog 95 = true := by kernel_rfl
theorem fn_96 : fnOk Tryz.prog 96 = true := by kernel_rfl
theorem lz_3_1 : ((Array.range (1 * 1)).map ((.int .i64 0 : Value).cells[· % (.int .i64 0 : Value).cells.size]!)) = #[.int .i64 0] := by kernel_rfl
theorem lz_3_2 : ((Array.range (2 * 1)).map ((.int .i64 0 : Value).cells[· % (.int .i64 0 : Value).cells.size]!)) = #[.int .i64 0, .int .i64 0] := by kernel_rfl
theorem pl_131 : plOf Tryz.prog 131 = some [(0, 1)] := by kernel_rfl
theorem pl_30 : plOf Tryz.prog 30 = some [(0, 1), (1, 1)] := by kernel_rfl
theorem sl_22 : sliOf Tryz.prog 22 = some 30 := by kernel_rfl
theorem sl_26 : sliOf Tryz.prog 26 = some 32 := by kernel_rfl
theorem sl_39 : sliOf Tryz.prog 39 = some 3 := by kernel_rfl
theorem sz_104 : szOf Tryz.prog 104 = some 1 := by kernel_rfl
theorem sz_121 : szOf Tryz.prog 121 = some 25 := by kernel_rfl
theorem sz_129 : szOf Tryz.prog 129 = some 1 := by kernel_rfl
theorem sz_131 : szOf Tryz.prog 131 = some 1 := by kernel_rfl
theorem sz_26 : szOf Tryz.prog 26 = some 1 := by kernel_rfl
theorem sz_28 : szOf Tryz.prog 28 = some 3 := by kernel_rfl
theorem sz_3 : szOf Tryz.prog 3 = some 1 := by kernel_rfl
theorem sz_30 : szOf Tryz.prog 30 = some 2 := by kernel_rfl
theorem sz_32 : szOf Tryz.prog 32 = some 4 := by kernel_rfl
theorem tw_30 : twoI Tryz.prog 30 = true := by kernel_rfl
theorem zr_121 : zeroOf Tryz.prog 121 = some (.agg #[.int .i64 0, .int .i64 0, .int .i64 0, .int .i64 0, .int .i64 0, .int .i64 0, .int .i64 0, .int .i64 0, .int .i64 0, .int .i64 0, .int .i64 0, .int .i64 0, .int .i64 0, .int .i64 0, .int .i64 0, .int .i64 0, .int .i64 0, .int .i64 0, .int .i64 0, .int .i64 0, .int .i64 0, .int .i64 0, .int .i64 0, .int .i64 0, .int .i64 0]) := by kernel_rfl
theorem zr_131 : zeroOf Tryz.prog 131 = some (.agg #[.nilFunc]) := by kernel_rfl
theorem zr_3 : zeroOf Tryz.prog 3 = some (.int .i64 0) := by kernel_rfl
theorem zr_30 : zeroOf Tryz.prog 30 = some (.agg #[.int .i64 0, .int .i64 0]) := by kernel_rfl
theorem zr_32 : zeroOf Tryz.prog 32 = some (.agg #[.int .i64 0, .int .i64 0, .int .i64 0, .int .i64 0]) := by kernel_rfl
theorem in_ct (g : Hp) {n lo hi : Int} : Ct Tryz.prog 83 [.int .i64 n, .int .i64 lo, .int .i64 hi].toArray g [] (fun v rs => v = .bool (decide (lo ≤ n) && decide (n ≤ hi)) ∧ rs = []) := by
  refine Ct.of_body (N := 15) (l := [.int .i64 n, .int .i64 lo, .int .i64 hi]) Tryz.func83 rfl rfl (Nat.le_of_ble_eq_true rfl) fun n0 => ?_
  refine .seq ?_
  refine .region ?_
  refine .y (.assign rfl) trivial rfl rfl ?_
  refine .nil ?_
  refine .seq ?_
  refine .region ?_
  refine .y (.move rfl) trivial rfl rfl ?_
  refine .y (.move rfl) trivial rfl rfl ?_
  refine .y (.geq rfl rfl) trivial rfl rfl ?_
  refine .y (.move rfl) trivial rfl rfl ?_
  refine .split 10 rfl (fun hb1 => ?_) (fun hb1 => ?_)
  · refine .y (.move rfl) ⟨_, rfl, rfl⟩ rfl rfl ?_
    refine .y (.move rfl) ⟨_, rfl, rfl⟩ rfl rfl ?_
    refine .y (.leq rfl rfl) ⟨_, rfl, rfl⟩ rfl rfl ?_
    refine .y (.pick_t rfl rfl) trivial rfl rfl ?_
    refine .y (.assign rfl) trivial rfl rfl ?_
    refine .nil ?_
    refine .ret ?_
    refine ⟨.inr rfl, _, _, (.nil _), fun own' ho => .one rfl rfl, ?_⟩
    first | exact ⟨rfl, rfl⟩ | (refine ⟨?_, rfl⟩; simp [*])
  · refine .skip ⟨_, rfl, rfl⟩ rfl ?_
    refine .skip ⟨_, rfl, rfl⟩ rfl ?_
    refine .skip ⟨_, rfl, rfl⟩ rfl ?_
    refine .y (.pick_f rfl rfl) trivial rfl rfl ?_
    refine .y (.assign rfl) trivial rfl rfl ?_
    refine .nil ?_
    refine .ret ?_
    refine ⟨.inr rfl, _, _, (.nil _), fun own' ho => .one rfl rfl, ?_⟩
    first | exact ⟨rfl, rfl⟩ | (refine ⟨?_, rfl⟩; simp [*])
theorem from_ct (g : Hp) {a b : Cell} (ha : Sm a) (hb : Sm b) : Ct Tryz.prog 53 [.agg #[.int .i64 a.col, .int .i64 a.row], .agg #[.int .i64 b.col, .int .i64 b.row]].toArray g [] (fun v rs => v = .int .i64 (dist a b) ∧ rs = []) := by
  refine Ct.of_body (N := 26) (l := [.agg #[.int .i64 a.col, .int .i64 a.row], .agg #[.int .i64 b.col, .int .i64 b.row]]) Tryz.func53 rfl rfl (Nat.le_of_ble_eq_true rfl) fun n0 => ?_
  refine .seq ?_
  refine .region ?_
  refine .n (.box rfl) trivial rfl rfl fun B1 => ?_
  refine .n (.box rfl) trivial rfl rfl fun B2 => ?_
  refine .y (.assign rfl) trivial rfl rfl ?_
  refine .nil ?_
  refine .seq ?_
  refine T.dr (N := 26) [] [0, 1, 0, 4, 15, 0, 32, 0, 128, 480, 31, 2047] 11 (by kernel_rfl) flw rfl (Nat.le_of_ble_eq_true rfl) ?_
  refine .y (.fieldAddr rfl fl_30_0) trivial ?_
  refine .y (.load rfl (.own 1 rfl) ag_3 sz_3 rfl) trivial ?_
  refine .y (.fieldAddr rfl fl_30_0) trivial ?_
  refine .y (.load rfl (.own 0 rfl) ag_3 sz_3 rfl) trivial ?_
  refine .y (.sub rfl rfl (by unfold Sm at *; omega)) trivial ?_
  refine .y (.fieldAddr rfl fl_30_1) trivial ?_
  refine .y (.load rfl (.own 1 rfl) ag_3 sz_3 rfl) trivial ?_
  refine .y (.fieldAddr rfl fl_30_1) trivial ?_
  refine .y (.load rfl (.own 0 rfl) ag_3 sz_3 rfl) trivial ?_
  refine .y (.sub rfl rfl (by unfold Sm at *; omega)) trivial ?_
  refine .y (.assign rfl) trivial ?_
  refine .nil ?_
  refine .y (.assign rfl) trivial rfl rfl ?_
  refine .nil ?_
  refine .seq ?_
  refine .region ?_
  refine .y (.move rfl) trivial rfl rfl ?_
  refine .y (.move rfl) trivial rfl rfl ?_
  refine .y (.neg rfl (by unfold Sm at *; omega)) trivial rfl rfl ?_
  refine .y (.maxi rfl rfl) trivial rfl rfl ?_
  refine .y (.move rfl) trivial rfl rfl ?_
  refine .y (.move rfl) trivial rfl rfl ?_
  refine .y (.neg rfl (by unfold Sm at *; omega)) trivial rfl rfl ?_
  refine .y (.maxi rfl rfl) trivial rfl rfl ?_
  refine .y (.add rfl rfl (by unfold Sm at *; omega)) trivial rfl rfl ?_
  refine .y (.assign rfl) trivial rfl rfl ?_
  refine .nil ?_
  refine .ret ?_
  refine ⟨.inr rfl, _, _, (.nil _), fun own' ho => .one rfl rfl, ?_⟩
  first | exact ⟨rfl, rfl⟩ | (refine ⟨?_, rfl⟩; simp [*])
theorem lawfrom_ct (g : Hp) {a b : Cell} (ha : Sm a) (hb : Sm b) : Ct Tryz.prog 12 [.agg #[.int .i64 a.col, .int .i64 a.row], .agg #[.int .i64 b.col, .int .i64 b.row]].toArray g [] (fun v rs => v = .int .i64 (dist a b) ∧ rs = []) := by
  refine Ct.of_body (N := 28) (l := [.agg #[.int .i64 a.col, .int .i64 a.row], .agg #[.int .i64 b.col, .int .i64 b.row]]) Tryz.func12 rfl rfl (Nat.le_of_ble_eq_true rfl) fun n0 => ?_
  refine .seq ?_
  refine .region ?_
  refine .n (.box rfl) trivial rfl rfl fun B1 => ?_
  refine .n (.box rfl) trivial rfl rfl fun B2 => ?_
  refine .y (.assign rfl) trivial rfl rfl ?_
  refine .nil ?_
  refine .seq ?_
  refine .region ?_
  refine .y (.fieldAddr rfl fl_30_0) trivial rfl rfl ?_
  refine .y (.load rfl (.own 1 rfl) ag_3 sz_3 rfl) trivial rfl rfl ?_
  refine .y (.fieldAddr rfl fl_30_0) trivial rfl rfl ?_
  refine .y (.load rfl (.own 0 rfl) ag_3 sz_3 rfl) trivial rfl rfl ?_
  refine .y (.sub rfl rfl (by unfold Sm at *; omega)) trivial rfl rfl ?_
  refine .y (.fieldAddr rfl fl_30_0) trivial rfl rfl ?_
  refine .y (.load rfl (.own 0 rfl) ag_3 sz_3 rfl) trivial rfl rfl ?_
  refine .y (.fieldAddr rfl fl_30_0) trivial rfl rfl ?_
  refine .y (.load rfl (.own 1 rfl) ag_3 sz_3 rfl) trivial rfl rfl ?_
  refine .y (.sub rfl rfl (by unfold Sm at *; omega)) trivial rfl rfl ?_
  refine .y (.maxi rfl rfl) trivial rfl rfl ?_
  refine .y (.fieldAddr rfl fl_30_1) trivial rfl rfl ?_
  refine .y (.load rfl (.own 1 rfl) ag_3 sz_3 rfl) trivial rfl rfl ?_
  refine .y (.fieldAddr rfl fl_30_1) trivial rfl rfl ?_
  refine .y (.load rfl (.own 0 rfl) ag_3 sz_3 rfl) trivial rfl rfl ?_
  refine .y (.sub rfl rfl (by unfold Sm at *; omega)) trivial rfl rfl ?_
  refine .y (.fieldAddr rfl fl_30_1) trivial rfl rfl ?_
  refine .y (.load rfl (.own 0 rfl) ag_3 sz_3 rfl) trivial rfl rfl ?_
  refine .y (.fieldAddr rfl fl_30_1) trivial rfl rfl ?_
  refine .y (.load rfl (.own 1 rfl) ag_3 sz_3 rfl) trivial rfl rfl ?_
  refine .y (.sub rfl rfl (by unfold Sm at *; omega)) trivial rfl rfl ?_
  refine .y (.maxi rfl rfl) trivial rfl rfl ?_
  refine .y (.add rfl rfl (by unfold Sm at *; omega)) trivial rfl rfl ?_
  refine .y (.assign rfl) trivial rfl rfl ?_
  refine .nil ?_
  refine .ret ?_
  refine ⟨.inr rfl, _, _, (.nil _), fun own' ho => .one rfl rfl, ?_⟩
  refine ⟨?_, rfl⟩; simp only [dist]; congr 2 <;> omega
theorem spot_ct (g : Hp) {cols rows : Int} {ra : Option Addr} {rn rc : Nat} {a : Cell} (ha : Sm a) (hc : 0 ≤ cols ∧ cols ≤ 100) : Ct Tryz.prog 13 [.agg #[.int .i64 cols, .int .i64 rows, .slice ra rn rc], .agg #[.int .i64 a.col, .int .i64 a.row]].toArray g [] (fun v rs => v = .int .i64 (a.row * cols + a.col) ∧ rs = []) := by
  refine Ct.of_body (N := 13) (l := [.agg #[.int .i64 cols, .int .i64 rows, .slice ra rn rc], .agg #[.int .i64 a.col, .int .i64 a.row]]) Tryz.func13 rfl rfl (Nat.le_of_ble_eq_true rfl) fun n0 => ?_
  refine .seq ?_
  refine .region ?_
  refine .n (.box rfl) trivial rfl rfl fun B1 => ?_
  refine .n (.box rfl) trivial rfl rfl fun B2 => ?_
  refine .y (.assign rfl) trivial rfl rfl ?_
  refine .nil ?_
  refine .seq ?_
  refine .region ?_
  refine .y (.fieldAddr rfl fl_30_1) trivial rfl rfl ?_
  refine .y (.load rfl (.own 0 rfl) ag_3 sz_3 rfl) trivial rfl rfl ?_
  refine .y (.fieldAddr rfl fl_28_0) trivial rfl rfl ?_
  refine .y (.load rfl (.own 1 rfl) ag_3 sz_3 rfl) trivial rfl rfl ?_
  refine .y (.mul rfl rfl (by have := mulB (a := a.row) (b := cols) ⟨ha.2.2.1, ha.2.2.2⟩ hc; omega)) trivial rfl rfl ?_
  refine .y (.fieldAddr rfl fl_30_0) trivial rfl rfl ?_
  refine .y (.load rfl (.own 0 rfl) ag_3 sz_3 rfl) trivial rfl rfl ?_
  refine .y (.add rfl rfl (by have := mulB (a := a.row) (b := cols) ⟨ha.2.2.1, ha.2.2.2⟩ hc; unfold Sm at ha; omega)) trivial rfl rfl ?_
  refine .y (.assign rfl) trivial rfl rfl ?_
  refine .nil ?_
  refine .ret ?_
  refine ⟨.inr rfl, _, _, (.nil _), fun own' ho => .one rfl rfl, ?_⟩
  first | exact ⟨rfl, rfl⟩ | (refine ⟨?_, rfl⟩; simp [*])
theorem has_ct (g : Hp) {cols rows : Int} {ra : Option Addr} {rn rc : Nat} {a : Cell} (hc : 1 ≤ cols ∧ cols ≤ 5 ∧ 1 ≤ rows ∧ rows ≤ 5) : Ct Tryz.prog 85 [.agg #[.int .i64 cols, .int .i64 rows, .slice ra rn rc], .agg #[.int .i64 a.col, .int .i64 a.row]].toArray g [] (fun v rs => v = .bool (hasC cols rows a) ∧ rs = []) := by
  refine Ct.of_body (N := 19) (l := [.agg #[.int .i64 cols, .int .i64 rows, .slice ra rn rc], .agg #[.int .i64 a.col, .int .i64 a.row]]) Tryz.func85 rfl rfl (Nat.le_of_ble_eq_true rfl) fun n0 => ?_
  refine .seq ?_
  refine .region ?_
  refine .n (.box rfl) trivial rfl rfl fun B1 => ?_
  refine .n (.box rfl) trivial rfl rfl fun B2 => ?_
  refine .y (.assign rfl) trivial rfl rfl ?_
  refine .nil ?_
  refine .seq ?_
  refine .region ?_
  refine .y (.fieldAddr rfl fl_30_0) trivial rfl rfl ?_
  refine .y (.load rfl (.own 0 rfl) ag_3 sz_3 rfl) trivial rfl rfl ?_
  refine .y (.fieldAddr rfl fl_28_0) trivial rfl rfl ?_
  refine .y (.load rfl (.own 1 rfl) ag_3 sz_3 rfl) trivial rfl rfl ?_
  refine .y (.sub rfl rfl (by omega)) trivial rfl rfl ?_
  refine .c (.call rfl rfl fn_83) trivial rfl rfl (fun own ho hd => in_ct _ ) ?_
  rintro _ _ ⟨rfl, rfl⟩
  refine .y (.move rfl) trivial rfl rfl ?_
  refine .split 11 rfl (fun hb1 => ?_) (fun hb1 => ?_)
  · refine .y (.fieldAddr rfl fl_30_1) ⟨_, rfl, rfl⟩ rfl rfl ?_
    refine .y (.load rfl (.own 0 rfl) ag_3 sz_3 rfl) ⟨_, rfl, rfl⟩ rfl rfl ?_
    refine .y (.fieldAddr rfl fl_28_1) ⟨_, rfl, rfl⟩ rfl rfl ?_
    refine .y (.load rfl (.own 1 rfl) ag_3 sz_3 rfl) ⟨_, rfl, rfl⟩ rfl rfl ?_
    refine .y (.sub rfl rfl (by omega)) ⟨_, rfl, rfl⟩ rfl rfl ?_
    refine .c (.call rfl rfl fn_83) ⟨_, rfl, rfl⟩ rfl rfl (fun own ho hd => in_ct _ ) ?_
    rintro _ _ ⟨rfl, rfl⟩
    refine .y (.pick_t rfl rfl) trivial rfl rfl ?_
    refine .y (.assign rfl) trivial rfl rfl ?_
    refine .nil ?_
    refine .ret ?_
    refine ⟨.inr rfl, _, _, (.nil _), fun own' ho => .one rfl rfl, ?_⟩
    refine ⟨?_, rfl⟩; simp [hasC, *]
  · refine .skip ⟨_, rfl, rfl⟩ rfl ?_
    refine .skip ⟨_, rfl, rfl⟩ rfl ?_
    refine .skip ⟨_, rfl, rfl⟩ rfl ?_
    refine .skip ⟨_, rfl, rfl⟩ rfl ?_
    refine .skip ⟨_, rfl, rfl⟩ rfl ?_
    refine .skip ⟨_, rfl, rfl⟩ rfl ?_
    refine .y (.pick_f rfl rfl) trivial rfl rfl ?_
    refine .y (.assign rfl) trivial rfl rfl ?_
    refine .nil ?_
    refine .ret ?_
    refine ⟨.inr rfl, _, _, (.nil _), fun own' ho => .one rfl rfl, ?_⟩
    refine ⟨?_, rfl⟩; simp [hasC, *]
theorem all_ct (g : Hp)  : Ct Tryz.prog 75 [].toArray g [] (fun v rs => v = .agg #[.func (.func 131) #[] #[]] ∧ rs = []) := by
  refine Ct.of_body (N := 2) (l := []) Tryz.func75 rfl rfl (Nat.le_of_ble_eq_true rfl) fun n0 => ?_
  refine .seq ?_
  refine .region ?_
  refine .n (.alloc zr_131) trivial rfl rfl fun B1 => ?_
  refine .nil ?_
  refine .seq ?_
  refine .region ?_
  refine .y (.build rfl pl_131 zr_131 rfl) trivial rfl rfl ?_
  refine .cons trivial (.store 0 rfl rfl rfl sz_131 rfl rfl (Nat.le_of_ble_eq_true rfl) rfl ?_)
  refine .nil ?_
  refine .ret ?_
  refine ⟨.inr rfl, _, _, (.nil _), fun own' ho => .one2 rfl (.c rfl (own_get 0 rfl ho) ag_131 sz_131 rfl), ?_⟩
  first | exact ⟨rfl, rfl⟩ | (refine ⟨?_, rfl⟩; simp [*])
theorem all1_ct (g : Hp) {n : Int} : Ct Tryz.prog 131 [.int .i64 n].toArray g [] (fun v rs => v = .bool true ∧ rs = []) := by
  refine Ct.of_body (N := 3) (l := [.int .i64 n]) Tryz.func131 rfl rfl (Nat.le_of_ble_eq_true rfl) fun n0 => ?_
  refine .seq ?_
  refine .region ?_
  refine .y (.assign rfl) trivial rfl rfl ?_
  refine .nil ?_
  refine .seq ?_
  refine .region ?_
  refine .y (.assign rfl) trivial rfl rfl ?_
  refine .nil ?_
  refine .ret ?_
  refine ⟨.inr rfl, _, _, (.nil _), fun own' ho => .one rfl rfl, ?_⟩
  first | exact ⟨rfl, rfl⟩ | (refine ⟨?_, rfl⟩; simp [*])
theorem cells_ct (g : Hp) {cols rows : Int} {ra : Option Addr} {rn rc : Nat} : Ct Tryz.prog 52 [.agg #[.int .i64 cols, .int .i64 rows, .slice ra rn rc]].toArray g [] (fun v rs => ∃ (B : Nat), v = .func (.func 123) #[] #[.pointer (some ⟨B, 0, none⟩)] ∧ rs = [As.one B (.cells #[.int .i64 cols, .int .i64 rows, .slice ra rn rc] 28 (0, 0))]) := by
  refine Ct.of_body (N := 4) (l := [.agg #[.int .i64 cols, .int .i64 rows, .slice ra rn rc]]) Tryz.func52 rfl rfl (Nat.le_of_ble_eq_true rfl) fun n0 => ?_
  refine .seq ?_
  refine .region ?_
  refine .n (.box rfl) trivial rfl rfl fun B1 => ?_
  refine .y (.assign rfl) trivial rfl rfl ?_
  refine .nil ?_
  refine .seq ?_
  refine .region ?_
  refine .y (.makeFunc rfl rfl) trivial rfl rfl ?_
  refine .y (.assign rfl) trivial rfl rfl ?_
  refine .nil ?_
  refine .ret ?_
  refine ⟨.inr rfl, _, _, (.pick 0 rfl (.nil _)), fun own' ho => .one rfl rfl, ?_⟩
  exact ⟨_, rfl, rfl⟩
theorem indexFunceInt_ct (g : Hp) {a : Option Addr} {c : Nat} {xs : List Int} {f : FuncId} {q : List Value} {p : Int → Bool} (hk : fnOk Tryz.prog f = true) (hs : SlR eInt g a xs) (hF : PureB Tryz.prog g f q argI (· ∈ xs) p) (hl : xs.length ≤ 1000000) : Ct Tryz.prog 136 [.slice a xs.length c, .func (.func f) #[] q.toArray].toArray g [] (fun v rs => v = .int .i64 (fidx p xs) ∧ rs = []) := by
  refine Ct.of_body (N := 19) (l := [.slice a xs.length c, .func (.func f) #[] q.toArray]) Tryz.func136 rfl rfl (Nat.le_of_ble_eq_true rfl) fun n0 => ?_
  refine .seq ?_
  refine .region ?_
  refine .y (.assign rfl) trivial rfl rfl ?_
  refine .nil ?_
  refine .seq ?_
  refine .seq ?_
  refine .region ?_
  refine .y (.move rfl) trivial rfl rfl ?_
  refine .y (.len rfl sl_39) trivial rfl rfl ?_
  refine .y (.move rfl) trivial rfl rfl ?_
  refine .nil ?_
  refine .block ?_
  refine T.loop (ι := { zz : Nat // zz ≤ xs.length ∧ ∀ x ∈ xs.take zz, (p) x = false }) (fun zz => ([(8, .int .i64 (zz.1 : Int)), (0, .slice a xs.length c), (1, .func (.func f) #[] q.toArray), (7, .int .i64 (xs.length : Int))], [])) (fun zz => xs.length - zz.1) ⟨(0), by simp⟩ (.one rfl (.one rfl (.one rfl (.one rfl (.nil))))) (.refl _) ?_
  rintro ⟨i, hP0⟩
  show T _ [(8, .int .i64 (i : Int)), (0, .slice a xs.length c), (1, .func (.func f) #[] q.toArray), (7, .int .i64 (xs.length : Int))] [] _ _
  refine .seq ?_
  refine .region ?_
  refine .y (.lss rfl rfl) trivial rfl rfl ?_
  refine .nil ?_
  refine .seq ?_
  refine .ite rfl (fun h1 => ?_) (fun h1 => ?_)
  · refine .skip ?_
    refine .seq ?_
    refine .block ?_
    refine .seq ?_
    refine .region ?_
    refine .y (.move rfl) trivial rfl rfl ?_
    refine .y (.assign rfl) trivial rfl rfl ?_
    refine .nil ?_
    refine .seq ?_
    refine .region ?_
    refine .y (.move rfl) trivial rfl rfl ?_
    refine .y (.move rfl) trivial rfl rfl ?_
    refine .y (.move rfl) trivial rfl rfl ?_
    have hbhx1 : i < xs.length := by omega
    obtain ⟨x1, hx1⟩ : ∃ x1, xs[i]? = some x1 := ⟨_, List.getElem?_eq_getElem hbhx1⟩
    refine .y (.indexE (E := eInt) rfl rfl (.g hs) rfl sl_39 sz_3 (by omega)) trivial rfl rfl ?_
    refine .y (.loadE (E := eInt) rfl (.g hs) ag_3 sz_3 (by decide) (eInt.rd0 hx1 (by decide) (by decide) rfl)) trivial rfl rfl ?_
    refine .c (.call rfl rfl hk) trivial rfl rfl (fun own ho hd => hF _ (fun B x h => Hp.up h) _ (by first | assumption | exact List.mem_of_getElem? (by assumption) | trivial)) ?_
    rintro _ _ ⟨rfl, rfl⟩
    refine .nil ?_
    refine .cond rfl (fun h2 => ?_) (fun h2 => ?_)
    · refine .seq ?_
      refine .region ?_
      refine .y (.move rfl) trivial rfl rfl ?_
      refine .y (.assign rfl) trivial rfl rfl ?_
      refine .nil ?_
      refine .ret ?_
      refine ⟨.inr rfl, _, _, (.nil _), fun own' ho => .one rfl rfl, ?_⟩
      exact ⟨congrArg _ (fidx_hit hP0.2 hx1 h2).symm, rfl⟩
    · refine .skip ?_
      refine .region ?_
      refine .y (.add rfl rfl (by omega)) trivial rfl rfl ?_
      refine .y (.move rfl) trivial rfl rfl ?_
      refine .nil ?_
      refine ⟨⟨(i + 1), ?_⟩, ?_, (.one rfl (.one rfl (.one rfl (.one rfl (.nil))))), (.refl _)⟩
      · exact ⟨by omega, take_step hP0.2 hx1 h2⟩
      · show xs.length - (i + 1) < xs.length - i; omega
  · refine .exit ?_
    refine inB_hit ?_
    refine .seq ?_
    refine .region ?_
    refine .y (.assign rfl) trivial rfl rfl ?_
    refine .nil ?_
    refine .ret ?_
    refine ⟨.inr rfl, _, _, (.nil _), fun own' ho => .one rfl rfl, ?_⟩
    exact ⟨congrArg _ (fidx_none hP0.2 (by omega)).symm, rfl⟩
theorem indexFunceRod_ct (g : Hp) {a : Option Addr} {c : Nat} {xs : List Rod} {f : FuncId} {q : List Value} {p : Rod → Bool} (hk : fnOk Tryz.prog f = true) (hs : SlR eRod g a xs) (hF : PureB Tryz.prog g f q argR (· ∈ xs) p) (hl : xs.length ≤ 1000000) : Ct Tryz.prog 137 [.slice a xs.length c, .func (.func f) #[] q.toArray].toArray g [] (fun v rs => v = .int .i64 (fidx p xs) ∧ rs = []) := by
  refine Ct.of_body (N := 19) (l := [.slice a xs.length c, .func (.func f) #[] q.toArray]) Tryz.func137 rfl rfl (Nat.le_of_ble_eq_true rfl) fun n0 => ?_
  refine .seq ?_
  refine .region ?_
  refine .y (.assign rfl) trivial rfl rfl ?_
  refine .nil ?_
  refine .seq ?_
  refine .seq ?_
  refine .region ?_
  refine .y (.move rfl) trivial rfl rfl ?_
  refine .y (.len rfl sl_26) trivial rfl rfl ?_
  refine .y (.move rfl) trivial rfl rfl ?_
  refine .nil ?_
  refine .block ?_
  refine T.loop (ι := { zz : Nat // zz ≤ xs.length ∧ ∀ x ∈ xs.take zz, (p) x = false }) (fun zz => ([(8, .int .i64 (zz.1 : Int)), (0, .slice a xs.length c), (1, .func (.func f) #[] q.toArray), (7, .int .i64 (xs.length : Int))], [])) (fun zz => xs.length - zz.1) ⟨(0), by simp⟩ (.one rfl (.one rfl (.one rfl (.one rfl (.nil))))) (.refl _) ?_
  rintro ⟨i, hP0⟩
  show T _ [(8, .int .i64 (i : Int)), (0, .slice a xs.length c), (1, .func (.func f) #[] q.toArray), (7, .int .i64 (xs.length : Int))] [] _ _
  refine .seq ?_
  refine .region ?_
  refine .y (.lss rfl rfl) trivial rfl rfl ?_
  refine .nil ?_
  refine .seq ?_
  refine .ite rfl (fun h1 => ?_) (fun h1 => ?_)
  · refine .skip ?_
    refine .seq ?_
    refine .block ?_
    refine .seq ?_
    refine .region ?_
    refine .y (.move rfl) trivial rfl rfl ?_
    refine .y (.assign rfl) trivial rfl rfl ?_
    refine .nil ?_
    refine .seq ?_
    refine .region ?_
    refine .y (.move rfl) trivial rfl rfl ?_
    refine .y (.move rfl) trivial rfl rfl ?_
    refine .y (.move rfl) trivial rfl rfl ?_
    have hbhx1 : i < xs.length := by omega
    obtain ⟨x1, hx1⟩ : ∃ x1, xs[i]? = some x1 := ⟨_, List.getElem?_eq_getElem hbhx1⟩
    refine .y (.indexE (E := eRod) rfl rfl (.g hs) rfl sl_26 sz_32 (by omega)) trivial rfl rfl ?_
    refine .y (.loadE (E := eRod) rfl (.g hs) ag_32 sz_32 (by decide) (eRod.rd0 hx1 (by decide) (by decide) rfl)) trivial rfl rfl ?_
    refine .c (.call rfl rfl hk) trivial rfl rfl (fun own ho hd => hF _ (fun B x h => Hp.up h) _ (by first | assumption | exact List.mem_of_getElem? (by assumption) | trivial)) ?_
    rintro _ _ ⟨rfl, rfl⟩
    refine .nil ?_
    refine .cond rfl (fun h2 => ?_) (fun h2 => ?_)
    · refine .seq ?_
      refine .region ?_
      refine .y (.move rfl) trivial rfl rfl ?_
      refine .y (.assign rfl) trivial rfl rfl ?_
      refine .nil ?_
      refine .ret ?_
      refine ⟨.inr rfl, _, _, (.nil _), fun own' ho => .one rfl rfl, ?_⟩
      exact ⟨congrArg _ (fidx_hit hP0.2 hx1 h2).symm, rfl⟩
    · refine .skip ?_
      refine .region ?_
      refine .y (.add rfl rfl (by omega)) trivial rfl rfl ?_
      refine .y (.move rfl) trivial rfl rfl ?_
      refine .nil ?_
      refine ⟨⟨(i + 1), ?_⟩, ?_, (.one rfl (.one rfl (.one rfl (.one rfl (.nil))))), (.refl _)⟩
      · exact ⟨by omega, take_step hP0.2 hx1 h2⟩
      · show xs.length - (i + 1) < xs.length - i; omega
  · refine .exit ?_
    refine inB_hit ?_
    refine .seq ?_
    refine .region ?_
    refine .y (.assign rfl) trivial rfl rfl ?_
    refine .nil ?_
    refine .ret ?_
    refine ⟨.inr rfl, _, _, (.nil _), fun own' ho => .one rfl rfl, ?_⟩
    exact ⟨congrArg _ (fidx_none hP0.2 (by omega)).symm, rfl⟩
theorem indexFunceCell_ct (g : Hp) {a : Option Addr} {c : Nat} {xs : List Cell} {f : FuncId} {q : List Value} {p : Cell → Bool} (hk : fnOk Tryz.prog f = true) (hs : SlR eCell g a xs) (hF : PureB Tryz.prog g f q argC (· ∈ xs) p) (hl : xs.length ≤ 1000000) : Ct Tryz.prog 96 [.slice a xs.length c, .func (.func f) #[] q.toArray].toArray g [] (fun v rs => v = .int .i64 (fidx p xs) ∧ rs = []) := by
  refine Ct.of_body (N := 19) (l := [.slice a xs.length c, .func (.func f) #[] q.toArray]) Tryz.func96 rfl rfl (Nat.le_of_ble_eq_true rfl) fun n0 => ?_
  refine .seq ?_
  refine .region ?_
  refine .y (.assign rfl) trivial rfl rfl ?_
  refine .nil ?_
  refine .seq ?_
  refine .seq ?_
  refine .region ?_
  refine .y (.move rfl) trivial rfl rfl ?_
  refine .y (.len rfl sl_22) trivial rfl rfl ?_
  refine .y (.move rfl) trivial rfl rfl ?_
  refine .nil ?_
  refine .block ?_
  refine T.loop (ι := { zz : Nat // zz ≤ xs.length ∧ ∀ x ∈ xs.take zz, (p) x = false }) (fun zz => ([(8, .int .i64 (zz.1 : Int)), (0, .slice a xs.length c), (1, .func (.func f) #[] q.toArray), (7, .int .i64 (xs.length : Int))], [])) (fun zz => xs.length - zz.1) ⟨(0), by simp⟩ (.one rfl (.one rfl (.one rfl (.one rfl (.nil))))) (.refl _) ?_
  rintro ⟨i, hP0⟩
  show T _ [(8, .int .i64 (i : Int)), (0, .slice a xs.length c), (1, .func (.func f) #[] q.toArray), (7, .int .i64 (xs.length : Int))] [] _ _
  refine .seq ?_
  refine .region ?_
  refine .y (.lss rfl rfl) trivial rfl rfl ?_
  refine .nil ?_
  refine .seq ?_
  refine .ite rfl (fun h1 => ?_) (fun h1 => ?_)
  · refine .skip ?_
    refine .seq ?_
    refine .block ?_
    refine .seq ?_
    refine .region ?_
    refine .y (.move rfl) trivial rfl rfl ?_
    refine .y (.assign rfl) trivial rfl rfl ?_
    refine .nil ?_
    refine .seq ?_
    refine .region ?_
    refine .y (.move rfl) trivial rfl rfl ?_
    refine .y (.move rfl) trivial rfl rfl ?_
    refine .y (.move rfl) trivial rfl rfl ?_
    have hbhx1 : i < xs.length := by omega
    obtain ⟨x1, hx1⟩ : ∃ x1, xs[i]? = some x1 := ⟨_, List.getElem?_eq_getElem hbhx1⟩
    refine .y (.indexE (E := eCell) rfl rfl (.g hs) rfl sl_22 sz_30 (by omega)) trivial rfl rfl ?_
    refine .y (.loadE (E := eCell) rfl (.g hs) ag_30 sz_30 (by decide) (eCell.rd0 hx1 (by decide) (by decide) rfl)) trivial rfl rfl ?_
    refine .c (.call rfl rfl hk) trivial rfl rfl (fun own ho hd => hF _ (fun B x h => Hp.up h) _ (by first | assumption | exact List.mem_of_getElem? (by assumption) | trivial)) ?_
    rintro _ _ ⟨rfl, rfl⟩
    refine .nil ?_
    refine .cond rfl (fun h2 => ?_) (fun h2 => ?_)
    · refine .seq ?_
      refine .region ?_
      refine .y (.move rfl) trivial rfl rfl ?_
      refine .y (.assign rfl) trivial rfl rfl ?_
      refine .nil ?_
      refine .ret ?_
      refine ⟨.inr rfl, _, _, (.nil _), fun own' ho => .one rfl rfl, ?_⟩
      exact ⟨congrArg _ (fidx_hit hP0.2 hx1 h2).symm, rfl⟩
    · refine .skip ?_
      refine .region ?_
      refine .y (.add rfl rfl (by omega)) trivial rfl rfl ?_
      refine .y (.move rfl) trivial rfl rfl ?_
      refine .nil ?_
      refine ⟨⟨(i + 1), ?_⟩, ?_, (.one rfl (.one rfl (.one rfl (.one rfl (.nil))))), (.refl _)⟩
      · exact ⟨by omega, take_step hP0.2 hx1 h2⟩
      · show xs.length - (i + 1) < xs.length - i; omega
  · refine .exit ?_
    refine inB_hit ?_
    refine .seq ?_
    refine .region ?_
    refine .y (.assign rfl) trivial rfl rfl ?_
    refine .nil ?_
    refine .ret ?_
    refine ⟨.inr rfl, _, _, (.nil _), fun own' ho => .one rfl rfl, ?_⟩
    exact ⟨congrArg _ (fidx_none hP0.2 (by omega)).symm, rfl⟩
theorem containsFunceInt_ct (g : Hp) {a : Option Addr} {c : Nat} {xs : List Int} {f : FuncId} {q : List Value} {p : Int → Bool} (hk : fnOk Tryz.prog f = true) (hs : SlR eInt g a xs) (hF : PureB Tryz.prog g f q argI (· ∈ xs) p) (hl : xs.length ≤ 1000000) : Ct Tryz.prog 87 [.slice a xs.length c, .func (.func f) #[] q.toArray].toArray g [] (fun v rs => v = .bool (xs.any p) ∧ rs = []) := by
  refine Ct.of_body (N := 9) (l := [.slice a xs.length c, .func (.func f) #[] q.toArray]) Tryz.func87 rfl rfl (Nat.le_of_ble_eq_true rfl) fun n0 => ?_
  refine .seq ?_
  refine .region ?_
  refine .y (.assign rfl) trivial rfl rfl ?_
  refine .nil ?_
  refine .seq ?_
  refine .region ?_
  refine .y (.move rfl) trivial rfl rfl ?_
  refine .y (.move rfl) trivial rfl rfl ?_
  refine .c (.call rfl rfl fn_136) trivial rfl rfl (fun own ho hd => indexFunceInt_ct _ hk (xs := xs) (SlR.up hs) hF.up (by first | omega | (simp; omega))) ?_
  rintro _ _ ⟨rfl, rfl⟩
  refine .y (.geq rfl rfl) trivial rfl rfl ?_
  refine .y (.assign rfl) trivial rfl rfl ?_
  refine .nil ?_
  refine .ret ?_
  refine ⟨.inr rfl, _, _, (.nil _), fun own' ho => .one rfl rfl, ?_⟩
  refine ⟨?_, rfl⟩; rw [← fidx_any]
theorem containsFunceRod_ct (g : Hp) {a : Option Addr} {c : Nat} {xs : List Rod} {f : FuncId} {q : List Value} {p : Rod → Bool} (hk : fnOk Tryz.prog f = true) (hs : SlR eRod g a xs) (hF : PureB Tryz.prog g f q argR (· ∈ xs) p) (hl : xs.length ≤ 1000000) : Ct Tryz.prog 89 [.slice a xs.length c, .func (.func f) #[] q.toArray].toArray g [] (fun v rs => v = .bool (xs.any p) ∧ rs = []) := by
  refine Ct.of_body (N := 9) (l := [.slice a xs.length c, .func (.func f) #[] q.toArray]) Tryz.func89 rfl rfl (Nat.le_of_ble_eq_true rfl) fun n0 => ?_
  refine .seq ?_
  refine .region ?_
  refine .y (.assign rfl) trivial rfl rfl ?_
  refine .nil ?_
  refine .seq ?_
  refine .region ?_
  refine .y (.move rfl) trivial rfl rfl ?_
  refine .y (.move rfl) trivial rfl rfl ?_
  refine .c (.call rfl rfl fn_137) trivial rfl rfl (fun own ho hd => indexFunceRod_ct _ hk (xs := xs) (SlR.up hs) hF.up (by first | omega | (simp; omega))) ?_
  rintro _ _ ⟨rfl, rfl⟩
  refine .y (.geq rfl rfl) trivial rfl rfl ?_
  refine .y (.assign rfl) trivial rfl rfl ?_
  refine .nil ?_
  refine .ret ?_
  refine ⟨.inr rfl, _, _, (.nil _), fun own' ho => .one rfl rfl, ?_⟩
  refine ⟨?_, rfl⟩; rw [← fidx_any]
theorem containsFunceCell_ct (g : Hp) {a : Option Addr} {c : Nat} {xs : List Cell} {f : FuncId} {q : List Value} {p : Cell → Bool} (hk : fnOk Tryz.prog f = true) (hs : SlR eCell g a xs) (hF : PureB Tryz.prog g f q argC (· ∈ xs) p) (hl : xs.length ≤ 1000000) : Ct Tryz.prog 36 [.slice a xs.length c, .func (.func f) #[] q.toArray].toArray g [] (fun v rs => v = .bool (xs.any p) ∧ rs = []) := by
  refine Ct.of_body (N := 9) (l := [.slice a xs.length c, .func (.func f) #[] q.toArray]) Tryz.func36 rfl rfl (Nat.le_of_ble_eq_true rfl) fun n0 => ?_
  refine .seq ?_
  refine .region ?_
  refine .y (.assign rfl) trivial rfl rfl ?_
  refine .nil ?_
  refine .seq ?_
  refine .region ?_
  refine .y (.move rfl) trivial rfl rfl ?_
  refine .y (.move rfl) trivial rfl rfl ?_
  refine .c (.call rfl rfl fn_96) trivial rfl rfl (fun own ho hd => indexFunceCell_ct _ hk (xs := xs) (SlR.up hs) hF.up (by first | omega | (simp; omega))) ?_
  rintro _ _ ⟨rfl, rfl⟩
  refine .y (.geq rfl rfl) trivial rfl rfl ?_
  refine .y (.assign rfl) trivial rfl rfl ?_
  refine .nil ?_
  refine .ret ?_
  refine ⟨.inr rfl, _, _, (.nil _), fun own' ho => .one rfl rfl, ?_⟩
  refine ⟨?_, rfl⟩; rw [← fidx_any]
theorem indexeInt_ct (g : Hp) {a : Option Addr} {c : Nat} {xs : List Int} {y : Int} (hs : SlR eInt g a xs) (hl : xs.length ≤ 1000000) : Ct Tryz.prog 126 [.slice a xs.length c, .int .i64 y].toArray g [] (fun v rs => v = .int .i64 (fidx (fun x => decide (y = x)) xs) ∧ rs = []) := by
  refine Ct.of_body (N := 19) (l := [.slice a xs.length c, .int .i64 y]) Tryz.func126 rfl rfl (Nat.le_of_ble_eq_true rfl) fun n0 => ?_
  refine .seq ?_
  refine .region ?_
  refine .y (.assign rfl) trivial rfl rfl ?_
  refine .nil ?_
  refine .seq ?_
  refine .seq ?_
  refine .region ?_
  refine .y (.move rfl) trivial rfl rfl ?_
  refine .y (.len rfl sl_39) trivial rfl rfl ?_
  refine .y (.move rfl) trivial rfl rfl ?_
  refine .nil ?_
  refine .block ?_
  refine T.loop (ι := { zz : Nat // zz ≤ xs.length ∧ ∀ x ∈ xs.take zz, (fun x => decide (y = x)) x = false }) (fun zz => ([(8, .int .i64 (zz.1 : Int)), (0, .slice a xs.length c), (1, .int .i64 y), (7, .int .i64 (xs.length : Int))], [])) (fun zz => xs.length - zz.1) ⟨(0), by simp⟩ (.one rfl (.one rfl (.one rfl (.one rfl (.nil))))) (.refl _) ?_
  rintro ⟨i, hP0⟩
  show T _ [(8, .int .i64 (i : Int)), (0, .slice a xs.length c), (1, .int .i64 y), (7, .int .i64 (xs.length : Int))] [] _ _
  refine .seq ?_
  refine .region ?_
  refine .y (.lss rfl rfl) trivial rfl rfl ?_
  refine .nil ?_
  refine .seq ?_
  refine .ite rfl (fun h1 => ?_) (fun h1 => ?_)
  · refine .skip ?_
    refine .seq ?_
    refine .block ?_
    refine .seq ?_
    refine .region ?_
    refine .y (.move rfl) trivial rfl rfl ?_
    refine .y (.assign rfl) trivial rfl rfl ?_
    refine .nil ?_
    refine .seq ?_
    refine .region ?_
    refine .y (.move rfl) trivial rfl rfl ?_
    refine .y (.move rfl) trivial rfl rfl ?_
    refine .y (.move rfl) trivial rfl rfl ?_
    have hbhx1 : i < xs.length := by omega
    obtain ⟨x1, hx1⟩ : ∃ x1, xs[i]? = some x1 := ⟨_, List.getElem?_eq_getElem hbhx1⟩
    refine .y (.indexE (E := eInt) rfl rfl (.g hs) rfl sl_39 sz_3 (by omega)) trivial rfl rfl ?_
    refine .y (.loadE (E := eInt) rfl (.g hs) ag_3 sz_3 (by decide) (eInt.rd0 hx1 (by decide) (by decide) rfl)) trivial rfl rfl ?_
    refine .y (.eql rfl rfl) trivial rfl rfl ?_
    refine .nil ?_
    refine .ite rfl (fun h2 => ?_) (fun h2 => ?_)
    · refine .seq ?_
      refine .region ?_
      refine .y (.move rfl) trivial rfl rfl ?_
      refine .y (.assign rfl) trivial rfl rfl ?_
      refine .nil ?_
      refine .ret ?_
      refine ⟨.inr rfl, _, _, (.nil _), fun own' ho => .one rfl rfl, ?_⟩
      exact ⟨congrArg _ (fidx_hit hP0.2 hx1 (by simp [h2])).symm, rfl⟩
    · refine .skip ?_
      refine .region ?_
      refine .y (.add rfl rfl (by omega)) trivial rfl rfl ?_
      refine .y (.move rfl) trivial rfl rfl ?_
      refine .nil ?_
      refine ⟨⟨(i + 1), ?_⟩, ?_, (.one rfl (.one rfl (.one rfl (.one rfl (.nil))))), (.refl _)⟩
      · exact ⟨by omega, take_step hP0.2 hx1 (by simp [h2])⟩
      · show xs.length - (i + 1) < xs.length - i; omega
  · refine .exit ?_
    refine inB_hit ?_
    refine .seq ?_
    refine .region ?_
    refine .y (.assign rfl) trivial rfl rfl ?_
    refine .nil ?_
    refine .ret ?_
    refine ⟨.inr rfl, _, _, (.nil _), fun own' ho => .one rfl rfl, ?_⟩
    exact ⟨congrArg _ (fidx_none hP0.2 (by omega)).symm, rfl⟩
theorem indexeCell_ct (g : Hp) {a : Option Addr} {c : Nat} {xs : List Cell} {y : Cell} (hs : SlR eCell g a xs) (hl : xs.length ≤ 1000000) : Ct Tryz.prog 91 [.slice a xs.length c, .agg #[.int .i64 y.col, .int .i64 y.row]].toArray g [] (fun v rs => v = .int .i64 (fidx (fun x => decide (y = x)) xs) ∧ rs = []) := by
  refine Ct.of_body (N := 19) (l := [.slice a xs.length c, .agg #[.int .i64 y.col, .int .i64 y.row]]) Tryz.func91 rfl rfl (Nat.le_of_ble_eq_true rfl) fun n0 => ?_
  refine .seq ?_
  refine .region ?_
  refine .n (.box rfl) trivial rfl rfl fun B1 => ?_
  refine .y (.assign rfl) trivial rfl rfl ?_
  refine .nil ?_
  refine .seq ?_
  refine .seq ?_
  refine .region ?_
  refine .y (.move rfl) trivial rfl rfl ?_
  refine .y (.len rfl sl_22) trivial rfl rfl ?_
  refine .y (.move rfl) trivial rfl rfl ?_
  refine .nil ?_
  refine .block ?_
  refine T.loop (ι := { zz : Nat // zz ≤ xs.length ∧ ∀ x ∈ xs.take zz, (fun x => decide (y = x)) x = false }) (fun zz => ([(8, .int .i64 (zz.1 : Int)), (0, .slice a xs.length c), (3, .pointer (some ⟨B1, 0, none⟩)), (7, .int .i64 (xs.length : Int))], [As.one B1 (.cells #[.int .i64 y.col, .int .i64 y.row] 30 (0, 0))])) (fun zz => xs.length - zz.1) ⟨(0), by simp⟩ (.one rfl (.one rfl (.one rfl (.one rfl (.nil))))) (.refl _) ?_
  rintro ⟨i, hP0⟩
  show T _ [(8, .int .i64 (i : Int)), (0, .slice a xs.length c), (3, .pointer (some ⟨B1, 0, none⟩)), (7, .int .i64 (xs.length : Int))] [As.one B1 (.cells #[.int .i64 y.col, .int .i64 y.row] 30 (0, 0))] _ _
  refine .seq ?_
  refine .region ?_
  refine .y (.lss rfl rfl) trivial rfl rfl ?_
  refine .nil ?_
  refine .seq ?_
  refine .ite rfl (fun h1 => ?_) (fun h1 => ?_)
  · refine .skip ?_
    refine .seq ?_
    refine .block ?_
    refine .seq ?_
    refine .region ?_
    refine .y (.move rfl) trivial rfl rfl ?_
    refine .y (.assign rfl) trivial rfl rfl ?_
    refine .nil ?_
    refine .seq ?_
    refine T.dr (N := 19) [] [0, 0, 0, 6, 14, 31] 5 (by kernel_rfl) flw rfl (Nat.le_of_ble_eq_true rfl) ?_
    refine .y (.load rfl (.own 0 rfl) ag_30 sz_30 rfl) trivial ?_
    refine .y (.move rfl) trivial ?_
    refine .y (.move rfl) trivial ?_
    have hbhx1 : i < xs.length := by omega
    obtain ⟨x1, hx1⟩ : ∃ x1, xs[i]? = some x1 := ⟨_, List.getElem?_eq_getElem hbhx1⟩
    refine .y (.indexE (E := eCell) rfl rfl (.g hs) rfl sl_22 sz_30 (by omega)) trivial ?_
    refine .y (.loadE (E := eCell) rfl (.g hs) ag_30 sz_30 (by decide) (eCell.rd0 hx1 (by decide) (by decide) rfl)) trivial ?_
    refine .nil ?_
    refine .y (.eqC (a := y) (b := x1) rfl rfl tw_30) trivial rfl rfl ?_
    refine .nil ?_
    refine .ite rfl (fun h2 => ?_) (fun h2 => ?_)
    · refine .seq ?_
      refine .region ?_
      refine .y (.move rfl) trivial rfl rfl ?_
      refine .y (.assign rfl) trivial rfl rfl ?_
      refine .nil ?_
      refine .ret ?_
      refine ⟨.inr rfl, _, _, (.nil _), fun own' ho => .one rfl rfl, ?_⟩
      exact ⟨congrArg _ (fidx_hit hP0.2 hx1 (by simp [h2])).symm, rfl⟩
    · refine .skip ?_
      refine .region ?_
      refine .y (.add rfl rfl (by omega)) trivial rfl rfl ?_
      refine .y (.move rfl) trivial rfl rfl ?_
      refine .nil ?_
      refine ⟨⟨(i + 1), ?_⟩, ?_, (.one rfl (.one rfl (.one rfl (.one rfl (.nil))))), (.refl _)⟩
      · exact ⟨by omega, take_step hP0.2 hx1 (by simp [h2])⟩
      · show xs.length - (i + 1) < xs.length - i; omega
  · refine .exit ?_
    refine inB_hit ?_
    refine .seq ?_
    refine .region ?_
    refine .y (.assign rfl) trivial rfl rfl ?_
    refine .nil ?_
    refine .ret ?_
    refine ⟨.inr rfl, _, _, (.nil _), fun own' ho => .one rfl rfl, ?_⟩
    exact ⟨congrArg _ (fidx_none hP0.2 (by omega)).symm, rfl⟩
theorem containseInt_ct (g : Hp) {a : Option Addr} {c : Nat} {xs : List Int} {y : Int} (hs : SlR eInt g a xs) (hl : xs.length ≤ 1000000) : Ct Tryz.prog 57 [.slice a xs.length c, .int .i64 y].toArray g [] (fun v rs => v = .bool (xs.any (fun x => decide (y = x))) ∧ rs = []) := by
  refine Ct.of_body (N := 9) (l := [.slice a xs.length c, .int .i64 y]) Tryz.func57 rfl rfl (Nat.le_of_ble_eq_true rfl) fun n0 => ?_
  refine .seq ?_
  refine .region ?_
  refine .y (.assign rfl) trivial rfl rfl ?_
  refine .nil ?_
  refine .seq ?_
  refine .region ?_
  refine .y (.move rfl) trivial rfl rfl ?_
  refine .y (.move rfl) trivial rfl rfl ?_
  refine .c (.call rfl rfl fn_126) trivial rfl rfl (fun own ho hd => indexeInt_ct _ (xs := xs) (SlR.up hs) (by omega)) ?_
  rintro _ _ ⟨rfl, rfl⟩
  refine .y (.geq rfl rfl) trivial rfl rfl ?_
  refine .y (.assign rfl) trivial rfl rfl ?_
  refine .nil ?_
  refine .ret ?_
  refine ⟨.inr rfl, _, _, (.nil _), fun own' ho => .one rfl rfl, ?_⟩
  refine ⟨?_, rfl⟩; rw [← fidx_any]
theorem containseCell_ct (g : Hp) {a : Option Addr} {c : Nat} {xs : List Cell} {y : Cell} (hs : SlR eCell g a xs) (hl : xs.length ≤ 1000000) : Ct Tryz.prog 24 [.slice a xs.length c, .agg #[.int .i64 y.col, .int .i64 y.row]].toArray g [] (fun v rs => v = .bool (xs.any (fun x => decide (y = x))) ∧ rs = []) := by
  refine Ct.of_body (N := 9) (l := [.slice a xs.length c, .agg #[.int .i64 y.col, .int .i64 y.row]]) Tryz.func24 rfl rfl (Nat.le_of_ble_eq_true rfl) fun n0 => ?_
  refine .seq ?_
  refine .region ?_
  refine .n (.box rfl) trivial rfl rfl fun B1 => ?_
  refine .y (.assign rfl) trivial rfl rfl ?_
  refine .nil ?_
  refine .seq ?_
  refine .region ?_
  refine .y (.move rfl) trivial rfl rfl ?_
  refine .y (.load rfl (.own 0 rfl) ag_30 sz_30 rfl) trivial rfl rfl ?_
  refine .c (.call rfl rfl fn_91) trivial rfl rfl (fun own ho hd => indexeCell_ct _ (xs := xs) (SlR.up hs) (by omega)) ?_
  rintro _ _ ⟨rfl, rfl⟩
  refine .y (.geq rfl rfl) trivial rfl rfl ?_
  refine .y (.assign rfl) trivial rfl rfl ?_
  refine .nil ?_
  refine .ret ?_
  refine ⟨.inr rfl, _, _, (.nil _), fun own' ho => .one rfl rfl, ?_⟩
  refine ⟨?_, rfl⟩; rw [← fidx_any]
theorem every1eRod_ct (g : Hp) {B : Nat} {f : FuncId} {q : List Value} {p : Rod → Bool} {ok : Rod → Prop} {x : Rod} (hB : g B = some (.cells #[.func (.func f) #[] q.toArray] 104 (0, 0))) (hk : fnOk Tryz.prog f = true) (hF : PureB Tryz.prog g f q argR ok p) (hx : ok x) : Ct Tryz.prog 127 [.agg #[.int .i64 x.tip.col, .int .i64 x.tip.row, .int .i64 x.range, .int .i64 x.shows], .pointer (some ⟨B, 0, none⟩)].toArray g [] (fun v rs => v = .bool (!p x) ∧ rs = []) := by
  refine Ct.of_body (N := 8) (l := [.agg #[.int .i64 x.tip.col, .int .i64 x.tip.row, .int .i64 x.range, .int .i64 x.shows], .pointer (some ⟨B, 0, none⟩)]) Tryz.func127 rfl rfl (Nat.le_of_ble_eq_true rfl) fun n0 => ?_
  refine .seq ?_
  refine .region ?_
  refine .n (.box rfl) trivial rfl rfl fun B1 => ?_
  refine .y (.assign rfl) trivial rfl rfl ?_
  refine .nil ?_
  refine .seq ?_
  refine .region ?_
  refine .y (.load rfl (.g hB) ag_104 sz_104 rfl) trivial rfl rfl ?_
  refine .y (.load rfl (.own 0 rfl) ag_32 sz_32 rfl) trivial rfl rfl ?_
  refine .c (.call rfl rfl hk) trivial rfl rfl (fun own ho hd => hF _ (fun B x h => Hp.up h) _ (by first | assumption | exact List.mem_of_getElem? (by assumption) | trivial)) ?_
  rintro _ _ ⟨rfl, rfl⟩
  refine .y (.not rfl) trivial rfl rfl ?_
  refine .y (.assign rfl) trivial rfl rfl ?_
  refine .nil ?_
  refine .ret ?_
  refine ⟨.inr rfl, _, _, (.nil _), fun own' ho => .one rfl rfl, ?_⟩
  first | exact ⟨rfl, rfl⟩ | (refine ⟨?_, rfl⟩; simp [*])
theorem every1eInt_ct (g : Hp) {B : Nat} {f : FuncId} {q : List Value} {p : Int → Bool} {ok : Int → Prop} {x : Int} (hB : g B = some (.cells #[.func (.func f) #[] q.toArray] 129 (0, 0))) (hk : fnOk Tryz.prog f = true) (hF : PureB Tryz.prog g f q argI ok p) (hx : ok x) : Ct Tryz.prog 132 [.int .i64 x, .pointer (some ⟨B, 0, none⟩)].toArray g [] (fun v rs => v = .bool (!p x) ∧ rs = []) := by
  refine Ct.of_body (N := 8) (l := [.int .i64 x, .pointer (some ⟨B, 0, none⟩)]) Tryz.func132 rfl rfl (Nat.le_of_ble_eq_true rfl) fun n0 => ?_
  refine .seq ?_
  refine .region ?_
  refine .y (.assign rfl) trivial rfl rfl ?_
  refine .nil ?_
  refine .seq ?_
  refine .region ?_
  refine .y (.load rfl (.g hB) ag_129 sz_129 rfl) trivial rfl rfl ?_
  refine .y (.move rfl) trivial rfl rfl ?_
  refine .c (.call rfl rfl hk) trivial rfl rfl (fun own ho hd => hF _ (fun B x h => Hp.up h) _ (by first | assumption | exact List.mem_of_getElem? (by assumption) | trivial)) ?_
  rintro _ _ ⟨rfl, rfl⟩
  refine .y (.not rfl) trivial rfl rfl ?_
  refine .y (.assign rfl) trivial rfl rfl ?_
  refine .nil ?_
  refine .ret ?_
  refine ⟨.inr rfl, _, _, (.nil _), fun own' ho => .one rfl rfl, ?_⟩
  first | exact ⟨rfl, rfl⟩ | (refine ⟨?_, rfl⟩; simp [*])
theorem everyeRod_ct (g : Hp) {a : Option Addr} {c : Nat} {xs : List Rod} {f : FuncId} {q : List Value} {p : Rod → Bool} (hk : fnOk Tryz.prog f = true) (hs : SlR eRod g a xs) (hF : PureB Tryz.prog g f q argR (· ∈ xs) p) (hl : xs.length ≤ 1000000) : Ct Tryz.prog 62 [.slice a xs.length c, .func (.func f) #[] q.toArray].toArray g [] (fun v rs => v = .bool (xs.all p) ∧ rs = []) := by
  refine Ct.of_body (N := 9) (l := [.slice a xs.length c, .func (.func f) #[] q.toArray]) Tryz.func62 rfl rfl (Nat.le_of_ble_eq_true rfl) fun n0 => ?_
  refine .seq ?_
  refine .region ?_
  refine .n (.box rfl) trivial rfl rfl fun B1 => ?_
  refine .y (.assign rfl) trivial rfl rfl ?_
  refine .nil ?_
  refine .seq ?_
  refine .region ?_
  refine .y (.move rfl) trivial rfl rfl ?_
  refine .y (.makeFunc rfl rfl) trivial rfl rfl ?_
  refine .c (.call rfl rfl fn_89) trivial rfl rfl (fun own ho hd => containsFunceRod_ct _ fn_127 (xs := xs) (SlR.up hs) (fun g' hg x hx => every1eRod_ct g' (hg _ _ (one_in 0 rfl ho hd)) hk (hF.of (fun B x e => hg _ _ (Hp.up e)) (fun _ h => h)) hx) (by first | omega | (simp; omega))) ?_
  rintro _ _ ⟨rfl, rfl⟩
  refine .y (.not rfl) trivial rfl rfl ?_
  refine .y (.assign rfl) trivial rfl rfl ?_
  refine .nil ?_
  refine .ret ?_
  refine ⟨.inr rfl, _, _, (.nil _), fun own' ho => .one rfl rfl, ?_⟩
  refine ⟨?_, rfl⟩; simp [List.all_eq_not_any_not]
theorem everyeInt_ct (g : Hp) {a : Option Addr} {c : Nat} {xs : List Int} {f : FuncId} {q : List Value} {p : Int → Bool} (hk : fnOk Tryz.prog f = true) (hs : SlR eInt g a xs) (hF : PureB Tryz.prog g f q argI (· ∈ xs) p) (hl : xs.length ≤ 1000000) : Ct Tryz.prog 77 [.slice a xs.length c, .func (.func f) #[] q.toArray].toArray g [] (fun v rs => v = .bool (xs.all p) ∧ rs = []) := by
  refine Ct.of_body (N := 9) (l := [.slice a xs.length c, .func (.func f) #[] q.toArray]) Tryz.func77 rfl rfl (Nat.le_of_ble_eq_true rfl) fun n0 => ?_
  refine .seq ?_
  refine .region ?_
  refine .n (.box rfl) trivial rfl rfl fun B1 => ?_
  refine .y (.assign rfl) trivial rfl rfl ?_
  refine .nil ?_
  refine .seq ?_
  refine .region ?_
  refine .y (.move rfl) trivial rfl rfl ?_
  refine .y (.makeFunc rfl rfl) trivial rfl rfl ?_
  refine .c (.call rfl rfl fn_87) trivial rfl rfl (fun own ho hd => containsFunceInt_ct _ fn_132 (xs := xs) (SlR.up hs) (fun g' hg x hx => every1eInt_ct g' (hg _ _ (one_in 0 rfl ho hd)) hk (hF.of (fun B x e => hg _ _ (Hp.up e)) (fun _ h => h)) hx) (by first | omega | (simp; omega))) ?_
  rintro _ _ ⟨rfl, rfl⟩
  refine .y (.not rfl) trivial rfl rfl ?_
  refine .y (.assign rfl) trivial rfl rfl ?_
  refine .nil ?_
  refine .ret ?_
  refine ⟨.inr rfl, _, _, (.nil _), fun own' ho => .one rfl rfl, ?_⟩
  refine ⟨?_, rfl⟩; simp [List.all_eq_not_any_not]
theorem check1_ct (g : Hp) {cols rows : Int} {ra : Option Addr} {rn rc : Nat} {B : Nat} {x : Rod} (hB : g B = some (.cells #[.int .i64 cols, .int .i64 rows, .slice ra rn rc] 28 (0, 0))) (hc : 1 ≤ cols ∧ cols ≤ 5 ∧ 1 ≤ rows ∧ rows ≤ 5) : Ct Tryz.prog 84 [.agg #[.int .i64 x.tip.col, .int .i64 x.tip.row, .int .i64 x.range, .int .i64 x.shows], .pointer (some ⟨B, 0, none⟩)].toArray g [] (fun v rs => v = .bool (hasC cols rows x.tip) ∧ rs = []) := by
  refine Ct.of_body (N := 8) (l := [.agg #[.int .i64 x.tip.col, .int .i64 x.tip.row, .int .i64 x.range, .int .i64 x.shows], .pointer (some ⟨B, 0, none⟩)]) Tryz.func84 rfl rfl (Nat.le_of_ble_eq_true rfl) fun n0 => ?_
  refine .seq ?_
  refine .region ?_
  refine .n (.box rfl) trivial rfl rfl fun B1 => ?_
  refine .y (.assign rfl) trivial rfl rfl ?_
  refine .nil ?_
  refine .seq ?_
  refine .region ?_
  refine .y (.load rfl (.g hB) ag_28 sz_28 rfl) trivial rfl rfl ?_
  refine .y (.fieldAddr rfl fl_32_0) trivial rfl rfl ?_
  refine .y (.load rfl (.own 0 rfl) ag_30 sz_30 rfl) trivial rfl rfl ?_
  refine .c (.call rfl rfl fn_85) trivial rfl rfl (fun own ho hd => has_ct _ hc) ?_
  rintro _ _ ⟨rfl, rfl⟩
  refine .y (.assign rfl) trivial rfl rfl ?_
  refine .nil ?_
  refine .ret ?_
  refine ⟨.inr rfl, _, _, (.nil _), fun own' ho => .one rfl rfl, ?_⟩
  first | exact ⟨rfl, rfl⟩ | (refine ⟨?_, rfl⟩; simp [*])
theorem check2_ct (g : Hp) {x : Rod} : Ct Tryz.prog 86 [.agg #[.int .i64 x.tip.col, .int .i64 x.tip.row, .int .i64 x.range, .int .i64 x.shows]].toArray g [] (fun v rs => v = .bool (rngR x) ∧ rs = []) := by
  refine Ct.of_body (N := 11) (l := [.agg #[.int .i64 x.tip.col, .int .i64 x.tip.row, .int .i64 x.range, .int .i64 x.shows]]) Tryz.func86 rfl rfl (Nat.le_of_ble_eq_true rfl) fun n0 => ?_
  refine .seq ?_
  refine .region ?_
  refine .n (.box rfl) trivial rfl rfl fun B1 => ?_
  refine .y (.assign rfl) trivial rfl rfl ?_
  refine .nil ?_
  refine .seq ?_
  refine .region ?_
  refine .y (.fieldAddr rfl fl_32_1) trivial rfl rfl ?_
  refine .y (.load rfl (.own 0 rfl) ag_3 sz_3 rfl) trivial rfl rfl ?_
  refine .c (.call rfl rfl fn_83) trivial rfl rfl (fun own ho hd => in_ct _ ) ?_
  rintro _ _ ⟨rfl, rfl⟩
  refine .y (.move rfl) trivial rfl rfl ?_
  refine .split 6 rfl (fun hb1 => ?_) (fun hb1 => ?_)
  · refine .y (.fieldAddr rfl fl_32_2) ⟨_, rfl, rfl⟩ rfl rfl ?_
    refine .y (.load rfl (.own 0 rfl) ag_3 sz_3 rfl) ⟨_, rfl, rfl⟩ rfl rfl ?_
    refine .c (.call rfl rfl fn_83) ⟨_, rfl, rfl⟩ rfl rfl (fun own ho hd => in_ct _ ) ?_
    rintro _ _ ⟨rfl, rfl⟩
    refine .y (.pick_t rfl rfl) trivial rfl rfl ?_
    refine .y (.assign rfl) trivial rfl rfl ?_
    refine .nil ?_
    refine .ret ?_
    refine ⟨.inr rfl, _, _, (.nil _), fun own' ho => .one rfl rfl, ?_⟩
    refine ⟨?_, rfl⟩; simp [rngR, *]
  · refine .skip ⟨_, rfl, rfl⟩ rfl ?_
    refine .skip ⟨_, rfl, rfl⟩ rfl ?_
    refine .skip ⟨_, rfl, rfl⟩ rfl ?_
    refine .y (.pick_f rfl rfl) trivial rfl rfl ?_
    refine .y (.assign rfl) trivial rfl rfl ?_
    refine .nil ?_
    refine .ret ?_
    refine ⟨.inr rfl, _, _, (.nil _), fun own' ho => .one rfl rfl, ?_⟩
    refine ⟨?_, rfl⟩; simp [rngR, *]
theorem Check_ct (g : Hp) {cols rows : Int} {ra : Option Addr} {rc : Nat} {rods : List Rod} (hr : SlR eRod g ra rods) (hl : rods.length ≤ 1000000) : Ct Tryz.prog 22 [.agg #[.int .i64 cols, .int .i64 rows, .slice ra rods.length rc]].toArray g [] (fun v rs => v = .int .i64 (chkBin cols rows rods) ∧ rs = []) := by
  refine Ct.of_body (N := 31) (l := [.agg #[.int .i64 cols, .int .i64 rows, .slice ra rods.length rc]]) Tryz.func22 rfl rfl (Nat.le_of_ble_eq_true rfl) fun n0 => ?_
  refine .seq ?_
  refine .region ?_
  refine .n (.box rfl) trivial rfl rfl fun B1 => ?_
  refine .y (.assign rfl) trivial rfl rfl ?_
  refine .nil ?_
  refine .seq ?_
  refine .block ?_
  refine .seq ?_
  refine .region ?_
  refine .y (.fieldAddr rfl fl_28_0) trivial rfl rfl ?_
  refine .y (.load rfl (.own 0 rfl) ag_3 sz_3 rfl) trivial rfl rfl ?_
  refine .c (.call rfl rfl fn_83) trivial rfl rfl (fun own ho hd => in_ct _ ) ?_
  rintro _ _ ⟨rfl, rfl⟩
  refine .y (.not rfl) trivial rfl rfl ?_
  refine .y (.move rfl) trivial rfl rfl ?_
  refine .split 8 rfl (fun hb1 => ?_) (fun hb1 => ?_)
  · refine .skip ⟨_, rfl, rfl⟩ rfl ?_
    refine .skip ⟨_, rfl, rfl⟩ rfl ?_
    refine .skip ⟨_, rfl, rfl⟩ rfl ?_
    refine .skip ⟨_, rfl, rfl⟩ rfl ?_
    refine .y (.pick_t rfl rfl) trivial rfl rfl ?_
    refine .y (.move rfl) trivial rfl rfl ?_
    refine .skip ⟨_, rfl, rfl⟩ rfl ?_
    refine .skip ⟨_, rfl, rfl⟩ rfl ?_
    refine .skip ⟨_, rfl, rfl⟩ rfl ?_
    refine .skip ⟨_, rfl, rfl⟩ rfl ?_
    refine .y (.pick_t rfl rfl) trivial rfl rfl ?_
    refine .y (.assign rfl) trivial rfl rfl ?_
    refine .nil ?_
    refine .cond_t rfl ?_
    refine .seq ?_
    refine .region ?_
    refine .y (.assign rfl) trivial rfl rfl ?_
    refine .nil ?_
    refine .ret ?_
    refine ⟨.inr rfl, _, _, (.nil _), fun own' ho => .one rfl rfl, ?_⟩
    refine ⟨congrArg _ ?_, rfl⟩
    rw [chkBin, if_pos (by simp at hb1; omega)]
  · refine .y (.fieldAddr rfl fl_28_1) ⟨_, rfl, rfl⟩ rfl rfl ?_
    refine .y (.load rfl (.own 0 rfl) ag_3 sz_3 rfl) ⟨_, rfl, rfl⟩ rfl rfl ?_
    refine .c (.call rfl rfl fn_83) ⟨_, rfl, rfl⟩ rfl rfl (fun own ho hd => in_ct _ ) ?_
    rintro _ _ ⟨rfl, rfl⟩
    refine .y (.not rfl) ⟨_, rfl, rfl⟩ rfl rfl ?_
    refine .y (.pick_f rfl rfl) trivial rfl rfl ?_
    refine .y (.move rfl) trivial rfl rfl ?_
    refine .split 14 rfl (fun hb2 => ?_) (fun hb2 => ?_)
    · refine .skip ⟨_, rfl, rfl⟩ rfl ?_
      refine .skip ⟨_, rfl, rfl⟩ rfl ?_
      refine .skip ⟨_, rfl, rfl⟩ rfl ?_
      refine .skip ⟨_, rfl, rfl⟩ rfl ?_
      refine .y (.pick_t rfl rfl) trivial rfl rfl ?_
      refine .y (.assign rfl) trivial rfl rfl ?_
      refine .nil ?_
      refine .cond_t rfl ?_
      refine .seq ?_
      refine .region ?_
      refine .y (.assign rfl) trivial rfl rfl ?_
      refine .nil ?_
      refine .ret ?_
      refine ⟨.inr rfl, _, _, (.nil _), fun own' ho => .one rfl rfl, ?_⟩
      refine ⟨congrArg _ ?_, rfl⟩
      rw [chkBin, if_pos (by simp at hb1 hb2; omega)]
    · refine .y (.fieldAddr rfl fl_28_2) ⟨_, rfl, rfl⟩ rfl rfl ?_
      refine .y (.load rfl (.own 0 rfl) ag_26 sz_26 rfl) ⟨_, rfl, rfl⟩ rfl rfl ?_
      refine .y (.len rfl sl_26) ⟨_, rfl, rfl⟩ rfl rfl ?_
      refine .y (.gtr rfl rfl) ⟨_, rfl, rfl⟩ rfl rfl ?_
      refine .y (.pick_f rfl rfl) trivial rfl rfl ?_
      refine .y (.assign rfl) trivial rfl rfl ?_
      refine .nil ?_
      refine .ite rfl (fun h1 => ?_) (fun h1 => ?_)
      · refine .seq ?_
        refine .region ?_
        refine .y (.assign rfl) trivial rfl rfl ?_
        refine .nil ?_
        refine .ret ?_
        refine ⟨.inr rfl, _, _, (.nil _), fun own' ho => .one rfl rfl, ?_⟩
        refine ⟨congrArg _ ?_, rfl⟩
        rw [chkBin, if_pos (by omega)]
      · have hc : 1 ≤ cols ∧ cols ≤ 5 ∧ 1 ≤ rows ∧ rows ≤ 5 := by simp at hb1 hb2; omega
        refine .seq ?_
        refine .region ?_
        refine .y (.fieldAddr rfl fl_28_2) trivial rfl rfl ?_
        refine .y (.load rfl (.own 0 rfl) ag_26 sz_26 rfl) trivial rfl rfl ?_
        refine .y (.makeFunc rfl rfl) trivial rfl rfl ?_
        refine .c (.call rfl rfl fn_62) trivial rfl rfl (fun own ho hd => everyeRod_ct _ fn_84 (xs := rods) (SlR.up hr) (fun g' hg x hx => check1_ct g' (hg _ _ (one_in 0 rfl ho hd)) hc) (by first | omega | (simp; omega))) ?_
        rintro _ _ ⟨rfl, rfl⟩
        refine .y (.not rfl) trivial rfl rfl ?_
        refine .y (.assign rfl) trivial rfl rfl ?_
        refine .nil ?_
        refine .cond rfl (fun h2 => ?_) (fun h2 => ?_)
        · refine .seq ?_
          refine .region ?_
          refine .y (.assign rfl) trivial rfl rfl ?_
          refine .nil ?_
          refine .ret ?_
          refine ⟨.inr rfl, _, _, (.nil _), fun own' ho => .one rfl rfl, ?_⟩
          refine ⟨congrArg _ ?_, rfl⟩
          rw [chkBin, if_neg (by omega), if_pos (by simpa using h2)]
        · refine .seq ?_
          refine .region ?_
          refine .y (.fieldAddr rfl fl_28_2) trivial rfl rfl ?_
          refine .y (.load rfl (.own 0 rfl) ag_26 sz_26 rfl) trivial rfl rfl ?_
          refine .c (.call rfl rfl fn_62) trivial rfl rfl (fun own ho hd => everyeRod_ct _ fn_86 (xs := rods) (SlR.up hr) (fun g' hg x hx => check2_ct g') (by first | omega | (simp; omega))) ?_
          rintro _ _ ⟨rfl, rfl⟩
          refine .y (.not rfl) trivial rfl rfl ?_
          refine .y (.assign rfl) trivial rfl rfl ?_
          refine .nil ?_
          refine .cond rfl (fun h3 => ?_) (fun h3 => ?_)
          · refine .seq ?_
            refine .region ?_
            refine .y (.assign rfl) trivial rfl rfl ?_
            refine .nil ?_
            refine .ret ?_
            refine ⟨.inr rfl, _, _, (.nil _), fun own' ho => .one rfl rfl, ?_⟩
            refine ⟨congrArg _ ?_, rfl⟩
            rw [chkBin, if_neg (by omega), if_neg (by simpa using h2), if_pos (by simpa using h3)]
          · refine .skip ?_
            refine .seq ?_
            refine .region ?_
            refine .y (.assign rfl) trivial rfl rfl ?_
            refine .nil ?_
            refine .ret ?_
            refine ⟨.inr rfl, _, _, (.nil _), fun own' ho => .one rfl rfl, ?_⟩
            refine ⟨congrArg _ ?_, rfl⟩
            rw [chkBin, if_neg (by omega), if_neg (by simpa using h2), if_neg (by simpa using h3)]
theorem cells1_it (g : Hp) {C Rw : Nat} {ra : Option Addr} {rn rc : Nat} {B : Nat} (hB : g B = some (.cells #[.int .i64 (C : Int), .int .i64 (Rw : Int), .slice ra rn rc] 28 (0, 0))) (hc : 1 ≤ C ∧ C ≤ 5 ∧ 1 ≤ Rw ∧ Rw ≤ 5) : It Tryz.prog 123 [.pointer (some ⟨B, 0, none⟩)].toArray g (C * Rw) (fun k => [.int .i64 (k : Int), .agg #[.int .i64 ((cellAt C k).col), .int .i64 ((cellAt C k).row)]].toArray) := by
  intro l R Rx hY
  have hY2 : ∀ r c : Nat, r < Rw → c < C → Yd Tryz.prog l [.int .i64 ((C * r + c : Nat) : Int), .agg #[.int .i64 (c : Int), .int .i64 (r : Int)]].toArray g R Rx (C * r + c) := fun r c hr hcc => by
    have h1 := hY (C * r + c) (cell_lt hr hcc)
    simp only [cellAt_of hcc] at h1
    exact h1
  refine (Ct.of_body (N := 27) (l := [.func (.yield l) #[] #[], .pointer (some ⟨B, 0, none⟩)]) (rs := [R 0]) Tryz.func123 rfl rfl (Nat.le_of_ble_eq_true rfl) fun n0 => ?_ : Ct Tryz.prog 123 [.func (.yield l) #[] #[], .pointer (some ⟨B, 0, none⟩)].toArray g [R 0] _)
  refine .seq ?_
  refine .region ?_
  refine .y (.assign rfl) trivial rfl rfl ?_
  refine .nil ?_
  refine .seq ?_
  refine .region ?_
  refine .y (.fieldAddr rfl fl_28_1) trivial rfl rfl ?_
  refine .y (.load rfl (.g hB) ag_3 sz_3 rfl) trivial rfl rfl ?_
  refine .y (.move rfl) trivial rfl rfl ?_
  refine .nil ?_
  refine .block ?_
  refine T.loop (ι := { zz : Nat // zz ≤ Rw }) (fun zz => ([(3, .int .i64 ((C * zz.1 : Nat) : Int)), (8, .int .i64 (zz.1 : Int)), (0, .func (.yield l) #[] #[]), (1, .pointer (some ⟨B, 0, none⟩)), (7, .int .i64 (Rw : Int))], [R (C * zz.1)])) (fun zz => Rw - zz.1) ⟨(0), by simp⟩ (.one rfl (.one rfl (.one rfl (.one rfl (.one rfl (.nil)))))) (.refl _) ?_
  rintro ⟨r, hP0⟩
  show T _ [(3, .int .i64 ((C * r : Nat) : Int)), (8, .int .i64 (r : Int)), (0, .func (.yield l) #[] #[]), (1, .pointer (some ⟨B, 0, none⟩)), (7, .int .i64 (Rw : Int))] [R (C * r)] _ _
  refine .seq ?_
  refine .region ?_
  refine .y (.lss rfl rfl) trivial rfl rfl ?_
  refine .nil ?_
  refine .seq ?_
  refine .ite rfl (fun h1 => ?_) (fun h1 => ?_)
  · refine .skip ?_
    refine .seq ?_
    refine .block ?_
    refine .seq ?_
    refine .region ?_
    refine .y (.move rfl) trivial rfl rfl ?_
    refine .y (.assign rfl) trivial rfl rfl ?_
    refine .nil ?_
    refine .seq ?_
    refine .region ?_
    refine .y (.fieldAddr rfl fl_28_0) trivial rfl rfl ?_
    refine .y (.load rfl (.g hB) ag_3 sz_3 rfl) trivial rfl rfl ?_
    refine .y (.move rfl) trivial rfl rfl ?_
    refine .nil ?_
    refine .block ?_
    refine T.loop (ι := { zz : Nat // zz ≤ C }) (fun zz => ([(3, .int .i64 ((C * r + zz.1 : Nat) : Int)), (13, .int .i64 (zz.1 : Int)), (0, .func (.yield l) #[] #[]), (1, .pointer (some ⟨B, 0, none⟩)), (4, .int .i64 (r : Int)), (7, .int .i64 (Rw : Int)), (8, .int .i64 (r : Int)), (12, .int .i64 (C : Int))], [R (C * r + zz.1)])) (fun zz => C - zz.1) ⟨(0), by simp⟩ (.one rfl (.one rfl (.one rfl (.one rfl (.one rfl (.one rfl (.one rfl (.one rfl (.nil))))))))) (.refl _) ?_
    rintro ⟨c, hP2⟩
    show T _ [(3, .int .i64 ((C * r + c : Nat) : Int)), (13, .int .i64 (c : Int)), (0, .func (.yield l) #[] #[]), (1, .pointer (some ⟨B, 0, none⟩)), (4, .int .i64 (r : Int)), (7, .int .i64 (Rw : Int)), (8, .int .i64 (r : Int)), (12, .int .i64 (C : Int))] [R (C * r + c)] _ _
    refine .seq ?_
    refine .region ?_
    refine .y (.lss rfl rfl) trivial rfl rfl ?_
    refine .nil ?_
    refine .seq ?_
    refine .ite rfl (fun h2 => ?_) (fun h2 => ?_)
    · refine .skip ?_
      refine .seq ?_
      refine .block ?_
      refine .seq ?_
      refine .region ?_
      refine .y (.move rfl) trivial rfl rfl ?_
      refine .y (.assign rfl) trivial rfl rfl ?_
      refine .nil ?_
      refine .seq ?_
      refine .seq ?_
      refine .region ?_
      refine .y (.move rfl) trivial rfl rfl ?_
      refine .y (.move rfl) trivial rfl rfl ?_
      refine .y (.move rfl) trivial rfl rfl ?_
      refine .y (.move rfl) trivial rfl rfl ?_
      refine .y (.build rfl pl_30 zr_30 rfl) trivial rfl rfl ?_
      refine .cons trivial (.yield 0 rfl rfl rfl (hY2 r c (by omega) (by omega)) rfl ?_ ?_)
      · refine .y (.not rfl) trivial rfl rfl ?_
        refine .nil ?_
        refine .cond_f rfl ?_
        refine .skip ?_
        refine .region ?_
        refine .y (.move rfl) trivial rfl rfl ?_
        refine .y (.add rfl rfl (by have := mulN (C := C) (r := r) (by omega) (by omega); omega)) trivial rfl rfl ?_
        refine .y (.assign rfl) trivial rfl rfl ?_
        refine .nil ?_
        refine .region ?_
        refine .y (.add rfl rfl (by omega)) trivial rfl rfl ?_
        refine .y (.move rfl) trivial rfl rfl ?_
        refine .nil ?_
        refine ⟨⟨(c + 1), ?_⟩, ?_, (.one rfl (.one rfl (.one rfl (.one rfl (.one rfl (.one rfl (.one rfl (.one rfl (.nil))))))))), (.refl _)⟩
        · omega
        · show C - (c + 1) < C - c; omega
      · refine .y (.not rfl) trivial rfl rfl ?_
        refine .nil ?_
        refine .cond_t rfl ?_
        refine .ret ?_
        refine ⟨.inr rfl, _, _, (.pick 0 rfl (.nil _)), fun own' ho => .zero rfl, ?_⟩
        exact .inr rfl
    · obtain rfl : C = c := by omega
      refine .exit ?_
      refine inB_hit ?_
      refine .region ?_
      refine .y (.add rfl rfl (by omega)) trivial rfl rfl ?_
      refine .y (.move rfl) trivial rfl rfl ?_
      refine .nil ?_
      refine ⟨⟨(r + 1), ?_⟩, ?_, (.one rfl (.one rfl (.one rfl (.one rfl (.one rfl (.nil)))))), (.refl _)⟩
      · omega
      · show Rw - (r + 1) < Rw - r; omega
  · obtain rfl : Rw = r := by omega
    refine .exit ?_
    refine inB_hit ?_
    refine ⟨.inl rfl, _, _, (.pick 0 rfl (.nil _)), fun own' ho => .zero rfl, ?_⟩
    exact .inl rfl
theorem greatest_ct (g : Hp) {a : Option Addr} {c : Nat} {xs : List Int} (hs : SlR eInt g a xs) (hl : xs.length ≤ 1000) : Ct Tryz.prog 139 [.slice a xs.length c].toArray g [] (fun v rs => v = .int .i64 (greatestL xs) ∧ rs = []) := by
  refine Ct.of_body (N := 17) (l := [.slice a xs.length c]) Tryz.func139 rfl rfl (Nat.le_of_ble_eq_true rfl) fun n0 => ?_
  refine .seq ?_
  refine .region ?_
  refine .y (.assign rfl) trivial rfl rfl ?_
  refine .nil ?_
  refine .seq ?_
  refine .region ?_
  refine .y (.assign rfl) trivial rfl rfl ?_
  refine .nil ?_
  refine .seq ?_
  refine .seq ?_
  refine .region ?_
  refine .y (.move rfl) trivial rfl rfl ?_
  refine .y (.len rfl sl_39) trivial rfl rfl ?_
  refine .y (.move rfl) trivial rfl rfl ?_
  refine .nil ?_
  refine .block ?_
  refine T.loop (ι := { zz : Nat × Int // zz.1 ≤ xs.length ∧ zz.2 = (xs.take zz.1).foldl max 0 }) (fun zz => ([(3, .int .i64 zz.1.2), (8, .int .i64 (zz.1.1 : Int)), (6, .slice a xs.length c), (7, .int .i64 (xs.length : Int))], [])) (fun zz => xs.length - zz.1.1) ⟨(0, 0), by simp⟩ (.one rfl (.one rfl (.one rfl (.one rfl (.nil))))) (.refl _) ?_
  rintro ⟨⟨i, m⟩, hP0⟩
  dsimp only at hP0
  show T _ [(3, .int .i64 m), (8, .int .i64 (i : Int)), (6, .slice a xs.length c), (7, .int .i64 (xs.length : Int))] [] _ _
  refine .seq ?_
  refine .region ?_
  refine .y (.lss rfl rfl) trivial rfl rfl ?_
  refine .nil ?_
  refine .seq ?_
  refine .ite rfl (fun h1 => ?_) (fun h1 => ?_)
  · refine .skip ?_
    refine .seq ?_
    refine .block ?_
    refine .seq ?_
    refine .region ?_
    have hbhx1 : i < xs.length := by omega
    obtain ⟨x1, hx1⟩ : ∃ x1, xs[i]? = some x1 := ⟨_, List.getElem?_eq_getElem hbhx1⟩
    refine .y (.indexE (E := eInt) rfl rfl (.g hs) rfl sl_39 sz_3 (by omega)) trivial rfl rfl ?_
    refine .y (.loadE (E := eInt) rfl (.g hs) ag_3 sz_3 (by decide) (eInt.rd0 hx1 (by decide) (by decide) rfl)) trivial rfl rfl ?_
    refine .y (.assign rfl) trivial rfl rfl ?_
    refine .nil ?_
    refine .region ?_
    refine .y (.move rfl) trivial rfl rfl ?_
    refine .y (.move rfl) trivial rfl rfl ?_
    refine .y (.maxi rfl rfl) trivial rfl rfl ?_
    refine .y (.assign rfl) trivial rfl rfl ?_
    refine .nil ?_
    refine .region ?_
    refine .y (.add rfl rfl (by omega)) trivial rfl rfl ?_
    refine .y (.move rfl) trivial rfl rfl ?_
    refine .nil ?_
    refine ⟨⟨(i + 1, _), ?_⟩, ?_, (.one rfl (.one rfl (.one rfl (.one rfl (.nil))))), (.refl _)⟩
    · exact ⟨by omega, by rw [foldl_take hx1, ← hP0.2]⟩
    · show xs.length - (i + 1) < xs.length - i; omega
  · refine .exit ?_
    refine inB_hit ?_
    refine .seq ?_
    refine .region ?_
    refine .y (.move rfl) trivial rfl rfl ?_
    refine .y (.assign rfl) trivial rfl rfl ?_
    refine .nil ?_
    refine .ret ?_
    refine ⟨.inr rfl, _, _, (.nil _), fun own' ho => .one rfl rfl, ?_⟩
    refine ⟨?_, rfl⟩
    rw [hP0.2, List.take_of_length_le (by omega)]; rfl
theorem members_ct (g : Hp) {s : Nat} (hs : s < 2 ^ 62) : Ct Tryz.prog 55 [.int .i64 (s : Int)].toArray g [] (fun v rs => ∃ (a : Option Addr) (c : Nat), v = .slice a ((membI s).length) c ∧ rs = [SlO eInt 3 a c (membI s)] ∧ SlOk a c) := by
  refine Ct.of_body (N := 21) (l := [.int .i64 (s : Int)]) Tryz.func55 rfl rfl (Nat.le_of_ble_eq_true rfl) fun n0 => ?_
  refine .seq ?_
  refine .region ?_
  refine .y (.assign rfl) trivial rfl rfl ?_
  refine .nil ?_
  refine .seq ?_
  refine .region ?_
  refine .y (.assign rfl) trivial rfl rfl ?_
  refine .nil ?_
  refine .seq ?_
  refine .seq ?_
  refine .region ?_
  refine .y (.assign rfl) trivial rfl rfl ?_
  refine .nil ?_
  refine .block ?_
  refine T.loop (ι := { zz : Nat × List Int × Option Addr × Nat // zz.1 ≤ 62 ∧ zz.2.1 = (memb s zz.1).map (fun (x : Nat) => (x : Int)) ∧ SlOk zz.2.2.1 zz.2.2.2 }) (fun zz => ([(3, .slice zz.1.2.2.1 zz.1.2.1.length zz.1.2.2.2), (4, .int .i64 (zz.1.1 : Int)), (0, .int .i64 (s : Int))], [SlO eInt 3 zz.1.2.2.1 zz.1.2.2.2 zz.1.2.1])) (fun zz => 62 - zz.1.1) ⟨(0, [], none, 0), ⟨by omega, rfl, .nil⟩⟩ (.one rfl (.one rfl (.one rfl (.nil)))) (.nilSl (.refl _)) ?_
  rintro ⟨⟨i, out, a, c⟩, hP0⟩
  dsimp only at hP0
  show T _ [(3, .slice a out.length c), (4, .int .i64 (i : Int)), (0, .int .i64 (s : Int))] [SlO eInt 3 a c out] _ _
  refine .seq ?_
  refine .seq ?_
  refine .region ?_
  refine .y (.move rfl) trivial rfl rfl ?_
  refine .y (.move rfl) trivial rfl rfl ?_
  refine .y (.shrN (a := s) (b := i) rfl rfl (by omega)) trivial rfl rfl ?_
  refine .y (.gtr rfl rfl) trivial rfl rfl ?_
  refine .nil ?_
  refine .ite rfl (fun h1 => ?_) (fun h1 => ?_)
  · have hi62 : i < 62 := shr_pos_lt hs h1
    refine .skip ?_
    refine .seq ?_
    refine .block ?_
    refine .seq ?_
    refine .region ?_
    refine .y (.move rfl) trivial rfl rfl ?_
    refine .y (.move rfl) trivial rfl rfl ?_
    refine .y (.shrN (a := s) (b := i) rfl rfl (by omega)) trivial rfl rfl ?_
    refine .y (.andN (a := s >>> i) (b := 1) rfl rfl ⟨shr_lt hs, by omega⟩) trivial rfl rfl ?_
    refine .y (.eql rfl rfl) trivial rfl rfl ?_
    refine .nil ?_
    refine .ite rfl (fun h2 => ?_) (fun h2 => ?_)
    · refine .region ?_
      refine .y (.move rfl) trivial rfl rfl ?_
      refine .y (.move rfl) trivial rfl rfl ?_
      refine .n (.lit #[.int .i64 0] lz_3_1 rfl sl_39 sz_3 zr_3 rfl rfl rfl) trivial rfl rfl fun B1 => ?_
      refine .cons trivial (.app (E := eInt) (ys := [(i : Int)]) 1 el_39 rfl rfl rfl rfl rfl (.of_cells (.own 0 rfl)) (fun h => by cases h) (by have := memb_length s i; simp [hP0.2.1]; omega) (by have := memb_length s i; simp [hP0.2.1]; omega) rfl fun a1 c1 oka1 => ?_)
      refine .y (.assign rfl) trivial rfl rfl ?_
      refine .nil ?_
      refine .region ?_
      refine .y (.move rfl) trivial rfl rfl ?_
      refine .y (.add rfl rfl (by omega)) trivial rfl rfl ?_
      refine .y (.assign rfl) trivial rfl rfl ?_
      refine .nil ?_
      refine ⟨⟨(i + 1, out ++ ([(i : Int)]), a1, c1), ?_⟩, ?_, (.one rfl (.one rfl (.one rfl (.nil)))), (.pick 1 rfl (.nil _))⟩
      · exact ⟨by omega, memI_in hP0.2.1 h2, by assumption⟩
      · show 62 - (i + 1) < 62 - i; omega
    · refine .skip ?_
      refine .region ?_
      refine .y (.move rfl) trivial rfl rfl ?_
      refine .y (.add rfl rfl (by omega)) trivial rfl rfl ?_
      refine .y (.assign rfl) trivial rfl rfl ?_
      refine .nil ?_
      refine ⟨⟨(i + 1, out, a, c), ?_⟩, ?_, (.one rfl (.one rfl (.one rfl (.nil)))), (.refl _)⟩
      · exact ⟨by omega, memI_out hP0.2.1 h2, hP0.2.2⟩
      · show 62 - (i + 1) < 62 - i; omega
  · refine .exit ?_
    refine inB_hit ?_
    refine .seq ?_
    refine .region ?_
    refine .y (.move rfl) trivial rfl rfl ?_
    refine .y (.assign rfl) trivial rfl rfl ?_
    refine .nil ?_
    refine .ret ?_
    refine ⟨.inr rfl, _, _, (.pick 0 rfl (.nil _)), fun own' ho => .one rfl rfl, ?_⟩
    have hm := memI_end hs hP0.1 hP0.2.1 h1
    subst hm; exact ⟨_, _, rfl, rfl, hP0.2.2⟩
theorem feels_ct (g : Hp) {C Rw : Nat} {ra : Option Addr} {rn rc : Nat} {h : List Int} {tip : Cell} {reach : Int} (hc : 1 ≤ C ∧ C ≤ 5 ∧ 1 ≤ Rw ∧ Rw ≤ 5) (hh : h.length = 25) (hb : ∀ x ∈ h, -1000 ≤ x ∧ x ≤ 1000) (ht : Sm tip) (hr : 0 ≤ reach ∧ reach ≤ 100) : Ct Tryz.prog 95 [.agg #[.int .i64 (C : Int), .int .i64 (Rw : Int), .slice ra rn rc], .agg (h.map argI).toArray, .agg #[.int .i64 tip.col, .int .i64 tip.row], .int .i64 reach].toArray g [] (fun v rs => v = .int .i64 (feelsTo C h tip reach (C * Rw)) ∧ rs = []) := by
  refine Ct.of_body (N := 32) (l := [.agg #[.int .i64 (C : Int), .int .i64 (Rw : Int), .slice ra rn rc], .agg (h.map argI).toArray, .agg #[.int .i64 tip.col, .int .i64 tip.row], .int .i64 reach]) Tryz.func95 rfl rfl (Nat.le_of_ble_eq_true rfl) fun n0 => ?_
  refine .seq ?_
  refine .region ?_
  refine .n (.box rfl) trivial rfl rfl fun B1 => ?_
  refine .n (.box rfl) trivial rfl rfl fun B2 => ?_
  refine .n (.box rfl) trivial rfl rfl fun B3 => ?_
  refine .n (.box rfl) trivial rfl rfl fun B4 => ?_
  refine .y (.assign rfl) trivial rfl rfl ?_
  refine .nil ?_
  refine .seq ?_
  refine .region ?_
  refine .n (.alloc zr_3) trivial rfl rfl fun B5 => ?_
  refine .cons trivial (.store 0 rfl rfl rfl sz_3 rfl rfl (Nat.le_of_ble_eq_true rfl) rfl ?_)
  refine .nil ?_
  refine .seq ?_
  refine .seq ?_
  refine .region ?_
  refine .y (.load rfl (.own 4 rfl) ag_28 sz_28 rfl) trivial rfl rfl ?_
  refine .c (.call rfl rfl fn_52) trivial rfl rfl (fun own ho hd => cells_ct _ ) ?_
  rintro _ _ ⟨B6, rfl, rfl⟩
  refine .nil ?_
  refine .block ?_
  refine T.range (N := C * Rw) (enc := fun k1 => [.int .i64 (k1 : Int), .agg #[.int .i64 ((cellAt C k1).col), .int .i64 ((cellAt C k1).row)]]) (r := [As.one B6 (.cells #[.int .i64 (C : Int), .int .i64 (Rw : Int), .slice ra rn rc] 28 (0, 0))]) (fun k1 => [As.one B5 (.cells #[.int .i64 (feelsTo C h tip reach k1)] 3 (0, 0)), As.one B4 (.cells #[.int .i64 reach] 3 (0, 0)), As.one B3 (.cells #[.int .i64 tip.col, .int .i64 tip.row] 30 (0, 0)), As.one B2 (.cells (h.map argI).toArray 121 (0, 0)), As.one B1 (.cells #[.int .i64 (C : Int), .int .i64 (Rw : Int), .slice ra rn rc] 28 (0, 0))]) (fun _ _ => False) rfl fn_123 (fun own ho hd => cells1_it _ (one_in 0 rfl ho hd) (by first | assumption | omega)) (.pick 1 rfl (.pick 1 rfl (.pick 1 rfl (.pick 1 rfl (.pick 1 rfl (.refl _)))))) (fun _ => rfl) (fun p hp => by simp at hp; show p < 32; omega) (fun l1 k1 hk1 => ?_) ?_ ?_
  · have h25k1 : k1 < 25 := Nat.lt_of_lt_of_le hk1 (Nat.mul_le_mul hc.2.1 hc.2.2.2)
    refine .seq ?_
    refine .region ?_
    refine .y (.assign rfl) trivial rfl rfl ?_
    refine .nil ?_
    refine .region ?_
    refine .n (.alloc zr_30) trivial rfl rfl fun B7 => ?_
    refine .cons trivial (.store 0 rfl rfl rfl sz_30 rfl rfl (Nat.le_of_ble_eq_true rfl) rfl ?_)
    refine .nil ?_
    refine ⟨rfl, ?_⟩
    refine .block ?_
    refine .seq ?_
    refine .region ?_
    refine .y (.load rfl (.own 0 rfl) ag_30 sz_30 rfl) trivial rfl rfl ?_
    refine .y (.load rfl (.own 3 rfl) ag_30 sz_30 rfl) trivial rfl rfl ?_
    refine .c (.call rfl rfl fn_53) trivial rfl rfl (fun own ho hd => from_ct _ (by first | assumption | exact (show RodOk _ from (by assumption)).1 | exact (getRod hv (by assumption)).1 | exact cellAt_Sm hc.2.1 hc.2.2.2 (by assumption)) (by first | assumption | exact (show RodOk _ from (by assumption)).1 | exact (getRod hv (by assumption)).1 | exact cellAt_Sm hc.2.1 hc.2.2.2 (by assumption))) ?_
    rintro _ _ ⟨rfl, rfl⟩
    refine .y (.assign rfl) trivial rfl rfl ?_
    refine .nil ?_
    refine .seq ?_
    refine .region ?_
    refine .y (.move rfl) trivial rfl rfl ?_
    refine .y (.load rfl (.own 2 rfl) ag_3 sz_3 rfl) trivial rfl rfl ?_
    refine .y (.leq rfl rfl) trivial rfl rfl ?_
    refine .nil ?_
    refine .ite rfl (fun h1 => ?_) (fun h1 => ?_)
    · refine T.dr (N := 32) [] [0, 0, 2, 6, 0, 30, 63, 127, 255] 6 (by kernel_rfl) flw rfl (Nat.le_of_ble_eq_true rfl) ?_
      refine .y (.load rfl (.own 1 rfl) ag_3 sz_3 rfl) trivial ?_
      refine .y (.move rfl) trivial ?_
      refine .y (.indexAddrA rfl rfl ar_121 sz_3 (by omega)) trivial ?_
      obtain ⟨x1, hx1⟩ : ∃ x1, h[k1]? = some x1 := ⟨_, List.getElem?_eq_getElem (show k1 < h.length from (by first | omega | (simp; omega) | exact Nat.le_trans (membI_len _) (by decide) | (simp [*]; done) | (simp [*]; omega)))⟩
      refine .y (.loadA (xs := h) (i := k1) rfl (.own 4 rfl) ag_3 sz_3 (by simp) hx1) trivial ?_
      refine .y (.move rfl) trivial ?_
      refine .y (.sub rfl rfl (by have := getBd hb (by assumption); have := dist_bd (cellAt_Sm hc.2.1 hc.2.2.2 hk1) ht; omega)) trivial ?_
      refine .nil ?_
      refine .n (.lit #[.int .i64 0, .int .i64 0] lz_3_2 rfl sl_39 sz_3 zr_3 rfl rfl rfl) trivial rfl rfl fun B8 => ?_
      refine .c (.call rfl rfl fn_139) trivial rfl rfl (fun own ho hd => greatest_ct _ (xs := [feelsTo C h tip reach k1, x1 - (dist (cellAt C k1) tip)]) (SlR.of_one (one_in 0 rfl ho hd) rfl) (by simp)) ?_
      rintro _ _ ⟨rfl, rfl⟩
      refine .cons trivial (.store 2 rfl rfl rfl sz_3 rfl rfl (Nat.le_of_ble_eq_true rfl) rfl ?_)
      refine .nil ?_
      show RSub [As.one B5 (.cells #[.int .i64 (feelsTo C h tip reach (k1 + 1))] 3 (0, 0)), As.one B4 (.cells #[.int .i64 reach] 3 (0, 0)), As.one B3 (.cells #[.int .i64 tip.col, .int .i64 tip.row] 30 (0, 0)), As.one B2 (.cells (h.map argI).toArray 121 (0, 0)), As.one B1 (.cells #[.int .i64 (C : Int), .int .i64 (Rw : Int), .slice ra rn rc] 28 (0, 0))] _
      rw [feels_in (by assumption) h1]
      exact (.pick 2 rfl (.pick 2 rfl (.pick 2 rfl (.pick 2 rfl (.pick 2 rfl (.nil _))))))
    · refine .skip ?_
      show RSub [As.one B5 (.cells #[.int .i64 (feelsTo C h tip reach (k1 + 1))] 3 (0, 0)), As.one B4 (.cells #[.int .i64 reach] 3 (0, 0)), As.one B3 (.cells #[.int .i64 tip.col, .int .i64 tip.row] 30 (0, 0)), As.one B2 (.cells (h.map argI).toArray 121 (0, 0)), As.one B1 (.cells #[.int .i64 (C : Int), .int .i64 (Rw : Int), .slice ra rn rc] 28 (0, 0))] _
      rw [feels_out h1]
      exact (.pick 1 rfl (.pick 1 rfl (.pick 1 rfl (.pick 1 rfl (.pick 1 rfl (.nil _))))))
  · skip
    refine .seq ?_
    refine .region ?_
    refine .y (.load rfl (.own 0 rfl) ag_3 sz_3 rfl) trivial rfl rfl ?_
    refine .y (.assign rfl) trivial rfl rfl ?_
    refine .nil ?_
    refine .ret ?_
    refine ⟨.inr rfl, _, _, (.nil _), fun own' ho => .one rfl rfl, ?_⟩
    first | exact ⟨rfl, rfl⟩ | (refine ⟨?_, rfl⟩; simp [*])
  · exact fun _ _ h => h.elim
theorem shown_ct (g : Hp) {cols rows : Int} {ra : Option Addr} {rc : Nat} {rods : List Rod} (hr : SlR eRod g ra rods) (hl : rods.length ≤ 8) : Ct Tryz.prog 70 [.agg #[.int .i64 cols, .int .i64 rows, .slice ra rods.length rc]].toArray g [] (fun v rs => v = .int .i64 ((shownTo rods rods.length : Nat) : Int) ∧ rs = []) := by
  refine Ct.of_body (N := 23) (l := [.agg #[.int .i64 cols, .int .i64 rows, .slice ra rods.length rc]]) Tryz.func70 rfl rfl (Nat.le_of_ble_eq_true rfl) fun n0 => ?_
  refine .seq ?_
  refine .region ?_
  refine .n (.box rfl) trivial rfl rfl fun B1 => ?_
  refine .y (.assign rfl) trivial rfl rfl ?_
  refine .nil ?_
  refine .seq ?_
  refine .region ?_
  refine .y (.assign rfl) trivial rfl rfl ?_
  refine .nil ?_
  refine .seq ?_
  refine .seq ?_
  refine .region ?_
  refine .y (.fieldAddr rfl fl_28_2) trivial rfl rfl ?_
  refine .y (.load rfl (.own 0 rfl) ag_26 sz_26 rfl) trivial rfl rfl ?_
  refine .y (.len rfl sl_26) trivial rfl rfl ?_
  refine .y (.move rfl) trivial rfl rfl ?_
  refine .nil ?_
  refine .block ?_
  refine T.loop (ι := { zz : Nat × Nat // zz.1 ≤ rods.length ∧ zz.2 = shownTo rods zz.1 }) (fun zz => ([(3, .int .i64 (zz.1.2 : Int)), (9, .int .i64 (zz.1.1 : Int)), (7, .slice ra rods.length rc), (8, .int .i64 (rods.length : Int))], [As.one B1 (.cells #[.int .i64 cols, .int .i64 rows, .slice ra rods.length rc] 28 (0, 0))])) (fun zz => rods.length - zz.1.1) ⟨(0, 0), ⟨by omega, rfl⟩⟩ (.one rfl (.one rfl (.one rfl (.one rfl (.nil))))) (.refl _) ?_
  rintro ⟨⟨j, s⟩, hP0⟩
  dsimp only at hP0
  show T _ [(3, .int .i64 (s : Int)), (9, .int .i64 (j : Int)), (7, .slice ra rods.length rc), (8, .int .i64 (rods.length : Int))] [As.one B1 (.cells #[.int .i64 cols, .int .i64 rows, .slice ra rods.length rc] 28 (0, 0))] _ _
  refine .seq ?_
  refine .region ?_
  refine .y (.lss rfl rfl) trivial rfl rfl ?_
  refine .nil ?_
  refine .seq ?_
  refine .ite rfl (fun h1 => ?_) (fun h1 => ?_)
  · refine .skip ?_
    refine .seq ?_
    refine .block ?_
    refine .seq ?_
    refine .region ?_
    refine .y (.move rfl) trivial rfl rfl ?_
    have hbhx1 : j < rods.length := by omega
    obtain ⟨x1, hx1⟩ : ∃ x1, rods[j]? = some x1 := ⟨_, List.getElem?_eq_getElem hbhx1⟩
    refine .y (.indexE (E := eRod) rfl rfl (.g hr) rfl sl_26 sz_32 (by omega)) trivial rfl rfl ?_
    refine .y (.loadE (E := eRod) rfl (.g hr) ag_32 sz_32 (by decide) (eRod.rd0 hx1 (by decide) (by decide) rfl)) trivial rfl rfl ?_
    refine .n (.alloc zr_32) trivial rfl rfl fun B2 => ?_
    refine .y (.assign rfl) trivial rfl rfl ?_
    refine .cons trivial (.store 0 rfl rfl rfl sz_32 rfl rfl (Nat.le_of_ble_eq_true rfl) rfl ?_)
    refine .nil ?_
    refine .seq ?_
    refine .region ?_
    refine .y (.fieldAddr rfl fl_32_2) trivial rfl rfl ?_
    refine .y (.load rfl (.own 0 rfl) ag_3 sz_3 rfl) trivial rfl rfl ?_
    refine .y (.gtr rfl rfl) trivial rfl rfl ?_
    refine .nil ?_
    refine .ite rfl (fun h2 => ?_) (fun h2 => ?_)
    · refine .region ?_
      refine .y (.move rfl) trivial rfl rfl ?_
      refine .y (.move rfl) trivial rfl rfl ?_
      refine .y (.shlN (b := j) rfl rfl (by omega)) trivial rfl rfl ?_
      refine .y (.orN (a := s) (b := 2 ^ j) rfl rfl ⟨by rw [hP0.2]; exact shown_lt j 63 (by omega), Nat.pow_lt_pow_right (by decide) (by omega)⟩) trivial rfl rfl ?_
      refine .y (.assign rfl) trivial rfl rfl ?_
      refine .nil ?_
      refine .region ?_
      refine .y (.add rfl rfl (by omega)) trivial rfl rfl ?_
      refine .y (.move rfl) trivial rfl rfl ?_
      refine .nil ?_
      refine ⟨⟨(j + 1, s ||| (2 ^ j)), ?_⟩, ?_, (.one rfl (.one rfl (.one rfl (.one rfl (.nil))))), (.pick 1 rfl (.nil _))⟩
      · exact ⟨by omega, by rw [shown_in hx1 h2, ← hP0.2]⟩
      · show rods.length - (j + 1) < rods.length - j; omega
    · refine .skip ?_
      refine .region ?_
      refine .y (.add rfl rfl (by omega)) trivial rfl rfl ?_
      refine .y (.move rfl) trivial rfl rfl ?_
      refine .nil ?_
      refine ⟨⟨(j + 1, s), ?_⟩, ?_, (.one rfl (.one rfl (.one rfl (.one rfl (.nil))))), (.pick 1 rfl (.nil _))⟩
      · exact ⟨by omega, by rw [shown_out hx1 h2, ← hP0.2]⟩
      · show rods.length - (j + 1) < rods.length - j; omega
  · refine .exit ?_
    refine inB_hit ?_
    refine .seq ?_
    refine .region ?_
    refine .y (.move rfl) trivial rfl rfl ?_
    refine .y (.assign rfl) trivial rfl rfl ?_
    refine .nil ?_
    refine .ret ?_
    refine ⟨.inr rfl, _, _, (.nil _), fun own' ho => .one rfl rfl, ?_⟩
    refine ⟨?_, rfl⟩
    obtain rfl : rods.length = j := by omega
    rw [hP0.2]
theorem most_ct (g : Hp) {C Rw : Nat} {ra : Option Addr} {rc : Nat} {rods : List Rod} {f : FuncId} {q : List Value} {p : Int → Bool} (hk : fnOk Tryz.prog f = true) (hF : PureB Tryz.prog g f q argI (fun i => 0 ≤ i ∧ i < rods.length) p) (hc : 1 ≤ C ∧ C ≤ 5 ∧ 1 ≤ Rw ∧ Rw ≤ 5) (hr : SlR eRod g ra rods) (hl : rods.length ≤ 8) (hv : ∀ r ∈ rods, RodOk r) : Ct Tryz.prog 129 [.agg #[.int .i64 (C : Int), .int .i64 (Rw : Int), .slice ra rods.length rc], .agg #[.func (.func f) #[] q.toArray]].toArray g [] (fun v rs => v = .agg ((mostTo C rods p (C * Rw)).map argI).toArray ∧ rs = []) := by
  refine Ct.of_body (N := 51) (l := [.agg #[.int .i64 (C : Int), .int .i64 (Rw : Int), .slice ra rods.length rc], .agg #[.func (.func f) #[] q.toArray]]) Tryz.func129 rfl rfl (Nat.le_of_ble_eq_true rfl) fun n0 => ?_
  refine .seq ?_
  refine .region ?_
  refine .n (.box rfl) trivial rfl rfl fun B1 => ?_
  refine .n (.box rfl) trivial rfl rfl fun B2 => ?_
  refine .n (.alloc zr_121) trivial rfl rfl fun B3 => ?_
  refine .nil ?_
  refine .seq ?_
  refine .region ?_
  refine .n (.alloc zr_121) trivial rfl rfl fun B4 => ?_
  refine .nil ?_
  refine .seq ?_
  refine .seq ?_
  refine .region ?_
  refine .y (.load rfl (.own 3 rfl) ag_28 sz_28 rfl) trivial rfl rfl ?_
  refine .c (.call rfl rfl fn_52) trivial rfl rfl (fun own ho hd => cells_ct _ ) ?_
  rintro _ _ ⟨B5, rfl, rfl⟩
  refine .nil ?_
  refine .block ?_
  refine T.range (N := C * Rw) (enc := fun k1 => [.int .i64 (k1 : Int), .agg #[.int .i64 ((cellAt C k1).col), .int .i64 ((cellAt C k1).row)]]) (r := [As.one B5 (.cells #[.int .i64 (C : Int), .int .i64 (Rw : Int), .slice ra rods.length rc] 28 (0, 0))]) (fun k1 => [As.one B4 (.cells ((mostTo C rods p k1).map argI).toArray 121 (0, 0)), As.one B3 (.cells ((List.replicate 25 (0 : Int)).map argI).toArray 121 (0, 0)), As.one B2 (.cells #[.func (.func f) #[] q.toArray] 131 (0, 0)), As.one B1 (.cells #[.int .i64 (C : Int), .int .i64 (Rw : Int), .slice ra rods.length rc] 28 (0, 0))]) (fun _ _ => False) rfl fn_123 (fun own ho hd => cells1_it _ (one_in 0 rfl ho hd) (by first | assumption | omega)) (.pick 1 rfl (.pick 1 rfl (.pick 1 rfl (.pick 1 rfl (.refl _))))) (fun _ => rfl) (fun p hp => by simp at hp; show p < 51; omega) (fun l1 k1 hk1 => ?_) ?_ ?_
  · have h25k1 : k1 < 25 := Nat.lt_of_lt_of_le hk1 (Nat.mul_le_mul hc.2.1 hc.2.2.2)
    refine .seq ?_
    refine .region ?_
    refine .y (.assign rfl) trivial rfl rfl ?_
    refine .nil ?_
    refine .region ?_
    refine .n (.alloc zr_30) trivial rfl rfl fun B6 => ?_
    refine .cons trivial (.store 0 rfl rfl rfl sz_30 rfl rfl (Nat.le_of_ble_eq_true rfl) rfl ?_)
    refine .nil ?_
    refine ⟨rfl, ?_⟩
    refine .block ?_
    refine .seq ?_
    refine .region ?_
    refine .y (.move rfl) trivial rfl rfl ?_
    refine .y (.indexAddrA rfl rfl ar_121 sz_3 (by omega)) trivial rfl rfl ?_
    refine .cons trivial (.storeA (xs := mostTo C rods p k1) (k := k1) 1 rfl rfl rfl sz_3 (by simp) (by first | omega | (simp; omega) | exact Nat.le_trans (membI_len _) (by decide) | (simp [*]; done) | (simp [*]; omega)) rfl ?_)
    refine .nil ?_
    refine .seq ?_
    refine .region ?_
    refine .y (.fieldAddr rfl fl_28_2) trivial rfl rfl ?_
    refine .y (.load rfl (.own 4 rfl) ag_26 sz_26 rfl) trivial rfl rfl ?_
    refine .y (.len rfl sl_26) trivial rfl rfl ?_
    refine .y (.move rfl) trivial rfl rfl ?_
    refine .nil ?_
    refine .block ?_
    refine T.loop (ι := { zz : Nat × Int // zz.1 ≤ rods.length ∧ zz.2 = mostIn C rods p k1 zz.1 }) (fun zz => ([(20, .int .i64 (zz.1.1 : Int)), (3, .pointer (some ⟨B2, 0, none⟩)), (5, .pointer (some ⟨B4, 0, none⟩)), (6, .int .i64 (k1 : Int)), (7, .pointer (some ⟨B6, 0, none⟩)), (18, .slice ra rods.length rc), (19, .int .i64 (rods.length : Int))], [As.one B6 (.cells #[.int .i64 ((cellAt C k1).col), .int .i64 ((cellAt C k1).row)] 30 (0, 0)), As.one B4 (.cells (((mostTo C rods p k1).set k1 zz.1.2).map argI).toArray 121 (0, 0)), As.one B3 (.cells ((List.replicate 25 (0 : Int)).map argI).toArray 121 (0, 0)), As.one B2 (.cells #[.func (.func f) #[] q.toArray] 131 (0, 0)), As.one B1 (.cells #[.int .i64 (C : Int), .int .i64 (Rw : Int), .slice ra rods.length rc] 28 (0, 0))])) (fun zz => rods.length - zz.1.1) ⟨(0, 9), ⟨by omega, rfl⟩⟩ (.one rfl (.one rfl (.one rfl (.one rfl (.one rfl (.one rfl (.one rfl (.nil)))))))) (.refl _) ?_
    rintro ⟨⟨j, m⟩, hP2⟩
    dsimp only at hP2
    show T _ [(20, .int .i64 (j : Int)), (3, .pointer (some ⟨B2, 0, none⟩)), (5, .pointer (some ⟨B4, 0, none⟩)), (6, .int .i64 (k1 : Int)), (7, .pointer (some ⟨B6, 0, none⟩)), (18, .slice ra rods.length rc), (19, .int .i64 (rods.length : Int))] [As.one B6 (.cells #[.int .i64 ((cellAt C k1).col), .int .i64 ((cellAt C k1).row)] 30 (0, 0)), As.one B4 (.cells (((mostTo C rods p k1).set k1 m).map argI).toArray 121 (0, 0)), As.one B3 (.cells ((List.replicate 25 (0 : Int)).map argI).toArray 121 (0, 0)), As.one B2 (.cells #[.func (.func f) #[] q.toArray] 131 (0, 0)), As.one B1 (.cells #[.int .i64 (C : Int), .int .i64 (Rw : Int), .slice ra rods.length rc] 28 (0, 0))] _ _
    refine .seq ?_
    refine .region ?_
    refine .y (.lss rfl rfl) trivial rfl rfl ?_
    refine .nil ?_
    refine .seq ?_
    refine .ite rfl (fun h1 => ?_) (fun h1 => ?_)
    · refine .skip ?_
      refine .seq ?_
      refine .block ?_
      refine .seq ?_
      refine .region ?_
      refine .y (.move rfl) trivial rfl rfl ?_
      have hbhx1 : j < rods.length := by omega
      obtain ⟨x1, hx1⟩ : ∃ x1, rods[j]? = some x1 := ⟨_, List.getElem?_eq_getElem hbhx1⟩
      refine .y (.indexE (E := eRod) rfl rfl (.g hr) rfl sl_26 sz_32 (by omega)) trivial rfl rfl ?_
      refine .y (.loadE (E := eRod) rfl (.g hr) ag_32 sz_32 (by decide) (eRod.rd0 hx1 (by decide) (by decide) rfl)) trivial rfl rfl ?_
      refine .n (.alloc zr_32) trivial rfl rfl fun B7 => ?_
      refine .y (.assign rfl) trivial rfl rfl ?_
      refine .cons trivial (.store 0 rfl rfl rfl sz_32 rfl rfl (Nat.le_of_ble_eq_true rfl) rfl ?_)
      refine .nil ?_
      refine .seq ?_
      refine .region ?_
      refine .y (.load rfl (.own 1 rfl) ag_30 sz_30 rfl) trivial rfl rfl ?_
      refine .y (.fieldAddr rfl fl_32_0) trivial rfl rfl ?_
      refine .y (.load rfl (.own 0 rfl) ag_30 sz_30 rfl) trivial rfl rfl ?_
      refine .c (.call rfl rfl fn_53) trivial rfl rfl (fun own ho hd => from_ct _ (by first | assumption | exact (show RodOk _ from (by assumption)).1 | exact (getRod hv (by assumption)).1 | exact cellAt_Sm hc.2.1 hc.2.2.2 (by assumption)) (by first | assumption | exact (show RodOk _ from (by assumption)).1 | exact (getRod hv (by assumption)).1 | exact cellAt_Sm hc.2.1 hc.2.2.2 (by assumption))) ?_
      rintro _ _ ⟨rfl, rfl⟩
      refine .y (.assign rfl) trivial rfl rfl ?_
      refine .nil ?_
      refine .seq ?_
      refine .region ?_
      refine .y (.fieldAddr rfl fl_131_0) trivial rfl rfl ?_
      refine .y (.load rfl (.own 4 rfl) ag_129 sz_129 rfl) trivial rfl rfl ?_
      refine .y (.move rfl) trivial rfl rfl ?_
      refine .c (.call rfl rfl hk) trivial rfl rfl (fun own ho hd => hF _ (fun B x h => Hp.up h) _ ⟨by omega, by omega⟩) ?_
      rintro _ _ ⟨rfl, rfl⟩
      refine .y (.move rfl) trivial rfl rfl ?_
      refine .split 33 rfl (fun hb1 => ?_) (fun hb1 => ?_)
      · refine .y (.move rfl) ⟨_, rfl, rfl⟩ rfl rfl ?_
        refine .y (.fieldAddr rfl fl_32_1) ⟨_, rfl, rfl⟩ rfl rfl ?_
        refine .y (.load rfl (.own 0 rfl) ag_3 sz_3 rfl) ⟨_, rfl, rfl⟩ rfl rfl ?_
        refine .y (.leq rfl rfl) ⟨_, rfl, rfl⟩ rfl rfl ?_
        refine .y (.pick_t rfl rfl) trivial rfl rfl ?_
        refine .nil ?_
        refine .ite rfl (fun h2 => ?_) (fun h2 => ?_)
        · refine T.dr (N := 51) [] [0, 0, 2, 6, 0, 16, 0, 112, 254, 511, 1023] 9 (by kernel_rfl) flw rfl (Nat.le_of_ble_eq_true rfl) ?_
          refine .y (.move rfl) trivial ?_
          refine .y (.move rfl) trivial ?_
          refine .y (.indexAddrA rfl rfl ar_121 sz_3 (by omega)) trivial ?_
          refine .y (.loadA (xs := (mostTo C rods p k1).set k1 m) (i := k1) rfl (.own 2 rfl) ag_3 sz_3 (by simp) (getSet (by first | omega | (simp; omega) | exact Nat.le_trans (membI_len _) (by decide) | (simp [*]; done) | (simp [*]; omega)))) trivial ?_
          refine .y (.fieldAddr rfl fl_32_2) trivial ?_
          refine .y (.load rfl (.own 0 rfl) ag_3 sz_3 rfl) trivial ?_
          refine .y (.move rfl) trivial ?_
          refine .y (.add rfl rfl (by have := getRod hv hx1; have := dist_bd (cellAt_Sm hc.2.1 hc.2.2.2 hk1) this.1; unfold RodOk at *; omega)) trivial ?_
          refine .y (.mini rfl rfl) trivial ?_
          refine .nil ?_
          refine .y (.indexAddrA rfl rfl ar_121 sz_3 (by omega)) trivial rfl rfl ?_
          refine .cons trivial (.storeAS (ys := mostTo C rods p k1) (k := k1) 2 rfl rfl rfl sz_3 (by simp) (by first | omega | (simp; omega) | exact Nat.le_trans (membI_len _) (by decide) | (simp [*]; done) | (simp [*]; omega)) rfl ?_)
          refine .nil ?_
          refine .region ?_
          refine .y (.add rfl rfl (by omega)) trivial rfl rfl ?_
          refine .y (.move rfl) trivial rfl rfl ?_
          refine .nil ?_
          refine ⟨⟨(j + 1, min m (x1.shows + (dist (cellAt C k1) x1.tip))), ?_⟩, ?_, (.one rfl (.one rfl (.one rfl (.one rfl (.one rfl (.one rfl (.one rfl (.nil)))))))), (.pick 1 rfl (.pick 1 rfl (.pick 1 rfl (.pick 1 rfl (.pick 1 rfl (.nil _))))))⟩
          · exact ⟨by omega, by rw [most_in hx1 (by simp [hb1, h2]), ← hP2.2]⟩
          · show rods.length - (j + 1) < rods.length - j; omega
        · refine .skip ?_
          refine .region ?_
          refine .y (.add rfl rfl (by omega)) trivial rfl rfl ?_
          refine .y (.move rfl) trivial rfl rfl ?_
          refine .nil ?_
          refine ⟨⟨(j + 1, m), ?_⟩, ?_, (.one rfl (.one rfl (.one rfl (.one rfl (.one rfl (.one rfl (.one rfl (.nil)))))))), (.pick 1 rfl (.pick 1 rfl (.pick 1 rfl (.pick 1 rfl (.pick 1 rfl (.nil _))))))⟩
          · exact ⟨by omega, by rw [most_out hx1 (by simp [hb1] <;> omega), ← hP2.2]⟩
          · show rods.length - (j + 1) < rods.length - j; omega
      · refine .skip ⟨_, rfl, rfl⟩ rfl ?_
        refine .skip ⟨_, rfl, rfl⟩ rfl ?_
        refine .skip ⟨_, rfl, rfl⟩ rfl ?_
        refine .skip ⟨_, rfl, rfl⟩ rfl ?_
        refine .y (.pick_f rfl rfl) trivial rfl rfl ?_
        refine .nil ?_
        refine .cond_f rfl ?_
        refine .skip ?_
        refine .region ?_
        refine .y (.add rfl rfl (by omega)) trivial rfl rfl ?_
        refine .y (.move rfl) trivial rfl rfl ?_
        refine .nil ?_
        refine ⟨⟨(j + 1, m), ?_⟩, ?_, (.one rfl (.one rfl (.one rfl (.one rfl (.one rfl (.one rfl (.one rfl (.nil)))))))), (.pick 1 rfl (.pick 1 rfl (.pick 1 rfl (.pick 1 rfl (.pick 1 rfl (.nil _))))))⟩
        · exact ⟨by omega, by rw [most_out hx1 (by simp [hb1] <;> omega), ← hP2.2]⟩
        · show rods.length - (j + 1) < rods.length - j; omega
    · refine .exit ?_
      refine inB_hit ?_
      show RSub [As.one B4 (.cells ((mostTo C rods p (k1 + 1)).map argI).toArray 121 (0, 0)), As.one B3 (.cells ((List.replicate 25 (0 : Int)).map argI).toArray 121 (0, 0)), As.one B2 (.cells #[.func (.func f) #[] q.toArray] 131 (0, 0)), As.one B1 (.cells #[.int .i64 (C : Int), .int .i64 (Rw : Int), .slice ra rods.length rc] 28 (0, 0))] _
      obtain rfl : rods.length = j := by omega
      rw [← mostTo_step (by omega), ← hP2.2]
      exact (.pick 1 rfl (.pick 1 rfl (.pick 1 rfl (.pick 1 rfl (.nil _)))))
  · skip
    refine .seq ?_
    refine .region ?_
    refine .y (.load rfl (.own 0 rfl) ag_121 sz_121 (rdArr (by first | omega | (simp; omega) | exact Nat.le_trans (membI_len _) (by decide) | (simp [*]; done) | (simp [*]; omega)))) trivial rfl rfl ?_
    refine .cons trivial (.storeAll (xs := List.replicate 25 (0 : Int)) (ys := mostTo C rods p (C * Rw)) 1 rfl rfl rfl sz_121 (by first | omega | (simp; omega) | exact Nat.le_trans (membI_len _) (by decide) | (simp [*]; done) | (simp [*]; omega)) (by first | omega | (simp; omega) | exact Nat.le_trans (membI_len _) (by decide) | (simp [*]; done) | (simp [*]; omega)) rfl ?_)
    refine .nil ?_
    refine .ret ?_
    refine ⟨.inr rfl, _, _, (.nil _), fun own' ho => .one2 rfl (.c rfl (own_get 1 rfl ho) ag_121 sz_121 (rdArr (by first | omega | (simp; omega) | exact Nat.le_trans (membI_len _) (by decide) | (simp [*]; done) | (simp [*]; omega)))), ?_⟩
    first | exact ⟨rfl, rfl⟩ | (refine ⟨?_, rfl⟩; simp [*])
  · exact fun _ _ h => h.elim
theorem fits_ct (g : Hp) {C Rw : Nat} {ra : Option Addr} {rc : Nat} {rods : List Rod} {h : List Int} {f : FuncId} {q : List Value} {p : Int → Bool} (hk : fnOk Tryz.prog f = true) (hF : PureB Tryz.prog g f q argI (fun i => 0 ≤ i ∧ i < rods.length) p) (hc : 1 ≤ C ∧ C ≤ 5 ∧ 1 ≤ Rw ∧ Rw ≤ 5) (hr : SlR eRod g ra rods) (hl : rods.length ≤ 8) (hv : ∀ r ∈ rods, RodOk r) (hh : h.length = 25) (hb : ∀ x ∈ h, -1000 ≤ x ∧ x ≤ 1000) : Ct Tryz.prog 74 [.agg #[.int .i64 (C : Int), .int .i64 (Rw : Int), .slice ra rods.length rc], .agg (h.map argI).toArray, .agg #[.func (.func f) #[] q.toArray]].toArray g [] (fun v rs => v = .bool (fitsL C Rw rods h p) ∧ rs = []) := by
  refine Ct.of_body (N := 34) (l := [.agg #[.int .i64 (C : Int), .int .i64 (Rw : Int), .slice ra rods.length rc], .agg (h.map argI).toArray, .agg #[.func (.func f) #[] q.toArray]]) Tryz.func74 rfl rfl (Nat.le_of_ble_eq_true rfl) fun n0 => ?_
  refine .seq ?_
  refine .region ?_
  refine .n (.box rfl) trivial rfl rfl fun B1 => ?_
  refine .n (.box rfl) trivial rfl rfl fun B2 => ?_
  refine .n (.box rfl) trivial rfl rfl fun B3 => ?_
  refine .y (.assign rfl) trivial rfl rfl ?_
  refine .nil ?_
  refine .seq ?_
  refine .seq ?_
  refine .region ?_
  refine .y (.fieldAddr rfl fl_28_2) trivial rfl rfl ?_
  refine .y (.load rfl (.own 2 rfl) ag_26 sz_26 rfl) trivial rfl rfl ?_
  refine .y (.len rfl sl_26) trivial rfl rfl ?_
  refine .y (.move rfl) trivial rfl rfl ?_
  refine .nil ?_
  refine .block ?_
  refine T.loop (ι := { zz : Nat // zz ≤ rods.length ∧ ∀ i, i < zz → fitAt C Rw rods h p i = true }) (fun zz => ([(12, .int .i64 (zz.1 : Int)), (3, .pointer (some ⟨B1, 0, none⟩)), (4, .pointer (some ⟨B2, 0, none⟩)), (5, .pointer (some ⟨B3, 0, none⟩)), (10, .slice ra rods.length rc), (11, .int .i64 (rods.length : Int))], [As.one B3 (.cells #[.func (.func f) #[] q.toArray] 131 (0, 0)), As.one B2 (.cells (h.map argI).toArray 121 (0, 0)), As.one B1 (.cells #[.int .i64 (C : Int), .int .i64 (Rw : Int), .slice ra rods.length rc] 28 (0, 0))])) (fun zz => rods.length - zz.1) ⟨(0), by simp⟩ (.one rfl (.one rfl (.one rfl (.one rfl (.one rfl (.one rfl (.nil))))))) (.refl _) ?_
  rintro ⟨j, hP0⟩
  show T _ [(12, .int .i64 (j : Int)), (3, .pointer (some ⟨B1, 0, none⟩)), (4, .pointer (some ⟨B2, 0, none⟩)), (5, .pointer (some ⟨B3, 0, none⟩)), (10, .slice ra rods.length rc), (11, .int .i64 (rods.length : Int))] [As.one B3 (.cells #[.func (.func f) #[] q.toArray] 131 (0, 0)), As.one B2 (.cells (h.map argI).toArray 121 (0, 0)), As.one B1 (.cells #[.int .i64 (C : Int), .int .i64 (Rw : Int), .slice ra rods.length rc] 28 (0, 0))] _ _
  refine .seq ?_
  refine .region ?_
  refine .y (.lss rfl rfl) trivial rfl rfl ?_
  refine .nil ?_
  refine .seq ?_
  refine .ite rfl (fun h1 => ?_) (fun h1 => ?_)
  · refine .skip ?_
    refine .seq ?_
    refine .block ?_
    refine .seq ?_
    refine .region ?_
    refine .y (.move rfl) trivial rfl rfl ?_
    have hbhx1 : j < rods.length := by omega
    obtain ⟨x1, hx1⟩ : ∃ x1, rods[j]? = some x1 := ⟨_, List.getElem?_eq_getElem hbhx1⟩
    refine .y (.indexE (E := eRod) rfl rfl (.g hr) rfl sl_26 sz_32 (by omega)) trivial rfl rfl ?_
    refine .y (.loadE (E := eRod) rfl (.g hr) ag_32 sz_32 (by decide) (eRod.rd0 hx1 (by decide) (by decide) rfl)) trivial rfl rfl ?_
    refine .n (.alloc zr_32) trivial rfl rfl fun B4 => ?_
    refine .y (.assign rfl) trivial rfl rfl ?_
    refine .cons trivial (.store 0 rfl rfl rfl sz_32 rfl rfl (Nat.le_of_ble_eq_true rfl) rfl ?_)
    refine .nil ?_
    refine .seq ?_
    refine T.dr (N := 34) [(3, (fun v rs => v = .bool (p (j : Int)) ∧ rs = [])), (11, (fun v rs => v = .int .i64 (feelsTo C h x1.tip x1.range (C * Rw)) ∧ rs = []))] [0, 1, 0, 7, 15, 31, 31, 31, 159, 31, 543, 2047, 31, 4127, 16383, 32767] 14 (by kernel_rfl) flw rfl (Nat.le_of_ble_eq_true rfl) ?_
    refine .y (.fieldAddr rfl fl_131_0) trivial ?_
    refine .y (.load rfl (.own 1 rfl) ag_129 sz_129 rfl) trivial ?_
    refine .y (.move rfl) trivial ?_
    refine .c (.call rfl rfl hk) trivial (fun own ho hd => hF _ (fun B x h => Hp.up h) _ ⟨by omega, by omega⟩) ?_
    rintro _ _ ⟨rfl, rfl⟩
    refine .y (.move rfl) trivial ?_
    cases hb1 : (p (j : Int) : Bool)
    · refine .skip ⟨_, rfl, rfl⟩ ?_
      refine .skip ⟨_, rfl, rfl⟩ ?_
      refine .skip ⟨_, rfl, rfl⟩ ?_
      refine .skip ⟨_, rfl, rfl⟩ ?_
      refine .skip ⟨_, rfl, rfl⟩ ?_
      refine .skip ⟨_, rfl, rfl⟩ ?_
      refine .skip ⟨_, rfl, rfl⟩ ?_
      refine .skip ⟨_, rfl, rfl⟩ ?_
      refine .skip ⟨_, rfl, rfl⟩ ?_
      refine .nil ?_
      refine .skip ⟨_, rfl, rfl⟩ rfl ?_
      refine .y (.pick_f rfl rfl) trivial rfl rfl ?_
      refine .nil ?_
      refine .cond_f rfl ?_
      refine .skip ?_
      refine .region ?_
      refine .y (.add rfl rfl (by omega)) trivial rfl rfl ?_
      refine .y (.move rfl) trivial rfl rfl ?_
      refine .nil ?_
      refine ⟨⟨(j + 1), ?_⟩, ?_, (.one rfl (.one rfl (.one rfl (.one rfl (.one rfl (.one rfl (.nil))))))), (.pick 1 rfl (.pick 1 rfl (.pick 1 rfl (.nil _))))⟩
      · exact ⟨by omega, fits_step hP0.2 hx1 (fun e => by first | omega | (rw [hb1] at e; exact absurd e (by decide)))⟩
      · show rods.length - (j + 1) < rods.length - j; omega
    · refine .y (.load rfl (.own 3 rfl) ag_28 sz_28 rfl) ⟨_, rfl, rfl⟩ ?_
      refine .y (.load rfl (.own 2 rfl) ag_121 sz_121 (rdArr (by first | omega | (simp; omega) | exact Nat.le_trans (membI_len _) (by decide) | (simp [*]; done) | (simp [*]; omega)))) ⟨_, rfl, rfl⟩ ?_
      refine .y (.fieldAddr rfl fl_32_0) ⟨_, rfl, rfl⟩ ?_
      refine .y (.load rfl (.own 0 rfl) ag_30 sz_30 rfl) ⟨_, rfl, rfl⟩ ?_
      refine .y (.fieldAddr rfl fl_32_1) ⟨_, rfl, rfl⟩ ?_
      refine .y (.load rfl (.own 0 rfl) ag_3 sz_3 rfl) ⟨_, rfl, rfl⟩ ?_
      refine .c (.call rfl rfl fn_95) ⟨_, rfl, rfl⟩ (fun own ho hd => feels_ct _ hc hh hb (getRod hv (by assumption)).1 (by have := getRod hv (by assumption); unfold RodOk at this; omega)) ?_
      rintro _ _ ⟨rfl, rfl⟩
      refine .y (.fieldAddr rfl fl_32_2) ⟨_, rfl, rfl⟩ ?_
      refine .y (.load rfl (.own 0 rfl) ag_3 sz_3 rfl) ⟨_, rfl, rfl⟩ ?_
      refine .nil ?_
      refine .y (.neq rfl rfl) ⟨_, rfl, rfl⟩ rfl rfl ?_
      refine .y (.pick_t rfl rfl) trivial rfl rfl ?_
      refine .nil ?_
      refine .ite rfl (fun h2 => ?_) (fun h2 => ?_)
      · refine .seq ?_
        refine .region ?_
        refine .y (.assign rfl) trivial rfl rfl ?_
        refine .nil ?_
        refine .ret ?_
        refine ⟨.inr rfl, _, _, (.nil _), fun own' ho => .one rfl rfl, ?_⟩
        exact ⟨congrArg _ (fits_no hx1 hb1 h2).symm, rfl⟩
      · refine .skip ?_
        refine .region ?_
        refine .y (.add rfl rfl (by omega)) trivial rfl rfl ?_
        refine .y (.move rfl) trivial rfl rfl ?_
        refine .nil ?_
        refine ⟨⟨(j + 1), ?_⟩, ?_, (.one rfl (.one rfl (.one rfl (.one rfl (.one rfl (.one rfl (.nil))))))), (.pick 1 rfl (.pick 1 rfl (.pick 1 rfl (.nil _))))⟩
        · exact ⟨by omega, fits_step hP0.2 hx1 (fun e => by first | omega | (rw [hb1] at e; exact absurd e (by decide)))⟩
        · show rods.length - (j + 1) < rods.length - j; omega
  · refine .exit ?_
    refine inB_hit ?_
    refine .seq ?_
    refine .region ?_
    refine .y (.assign rfl) trivial rfl rfl ?_
    refine .nil ?_
    refine .ret ?_
    refine ⟨.inr rfl, _, _, (.nil _), fun own' ho => .one rfl rfl, ?_⟩
    exact ⟨congrArg _ (fits_yes hP0.2 (by omega)).symm, rfl⟩
theorem agree_ct (g : Hp) {C Rw : Nat} {ra : Option Addr} {rc : Nat} {rods : List Rod} {f : FuncId} {q : List Value} {p : Int → Bool} (hk : fnOk Tryz.prog f = true) (hF : PureB Tryz.prog g f q argI (fun i => 0 ≤ i ∧ i < rods.length) p) (hc : 1 ≤ C ∧ C ≤ 5 ∧ 1 ≤ Rw ∧ Rw ≤ 5) (hr : SlR eRod g ra rods) (hl : rods.length ≤ 8) (hv : ∀ r ∈ rods, RodOk r) : Ct Tryz.prog 101 [.agg #[.int .i64 (C : Int), .int .i64 (Rw : Int), .slice ra rods.length rc], .agg #[.func (.func f) #[] q.toArray]].toArray g [] (fun v rs => v = .bool (fitsL C Rw rods (mostTo C rods p (C * Rw)) p) ∧ rs = []) := by
  refine Ct.of_body (N := 11) (l := [.agg #[.int .i64 (C : Int), .int .i64 (Rw : Int), .slice ra rods.length rc], .agg #[.func (.func f) #[] q.toArray]]) Tryz.func101 rfl rfl (Nat.le_of_ble_eq_true rfl) fun n0 => ?_
  refine .seq ?_
  refine .region ?_
  refine .n (.box rfl) trivial rfl rfl fun B1 => ?_
  refine .n (.box rfl) trivial rfl rfl fun B2 => ?_
  refine .y (.assign rfl) trivial rfl rfl ?_
  refine .nil ?_
  refine .seq ?_
  refine T.dr (N := 11) [(3, (fun v rs => v = .agg ((mostTo C rods p (C * Rw)).map argI).toArray ∧ rs = []))] [0, 0, 0, 6, 0, 31, 63] 5 (by kernel_rfl) flw rfl (Nat.le_of_ble_eq_true rfl) ?_
  refine .y (.load rfl (.own 1 rfl) ag_28 sz_28 rfl) trivial ?_
  refine .y (.load rfl (.own 1 rfl) ag_28 sz_28 rfl) trivial ?_
  refine .y (.load rfl (.own 0 rfl) ag_131 sz_131 rfl) trivial ?_
  refine .c (.call rfl rfl fn_129) trivial (fun own ho hd => most_ct _ hk hF.up hc (rods := rods) (SlR.up hr) hl hv) ?_
  rintro _ _ ⟨rfl, rfl⟩
  refine .y (.load rfl (.own 0 rfl) ag_131 sz_131 rfl) trivial ?_
  refine .nil ?_
  refine .c (.call rfl rfl fn_74) trivial rfl rfl (fun own ho hd => fits_ct _ hk hF.up hc (rods := rods) (SlR.up hr) hl hv (mostTo_len ..) (fun x hx => by have := mostTo_bd hc.2.1 hc.2.2.2 (Nat.le_refl _) hv x hx; omega)) ?_
  rintro _ _ ⟨rfl, rfl⟩
  refine .y (.assign rfl) trivial rfl rfl ?_
  refine .nil ?_
  refine .ret ?_
  refine ⟨.inr rfl, _, _, (.nil _), fun own' ho => .one rfl rfl, ?_⟩
  first | exact ⟨rfl, rfl⟩ | (refine ⟨?_, rfl⟩; simp [*])
end Go.Proofs.YtfcjmoolnadfbaaGreat
