/- Contracts of functions of package rod, printed by vgen: part RF10. -/
import Derived.Test.YtfcjmoolnadfbaaGreatProg
import Derived.Test.YtfcjmoolnadfbaaGreatRSpec
import Derived.Test.YtfcjmoolnadfbaaGreatRF1
import Derived.Test.YtfcjmoolnadfbaaGreatRF2
import Derived.Test.YtfcjmoolnadfbaaGreatRF3
import Derived.Test.YtfcjmoolnadfbaaGreatRF4
import Derived.Test.YtfcjmoolnadfbaaGreatVLate
import Derived.Test.YtfcjmoolnadfbaaGreatSSpec
import Derived.Test.YtfcjmoolnadfbaaGreatSort
import Derived.Test.YtfcjmoolnadfbaaGreatRF5
import Derived.Test.YtfcjmoolnadfbaaGreatRF6
import Derived.Test.YtfcjmoolnadfbaaGreatRF7
import Derived.Test.YtfcjmoolnadfbaaGreatVTbl
import Derived.Test.YtfcjmoolnadfbaaGreatShelfB
import Derived.Test.YtfcjmoolnadfbaaGreatRF8
import Derived.Test.YtfcjmoolnadfbaaGreatSortC
import Derived.Test.YtfcjmoolnadfbaaGreatRF9
import Derived.KernelRfl
set_option linter.unusedVariables false
set_option linter.unusedSimpArgs false
namespace Go.Proofs.YtfcjmoolnadfbaaGreat
open Go.V
theorem fn_17 : fnOk Tryz.prog 17 = true := by kernel_rfl
theorem fn_19 : fnOk Tryz.prog 19 = true := by kernel_rfl
theorem fn_20 : fnOk Tryz.prog 20 = true := by kernel_rfl
theorem fn_35 : fnOk Tryz.prog 35 = true := by kernel_rfl
theorem fn_44 : fnOk Tryz.prog 44 = true := by kernel_rfl
theorem fn_64 : fnOk Tryz.prog 64 = true := by kernel_rfl
theorem fn_65 : fnOk Tryz.prog 65 = true := by kernel_rfl
theorem fn_66 : fnOk Tryz.prog 66 = true := by kernel_rfl
theorem fn_67 : fnOk Tryz.prog 67 = true := by kernel_rfl
theorem fn_68 : fnOk Tryz.prog 68 = true := by kernel_rfl
theorem fn_9 : fnOk Tryz.prog 9 = true := by kernel_rfl
theorem lz_3_12 : ((Array.range (12 * 1)).map ((.int .i64 0 : Value).cells[· % (.int .i64 0 : Value).cells.size]!)) = #[.int .i64 0, .int .i64 0, .int .i64 0, .int .i64 0, .int .i64 0, .int .i64 0, .int .i64 0, .int .i64 0, .int .i64 0, .int .i64 0, .int .i64 0, .int .i64 0] := by kernel_rfl
theorem lz_3_3 : ((Array.range (3 * 1)).map ((.int .i64 0 : Value).cells[· % (.int .i64 0 : Value).cells.size]!)) = #[.int .i64 0, .int .i64 0, .int .i64 0] := by kernel_rfl
theorem lz_3_4 : ((Array.range (4 * 1)).map ((.int .i64 0 : Value).cells[· % (.int .i64 0 : Value).cells.size]!)) = #[.int .i64 0, .int .i64 0, .int .i64 0, .int .i64 0] := by kernel_rfl
theorem tw_78 : twoI Tryz.prog 78 = true := by kernel_rfl
set_option maxHeartbeats 4000000 in
theorem awake_ct (g : Hp)  : Ct Tryz.prog 14 [].toArray g [] (fun v rs => v = .bool true ∧ rs = []) := by
  have hc : 1 ≤ 4 ∧ 4 ≤ 5 ∧ 1 ≤ 3 ∧ 3 ≤ 5 := by decide
  have hl : ([0, 1, 2].map threeAt).length ≤ 8 := by decide
  have hl4 : ([0, 1, 2, 3].map threeAt).length ≤ 8 := by decide
  have hv := three_ok3
  have hv4 := three_ok4
  have hck : chkBin ((4 : Nat) : Int) ((3 : Nat) : Int) ([0, 1, 2].map threeAt) = 0 := by kernel_rfl
  have hck4 : chkBin ((4 : Nat) : Int) ((3 : Nat) : Int) ([0, 1, 2, 3].map threeAt) = 0 := by kernel_rfl
  have hfit : fitsL 4 3 ([0, 1, 2].map threeAt) (mostTo 4 ([0, 1, 2].map threeAt) (fun _ => true) (4 * 3)) (fun _ => true) = true := by kernel_rfl
  have hno : fitsL 4 3 ([0, 1, 2, 3].map threeAt) (mostTo 4 ([0, 1, 2, 3].map threeAt) (fun _ => true) (4 * 3)) (fun _ => true) = false := by kernel_rfl
  have hct : hasC ((4 : Nat) : Int) ((3 : Nat) : Int) ⟨2, 1⟩ = true := by decide
  refine Ct.of_body (N := 132) (l := []) Tryz.func14 rfl rfl (Nat.le_of_ble_eq_true rfl) fun n0 => ?_
  refine .seq ?_
  refine .region ?_
  refine .y (.assign rfl) trivial rfl rfl ?_
  refine .nil ?_
  refine .seq ?_
  refine .region ?_
  refine .n (.lit #[.int .i64 0, .int .i64 0, .int .i64 0] lz_3_3 rfl sl_39 sz_3 zr_3 rfl rfl rfl) trivial rfl rfl fun B1 => ?_
  refine .c (.call rfl rfl fn_64) trivial rfl rfl (fun own ho hd => Three_ct _ (xs := [0, 1, 2]) (SlR.of_one (one_in 0 rfl ho hd) rfl) (by simp) (by simp)) ?_
  rintro _ _ ⟨a'1, c'1, rfl, rfl, hf1⟩
  refine .n (.alloc zr_28) trivial rfl rfl fun B2 => ?_
  refine .cons trivial (.store 0 rfl rfl rfl sz_28 rfl rfl (Nat.le_of_ble_eq_true rfl) rfl ?_)
  refine .nil ?_
  refine .seq ?_
  refine .region ?_
  refine .y (.load rfl (.own 0 rfl) ag_28 sz_28 rfl) trivial rfl rfl ?_
  refine .c (.call rfl rfl fn_20) trivial rfl rfl (fun own ho hd => Most_ct _ hc (rods := ([0, 1, 2]).map threeAt) (SlAt.in_own 1 rfl ho hd) hl hv hck hfit) ?_
  rintro _ _ ⟨a1, c1, rfl, rfl, hf2⟩
  refine .y (.move rfl) trivial rfl rfl ?_
  refine .y (.extract rfl rfl) trivial rfl rfl ?_
  refine .y (.extract rfl rfl) trivial rfl rfl ?_
  refine .y (.assign rfl) trivial rfl rfl ?_
  refine .y (.assign rfl) trivial rfl rfl ?_
  refine .nil ?_
  refine .seq ?_
  refine .region ?_
  refine .y (.load rfl (.own 1 rfl) ag_28 sz_28 rfl) trivial rfl rfl ?_
  refine .c (.call rfl rfl fn_17) trivial rfl rfl (fun own ho hd => Fewest_ct _ hc (rods := ([0, 1, 2]).map threeAt) (SlAt.in_own 2 rfl ho hd) hl hv hck hfit) ?_
  rintro _ _ ⟨a2, c2, ys1, rfl, rfl, hf3, hf4⟩
  refine .y (.move rfl) trivial rfl rfl ?_
  refine .y (.extract rfl rfl) trivial rfl rfl ?_
  refine .y (.extract rfl rfl) trivial rfl rfl ?_
  refine .y (.assign rfl) trivial rfl rfl ?_
  refine .y (.assign rfl) trivial rfl rfl ?_
  refine .nil ?_
  refine .seq ?_
  refine .region ?_
  refine .y (.load rfl (.own 2 rfl) ag_28 sz_28 rfl) trivial rfl rfl ?_
  refine .c (.call rfl rfl fn_35) trivial rfl rfl (fun own ho hd => Warm_ct _ hc (rods := ([0, 1, 2]).map threeAt) (SlAt.in_own 3 rfl ho hd) hl hv hck hfit) ?_
  rintro _ _ ⟨a3, c3, rfl, rfl, hf5⟩
  refine .y (.move rfl) trivial rfl rfl ?_
  refine .y (.extract rfl rfl) trivial rfl rfl ?_
  refine .y (.extract rfl rfl) trivial rfl rfl ?_
  refine .y (.assign rfl) trivial rfl rfl ?_
  refine .y (.assign rfl) trivial rfl rfl ?_
  refine .nil ?_
  refine .seq ?_
  refine .region ?_
  refine .y (.load rfl (.own 3 rfl) ag_28 sz_28 rfl) trivial rfl rfl ?_
  refine .c (.call rfl rfl fn_19) trivial rfl rfl (fun own ho hd => Apart_ct _ hc (rods := ([0, 1, 2]).map threeAt) (SlAt.in_own 4 rfl ho hd) hl hv hck hfit) ?_
  rintro _ _ ⟨a4, c4, rfl, rfl, hf6⟩
  refine .y (.move rfl) trivial rfl rfl ?_
  refine .y (.extract rfl rfl) trivial rfl rfl ?_
  refine .y (.extract rfl rfl) trivial rfl rfl ?_
  refine .y (.assign rfl) trivial rfl rfl ?_
  refine .y (.assign rfl) trivial rfl rfl ?_
  refine .nil ?_
  refine .seq ?_
  refine .region ?_
  refine .y (.load rfl (.own 4 rfl) ag_28 sz_28 rfl) trivial rfl rfl ?_
  refine .y (.build rfl pl_30 zr_30 rfl) trivial rfl rfl ?_
  refine .c (.call rfl rfl fn_65) trivial rfl rfl (fun own ho hd => Leaves_ct _ (tip := ⟨2, 1⟩) (reach := 1) hc (rods := ([0, 1, 2]).map threeAt) (SlAt.in_own 5 rfl ho hd) hl hv hck hfit (by assumption) (by omega)) ?_
  rintro _ _ ⟨rfl, rfl⟩
  refine .y (.move rfl) trivial rfl rfl ?_
  refine .y (.extract rfl rfl) trivial rfl rfl ?_
  refine .y (.extract rfl rfl) trivial rfl rfl ?_
  refine .n (.alloc zr_78) trivial rfl rfl fun B3 => ?_
  refine .cons trivial (.store 0 rfl rfl rfl sz_78 rfl rfl (Nat.le_of_ble_eq_true rfl) rfl ?_)
  refine .y (.assign rfl) trivial rfl rfl ?_
  refine .nil ?_
  refine .seq ?_
  refine .region ?_
  refine .y (.load rfl (.own 5 rfl) ag_28 sz_28 rfl) trivial rfl rfl ?_
  refine .c (.call rfl rfl fn_66) trivial rfl rfl (fun own ho hd => Next_ct _ (reach := 1) hc (rods := ([0, 1, 2]).map threeAt) (SlAt.in_own 6 rfl ho hd) hl hv hck hfit (by omega)) ?_
  rintro _ _ ⟨rfl, rfl⟩
  refine .y (.move rfl) trivial rfl rfl ?_
  refine .y (.extract rfl rfl) trivial rfl rfl ?_
  refine .y (.extract rfl rfl) trivial rfl rfl ?_
  refine .n (.alloc zr_30) trivial rfl rfl fun B4 => ?_
  refine .cons trivial (.store 0 rfl rfl rfl sz_30 rfl rfl (Nat.le_of_ble_eq_true rfl) rfl ?_)
  refine .y (.assign rfl) trivial rfl rfl ?_
  refine .nil ?_
  refine .seq ?_
  refine .region ?_
  refine .n (.lit #[.int .i64 0, .int .i64 0, .int .i64 0, .int .i64 0] lz_3_4 rfl sl_39 sz_3 zr_3 rfl rfl rfl) trivial rfl rfl fun B5 => ?_
  refine .c (.call rfl rfl fn_64) trivial rfl rfl (fun own ho hd => Three_ct _ (xs := [0, 1, 2, 3]) (SlR.of_one (one_in 0 rfl ho hd) rfl) (by simp) (by simp)) ?_
  rintro _ _ ⟨a'2, c'2, rfl, rfl, hf7⟩
  refine .c (.call rfl rfl fn_44) trivial rfl rfl (fun own ho hd => Clash_ct _ hc (rods := ([0, 1, 2, 3]).map threeAt) (SlAt.in_own 0 rfl ho hd) hl4 hv4 hck4 (by assumption)) ?_
  rintro _ _ ⟨a5, c5, rfl, rfl, hf8⟩
  refine .y (.move rfl) trivial rfl rfl ?_
  refine .y (.extract rfl rfl) trivial rfl rfl ?_
  refine .y (.extract rfl rfl) trivial rfl rfl ?_
  refine .y (.assign rfl) trivial rfl rfl ?_
  refine .y (.assign rfl) trivial rfl rfl ?_
  refine .nil ?_
  refine .seq ?_
  refine .region ?_
  refine .c (.call rfl rfl fn_9) trivial rfl rfl (fun own ho hd => Cover_ct _ (C := 4) (Rw := 3) (r := 2) (Tn := 2) hc (by decide) ⟨by decide, by decide⟩ (by kernel_rfl) (fun m h1 h2 => by obtain rfl : m = 1 := (by omega); kernel_rfl) (fun e => absurd (congrArg List.length e) (by decide))) ?_
  rintro _ _ ⟨a6, c6, rfl, rfl, hf9⟩
  refine .y (.move rfl) trivial rfl rfl ?_
  refine .y (.extract rfl rfl) trivial rfl rfl ?_
  refine .y (.extract rfl rfl) trivial rfl rfl ?_
  refine .y (.assign rfl) trivial rfl rfl ?_
  refine .y (.assign rfl) trivial rfl rfl ?_
  refine .nil ?_
  refine .seq ?_
  refine .region ?_
  refine .y (.move rfl) trivial rfl rfl ?_
  refine .y (.to (.eql rfl rfl) (v' := .bool true) rfl) trivial rfl rfl ?_
  refine .y (.move rfl) trivial rfl rfl ?_
  refine .y (.move rfl) ⟨_, rfl, rfl⟩ rfl rfl ?_
  refine .y (.to (.eql rfl rfl) (v' := .bool true) rfl) ⟨_, rfl, rfl⟩ rfl rfl ?_
  refine .y (.pick_t rfl rfl) trivial rfl rfl ?_
  refine .y (.move rfl) trivial rfl rfl ?_
  refine .y (.move rfl) ⟨_, rfl, rfl⟩ rfl rfl ?_
  refine .y (.to (.eql rfl rfl) (v' := .bool true) rfl) ⟨_, rfl, rfl⟩ rfl rfl ?_
  refine .y (.pick_t rfl rfl) trivial rfl rfl ?_
  refine .y (.move rfl) trivial rfl rfl ?_
  refine .y (.move rfl) ⟨_, rfl, rfl⟩ rfl rfl ?_
  refine .y (.to (.eql rfl rfl) (v' := .bool true) rfl) ⟨_, rfl, rfl⟩ rfl rfl ?_
  refine .y (.pick_t rfl rfl) trivial rfl rfl ?_
  refine .y (.move rfl) trivial rfl rfl ?_
  refine .y (.move rfl) ⟨_, rfl, rfl⟩ rfl rfl ?_
  refine .y (.to (.eql rfl rfl) (v' := .bool true) rfl) ⟨_, rfl, rfl⟩ rfl rfl ?_
  refine .y (.pick_t rfl rfl) trivial rfl rfl ?_
  refine .y (.move rfl) trivial rfl rfl ?_
  refine .y (.move rfl) ⟨_, rfl, rfl⟩ rfl rfl ?_
  refine .y (.to (v' := .bool true) (.eql rfl rfl) (by kernel_rfl)) ⟨_, rfl, rfl⟩ rfl rfl ?_
  refine .y (.pick_t rfl rfl) trivial rfl rfl ?_
  refine .y (.move rfl) trivial rfl rfl ?_
  refine .y (.move rfl) ⟨_, rfl, rfl⟩ rfl rfl ?_
  refine .y (.to (.eql rfl rfl) (v' := .bool true) rfl) ⟨_, rfl, rfl⟩ rfl rfl ?_
  refine .y (.pick_t rfl rfl) trivial rfl rfl ?_
  refine .y (.move rfl) trivial rfl rfl ?_
  refine .y (.move rfl) ⟨_, rfl, rfl⟩ rfl rfl ?_
  refine .y (.to (.eql rfl rfl) (v' := .bool true) rfl) ⟨_, rfl, rfl⟩ rfl rfl ?_
  refine .y (.pick_t rfl rfl) trivial rfl rfl ?_
  refine .y (.move rfl) trivial rfl rfl ?_
  refine .y (.move rfl) ⟨_, rfl, rfl⟩ rfl rfl ?_
  refine .n (.lit #[.int .i64 0, .int .i64 0, .int .i64 0, .int .i64 0, .int .i64 0, .int .i64 0, .int .i64 0, .int .i64 0, .int .i64 0, .int .i64 0, .int .i64 0, .int .i64 0] lz_3_12 rfl sl_39 sz_3 zr_3 rfl rfl rfl) ⟨_, rfl, rfl⟩ rfl rfl fun B6 => ?_
  refine .c (.call rfl rfl fn_67) ⟨_, rfl, rfl⟩ rfl rfl (fun own ho hd => equaleInt_ct _ (xs := (mostTo 4 (([0, 1, 2]).map threeAt) (fun _ => true) (4 * 3)).take (4 * 3)) (ys := [5, 4, 1, 0, 4, 3, 4, 1, 4, 4, 5, 9]) (SlAt.in_own 10 rfl ho hd) (SlR.of_one (one_in 0 rfl ho hd) rfl) (by first | (simp; done) | exact Nat.le_of_ble_eq_true (by kernel_rfl)) (by first | (simp; done) | exact Nat.le_of_ble_eq_true (by kernel_rfl))) ?_
  rintro _ _ ⟨rfl, rfl⟩
  rw [show (decide (((mostTo 4 (([0, 1, 2]).map threeAt) (fun _ => true) (4 * 3)).take (4 * 3)) = ([5, 4, 1, 0, 4, 3, 4, 1, 4, 4, 5, 9]))) = true from (by kernel_rfl)]
  refine .y (.pick_t rfl rfl) trivial rfl rfl ?_
  refine .y (.move rfl) trivial rfl rfl ?_
  refine .y (.move rfl) ⟨_, rfl, rfl⟩ rfl rfl ?_
  refine .y (.len rfl sl_22) ⟨_, rfl, rfl⟩ rfl rfl ?_
  refine .y (.to (v' := .bool true) (.eql rfl rfl) (by rw [hf4.length_eq]; kernel_rfl)) ⟨_, rfl, rfl⟩ rfl rfl ?_
  refine .y (.pick_t rfl rfl) trivial rfl rfl ?_
  refine .y (.move rfl) trivial rfl rfl ?_
  refine .y (.move rfl) ⟨_, rfl, rfl⟩ rfl rfl ?_
  refine .y (.build rfl pl_30 zr_30 rfl) ⟨_, rfl, rfl⟩ rfl rfl ?_
  refine .n (.lit #[.int .i64 0, .int .i64 0] lz_30_1 rfl sl_22 sz_30 zr_30 rfl rfl rfl) ⟨_, rfl, rfl⟩ rfl rfl fun B7 => ?_
  refine .c (.call rfl rfl fn_68) ⟨_, rfl, rfl⟩ rfl rfl (fun own ho hd => equaleCell_ct _ (xs := filtC 4 (aloneB 4 3 (([0, 1, 2]).map threeAt) (mostTo 4 (([0, 1, 2]).map threeAt) (fun _ => true) (4 * 3))) (4 * 3)) (ys := ([⟨0, 2⟩] : List Cell)) (SlAt.in_own 9 rfl ho hd) (SlR.of_one (one_in 0 rfl ho hd) rfl) (by first | (simp; done) | exact Nat.le_of_ble_eq_true (by kernel_rfl)) (by first | (simp; done) | exact Nat.le_of_ble_eq_true (by kernel_rfl))) ?_
  rintro _ _ ⟨rfl, rfl⟩
  rw [show (decide ((filtC 4 (aloneB 4 3 (([0, 1, 2]).map threeAt) (mostTo 4 (([0, 1, 2]).map threeAt) (fun _ => true) (4 * 3))) (4 * 3)) = ([⟨0, 2⟩] : List Cell))) = true from (by kernel_rfl)]
  refine .y (.pick_t rfl rfl) trivial rfl rfl ?_
  refine .y (.move rfl) trivial rfl rfl ?_
  refine .y (.move rfl) ⟨_, rfl, rfl⟩ rfl rfl ?_
  refine .n (.lit #[.int .i64 0, .int .i64 0] lz_3_2 rfl sl_39 sz_3 zr_3 rfl rfl rfl) ⟨_, rfl, rfl⟩ rfl rfl fun B8 => ?_
  refine .c (.call rfl rfl fn_67) ⟨_, rfl, rfl⟩ rfl rfl (fun own ho hd => equaleInt_ct _ (xs := apartTo 4 3 (([0, 1, 2]).map threeAt) (mostTo 4 (([0, 1, 2]).map threeAt) (fun _ => true) (4 * 3)) (2 ^ (([0, 1, 2]).map threeAt).length)) (ys := [0, 2]) (SlAt.in_own 9 rfl ho hd) (SlR.of_one (one_in 0 rfl ho hd) rfl) (by first | (simp; done) | exact Nat.le_of_ble_eq_true (by kernel_rfl)) (by first | (simp; done) | exact Nat.le_of_ble_eq_true (by kernel_rfl))) ?_
  rintro _ _ ⟨rfl, rfl⟩
  rw [show (decide ((apartTo 4 3 (([0, 1, 2]).map threeAt) (mostTo 4 (([0, 1, 2]).map threeAt) (fun _ => true) (4 * 3)) (2 ^ (([0, 1, 2]).map threeAt).length)) = ([0, 2]))) = true from (by kernel_rfl)]
  refine .y (.pick_t rfl rfl) trivial rfl rfl ?_
  refine .y (.move rfl) trivial rfl rfl ?_
  refine .y (.load rfl (.own 8 rfl) ag_78 sz_78 rfl) ⟨_, rfl, rfl⟩ rfl rfl ?_
  refine .y (.build rfl pl_78 zr_78 rfl) ⟨_, rfl, rfl⟩ rfl rfl ?_
  refine .y (.to (v' := .bool true) (.eqC (a := ⟨(((leavesLo 4 3 (([0, 1, 2]).map threeAt) (mostTo 4 (([0, 1, 2]).map threeAt) (fun _ => true) (4 * 3)) (⟨2, 1⟩) 1) : Nat) : Int), (((leavesHi 4 3 (([0, 1, 2]).map threeAt) (mostTo 4 (([0, 1, 2]).map threeAt) (fun _ => true) (4 * 3)) (⟨2, 1⟩) 1) : Nat) : Int)⟩) (b := ⟨0, 4⟩) rfl rfl tw_78) (by kernel_rfl)) ⟨_, rfl, rfl⟩ rfl rfl ?_
  refine .y (.pick_t rfl rfl) trivial rfl rfl ?_
  refine .y (.move rfl) trivial rfl rfl ?_
  refine .y (.load rfl (.own 7 rfl) ag_30 sz_30 rfl) ⟨_, rfl, rfl⟩ rfl rfl ?_
  refine .y (.build rfl pl_30 zr_30 rfl) ⟨_, rfl, rfl⟩ rfl rfl ?_
  refine .y (.to (v' := .bool true) (.eqC (a := (nextC 4 3 (([0, 1, 2]).map threeAt) (mostTo 4 (([0, 1, 2]).map threeAt) (fun _ => true) (4 * 3)) 1)) (b := ⟨3, 2⟩) rfl rfl tw_30) (by kernel_rfl)) ⟨_, rfl, rfl⟩ rfl rfl ?_
  refine .y (.pick_t rfl rfl) trivial rfl rfl ?_
  refine .y (.move rfl) trivial rfl rfl ?_
  refine .y (.move rfl) ⟨_, rfl, rfl⟩ rfl rfl ?_
  refine .n (.lit #[.int .i64 0, .int .i64 0, .int .i64 0] lz_3_3 rfl sl_39 sz_3 zr_3 rfl rfl rfl) ⟨_, rfl, rfl⟩ rfl rfl fun B9 => ?_
  refine .c (.call rfl rfl fn_67) ⟨_, rfl, rfl⟩ rfl rfl (fun own ho hd => equaleInt_ct _ (xs := clashTo 4 3 (([0, 1, 2, 3]).map threeAt) 9) (ys := [0, 2, 3]) (SlAt.in_own 5 rfl ho hd) (SlR.of_one (one_in 0 rfl ho hd) rfl) (by first | (simp; done) | exact Nat.le_of_ble_eq_true (by kernel_rfl)) (by first | (simp; done) | exact Nat.le_of_ble_eq_true (by kernel_rfl))) ?_
  rintro _ _ ⟨rfl, rfl⟩
  rw [show (decide ((clashTo 4 3 (([0, 1, 2, 3]).map threeAt) 9) = ([0, 2, 3]))) = true from (by kernel_rfl)]
  refine .y (.pick_t rfl rfl) trivial rfl rfl ?_
  refine .y (.move rfl) trivial rfl rfl ?_
  refine .y (.move rfl) ⟨_, rfl, rfl⟩ rfl rfl ?_
  refine .y (.len rfl sl_22) ⟨_, rfl, rfl⟩ rfl rfl ?_
  refine .y (.to (v' := .bool true) (.eql rfl rfl) (by kernel_rfl)) ⟨_, rfl, rfl⟩ rfl rfl ?_
  refine .y (.pick_t rfl rfl) trivial rfl rfl ?_
  refine .y (.assign rfl) trivial rfl rfl ?_
  refine .nil ?_
  refine .ret ?_
  refine ⟨.inr rfl, _, _, (.nil _), fun own' ho => .one rfl rfl, ?_⟩
  exact ⟨rfl, rfl⟩
end Go.Proofs.YtfcjmoolnadfbaaGreat
