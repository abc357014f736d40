/- Contracts of functions of package rod, printed by vgen: part RF4. -/
import Derived.Test.YtfcjmoolnadfbaaGreatProg
import Derived.Test.YtfcjmoolnadfbaaGreatRSpec
import Derived.Test.YtfcjmoolnadfbaaGreatRF1
import Derived.Test.YtfcjmoolnadfbaaGreatRF2
import Derived.Test.YtfcjmoolnadfbaaGreatRF3
import Derived.KernelRfl
set_option linter.unusedVariables false
set_option linter.unusedSimpArgs false
namespace Go.Proofs.YtfcjmoolnadfbaaGreat
open Go.V
theorem fn_69 : fnOk Tryz.prog 69 = true := by kernel_rfl
theorem fn_76 : fnOk Tryz.prog 76 = true := by kernel_rfl
theorem Most_ct (g : Hp) {C Rw : Nat} {ra : Option Addr} {rc : Nat} {rods : List Rod} (hc : 1 ≤ C ∧ C ≤ 5 ∧ 1 ≤ Rw ∧ Rw ≤ 5) (hr : SlR eRod g ra rods) (hl : rods.length ≤ 8) (hv : ∀ r ∈ rods, RodOk r) (hck : chkBin (C : Int) (Rw : Int) rods = 0) (hfit : fitsL C Rw rods (mostTo C rods (fun _ => true) (C * Rw)) (fun _ => true) = true) : Ct Tryz.prog 20 [.agg #[.int .i64 (C : Int), .int .i64 (Rw : Int), .slice ra rods.length rc]].toArray g [] (fun v rs => ∃ (a : Option Addr) (c : Nat), v = .tuple #[.slice a (((mostTo C rods (fun _ => true) (C * Rw)).take (C * Rw)).length) c, .int .i64 0] ∧ rs = [SlO eInt 3 a c ((mostTo C rods (fun _ => true) (C * Rw)).take (C * Rw))] ∧ SlOk a c) := by
  refine Ct.of_body (N := 20) (l := [.agg #[.int .i64 (C : Int), .int .i64 (Rw : Int), .slice ra rods.length rc]]) Tryz.func20 rfl rfl (Nat.le_of_ble_eq_true rfl) fun n0 => ?_
  refine .seq ?_
  refine .region ?_
  refine .n (.box rfl) trivial rfl rfl fun B1 => ?_
  refine .y (.assign rfl) trivial rfl rfl ?_
  refine .y (.assign rfl) trivial rfl rfl ?_
  refine .nil ?_
  refine .seq ?_
  refine .region ?_
  refine .y (.load rfl (.own 0 rfl) ag_28 sz_28 rfl) trivial rfl rfl ?_
  refine .c (.call rfl rfl fn_69) trivial rfl rfl (fun own ho hd => told_ct _ hc (rods := rods) (SlR.up hr) hl hv hck hfit) ?_
  rintro _ _ ⟨F1, M1, ms1, rfl, rfl, hf1⟩
  refine .y (.move rfl) trivial rfl rfl ?_
  refine .y (.extract rfl rfl) trivial rfl rfl ?_
  refine .y (.extract rfl rfl) trivial rfl rfl ?_
  refine .y (.assign rfl) trivial rfl rfl ?_
  refine .y (.assign rfl) trivial rfl rfl ?_
  refine .nil ?_
  refine .seq ?_
  refine .seq ?_
  refine .region ?_
  refine .y (.move rfl) trivial rfl rfl ?_
  refine .y (.to (.neq rfl rfl) (v' := .bool false) rfl) trivial rfl rfl ?_
  refine .nil ?_
  refine .cond_f rfl ?_
  refine .skip ?_
  refine .seq ?_
  refine T.dr (N := 20) [] [0, 0, 2, 6, 14, 31, 63, 127] 5 (by kernel_rfl) flw rfl (Nat.le_of_ble_eq_true rfl) ?_
  refine .y (.load rfl (.own 2 rfl) ag_28 sz_28 rfl) trivial ?_
  refine .y (.move rfl) trivial ?_
  refine .y (.nilCheck rfl) trivial ?_
  refine .y (.fieldAddr rfl fl_124_1) trivial ?_
  refine .y (.load rfl (.own 0 rfl) ag_121 sz_121 (rdF_top (mostTo_len ..))) trivial ?_
  refine .nil ?_
  refine .c (.call rfl rfl fn_76) trivial rfl rfl (fun own ho hd => list_ct _ hc (mostTo_len ..)) ?_
  rintro _ _ ⟨a'1, c'1, rfl, rfl, hf2⟩
  refine .y (.assign rfl) trivial rfl rfl ?_
  refine .y (.assign rfl) trivial rfl rfl ?_
  refine .nil ?_
  refine .ret ?_
  refine ⟨.inr rfl, _, _, (.pick 0 rfl (.nil _)), fun own' ho => .two rfl rfl rfl, ?_⟩
  exact ⟨_, _, rfl, rfl, by assumption⟩
theorem alone_ct (g : Hp) {C Rw : Nat} {ra : Option Addr} {rn rc : Nat} {top : List Int} {F M : Nat} {ms : List (Cell × Nat)} {rods : List Rod} {i : Nat} (hF : g F = some (.cells (fieldC C Rw ra rn rc top M).toArray 124 (0, 0))) (hM : MapR vN g M ms) (ht : top.length = 25) (hx : ExpOk C Rw rods top (C * Rw) 0 ms) (hi : i < C * Rw) : Ct Tryz.prog 82 [.pointer (some ⟨F, 0, none⟩), .agg #[.int .i64 ((cellAt C i).col), .int .i64 ((cellAt C i).row)]].toArray g [] (fun v rs => v = .bool (aloneB C Rw rods top i) ∧ rs = []) := by
  have hM2 := hM
  obtain ⟨es, clk, hM0, hok⟩ := hM2
  have hms := hx.lt
  refine Ct.of_body (N := 33) (l := [.pointer (some ⟨F, 0, none⟩), .agg #[.int .i64 ((cellAt C i).col), .int .i64 ((cellAt C i).row)]]) Tryz.func82 rfl rfl (Nat.le_of_ble_eq_true rfl) fun n0 => ?_
  refine .seq ?_
  refine .region ?_
  refine .n (.box rfl) trivial rfl rfl fun B1 => ?_
  refine .y (.assign rfl) trivial rfl rfl ?_
  refine .nil ?_
  refine .seq ?_
  refine .region ?_
  refine .y (.assign rfl) trivial rfl rfl ?_
  refine .nil ?_
  refine .seq ?_
  refine .seq ?_
  refine .region ?_
  refine .y (.move rfl) trivial rfl rfl ?_
  refine .y (.nilCheck rfl) trivial rfl rfl ?_
  refine .y (.fieldAddr rfl fl_124_2) trivial rfl rfl ?_
  refine .y (.load rfl (.g hF) ag_122 sz_122 (rdF_map ht _)) trivial rfl rfl ?_
  refine .n (.rangeM rfl (.g hM0) mp_122) trivial rfl rfl fun It1 => ?_
  refine .nil ?_
  refine .block ?_
  refine T.loop (ι := { zz : Array Nat × Nat // AlS es ms (cellAt C i) zz.1 zz.2 }) (fun zz => ([(5, .int .i64 (zz.1.2 : Int)), (0, .pointer (some ⟨F, 0, none⟩)), (3, .pointer (some ⟨B1, 0, none⟩)), (12, .pointer (some ⟨It1, 0, none⟩))], [As.one It1 (.mapIter (some M) clk zz.1.1 clk), As.one B1 (.cells #[.int .i64 ((cellAt C i).col), .int .i64 ((cellAt C i).row)] 30 (0, 0))])) (fun zz => (leftOf es zz.1.1).size) ⟨(#[], 0), .zero⟩ (.one rfl (.one rfl (.one rfl (.one rfl (.nil))))) (.refl _) ?_
  rintro ⟨⟨seen, o⟩, hP0⟩
  dsimp only at hP0
  show T _ [(5, .int .i64 (o : Int)), (0, .pointer (some ⟨F, 0, none⟩)), (3, .pointer (some ⟨B1, 0, none⟩)), (12, .pointer (some ⟨It1, 0, none⟩))] [As.one It1 (.mapIter (some M) clk seen clk), As.one B1 (.cells #[.int .i64 ((cellAt C i).col), .int .i64 ((cellAt C i).row)] 30 (0, 0))] _ _
  refine .seq ?_
  refine .region ?_
  refine .cons trivial (.next 0 rfl rfl (.g hM0) hok.old rfl (fun h01 => ?_) (fun en1 hen1 => ?_))
  · refine .y (.extract rfl rfl) trivial rfl rfl ?_
    refine .nil ?_
    refine .seq ?_
    refine .cond_f rfl ?_
    refine .exit ?_
    refine inB_hit ?_
    refine .seq ?_
    refine T.dr (N := 33) [] [0, 1, 3, 7, 0, 31, 0, 127, 255, 511] 7 (by kernel_rfl) flw rfl (Nat.le_of_ble_eq_true rfl) ?_
    refine .y (.move rfl) trivial ?_
    refine .y (.nilCheck rfl) trivial ?_
    refine .y (.fieldAddr rfl fl_124_2) trivial ?_
    refine .y (.load rfl (.g hF) ag_122 sz_122 (rdF_map ht _)) trivial ?_
    refine .y (.load rfl (.own 1 rfl) ag_30 sz_30 rfl) trivial ?_
    refine .y (.lookup (ev := vN) (z := (0 : Nat)) (c := (cellAt C i)) rfl rfl (.g hM) mp_122 tw_30 zr_3) trivial ?_
    refine .y (.move rfl) trivial ?_
    refine .nil ?_
    refine .y (.andNotN (a := mlook (0 : Nat) ms (cellAt C i)) (b := o) rfl rfl ⟨by exact Nat.lt_trans (mlook_lt hms) (by decide), by have := hP0.lt; omega⟩) trivial rfl rfl ?_
    refine .y (.neq rfl rfl) trivial rfl rfl ?_
    refine .y (.assign rfl) trivial rfl rfl ?_
    refine .nil ?_
    refine .ret ?_
    refine ⟨.inr rfl, _, _, (.nil _), fun own' ho => .one rfl rfl, ?_⟩
    refine ⟨?_, rfl⟩; rw [hP0.done hok h01, hx.other hok.apart hi, hx.fin hi]; rfl
  · refine .y (.extract rfl rfl) trivial rfl rfl ?_
    refine .nil ?_
    refine .seq ?_
    refine .cond_t rfl ?_
    refine .skip ?_
    refine .block ?_
    refine .seq ?_
    refine .region ?_
    obtain ⟨d1, n1, hd1, hkvhd1⟩ := hok.entry hen1
    refine .y (.to (v' := .tuple #[argC d1, vN n1]) (.entryM (en := en1) rfl (.own 0 rfl) (.g hM0) (mem_left hen1).1 hok.born) hkvhd1) trivial rfl rfl ?_
    refine .y (.extract rfl rfl) trivial rfl rfl ?_
    refine .y (.extract rfl rfl) trivial rfl rfl ?_
    refine .n (.alloc zr_30) trivial rfl rfl fun B2 => ?_
    refine .cons trivial (.store 0 rfl rfl rfl sz_30 rfl rfl (Nat.le_of_ble_eq_true rfl) rfl ?_)
    refine .y (.assign rfl) trivial rfl rfl ?_
    refine .nil ?_
    refine .seq ?_
    refine .region ?_
    refine .y (.load rfl (.own 0 rfl) ag_30 sz_30 rfl) trivial rfl rfl ?_
    refine .y (.load rfl (.own 2 rfl) ag_30 sz_30 rfl) trivial rfl rfl ?_
    refine .y (.neC (a := d1) (b := (cellAt C i)) rfl rfl tw_30) trivial rfl rfl ?_
    refine .nil ?_
    refine .ite rfl (fun h1 => ?_) (fun h1 => ?_)
    · refine .region ?_
      refine .y (.move rfl) trivial rfl rfl ?_
      refine .y (.move rfl) trivial rfl rfl ?_
      refine .y (.orN (a := o) (b := n1) rfl rfl ⟨by have := hP0.lt; omega, by have := hms _ hd1; simp only at this; omega⟩) trivial rfl rfl ?_
      refine .y (.assign rfl) trivial rfl rfl ?_
      refine .nil ?_
      refine ⟨⟨(seen.push en1.born, o ||| n1), ?_⟩, ?_, (.one rfl (.one rfl (.one rfl (.one rfl (.nil))))), (.pick 1 rfl (.pick 1 rfl (.nil _)))⟩
      · exact hP0.step hok.born hen1 hkvhd1 _ (Nat.or_lt_two_pow hP0.lt (hms _ hd1)) (fun b => by rw [Nat.testBit_or, Bool.or_eq_true]; simp [h1])
      · exact left_shrinks es seen _ hen1
    · refine .skip ?_
      refine ⟨⟨(seen.push en1.born, o), ?_⟩, ?_, (.one rfl (.one rfl (.one rfl (.one rfl (.nil))))), (.pick 1 rfl (.pick 1 rfl (.nil _)))⟩
      · exact hP0.step hok.born hen1 hkvhd1 _ hP0.lt (fun b => by simp only [ne_eq, Decidable.not_not] at h1; simp [h1])
      · exact left_shrinks es seen _ hen1
end Go.Proofs.YtfcjmoolnadfbaaGreat
