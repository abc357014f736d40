/- Contracts of functions of package rod, printed by vgen: part RF8. -/
import Derived.Test.YtfcjmoolnadfbaaGreatProg
import Derived.Test.YtfcjmoolnadfbaaGreatRSpec
import Derived.Test.YtfcjmoolnadfbaaGreatRF1
import Derived.Test.YtfcjmoolnadfbaaGreatRF2
import Derived.Test.YtfcjmoolnadfbaaGreatRF3
import Derived.Test.YtfcjmoolnadfbaaGreatRF4
import Derived.Test.YtfcjmoolnadfbaaGreatVLate
import Derived.Test.YtfcjmoolnadfbaaGreatSSpec
import Derived.Test.YtfcjmoolnadfbaaGreatSort
import Derived.Test.YtfcjmoolnadfbaaGreatRF5
import Derived.Test.YtfcjmoolnadfbaaGreatRF6
import Derived.Test.YtfcjmoolnadfbaaGreatRF7
import Derived.Test.YtfcjmoolnadfbaaGreatVTbl
import Derived.Test.YtfcjmoolnadfbaaGreatShelfB
import Derived.KernelRfl
set_option linter.unusedVariables false
set_option linter.unusedSimpArgs false
namespace Go.Proofs.YtfcjmoolnadfbaaGreat
open Go.V
theorem fn_125 : fnOk Tryz.prog 125 = true := by kernel_rfl
theorem fn_130 : fnOk Tryz.prog 130 = true := by kernel_rfl
theorem fn_195 : fnOk Tryz.prog 195 = true := by kernel_rfl
theorem ui_180 : Program.underlying Tryz.prog 180 = some (.int .u64) := by kernel_rfl
theorem us_3 : (Program.underlying Tryz.prog 3).isSome = true := by kernel_rfl
theorem insNil_ct (g : Hp)  : Ct Tryz.prog 195 [.slice none 0 0, .int .i64 0, .int .i64 0, .func (.func 72) #[] #[]].toArray g [] (fun v rs => v = .tuple #[] ∧ rs = []) := by
  refine Ct.of_body (N := 53) (l := [.slice none 0 0, .int .i64 0, .int .i64 0, .func (.func 72) #[] #[]]) Tryz.func195 rfl rfl (Nat.le_of_ble_eq_true rfl) fun n0 => ?_
  refine .seq ?_
  refine .region ?_
  refine .y (.move rfl) trivial rfl rfl ?_
  refine .y (.add rfl rfl (by omega)) trivial rfl rfl ?_
  refine .y (.assign rfl) trivial rfl rfl ?_
  refine .nil ?_
  refine .block ?_
  refine T.loop (ι := { zz : Unit // True }) (fun zz => ([(8, .int .i64 (0 + 1)), (0, .slice none 0 0), (1, .int .i64 0), (2, .int .i64 0), (3, .func (.func 72) #[] #[])], [])) (fun zz => 0) ⟨(()), trivial⟩ (.one rfl (.one rfl (.one rfl (.one rfl (.one rfl (.nil)))))) (.refl _) ?_
  rintro ⟨u, hP0⟩
  show T _ [(8, .int .i64 (0 + 1)), (0, .slice none 0 0), (1, .int .i64 0), (2, .int .i64 0), (3, .func (.func 72) #[] #[])] [] _ _
  refine .seq ?_
  refine .seq ?_
  refine .region ?_
  refine .y (.move rfl) trivial rfl rfl ?_
  refine .y (.move rfl) trivial rfl rfl ?_
  refine .y (.lss rfl rfl) trivial rfl rfl ?_
  refine .nil ?_
  refine .ite rfl (fun h1 => ?_) (fun h1 => ?_)
  · exact absurd h1 (by omega)
  · refine .exit ?_
    refine inB_hit ?_
    refine ⟨.inl rfl, _, _, (.nil _), fun own' ho => .zero rfl, ?_⟩
    exact ⟨rfl, rfl⟩
theorem pdqNil_ct (g : Hp) {l : Int} : Ct Tryz.prog 130 [.slice none 0 0, .int .i64 0, .int .i64 0, .int .i64 l, .func (.func 72) #[] #[]].toArray g [] (fun v rs => v = .tuple #[] ∧ rs = []) := by
  refine Ct.of_body (N := 148) (l := [.slice none 0 0, .int .i64 0, .int .i64 0, .int .i64 l, .func (.func 72) #[] #[]]) Tryz.func130 rfl rfl (Nat.le_of_ble_eq_true rfl) fun n0 => ?_
  refine .seq ?_
  refine .region ?_
  refine .y (.assign rfl) trivial rfl rfl ?_
  refine .nil ?_
  refine .seq ?_
  refine .region ?_
  refine .y (.assign rfl) trivial rfl rfl ?_
  refine .nil ?_
  refine .block ?_
  refine T.loop (ι := { zz : Unit // True }) (fun zz => ([(1, .int .i64 0), (2, .int .i64 0), (3, .int .i64 l), (10, .bool true), (11, .bool true), (0, .slice none 0 0), (4, .func (.func 72) #[] #[])], [])) (fun zz => 0) ⟨(()), trivial⟩ (.one rfl (.one rfl (.one rfl (.one rfl (.one rfl (.one rfl (.one rfl (.nil)))))))) (.refl _) ?_
  rintro ⟨u, hP0⟩
  show T _ [(1, .int .i64 0), (2, .int .i64 0), (3, .int .i64 l), (10, .bool true), (11, .bool true), (0, .slice none 0 0), (4, .func (.func 72) #[] #[])] [] _ _
  refine .block ?_
  refine .seq ?_
  refine .region ?_
  refine .y (.move rfl) trivial rfl rfl ?_
  refine .y (.move rfl) trivial rfl rfl ?_
  refine .y (.sub rfl rfl (by omega)) trivial rfl rfl ?_
  refine .y (.assign rfl) trivial rfl rfl ?_
  refine .nil ?_
  refine .seq ?_
  refine .seq ?_
  refine .region ?_
  refine .y (.move rfl) trivial rfl rfl ?_
  refine .y (.leq rfl rfl) trivial rfl rfl ?_
  refine .nil ?_
  refine .ite rfl (fun h1 => ?_) (fun h1 => ?_)
  · refine .seq ?_
    refine .region ?_
    refine .y (.move rfl) trivial rfl rfl ?_
    refine .y (.move rfl) trivial rfl rfl ?_
    refine .y (.move rfl) trivial rfl rfl ?_
    refine .y (.move rfl) trivial rfl rfl ?_
    refine .c (.call rfl rfl fn_195) trivial rfl rfl (fun own ho hd => insNil_ct _ ) ?_
    rintro _ _ ⟨rfl, rfl⟩
    refine .nil ?_
    refine .ret ?_
    refine ⟨.inr rfl, _, _, (.nil _), fun own' ho => .zero rfl, ?_⟩
    exact ⟨rfl, rfl⟩
  · exact absurd (by omega) h1
theorem sortNil_ct (g : Hp)  : Ct Tryz.prog 71 [.slice none 0 0, .func (.func 72) #[] #[]].toArray g [] (fun v rs => v = .tuple #[] ∧ rs = []) := by
  refine Ct.of_body (N := 14) (l := [.slice none 0 0, .func (.func 72) #[] #[]]) Tryz.func71 rfl rfl (Nat.le_of_ble_eq_true rfl) fun n0 => ?_
  refine .seq ?_
  refine .region ?_
  refine .y (.move rfl) trivial rfl rfl ?_
  refine .y (.len rfl sl_22) trivial rfl rfl ?_
  refine .y (.assign rfl) trivial rfl rfl ?_
  refine .nil ?_
  refine .region ?_
  refine .y (.move rfl) trivial rfl rfl ?_
  refine .y (.move rfl) trivial rfl rfl ?_
  refine .y (.move rfl) trivial rfl rfl ?_
  refine .y (.conv rfl us_3 ui_180) trivial rfl rfl ?_
  refine .c (.call rfl rfl fn_125) trivial rfl rfl (fun own ho hd => bitsLen_ct _) ?_
  rintro _ _ ⟨rfl, rfl⟩
  refine .y (.move rfl) trivial rfl rfl ?_
  refine .c (.call rfl rfl fn_130) trivial rfl rfl (fun own ho hd => pdqNil_ct _ ) ?_
  rintro _ _ ⟨rfl, rfl⟩
  refine .nil ?_
  refine ⟨.inl rfl, _, _, (.nil _), fun own' ho => .zero rfl, ?_⟩
  exact ⟨rfl, rfl⟩
end Go.Proofs.YtfcjmoolnadfbaaGreat
