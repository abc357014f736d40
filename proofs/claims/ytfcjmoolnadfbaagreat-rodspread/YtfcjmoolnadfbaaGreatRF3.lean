/- Contracts of functions of package rod, printed by vgen: part RF3. -/
import Derived.Test.YtfcjmoolnadfbaaGreatProg
import Derived.Test.YtfcjmoolnadfbaaGreatRSpec
import Derived.Test.YtfcjmoolnadfbaaGreatRF1
import Derived.Test.YtfcjmoolnadfbaaGreatRF2
import Derived.KernelRfl
set_option linter.unusedVariables false
set_option linter.unusedSimpArgs false
namespace Go.Proofs.YtfcjmoolnadfbaaGreat
open Go.V
theorem ag_115 : agOf Tryz.prog 115 = some false := by kernel_rfl
theorem ag_122 : agOf Tryz.prog 122 = some false := by kernel_rfl
theorem ag_22 : agOf Tryz.prog 22 = some false := by kernel_rfl
theorem fl_124_1 : fldOf Tryz.prog 124 1 = some 3 := by kernel_rfl
theorem fl_124_2 : fldOf Tryz.prog 124 2 = some 28 := by kernel_rfl
theorem fn_131 : fnOk Tryz.prog 131 = true := by kernel_rfl
theorem fn_135 : fnOk Tryz.prog 135 = true := by kernel_rfl
theorem fn_203 : fnOk Tryz.prog 203 = true := by kernel_rfl
theorem fn_63 : fnOk Tryz.prog 63 = true := by kernel_rfl
theorem fn_75 : fnOk Tryz.prog 75 = true := by kernel_rfl
theorem lz_30_1 : ((Array.range (1 * 2)).map ((.agg #[.int .i64 0, .int .i64 0] : Value).cells[· % (.agg #[.int .i64 0, .int .i64 0] : Value).cells.size]!)) = #[.int .i64 0, .int .i64 0] := by kernel_rfl
theorem mp_122 : mapOf Tryz.prog 122 = some (30, 3) := by kernel_rfl
theorem pl_124 : plOf Tryz.prog 124 = some [(0, 3), (3, 25), (28, 1)] := by kernel_rfl
theorem sz_115 : szOf Tryz.prog 115 = some 1 := by kernel_rfl
theorem sz_122 : szOf Tryz.prog 122 = some 1 := by kernel_rfl
theorem sz_22 : szOf Tryz.prog 22 = some 1 := by kernel_rfl
theorem zr_115 : zeroOf Tryz.prog 115 = some (.pointer none) := by kernel_rfl
theorem zr_124 : zeroOf Tryz.prog 124 = some (.agg #[.int .i64 0, .int .i64 0, .slice none 0 0, .int .i64 0, .int .i64 0, .int .i64 0, .int .i64 0, .int .i64 0, .int .i64 0, .int .i64 0, .int .i64 0, .int .i64 0, .int .i64 0, .int .i64 0, .int .i64 0, .int .i64 0, .int .i64 0, .int .i64 0, .int .i64 0, .int .i64 0, .int .i64 0, .int .i64 0, .int .i64 0, .int .i64 0, .int .i64 0, .int .i64 0, .int .i64 0, .int .i64 0, .map none]) := by kernel_rfl
theorem zr_22 : zeroOf Tryz.prog 22 = some (.slice none 0 0) := by kernel_rfl
theorem blind1_ct (g : Hp) {B : Nat} {a : Cell} {x : Rod} (hB : g B = some (.cells #[.int .i64 a.col, .int .i64 a.row] 30 (0, 0))) (ha : Sm a) (hx : RodOk x) : Ct Tryz.prog 63 [.agg #[.int .i64 x.tip.col, .int .i64 x.tip.row, .int .i64 x.range, .int .i64 x.shows], .pointer (some ⟨B, 0, none⟩)].toArray g [] (fun v rs => v = .bool (decide (x.range < dist a x.tip)) ∧ rs = []) := by
  refine Ct.of_body (N := 11) (l := [.agg #[.int .i64 x.tip.col, .int .i64 x.tip.row, .int .i64 x.range, .int .i64 x.shows], .pointer (some ⟨B, 0, none⟩)]) Tryz.func63 rfl rfl (Nat.le_of_ble_eq_true rfl) fun n0 => ?_
  refine .seq ?_
  refine .region ?_
  refine .n (.box rfl) trivial rfl rfl fun B1 => ?_
  refine .y (.assign rfl) trivial rfl rfl ?_
  refine .nil ?_
  refine .seq ?_
  refine T.dr (N := 11) [(3, (fun v rs => v = .int .i64 (dist a x.tip) ∧ rs = []))] [0, 0, 2, 7, 0, 16, 63, 127] 6 (by kernel_rfl) flw rfl (Nat.le_of_ble_eq_true rfl) ?_
  refine .y (.load rfl (.g hB) ag_30 sz_30 rfl) trivial ?_
  refine .y (.fieldAddr rfl fl_32_0) trivial ?_
  refine .y (.load rfl (.own 0 rfl) ag_30 sz_30 rfl) trivial ?_
  refine .c (.call rfl rfl fn_53) trivial (fun own ho hd => from_ct _ (by first | assumption | exact (show RodOk _ from (by assumption)).1 | exact (getRod hv (by assumption)).1 | exact cellAt_Sm hc.2.1 hc.2.2.2 (by assumption)) (by first | assumption | exact (show RodOk _ from (by assumption)).1 | exact (getRod hv (by assumption)).1 | exact cellAt_Sm hc.2.1 hc.2.2.2 (by assumption))) ?_
  rintro _ _ ⟨rfl, rfl⟩
  refine .y (.fieldAddr rfl fl_32_1) trivial ?_
  refine .y (.load rfl (.own 0 rfl) ag_3 sz_3 rfl) trivial ?_
  refine .nil ?_
  refine .y (.gtr rfl rfl) trivial rfl rfl ?_
  refine .y (.assign rfl) trivial rfl rfl ?_
  refine .nil ?_
  refine .ret ?_
  refine ⟨.inr rfl, _, _, (.nil _), fun own' ho => .one rfl rfl, ?_⟩
  first | exact ⟨rfl, rfl⟩ | (refine ⟨?_, rfl⟩; simp [*])
theorem Blind_ct (g : Hp) {C Rw : Nat} {ra : Option Addr} {rc : Nat} {rods : List Rod} (hc : 1 ≤ C ∧ C ≤ 5 ∧ 1 ≤ Rw ∧ Rw ≤ 5) (hr : SlR eRod g ra rods) (hl : rods.length ≤ 8) (hv : ∀ r ∈ rods, RodOk r) (hck : chkBin (C : Int) (Rw : Int) rods = 0) : Ct Tryz.prog 11 [.agg #[.int .i64 (C : Int), .int .i64 (Rw : Int), .slice ra rods.length rc]].toArray g [] (fun v rs => ∃ (a : Option Addr) (c : Nat), v = .tuple #[.slice a ((filtC C (blindP C rods) (C * Rw)).length) c, .int .i64 0] ∧ rs = [SlO eCell 30 a c (filtC C (blindP C rods) (C * Rw))] ∧ SlOk a c) := by
  refine Ct.of_body (N := 26) (l := [.agg #[.int .i64 (C : Int), .int .i64 (Rw : Int), .slice ra rods.length rc]]) Tryz.func11 rfl rfl (Nat.le_of_ble_eq_true rfl) fun n0 => ?_
  refine .seq ?_
  refine .region ?_
  refine .n (.box rfl) trivial rfl rfl fun B1 => ?_
  refine .y (.assign rfl) trivial rfl rfl ?_
  refine .y (.assign rfl) trivial rfl rfl ?_
  refine .nil ?_
  refine .seq ?_
  refine .seq ?_
  refine .region ?_
  refine .y (.load rfl (.own 0 rfl) ag_28 sz_28 rfl) trivial rfl rfl ?_
  refine .c (.call rfl rfl fn_22) trivial rfl rfl (fun own ho hd => Check_ct _ (rods := rods) (SlR.up hr) (by first | omega | simp)) ?_
  rintro _ _ ⟨rfl, rfl⟩
  refine .y (.assign rfl) trivial rfl rfl ?_
  refine .nil ?_
  refine .seq ?_
  refine .region ?_
  refine .y (.move rfl) trivial rfl rfl ?_
  refine .y (.neq rfl rfl) trivial rfl rfl ?_
  refine .nil ?_
  refine .ite rfl (fun h1 => ?_) (fun h1 => ?_)
  · exact absurd hck (by simpa using h1)
  · refine .skip ?_
    refine .seq ?_
    refine .region ?_
    refine .n (.alloc zr_22) trivial rfl rfl fun B2 => ?_
    refine .nil ?_
    refine .seq ?_
    refine .seq ?_
    refine .region ?_
    refine .y (.load rfl (.own 1 rfl) ag_28 sz_28 rfl) trivial rfl rfl ?_
    refine .c (.call rfl rfl fn_52) trivial rfl rfl (fun own ho hd => cells_ct _ ) ?_
    rintro _ _ ⟨B3, rfl, rfl⟩
    refine .nil ?_
    refine .block ?_
    refine T.range (N := C * Rw) (enc := fun k1 => [.int .i64 (k1 : Int), .agg #[.int .i64 ((cellAt C k1).col), .int .i64 ((cellAt C k1).row)]]) (r := [As.one B3 (.cells #[.int .i64 (C : Int), .int .i64 (Rw : Int), .slice ra rods.length rc] 28 (0, 0))]) (fun k1 => [BoxS eCell 22 30 B2 (filtC C (blindP C rods) k1), As.one B1 (.cells #[.int .i64 (C : Int), .int .i64 (Rw : Int), .slice ra rods.length rc] 28 (0, 0))]) (fun _ _ => False) rfl fn_123 (fun own ho hd => cells1_it _ (one_in 0 rfl ho hd) (by first | assumption | omega)) (.boxS (by first | assumption | exact .nil) (.pick 1 rfl (.nilSl (.pick 1 rfl (.pick 0 rfl (.refl _)))))) (fun _ => rfl) (fun p hp => by simp at hp; show p < 26; omega) (fun l1 k1 hk1 => ?_) ?_ ?_
    · have h25k1 : k1 < 25 := Nat.lt_of_lt_of_le hk1 (Nat.mul_le_mul hc.2.1 hc.2.2.2)
      refine .boxS fun a1 c1 oka1 => ?_
      refine .region ?_
      refine .n (.alloc zr_30) trivial rfl rfl fun B4 => ?_
      refine .cons trivial (.store 0 rfl rfl rfl sz_30 rfl rfl (Nat.le_of_ble_eq_true rfl) rfl ?_)
      refine .nil ?_
      refine ⟨rfl, ?_⟩
      refine .block ?_
      refine .seq ?_
      refine .region ?_
      refine .y (.fieldAddr rfl fl_28_2) trivial rfl rfl ?_
      refine .y (.load rfl (.own 3 rfl) ag_26 sz_26 rfl) trivial rfl rfl ?_
      refine .y (.makeFunc rfl rfl) trivial rfl rfl ?_
      refine .c (.call rfl rfl fn_62) trivial rfl rfl (fun own ho hd => everyeRod_ct _ fn_63 (xs := rods) (SlR.up hr) (fun g' hg x hx => blind1_ct g' (hg _ _ (one_in 0 rfl ho hd)) (by first | assumption | exact (getRod hv (by assumption)).1 | exact cellAt_Sm hc.2.1 hc.2.2.2 (by assumption)) (hv x hx)) (by first | omega | (simp; omega))) ?_
      rintro _ _ ⟨rfl, rfl⟩
      refine .nil ?_
      refine .cond rfl (fun h2 => ?_) (fun h2 => ?_)
      · refine .region ?_
        refine .y (.load rfl (.own 1 rfl) ag_22 sz_22 rfl) trivial rfl rfl ?_
        refine .y (.load rfl (.own 0 rfl) ag_30 sz_30 rfl) trivial rfl rfl ?_
        refine .n (.lit #[.int .i64 0, .int .i64 0] lz_30_1 rfl sl_22 sz_30 zr_30 rfl rfl rfl) trivial rfl rfl fun B5 => ?_
        refine .cons trivial (.app (E := eCell) (ys := [(cellAt C k1)]) 3 el_22 rfl rfl rfl rfl rfl (.of_cells (.own 0 rfl)) (fun h => by cases h) (by have := filtC_len C (blindP C rods) k1; simp; omega) (by have := filtC_len C (blindP C rods) k1; simp; omega) rfl fun a2 c2 oka2 => ?_)
        refine .cons trivial (.store 2 rfl rfl rfl sz_22 rfl rfl (Nat.le_of_ble_eq_true rfl) rfl ?_)
        refine .nil ?_
        show RSub [BoxS eCell 22 30 B2 (filtC C (blindP C rods) (k1 + 1)), As.one B1 (.cells #[.int .i64 (C : Int), .int .i64 (Rw : Int), .slice ra rods.length rc] 28 (0, 0))] _
        rw [filtC_in (by simpa [blindP] using h2)]
        exact (.boxS (by first | assumption | exact .nil) (.pick 2 rfl (.pick 2 rfl (.pick 2 rfl (.nil _)))))
      · refine .skip ?_
        show RSub [BoxS eCell 22 30 B2 (filtC C (blindP C rods) (k1 + 1)), As.one B1 (.cells #[.int .i64 (C : Int), .int .i64 (Rw : Int), .slice ra rods.length rc] 28 (0, 0))] _
        rw [filtC_out (by simpa [blindP] using h2)]
        exact (.boxS (by first | assumption | exact .nil) (.pick 1 rfl (.pick 1 rfl (.pick 1 rfl (.nil _)))))
    · refine .boxS fun a3 c3 oka3 => ?_
      refine .seq ?_
      refine .region ?_
      refine .y (.load rfl (.own 0 rfl) ag_22 sz_22 rfl) trivial rfl rfl ?_
      refine .y (.assign rfl) trivial rfl rfl ?_
      refine .y (.assign rfl) trivial rfl rfl ?_
      refine .nil ?_
      refine .ret ?_
      refine ⟨.inr rfl, _, _, (.pick 1 rfl (.nil _)), fun own' ho => .two rfl rfl rfl, ?_⟩
      exact ⟨_, _, rfl, rfl, by assumption⟩
    · exact fun _ _ h => h.elim
theorem isNaN_ct (g : Hp) {x : Int} : Ct Tryz.prog 203 [.int .i64 x].toArray g [] (fun v rs => v = .bool false ∧ rs = []) := by
  refine Ct.of_body (N := 6) (l := [.int .i64 x]) Tryz.func203 rfl rfl (Nat.le_of_ble_eq_true rfl) fun n0 => ?_
  refine .seq ?_
  refine .region ?_
  refine .y (.assign rfl) trivial rfl rfl ?_
  refine .nil ?_
  refine .seq ?_
  refine .region ?_
  refine .y (.move rfl) trivial rfl rfl ?_
  refine .y (.move rfl) trivial rfl rfl ?_
  refine .y (.neq rfl rfl) trivial rfl rfl ?_
  refine .y (.assign rfl) trivial rfl rfl ?_
  refine .nil ?_
  refine .ret ?_
  refine ⟨.inr rfl, _, _, (.nil _), fun own' ho => .one rfl rfl, ?_⟩
  refine ⟨?_, rfl⟩; simp
theorem compare_ct (g : Hp) {x y : Int} : Ct Tryz.prog 135 [.int .i64 x, .int .i64 y].toArray g [] (fun v rs => v = .int .i64 (cmpI x y) ∧ rs = []) := by
  refine Ct.of_body (N := 20) (l := [.int .i64 x, .int .i64 y]) Tryz.func135 rfl rfl (Nat.le_of_ble_eq_true rfl) fun n0 => ?_
  refine .seq ?_
  refine .region ?_
  refine .y (.assign rfl) trivial rfl rfl ?_
  refine .nil ?_
  refine .seq ?_
  refine .region ?_
  refine .y (.move rfl) trivial rfl rfl ?_
  refine .c (.call rfl rfl fn_203) trivial rfl rfl (fun own ho hd => isNaN_ct _ ) ?_
  rintro _ _ ⟨rfl, rfl⟩
  refine .y (.assign rfl) trivial rfl rfl ?_
  refine .nil ?_
  refine .seq ?_
  refine .region ?_
  refine .y (.move rfl) trivial rfl rfl ?_
  refine .c (.call rfl rfl fn_203) trivial rfl rfl (fun own ho hd => isNaN_ct _ ) ?_
  rintro _ _ ⟨rfl, rfl⟩
  refine .y (.assign rfl) trivial rfl rfl ?_
  refine .nil ?_
  refine .seq ?_
  refine .seq ?_
  refine .region ?_
  refine .y (.move rfl) trivial rfl rfl ?_
  refine .nil ?_
  refine .cond_f rfl ?_
  refine .skip ?_
  refine .seq ?_
  refine .seq ?_
  refine .region ?_
  refine .y (.move rfl) trivial rfl rfl ?_
  refine .nil ?_
  refine .cond_f rfl ?_
  refine .skip ?_
  refine .seq ?_
  refine .seq ?_
  refine .region ?_
  refine .y (.move rfl) trivial rfl rfl ?_
  refine .y (.move rfl) trivial rfl rfl ?_
  refine .y (.lss rfl rfl) trivial rfl rfl ?_
  refine .nil ?_
  refine .ite rfl (fun h1 => ?_) (fun h1 => ?_)
  · refine .seq ?_
    refine .region ?_
    refine .y (.assign rfl) trivial rfl rfl ?_
    refine .nil ?_
    refine .ret ?_
    refine ⟨.inr rfl, _, _, (.nil _), fun own' ho => .one rfl rfl, ?_⟩
    refine ⟨?_, rfl⟩; simp [cmpI, *] <;> omega
  · refine .skip ?_
    refine .seq ?_
    refine .seq ?_
    refine .region ?_
    refine .y (.move rfl) trivial rfl rfl ?_
    refine .y (.move rfl) trivial rfl rfl ?_
    refine .y (.gtr rfl rfl) trivial rfl rfl ?_
    refine .nil ?_
    refine .ite rfl (fun h2 => ?_) (fun h2 => ?_)
    · refine .seq ?_
      refine .region ?_
      refine .y (.assign rfl) trivial rfl rfl ?_
      refine .nil ?_
      refine .ret ?_
      refine ⟨.inr rfl, _, _, (.nil _), fun own' ho => .one rfl rfl, ?_⟩
      refine ⟨?_, rfl⟩; simp [cmpI, *] <;> omega
    · refine .skip ?_
      refine .seq ?_
      refine .region ?_
      refine .y (.assign rfl) trivial rfl rfl ?_
      refine .nil ?_
      refine .ret ?_
      refine ⟨.inr rfl, _, _, (.nil _), fun own' ho => .one rfl rfl, ?_⟩
      refine ⟨?_, rfl⟩; simp [cmpI, *] <;> omega
theorem compareL_ct (g : Hp) {a : Option Addr} {c : Nat} {xs : List Int} {a2 : Option Addr} {c2 : Nat} {ys : List Int} (hs : SlR eInt g a xs) (hs2 : SlR eInt g a2 ys) (hl : xs.length ≤ 1000000) (hl2 : ys.length ≤ 1000000) : Ct Tryz.prog 81 [.slice a xs.length c, .slice a2 ys.length c2].toArray g [] (fun v rs => v = .int .i64 (cmpL xs ys) ∧ rs = []) := by
  refine Ct.of_body (N := 36) (l := [.slice a xs.length c, .slice a2 ys.length c2]) Tryz.func81 rfl rfl (Nat.le_of_ble_eq_true rfl) fun n0 => ?_
  refine .seq ?_
  refine .region ?_
  refine .y (.assign rfl) trivial rfl rfl ?_
  refine .nil ?_
  refine .seq ?_
  refine .seq ?_
  refine .region ?_
  refine .y (.move rfl) trivial rfl rfl ?_
  refine .y (.len rfl sl_39) trivial rfl rfl ?_
  refine .y (.move rfl) trivial rfl rfl ?_
  refine .nil ?_
  refine .block ?_
  refine T.loop (ι := { zz : Nat // zz ≤ xs.length ∧ zz ≤ ys.length ∧ cmpL xs ys = cmpL (xs.drop zz) (ys.drop zz) }) (fun zz => ([(11, .int .i64 (zz.1 : Int)), (0, .slice a xs.length c), (1, .slice a2 ys.length c2), (9, .slice a xs.length c), (10, .int .i64 (xs.length : Int))], [])) (fun zz => xs.length - zz.1) ⟨(0), by simp⟩ (.one rfl (.one rfl (.one rfl (.one rfl (.one rfl (.nil)))))) (.refl _) ?_
  rintro ⟨i, hP0⟩
  show T _ [(11, .int .i64 (i : Int)), (0, .slice a xs.length c), (1, .slice a2 ys.length c2), (9, .slice a xs.length c), (10, .int .i64 (xs.length : Int))] [] _ _
  refine .seq ?_
  refine .region ?_
  refine .y (.lss rfl rfl) trivial rfl rfl ?_
  refine .nil ?_
  refine .seq ?_
  refine .ite rfl (fun h1 => ?_) (fun h1 => ?_)
  · refine .skip ?_
    refine .seq ?_
    refine .block ?_
    refine .seq ?_
    refine .region ?_
    refine .y (.move rfl) trivial rfl rfl ?_
    have hbhx1 : i < xs.length := by omega
    obtain ⟨x1, hx1⟩ : ∃ x1, xs[i]? = some x1 := ⟨_, List.getElem?_eq_getElem hbhx1⟩
    refine .y (.indexE (E := eInt) rfl rfl (.g hs) rfl sl_39 sz_3 (by omega)) trivial rfl rfl ?_
    refine .y (.loadE (E := eInt) rfl (.g hs) ag_3 sz_3 (by decide) (eInt.rd0 hx1 (by decide) (by decide) rfl)) trivial rfl rfl ?_
    refine .y (.assign rfl) trivial rfl rfl ?_
    refine .y (.assign rfl) trivial rfl rfl ?_
    refine .nil ?_
    refine .seq ?_
    refine .seq ?_
    refine .region ?_
    refine .y (.move rfl) trivial rfl rfl ?_
    refine .y (.move rfl) trivial rfl rfl ?_
    refine .y (.len rfl sl_39) trivial rfl rfl ?_
    refine .y (.geq rfl rfl) trivial rfl rfl ?_
    refine .nil ?_
    refine .ite rfl (fun h2 => ?_) (fun h2 => ?_)
    · refine .seq ?_
      refine .region ?_
      refine .y (.assign rfl) trivial rfl rfl ?_
      refine .nil ?_
      refine .ret ?_
      refine ⟨.inr rfl, _, _, (.nil _), fun own' ho => .one rfl rfl, ?_⟩
      exact ⟨congrArg _ (cmp_long hP0.2.2 hx1 (by omega)).symm, rfl⟩
    · refine .skip ?_
      refine .seq ?_
      refine .region ?_
      refine .y (.move rfl) trivial rfl rfl ?_
      refine .y (.move rfl) trivial rfl rfl ?_
      have hbhx2 : i < ys.length := by omega
      obtain ⟨x2, hx2⟩ : ∃ x2, ys[i]? = some x2 := ⟨_, List.getElem?_eq_getElem hbhx2⟩
      refine .y (.indexE (E := eInt) rfl rfl (.g hs2) rfl sl_39 sz_3 (by omega)) trivial rfl rfl ?_
      refine .y (.loadE (E := eInt) rfl (.g hs2) ag_3 sz_3 (by decide) (eInt.rd0 hx2 (by decide) (by decide) rfl)) trivial rfl rfl ?_
      refine .y (.assign rfl) trivial rfl rfl ?_
      refine .nil ?_
      refine .seq ?_
      refine .region ?_
      refine .y (.move rfl) trivial rfl rfl ?_
      refine .y (.move rfl) trivial rfl rfl ?_
      refine .c (.call rfl rfl fn_135) trivial rfl rfl (fun own ho hd => compare_ct _ ) ?_
      rintro _ _ ⟨rfl, rfl⟩
      refine .y (.assign rfl) trivial rfl rfl ?_
      refine .nil ?_
      refine .seq ?_
      refine .region ?_
      refine .y (.move rfl) trivial rfl rfl ?_
      refine .y (.neq rfl rfl) trivial rfl rfl ?_
      refine .nil ?_
      refine .ite rfl (fun h3 => ?_) (fun h3 => ?_)
      · refine .seq ?_
        refine .region ?_
        refine .y (.move rfl) trivial rfl rfl ?_
        refine .y (.assign rfl) trivial rfl rfl ?_
        refine .nil ?_
        refine .ret ?_
        refine ⟨.inr rfl, _, _, (.nil _), fun own' ho => .one rfl rfl, ?_⟩
        exact ⟨congrArg _ (cmp_ne hP0.2.2 hx1 hx2 h3).symm, rfl⟩
      · refine .skip ?_
        refine .region ?_
        refine .y (.add rfl rfl (by omega)) trivial rfl rfl ?_
        refine .y (.move rfl) trivial rfl rfl ?_
        refine .nil ?_
        refine ⟨⟨(i + 1), ?_⟩, ?_, (.one rfl (.one rfl (.one rfl (.one rfl (.one rfl (.nil)))))), (.refl _)⟩
        · exact ⟨by omega, by omega, cmp_eq hP0.2.2 hx1 hx2 h3⟩
        · show xs.length - (i + 1) < xs.length - i; omega
  · refine .exit ?_
    refine inB_hit ?_
    refine .seq ?_
    refine .seq ?_
    refine .region ?_
    refine .y (.move rfl) trivial rfl rfl ?_
    refine .y (.len rfl sl_39) trivial rfl rfl ?_
    refine .y (.move rfl) trivial rfl rfl ?_
    refine .y (.len rfl sl_39) trivial rfl rfl ?_
    refine .y (.lss rfl rfl) trivial rfl rfl ?_
    refine .nil ?_
    refine .ite rfl (fun h4 => ?_) (fun h4 => ?_)
    · refine .seq ?_
      refine .region ?_
      refine .y (.assign rfl) trivial rfl rfl ?_
      refine .nil ?_
      refine .ret ?_
      refine ⟨.inr rfl, _, _, (.nil _), fun own' ho => .one rfl rfl, ?_⟩
      exact ⟨congrArg _ (cmp_end1 hP0.2.2 (by omega) (by omega) (by omega)).symm, rfl⟩
    · refine .skip ?_
      refine .seq ?_
      refine .region ?_
      refine .y (.assign rfl) trivial rfl rfl ?_
      refine .nil ?_
      refine .ret ?_
      refine ⟨.inr rfl, _, _, (.nil _), fun own' ho => .one rfl rfl, ?_⟩
      exact ⟨congrArg _ (cmp_end2 hP0.2.2 (by omega) (by omega) (by omega)).symm, rfl⟩
theorem equaleInt_ct (g : Hp) {a : Option Addr} {c : Nat} {xs : List Int} {a2 : Option Addr} {c2 : Nat} {ys : List Int} (hs : SlR eInt g a xs) (hs2 : SlR eInt g a2 ys) (hl : xs.length ≤ 1000000) (hl2 : ys.length ≤ 1000000) : Ct Tryz.prog 67 [.slice a xs.length c, .slice a2 ys.length c2].toArray g [] (fun v rs => v = .bool (decide (xs = ys)) ∧ rs = []) := by
  refine Ct.of_body (N := 26) (l := [.slice a xs.length c, .slice a2 ys.length c2]) Tryz.func67 rfl rfl (Nat.le_of_ble_eq_true rfl) fun n0 => ?_
  refine .seq ?_
  refine .region ?_
  refine .y (.assign rfl) trivial rfl rfl ?_
  refine .nil ?_
  refine .seq ?_
  refine .seq ?_
  refine .region ?_
  refine .y (.move rfl) trivial rfl rfl ?_
  refine .y (.len rfl sl_39) trivial rfl rfl ?_
  refine .y (.move rfl) trivial rfl rfl ?_
  refine .y (.len rfl sl_39) trivial rfl rfl ?_
  refine .y (.neq rfl rfl) trivial rfl rfl ?_
  refine .nil ?_
  refine .ite rfl (fun h1 => ?_) (fun h1 => ?_)
  · refine .seq ?_
    refine .region ?_
    refine .y (.assign rfl) trivial rfl rfl ?_
    refine .nil ?_
    refine .ret ?_
    refine ⟨.inr rfl, _, _, (.nil _), fun own' ho => .one rfl rfl, ?_⟩
    exact ⟨congrArg _ (decide_eq_false (fun e => h1 (by rw [e]))).symm, rfl⟩
  · refine .skip ?_
    refine .seq ?_
    refine .seq ?_
    refine .region ?_
    refine .y (.move rfl) trivial rfl rfl ?_
    refine .y (.len rfl sl_39) trivial rfl rfl ?_
    refine .y (.move rfl) trivial rfl rfl ?_
    refine .nil ?_
    refine .block ?_
    refine T.loop (ι := { zz : Nat // zz ≤ xs.length ∧ xs.take zz = ys.take zz }) (fun zz => ([(13, .int .i64 (zz.1 : Int)), (0, .slice a xs.length c), (1, .slice a2 ys.length c2), (12, .int .i64 (xs.length : Int))], [])) (fun zz => xs.length - zz.1) ⟨(0), by simp⟩ (.one rfl (.one rfl (.one rfl (.one rfl (.nil))))) (.refl _) ?_
    rintro ⟨i, hP0⟩
    show T _ [(13, .int .i64 (i : Int)), (0, .slice a xs.length c), (1, .slice a2 ys.length c2), (12, .int .i64 (xs.length : Int))] [] _ _
    refine .seq ?_
    refine .region ?_
    refine .y (.lss rfl rfl) trivial rfl rfl ?_
    refine .nil ?_
    refine .seq ?_
    refine .ite rfl (fun h2 => ?_) (fun h2 => ?_)
    · refine .skip ?_
      refine .seq ?_
      refine .block ?_
      refine .seq ?_
      refine .region ?_
      refine .y (.move rfl) trivial rfl rfl ?_
      refine .y (.assign rfl) trivial rfl rfl ?_
      refine .nil ?_
      refine .seq ?_
      refine T.dr (N := 26) [] [0, 0, 3, 7, 0, 0, 48, 112, 255] 8 (by kernel_rfl) flw rfl (Nat.le_of_ble_eq_true rfl) ?_
      refine .y (.move rfl) trivial ?_
      refine .y (.move rfl) trivial ?_
      have hbhx1 : i < xs.length := by omega
      obtain ⟨x1, hx1⟩ : ∃ x1, xs[i]? = some x1 := ⟨_, List.getElem?_eq_getElem hbhx1⟩
      refine .y (.indexE (E := eInt) rfl rfl (.g hs) rfl sl_39 sz_3 (by omega)) trivial ?_
      refine .y (.loadE (E := eInt) rfl (.g hs) ag_3 sz_3 (by decide) (eInt.rd0 hx1 (by decide) (by decide) rfl)) trivial ?_
      refine .y (.move rfl) trivial ?_
      refine .y (.move rfl) trivial ?_
      have hbhx2 : i < ys.length := by omega
      obtain ⟨x2, hx2⟩ : ∃ x2, ys[i]? = some x2 := ⟨_, List.getElem?_eq_getElem hbhx2⟩
      refine .y (.indexE (E := eInt) rfl rfl (.g hs2) rfl sl_39 sz_3 (by omega)) trivial ?_
      refine .y (.loadE (E := eInt) rfl (.g hs2) ag_3 sz_3 (by decide) (eInt.rd0 hx2 (by decide) (by decide) rfl)) trivial ?_
      refine .nil ?_
      refine .y (.neq rfl rfl) trivial rfl rfl ?_
      refine .nil ?_
      refine .ite rfl (fun h3 => ?_) (fun h3 => ?_)
      · refine .seq ?_
        refine .region ?_
        refine .y (.assign rfl) trivial rfl rfl ?_
        refine .nil ?_
        refine .ret ?_
        refine ⟨.inr rfl, _, _, (.nil _), fun own' ho => .one rfl rfl, ?_⟩
        exact ⟨congrArg _ (decide_eq_false (take_ne hx1 hx2 h3)).symm, rfl⟩
      · refine .skip ?_
        refine .region ?_
        refine .y (.add rfl rfl (by omega)) trivial rfl rfl ?_
        refine .y (.move rfl) trivial rfl rfl ?_
        refine .nil ?_
        refine ⟨⟨(i + 1), ?_⟩, ?_, (.one rfl (.one rfl (.one rfl (.one rfl (.nil))))), (.refl _)⟩
        · have he : x1 = x2 := by simpa using h3
          subst he; exact ⟨by omega, take_eq_step hP0.2 hx1 hx2⟩
        · show xs.length - (i + 1) < xs.length - i; omega
    · refine .exit ?_
      refine inB_hit ?_
      refine .seq ?_
      refine .region ?_
      refine .y (.assign rfl) trivial rfl rfl ?_
      refine .nil ?_
      refine .ret ?_
      refine ⟨.inr rfl, _, _, (.nil _), fun own' ho => .one rfl rfl, ?_⟩
      exact ⟨congrArg _ (decide_eq_true (take_all hP0.2 (by omega) (by omega))).symm, rfl⟩
theorem equaleCell_ct (g : Hp) {a : Option Addr} {c : Nat} {xs : List Cell} {a2 : Option Addr} {c2 : Nat} {ys : List Cell} (hs : SlR eCell g a xs) (hs2 : SlR eCell g a2 ys) (hl : xs.length ≤ 1000000) (hl2 : ys.length ≤ 1000000) : Ct Tryz.prog 68 [.slice a xs.length c, .slice a2 ys.length c2].toArray g [] (fun v rs => v = .bool (decide (xs = ys)) ∧ rs = []) := by
  refine Ct.of_body (N := 26) (l := [.slice a xs.length c, .slice a2 ys.length c2]) Tryz.func68 rfl rfl (Nat.le_of_ble_eq_true rfl) fun n0 => ?_
  refine .seq ?_
  refine .region ?_
  refine .y (.assign rfl) trivial rfl rfl ?_
  refine .nil ?_
  refine .seq ?_
  refine .seq ?_
  refine .region ?_
  refine .y (.move rfl) trivial rfl rfl ?_
  refine .y (.len rfl sl_22) trivial rfl rfl ?_
  refine .y (.move rfl) trivial rfl rfl ?_
  refine .y (.len rfl sl_22) trivial rfl rfl ?_
  refine .y (.neq rfl rfl) trivial rfl rfl ?_
  refine .nil ?_
  refine .ite rfl (fun h1 => ?_) (fun h1 => ?_)
  · refine .seq ?_
    refine .region ?_
    refine .y (.assign rfl) trivial rfl rfl ?_
    refine .nil ?_
    refine .ret ?_
    refine ⟨.inr rfl, _, _, (.nil _), fun own' ho => .one rfl rfl, ?_⟩
    exact ⟨congrArg _ (decide_eq_false (fun e => h1 (by rw [e]))).symm, rfl⟩
  · refine .skip ?_
    refine .seq ?_
    refine .seq ?_
    refine .region ?_
    refine .y (.move rfl) trivial rfl rfl ?_
    refine .y (.len rfl sl_22) trivial rfl rfl ?_
    refine .y (.move rfl) trivial rfl rfl ?_
    refine .nil ?_
    refine .block ?_
    refine T.loop (ι := { zz : Nat // zz ≤ xs.length ∧ xs.take zz = ys.take zz }) (fun zz => ([(13, .int .i64 (zz.1 : Int)), (0, .slice a xs.length c), (1, .slice a2 ys.length c2), (12, .int .i64 (xs.length : Int))], [])) (fun zz => xs.length - zz.1) ⟨(0), by simp⟩ (.one rfl (.one rfl (.one rfl (.one rfl (.nil))))) (.refl _) ?_
    rintro ⟨i, hP0⟩
    show T _ [(13, .int .i64 (i : Int)), (0, .slice a xs.length c), (1, .slice a2 ys.length c2), (12, .int .i64 (xs.length : Int))] [] _ _
    refine .seq ?_
    refine .region ?_
    refine .y (.lss rfl rfl) trivial rfl rfl ?_
    refine .nil ?_
    refine .seq ?_
    refine .ite rfl (fun h2 => ?_) (fun h2 => ?_)
    · refine .skip ?_
      refine .seq ?_
      refine .block ?_
      refine .seq ?_
      refine .region ?_
      refine .y (.move rfl) trivial rfl rfl ?_
      refine .y (.assign rfl) trivial rfl rfl ?_
      refine .nil ?_
      refine .seq ?_
      refine T.dr (N := 26) [] [0, 0, 3, 7, 0, 0, 48, 112, 255] 8 (by kernel_rfl) flw rfl (Nat.le_of_ble_eq_true rfl) ?_
      refine .y (.move rfl) trivial ?_
      refine .y (.move rfl) trivial ?_
      have hbhx1 : i < xs.length := by omega
      obtain ⟨x1, hx1⟩ : ∃ x1, xs[i]? = some x1 := ⟨_, List.getElem?_eq_getElem hbhx1⟩
      refine .y (.indexE (E := eCell) rfl rfl (.g hs) rfl sl_22 sz_30 (by omega)) trivial ?_
      refine .y (.loadE (E := eCell) rfl (.g hs) ag_30 sz_30 (by decide) (eCell.rd0 hx1 (by decide) (by decide) rfl)) trivial ?_
      refine .y (.move rfl) trivial ?_
      refine .y (.move rfl) trivial ?_
      have hbhx2 : i < ys.length := by omega
      obtain ⟨x2, hx2⟩ : ∃ x2, ys[i]? = some x2 := ⟨_, List.getElem?_eq_getElem hbhx2⟩
      refine .y (.indexE (E := eCell) rfl rfl (.g hs2) rfl sl_22 sz_30 (by omega)) trivial ?_
      refine .y (.loadE (E := eCell) rfl (.g hs2) ag_30 sz_30 (by decide) (eCell.rd0 hx2 (by decide) (by decide) rfl)) trivial ?_
      refine .nil ?_
      refine .y (.neC (a := x1) (b := x2) rfl rfl tw_30) trivial rfl rfl ?_
      refine .nil ?_
      refine .ite rfl (fun h3 => ?_) (fun h3 => ?_)
      · refine .seq ?_
        refine .region ?_
        refine .y (.assign rfl) trivial rfl rfl ?_
        refine .nil ?_
        refine .ret ?_
        refine ⟨.inr rfl, _, _, (.nil _), fun own' ho => .one rfl rfl, ?_⟩
        exact ⟨congrArg _ (decide_eq_false (take_ne hx1 hx2 h3)).symm, rfl⟩
      · refine .skip ?_
        refine .region ?_
        refine .y (.add rfl rfl (by omega)) trivial rfl rfl ?_
        refine .y (.move rfl) trivial rfl rfl ?_
        refine .nil ?_
        refine ⟨⟨(i + 1), ?_⟩, ?_, (.one rfl (.one rfl (.one rfl (.one rfl (.nil))))), (.refl _)⟩
        · have he : x1 = x2 := by simpa using h3
          subst he; exact ⟨by omega, take_eq_step hP0.2 hx1 hx2⟩
        · show xs.length - (i + 1) < xs.length - i; omega
    · refine .exit ?_
      refine inB_hit ?_
      refine .seq ?_
      refine .region ?_
      refine .y (.assign rfl) trivial rfl rfl ?_
      refine .nil ?_
      refine .ret ?_
      refine ⟨.inr rfl, _, _, (.nil _), fun own' ho => .one rfl rfl, ?_⟩
      exact ⟨congrArg _ (decide_eq_true (take_all hP0.2 (by omega) (by omega))).symm, rfl⟩
theorem told_ct (g : Hp) {C Rw : Nat} {ra : Option Addr} {rc : Nat} {rods : List Rod} (hc : 1 ≤ C ∧ C ≤ 5 ∧ 1 ≤ Rw ∧ Rw ≤ 5) (hr : SlR eRod g ra rods) (hl : rods.length ≤ 8) (hv : ∀ r ∈ rods, RodOk r) (hck : chkBin (C : Int) (Rw : Int) rods = 0) (hfit : fitsL C Rw rods (mostTo C rods (fun _ => true) (C * Rw)) (fun _ => true) = true) : Ct Tryz.prog 69 [.agg #[.int .i64 (C : Int), .int .i64 (Rw : Int), .slice ra rods.length rc], .int .i64 0].toArray g [] (fun v rs => ∃ (F : Nat) (M : Nat) (ms : List (Cell × Nat)), v = .tuple #[.pointer (some ⟨F, 0, none⟩), .int .i64 0] ∧ rs = [As.one F (.cells (fieldC C Rw ra rods.length rc (mostTo C rods (fun _ => true) (C * Rw)) M).toArray 124 (0, 0)), MapO vN M ms] ∧ ExpOk C Rw rods (mostTo C rods (fun _ => true) (C * Rw)) (C * Rw) 0 ms) := by
  refine Ct.of_body (N := 87) (l := [.agg #[.int .i64 (C : Int), .int .i64 (Rw : Int), .slice ra rods.length rc], .int .i64 0]) Tryz.func69 rfl rfl (Nat.le_of_ble_eq_true rfl) fun n0 => ?_
  refine .seq ?_
  refine .region ?_
  refine .n (.box rfl) trivial rfl rfl fun B1 => ?_
  refine .y (.assign rfl) trivial rfl rfl ?_
  refine .y (.assign rfl) trivial rfl rfl ?_
  refine .nil ?_
  refine .seq ?_
  refine .seq ?_
  refine .region ?_
  refine .y (.load rfl (.own 0 rfl) ag_28 sz_28 rfl) trivial rfl rfl ?_
  refine .c (.call rfl rfl fn_22) trivial rfl rfl (fun own ho hd => Check_ct _ (rods := rods) (SlR.up hr) (by first | omega | simp)) ?_
  rintro _ _ ⟨rfl, rfl⟩
  refine .y (.assign rfl) trivial rfl rfl ?_
  refine .nil ?_
  refine .seq ?_
  refine .region ?_
  refine .y (.move rfl) trivial rfl rfl ?_
  refine .y (.neq rfl rfl) trivial rfl rfl ?_
  refine .nil ?_
  refine .ite rfl (fun h1 => ?_) (fun h1 => ?_)
  · exact absurd hck (by simpa using h1)
  · refine .skip ?_
    refine .seq ?_
    refine .seq ?_
    refine .region ?_
    refine .y (.move rfl) trivial rfl rfl ?_
    refine .y (.to (.neq rfl rfl) (v' := .bool false) rfl) trivial rfl rfl ?_
    refine .nil ?_
    refine .cond_f rfl ?_
    refine .skip ?_
    refine .seq ?_
    refine T.dr (N := 87) [(2, (fun v rs => v = .agg #[.func (.func 131) #[] #[]] ∧ rs = [])), (3, (fun v rs => v = .agg ((mostTo C rods (fun _ => true) (C * Rw)).map argI).toArray ∧ rs = []))] [0, 0, 0, 6, 0, 31, 63, 0, 255] 8 (by kernel_rfl) flw rfl (Nat.le_of_ble_eq_true rfl) ?_
    refine .y (.load rfl (.own 0 rfl) ag_28 sz_28 rfl) trivial ?_
    refine .y (.load rfl (.own 0 rfl) ag_28 sz_28 rfl) trivial ?_
    refine .c (.call rfl rfl fn_75) trivial (fun own ho hd => all_ct _ ) ?_
    rintro _ _ ⟨rfl, rfl⟩
    refine .c (.call rfl rfl fn_129) trivial (fun own ho hd => most_ct _ fn_131 (fun g' hg x hx => all1_ct g') hc (rods := rods) (SlR.up hr) hl hv) ?_
    rintro _ _ ⟨rfl, rfl⟩
    refine .n (.makeMap) trivial fun M1 => ?_
    refine .y (.build rfl pl_124 zr_124 (fill_field rfl (by first | omega | (simp; omega) | exact Nat.le_trans (membI_len _) (by decide) | (simp [*]; done) | (simp [*]; omega)))) trivial ?_
    refine .n (.box rfl) trivial fun B2 => ?_
    refine .n (.alloc zr_115) trivial fun B3 => ?_
    refine .nil ?_
    refine .cons trivial (.store 0 rfl rfl rfl sz_115 rfl rfl (Nat.le_of_ble_eq_true rfl) rfl ?_)
    refine .nil ?_
    refine .seq ?_
    refine .seq ?_
    refine T.dr (N := 87) [(5, (fun v rs => v = .agg #[.func (.func 131) #[] #[]] ∧ rs = []))] [0, 0, 2, 6, 14, 0, 63, 127] 6 (by kernel_rfl) flw rfl (Nat.le_of_ble_eq_true rfl) ?_
    refine .y (.load rfl (.own 3 rfl) ag_28 sz_28 rfl) trivial ?_
    refine .y (.load rfl (.own 0 rfl) ag_115 sz_115 rfl) trivial ?_
    refine .y (.nilCheck rfl) trivial ?_
    refine .y (.fieldAddr rfl fl_124_1) trivial ?_
    refine .y (.load rfl (.own 1 rfl) ag_121 sz_121 (rdF_top (by first | omega | (simp; omega) | exact Nat.le_trans (membI_len _) (by decide) | (simp [*]; done) | (simp [*]; omega)))) trivial ?_
    refine .c (.call rfl rfl fn_75) trivial (fun own ho hd => all_ct _ ) ?_
    rintro _ _ ⟨rfl, rfl⟩
    refine .nil ?_
    refine .c (.call rfl rfl fn_74) trivial rfl rfl (fun own ho hd => fits_ct _ fn_131 (fun g' hg x hx => all1_ct g') hc (rods := rods) (SlR.up hr) hl hv (mostTo_len ..) (fun x hx => by have := mostTo_bd hc.2.1 hc.2.2.2 (Nat.le_refl _) hv x hx; omega)) ?_
    rintro _ _ ⟨rfl, rfl⟩
    refine .y (.not rfl) trivial rfl rfl ?_
    refine .nil ?_
    refine .cond rfl (fun h2 => ?_) (fun h2 => ?_)
    · exact absurd h2 (by simp [hfit])
    · refine .skip ?_
      refine .seq ?_
      refine .seq ?_
      refine .region ?_
      refine .y (.load rfl (.own 3 rfl) ag_28 sz_28 rfl) trivial rfl rfl ?_
      refine .c (.call rfl rfl fn_52) trivial rfl rfl (fun own ho hd => cells_ct _ ) ?_
      rintro _ _ ⟨B4, rfl, rfl⟩
      refine .nil ?_
      refine .block ?_
      refine T.range (N := C * Rw) (enc := fun k1 => [.int .i64 (k1 : Int), .agg #[.int .i64 ((cellAt C k1).col), .int .i64 ((cellAt C k1).row)]]) (r := [As.one B4 (.cells #[.int .i64 (C : Int), .int .i64 (Rw : Int), .slice ra rods.length rc] 28 (0, 0))]) (fun k1 => [ExA (fun ms => ExpOk C Rw rods (mostTo C rods (fun _ => true) (C * Rw)) k1 0 ms) (fun ms => MapO vN M1 ms), As.one B3 (.cells #[.pointer (some ⟨B2, 0, none⟩)] 115 (0, 0)), As.one B2 (.cells (fieldC C Rw ra rods.length rc (mostTo C rods (fun _ => true) (C * Rw)) M1).toArray 124 (0, 0)), As.one B1 (.cells #[.int .i64 (C : Int), .int .i64 (Rw : Int), .slice ra rods.length rc] 28 (0, 0))]) (fun _ _ => False) rfl fn_123 (fun own ho hd => cells1_it _ (one_in 0 rfl ho hd) (by first | assumption | omega)) (.exA [] .zero (.pickc 3 rfl one_mapO (.pick 1 rfl (.pick 1 rfl (.pick 1 rfl (.pick 0 rfl (.refl _))))))) (fun _ => rfl) (fun p hp => by simp at hp; show p < 87; omega) (fun l1 k1 hk1 => ?_) ?_ ?_
      · have h25k1 : k1 < 25 := Nat.lt_of_lt_of_le hk1 (Nat.mul_le_mul hc.2.1 hc.2.2.2)
        refine .exA fun ms1 hxms1 => ?_
        refine .seq ?_
        refine .region ?_
        refine .y (.assign rfl) trivial rfl rfl ?_
        refine .nil ?_
        refine .region ?_
        refine .n (.alloc zr_30) trivial rfl rfl fun B5 => ?_
        refine .cons trivial (.store 0 rfl rfl rfl sz_30 rfl rfl (Nat.le_of_ble_eq_true rfl) rfl ?_)
        refine .nil ?_
        refine ⟨rfl, ?_⟩
        refine .block ?_
        refine .seq ?_
        refine .region ?_
        refine .y (.fieldAddr rfl fl_28_2) trivial rfl rfl ?_
        refine .y (.load rfl (.own 4 rfl) ag_26 sz_26 rfl) trivial rfl rfl ?_
        refine .y (.len rfl sl_26) trivial rfl rfl ?_
        refine .y (.move rfl) trivial rfl rfl ?_
        refine .nil ?_
        refine .block ?_
        refine T.loop (ι := { zz : Nat × List (Cell × Nat) // zz.1 ≤ rods.length ∧ ExpOk C Rw rods (mostTo C rods (fun _ => true) (C * Rw)) k1 zz.1 zz.2 }) (fun zz => ([(43, .int .i64 (zz.1.1 : Int)), (7, .pointer (some ⟨B3, 0, none⟩)), (8, .int .i64 (k1 : Int)), (9, .pointer (some ⟨B5, 0, none⟩)), (41, .slice ra rods.length rc), (42, .int .i64 (rods.length : Int))], [As.one B5 (.cells #[.int .i64 ((cellAt C k1).col), .int .i64 ((cellAt C k1).row)] 30 (0, 0)), MapO vN M1 zz.1.2, As.one B3 (.cells #[.pointer (some ⟨B2, 0, none⟩)] 115 (0, 0)), As.one B2 (.cells (fieldC C Rw ra rods.length rc (mostTo C rods (fun _ => true) (C * Rw)) M1).toArray 124 (0, 0)), As.one B1 (.cells #[.int .i64 (C : Int), .int .i64 (Rw : Int), .slice ra rods.length rc] 28 (0, 0))])) (fun zz => rods.length - zz.1.1) ⟨(0, ms1), ⟨by omega, hxms1⟩⟩ (.one rfl (.one rfl (.one rfl (.one rfl (.one rfl (.one rfl (.nil))))))) (.refl _) ?_
        rintro ⟨⟨j, ms⟩, hP2⟩
        dsimp only at hP2
        show T _ [(43, .int .i64 (j : Int)), (7, .pointer (some ⟨B3, 0, none⟩)), (8, .int .i64 (k1 : Int)), (9, .pointer (some ⟨B5, 0, none⟩)), (41, .slice ra rods.length rc), (42, .int .i64 (rods.length : Int))] [As.one B5 (.cells #[.int .i64 ((cellAt C k1).col), .int .i64 ((cellAt C k1).row)] 30 (0, 0)), MapO vN M1 ms, As.one B3 (.cells #[.pointer (some ⟨B2, 0, none⟩)] 115 (0, 0)), As.one B2 (.cells (fieldC C Rw ra rods.length rc (mostTo C rods (fun _ => true) (C * Rw)) M1).toArray 124 (0, 0)), As.one B1 (.cells #[.int .i64 (C : Int), .int .i64 (Rw : Int), .slice ra rods.length rc] 28 (0, 0))] _ _
        refine .seq ?_
        refine .region ?_
        refine .y (.lss rfl rfl) trivial rfl rfl ?_
        refine .nil ?_
        refine .seq ?_
        refine .ite rfl (fun h3 => ?_) (fun h3 => ?_)
        · refine .skip ?_
          refine .seq ?_
          refine .block ?_
          refine .seq ?_
          refine .region ?_
          refine .y (.move rfl) trivial rfl rfl ?_
          have hbhx1 : j < rods.length := by omega
          obtain ⟨x1, hx1⟩ : ∃ x1, rods[j]? = some x1 := ⟨_, List.getElem?_eq_getElem hbhx1⟩
          refine .y (.indexE (E := eRod) rfl rfl (.g hr) rfl sl_26 sz_32 (by omega)) trivial rfl rfl ?_
          refine .y (.loadE (E := eRod) rfl (.g hr) ag_32 sz_32 (by decide) (eRod.rd0 hx1 (by decide) (by decide) rfl)) trivial rfl rfl ?_
          refine .n (.alloc zr_32) trivial rfl rfl fun B6 => ?_
          refine .y (.assign rfl) trivial rfl rfl ?_
          refine .cons trivial (.store 0 rfl rfl rfl sz_32 rfl rfl (Nat.le_of_ble_eq_true rfl) rfl ?_)
          refine .nil ?_
          refine .seq ?_
          refine .region ?_
          refine .y (.load rfl (.own 1 rfl) ag_30 sz_30 rfl) trivial rfl rfl ?_
          refine .y (.fieldAddr rfl fl_32_0) trivial rfl rfl ?_
          refine .y (.load rfl (.own 0 rfl) ag_30 sz_30 rfl) trivial rfl rfl ?_
          refine .c (.call rfl rfl fn_53) trivial rfl rfl (fun own ho hd => from_ct _ (by first | assumption | exact (show RodOk _ from (by assumption)).1 | exact (getRod hv (by assumption)).1 | exact cellAt_Sm hc.2.1 hc.2.2.2 (by assumption)) (by first | assumption | exact (show RodOk _ from (by assumption)).1 | exact (getRod hv (by assumption)).1 | exact cellAt_Sm hc.2.1 hc.2.2.2 (by assumption))) ?_
          rintro _ _ ⟨rfl, rfl⟩
          refine .y (.assign rfl) trivial rfl rfl ?_
          refine .nil ?_
          refine .seq ?_
          refine T.dr (N := 87) [] [0, 0, 2, 7, 15, 31, 63, 127, 255, 511, 1023, 1023, 2047, 6143, 16383, 32767, 1023, 131071, 1023, 263167, 1048575, 2097151] 20 (by kernel_rfl) flw rfl (Nat.le_of_ble_eq_true rfl) ?_
          refine .y (.move rfl) trivial ?_
          refine .y (.fieldAddr rfl fl_32_1) trivial ?_
          refine .y (.load rfl (.own 0 rfl) ag_3 sz_3 rfl) trivial ?_
          refine .y (.leq rfl rfl) trivial ?_
          refine .y (.move rfl) trivial ?_
          cases hb1 : (decide ((dist (cellAt C k1) x1.tip) ≤ x1.range) : Bool)
          · refine .skip ⟨_, rfl, rfl⟩ ?_
            refine .skip ⟨_, rfl, rfl⟩ ?_
            refine .skip ⟨_, rfl, rfl⟩ ?_
            refine .y (.pick_f rfl rfl) trivial ?_
            refine .y (.move rfl) trivial ?_
            refine .skip ⟨_, rfl, rfl⟩ ?_
            refine .skip ⟨_, rfl, rfl⟩ ?_
            refine .skip ⟨_, rfl, rfl⟩ ?_
            refine .skip ⟨_, rfl, rfl⟩ ?_
            refine .skip ⟨_, rfl, rfl⟩ ?_
            refine .skip ⟨_, rfl, rfl⟩ ?_
            refine .skip ⟨_, rfl, rfl⟩ ?_
            refine .skip ⟨_, rfl, rfl⟩ ?_
            refine .skip ⟨_, rfl, rfl⟩ ?_
            refine .skip ⟨_, rfl, rfl⟩ ?_
            refine .nil ?_
            refine .skip ⟨_, rfl, rfl⟩ rfl ?_
            refine .y (.pick_f rfl rfl) trivial rfl rfl ?_
            refine .nil ?_
            refine .cond_f rfl ?_
            refine .skip ?_
            refine .region ?_
            refine .y (.add rfl rfl (by omega)) trivial rfl rfl ?_
            refine .y (.move rfl) trivial rfl rfl ?_
            refine .nil ?_
            refine ⟨⟨(j + 1, ms), ?_⟩, ?_, (.one rfl (.one rfl (.one rfl (.one rfl (.one rfl (.one rfl (.nil))))))), (.pick 1 rfl (.pick 1 rfl (.pick 1 rfl (.pick 1 rfl (.pick 1 rfl (.nil _))))))⟩
            · exact ⟨by omega, hP2.2.out hx1 (fun e => by first | exact absurd e.1 (of_decide_eq_false hb1) | exact absurd e.2.1 (of_decide_eq_false hb2) | (have e3 := e.2.2; rw [getD_of hx2] at e3; omega))⟩
            · show rods.length - (j + 1) < rods.length - j; omega
          · refine .y (.fieldAddr rfl fl_32_2) ⟨_, rfl, rfl⟩ ?_
            refine .y (.load rfl (.own 0 rfl) ag_3 sz_3 rfl) ⟨_, rfl, rfl⟩ ?_
            refine .y (.gtr rfl rfl) ⟨_, rfl, rfl⟩ ?_
            refine .y (.pick_t rfl rfl) trivial ?_
            refine .y (.move rfl) trivial ?_
            cases hb2 : (decide (0 < x1.shows) : Bool)
            · refine .skip ⟨_, rfl, rfl⟩ ?_
              refine .skip ⟨_, rfl, rfl⟩ ?_
              refine .skip ⟨_, rfl, rfl⟩ ?_
              refine .skip ⟨_, rfl, rfl⟩ ?_
              refine .skip ⟨_, rfl, rfl⟩ ?_
              refine .skip ⟨_, rfl, rfl⟩ ?_
              refine .skip ⟨_, rfl, rfl⟩ ?_
              refine .skip ⟨_, rfl, rfl⟩ ?_
              refine .skip ⟨_, rfl, rfl⟩ ?_
              refine .skip ⟨_, rfl, rfl⟩ ?_
              refine .nil ?_
              refine .skip ⟨_, rfl, rfl⟩ rfl ?_
              refine .y (.pick_f rfl rfl) trivial rfl rfl ?_
              refine .nil ?_
              refine .cond_f rfl ?_
              refine .skip ?_
              refine .region ?_
              refine .y (.add rfl rfl (by omega)) trivial rfl rfl ?_
              refine .y (.move rfl) trivial rfl rfl ?_
              refine .nil ?_
              refine ⟨⟨(j + 1, ms), ?_⟩, ?_, (.one rfl (.one rfl (.one rfl (.one rfl (.one rfl (.one rfl (.nil))))))), (.pick 1 rfl (.pick 1 rfl (.pick 1 rfl (.pick 1 rfl (.pick 1 rfl (.nil _))))))⟩
              · exact ⟨by omega, hP2.2.out hx1 (fun e => by first | exact absurd e.1 (of_decide_eq_false hb1) | exact absurd e.2.1 (of_decide_eq_false hb2) | (have e3 := e.2.2; rw [getD_of hx2] at e3; omega))⟩
              · show rods.length - (j + 1) < rods.length - j; omega
            · refine .y (.load rfl (.own 3 rfl) ag_115 sz_115 rfl) ⟨_, rfl, rfl⟩ ?_
              refine .y (.move rfl) ⟨_, rfl, rfl⟩ ?_
              refine .y (.nilCheck rfl) ⟨_, rfl, rfl⟩ ?_
              refine .y (.fieldAddr rfl fl_124_1) ⟨_, rfl, rfl⟩ ?_
              refine .y (.indexAddrA rfl rfl ar_121 sz_3 (by omega)) ⟨_, rfl, rfl⟩ ?_
              obtain ⟨x2, hx2⟩ : ∃ x2, (mostTo C rods (fun _ => true) (C * Rw))[k1]? = some x2 := ⟨_, List.getElem?_eq_getElem (show k1 < (mostTo C rods (fun _ => true) (C * Rw)).length from (by first | omega | (simp; omega) | exact Nat.le_trans (membI_len _) (by decide) | (simp [*]; done) | (simp [*]; omega)))⟩
              refine .y (.load (v := .int .i64 x2) rfl (.own 4 rfl) ag_3 sz_3 (rdF_at hx2 (by simp) _)) ⟨_, rfl, rfl⟩ ?_
              refine .y (.move rfl) ⟨_, rfl, rfl⟩ ?_
              refine .y (.sub rfl rfl (by have h8 := mostTo_bd hc.2.1 hc.2.2.2 (Nat.le_refl _) hv _ (List.mem_of_getElem? hx2); have h9 := dist_bd (cellAt_Sm hc.2.1 hc.2.2.2 hk1) (getRod hv hx1).1; omega)) ⟨_, rfl, rfl⟩ ?_
              refine .y (.fieldAddr rfl fl_32_2) ⟨_, rfl, rfl⟩ ?_
              refine .y (.load rfl (.own 0 rfl) ag_3 sz_3 rfl) ⟨_, rfl, rfl⟩ ?_
              refine .nil ?_
              refine .y (.eql rfl rfl) ⟨_, rfl, rfl⟩ rfl rfl ?_
              refine .y (.pick_t rfl rfl) trivial rfl rfl ?_
              refine .nil ?_
              refine .ite rfl (fun h4 => ?_) (fun h4 => ?_)
              · refine T.any #[false, false, false, false, false, false, false, false, false, false, false, false] rfl 12 rfl flw ?_
                refine .use fun F hF => ?_
                have s1_4095 : ∀ (st_9 : Int) (ms_9 : List (Cell × Nat)) (he_9 : ∀ d, mlook (0 : Nat) ms_9 d = mlook (0 : Nat) ms d) (hk_9 : ∀ p ∈ ms_9, p = ((cellAt C k1), (0 : Nat)) ∨ p ∈ ms) (ms_11 : List (Cell × Nat)) (he_11 : ∀ d, mlook (0 : Nat) ms_11 d = if d = (cellAt C k1) then (mlook (0 : Nat) ms (cellAt C k1)) ||| (2 ^ j) else mlook (0 : Nat) ms_9 d) (hk_11 : ∀ p ∈ ms_11, p = ((cellAt C k1), (mlook (0 : Nat) ms (cellAt C k1)) ||| (2 ^ j)) ∨ p ∈ ms_9), F 0 #[true, true, true, true, true, true, true, true, true, true, true, true] [(7, .pointer (some ⟨B3, 0, none⟩)), (8, .int .i64 (k1 : Int)), (9, .pointer (some ⟨B5, 0, none⟩)), (41, .slice ra rods.length rc), (42, .int .i64 (rods.length : Int)), (43, .int .i64 (j : Int))] [As.one B6 (.cells #[.int .i64 x1.tip.col, .int .i64 x1.tip.row, .int .i64 x1.range, .int .i64 x1.shows] 32 (0, 0)), As.one B5 (.cells #[.int .i64 ((cellAt C k1).col), .int .i64 ((cellAt C k1).row)] 30 (0, 0)), MapO vN M1 ms_11, As.one B3 (.cells #[.pointer (some ⟨B2, 0, none⟩)] 115 (0, 0)), As.one B2 (.cells (fieldC C Rw ra rods.length rc (mostTo C rods (fun _ => true) (C * Rw)) M1).toArray 124 (0, 0)), As.one B1 (.cells #[.int .i64 (C : Int), .int .i64 (Rw : Int), .slice ra rods.length rc] 28 (0, 0))] := by
                  intro st_9 ms_9 he_9 hk_9 ms_11 he_11 hk_11
                  subst hF
                  refine .done (by kernel_rfl) ?_
                  refine .region ?_
                  refine .y (.add rfl rfl (by omega)) trivial rfl rfl ?_
                  refine .y (.move rfl) trivial rfl rfl ?_
                  refine .nil ?_
                  refine ⟨⟨(j + 1, ms_11), ?_⟩, ?_, (.one rfl (.one rfl (.one rfl (.one rfl (.one rfl (.one rfl (.nil))))))), (.pick 1 rfl (.pick 1 rfl (.pick 1 rfl (.pick 1 rfl (.pick 1 rfl (.nil _))))))⟩
                  · exact ⟨by omega, hP2.2.into hk1 hx1 ⟨of_decide_eq_true hb1, of_decide_eq_true hb2, by rw [getD_of hx2]; omega⟩ he_9 hk_9 he_11 hk_11 (by omega)⟩
                  · show rods.length - (j + 1) < rods.length - j; omega
                have s1_2047 : ∀ (st_9 : Int) (ms_9 : List (Cell × Nat)) (he_9 : ∀ d, mlook (0 : Nat) ms_9 d = mlook (0 : Nat) ms d) (hk_9 : ∀ p ∈ ms_9, p = ((cellAt C k1), (0 : Nat)) ∨ p ∈ ms), F 1 #[true, true, true, true, true, true, true, true, true, true, true, false] [(7, .pointer (some ⟨B3, 0, none⟩)), (8, .int .i64 (k1 : Int)), (9, .pointer (some ⟨B5, 0, none⟩)), (41, .slice ra rods.length rc), (42, .int .i64 (rods.length : Int)), (43, .int .i64 (j : Int)), (77, .map (some M1)), (82, .int .i64 (((mlook (0 : Nat) ms (cellAt C k1)) ||| (2 ^ j) : Nat) : Int)), (84, .int .i64 st_9)] [As.one B6 (.cells #[.int .i64 x1.tip.col, .int .i64 x1.tip.row, .int .i64 x1.range, .int .i64 x1.shows] 32 (0, 0)), As.one B5 (.cells #[.int .i64 ((cellAt C k1).col), .int .i64 ((cellAt C k1).row)] 30 (0, 0)), MapE vN M1 ms_9 (cellAt C k1) st_9, As.one B3 (.cells #[.pointer (some ⟨B2, 0, none⟩)] 115 (0, 0)), As.one B2 (.cells (fieldC C Rw ra rods.length rc (mostTo C rods (fun _ => true) (C * Rw)) M1).toArray 124 (0, 0)), As.one B1 (.cells #[.int .i64 (C : Int), .int .i64 (Rw : Int), .slice ra rods.length rc] 28 (0, 0))] := by
                  intro st_9 ms_9 he_9 hk_9
                  subst hF
                  refine .step (l := [11]) (by kernel_rfl) (by decide) ⟨.run rfl trivial ?_, trivial⟩
                  · refine .entryStore (ev := vN) (v := (mlook (0 : Nat) ms (cellAt C k1)) ||| (2 ^ j)) (c := (cellAt C k1)) 2 (0 : Nat) rfl rfl rfl rfl rfl fun ms_11 he_11 hk_11 => ?_
                    exact .weak (.one rfl (.one rfl (.one rfl (.one rfl (.one rfl (.one rfl (.nil))))))) (.refl _) (s1_4095 st_9 ms_9 he_9 hk_9 ms_11 he_11 hk_11)
                have s1_1023 : ∀ (st_9 : Int) (ms_9 : List (Cell × Nat)) (he_9 : ∀ d, mlook (0 : Nat) ms_9 d = mlook (0 : Nat) ms d) (hk_9 : ∀ p ∈ ms_9, p = ((cellAt C k1), (0 : Nat)) ∨ p ∈ ms), F 2 #[true, true, true, true, true, true, true, true, true, true, false, false] [(7, .pointer (some ⟨B3, 0, none⟩)), (8, .int .i64 (k1 : Int)), (9, .pointer (some ⟨B5, 0, none⟩)), (41, .slice ra rods.length rc), (42, .int .i64 (rods.length : Int)), (43, .int .i64 (j : Int)), (77, .map (some M1)), (82, .int .i64 (((mlook (0 : Nat) ms (cellAt C k1)) ||| (2 ^ j) : Nat) : Int)), (83, .tuple #[.int .i64 ((mlook (0 : Nat) ms (cellAt C k1) : Nat) : Int), .int .i64 st_9])] [As.one B6 (.cells #[.int .i64 x1.tip.col, .int .i64 x1.tip.row, .int .i64 x1.range, .int .i64 x1.shows] 32 (0, 0)), As.one B5 (.cells #[.int .i64 ((cellAt C k1).col), .int .i64 ((cellAt C k1).row)] 30 (0, 0)), MapE vN M1 ms_9 (cellAt C k1) st_9, As.one B3 (.cells #[.pointer (some ⟨B2, 0, none⟩)] 115 (0, 0)), As.one B2 (.cells (fieldC C Rw ra rods.length rc (mostTo C rods (fun _ => true) (C * Rw)) M1).toArray 124 (0, 0)), As.one B1 (.cells #[.int .i64 (C : Int), .int .i64 (Rw : Int), .slice ra rods.length rc] 28 (0, 0))] := by
                  intro st_9 ms_9 he_9 hk_9
                  subst hF
                  refine .step (l := [10]) (by kernel_rfl) (by decide) ⟨.run rfl trivial ?_, trivial⟩
                  · refine .y (.extract rfl rfl) rfl rfl ?_
                    exact .weak (.one rfl (.one rfl (.one rfl (.one rfl (.one rfl (.one rfl (.one rfl (.one rfl (.one rfl (.nil)))))))))) (.refl _) (s1_2047 st_9 ms_9 he_9 hk_9)
                have s1_1791 : ∀ (st_9 : Int) (ms_9 : List (Cell × Nat)) (he_9 : ∀ d, mlook (0 : Nat) ms_9 d = mlook (0 : Nat) ms d) (hk_9 : ∀ p ∈ ms_9, p = ((cellAt C k1), (0 : Nat)) ∨ p ∈ ms), F 2 #[true, true, true, true, true, true, true, true, false, true, true, false] [(7, .pointer (some ⟨B3, 0, none⟩)), (8, .int .i64 (k1 : Int)), (9, .pointer (some ⟨B5, 0, none⟩)), (41, .slice ra rods.length rc), (42, .int .i64 (rods.length : Int)), (43, .int .i64 (j : Int)), (77, .map (some M1)), (79, .int .i64 ((mlook (0 : Nat) ms (cellAt C k1) : Nat) : Int)), (81, .int .i64 ((2 ^ j : Nat) : Int)), (84, .int .i64 st_9)] [As.one B6 (.cells #[.int .i64 x1.tip.col, .int .i64 x1.tip.row, .int .i64 x1.range, .int .i64 x1.shows] 32 (0, 0)), As.one B5 (.cells #[.int .i64 ((cellAt C k1).col), .int .i64 ((cellAt C k1).row)] 30 (0, 0)), MapE vN M1 ms_9 (cellAt C k1) st_9, As.one B3 (.cells #[.pointer (some ⟨B2, 0, none⟩)] 115 (0, 0)), As.one B2 (.cells (fieldC C Rw ra rods.length rc (mostTo C rods (fun _ => true) (C * Rw)) M1).toArray 124 (0, 0)), As.one B1 (.cells #[.int .i64 (C : Int), .int .i64 (Rw : Int), .slice ra rods.length rc] 28 (0, 0))] := by
                  intro st_9 ms_9 he_9 hk_9
                  subst hF
                  refine .step (l := [8]) (by kernel_rfl) (by decide) ⟨.run rfl trivial ?_, trivial⟩
                  · refine .y (.orN (a := mlook (0 : Nat) ms (cellAt C k1)) (b := 2 ^ j) rfl rfl ⟨by rw [hP2.2.at hk1]; exact exIn_lt j 63 (by omega), Nat.pow_lt_pow_right (by decide) (by omega)⟩) rfl rfl ?_
                    exact .weak (.one rfl (.one rfl (.one rfl (.one rfl (.one rfl (.one rfl (.one rfl (.one rfl (.one rfl (.nil)))))))))) (.refl _) (s1_2047 st_9 ms_9 he_9 hk_9)
                have s1_511 : F 3 #[true, true, true, true, true, true, true, true, true, false, false, false] [(7, .pointer (some ⟨B3, 0, none⟩)), (8, .int .i64 (k1 : Int)), (9, .pointer (some ⟨B5, 0, none⟩)), (41, .slice ra rods.length rc), (42, .int .i64 (rods.length : Int)), (43, .int .i64 (j : Int)), (77, .map (some M1)), (78, .agg #[.int .i64 ((cellAt C k1).col), .int .i64 ((cellAt C k1).row)]), (82, .int .i64 (((mlook (0 : Nat) ms (cellAt C k1)) ||| (2 ^ j) : Nat) : Int))] [As.one B6 (.cells #[.int .i64 x1.tip.col, .int .i64 x1.tip.row, .int .i64 x1.range, .int .i64 x1.shows] 32 (0, 0)), As.one B5 (.cells #[.int .i64 ((cellAt C k1).col), .int .i64 ((cellAt C k1).row)] 30 (0, 0)), MapO vN M1 ms, As.one B3 (.cells #[.pointer (some ⟨B2, 0, none⟩)] 115 (0, 0)), As.one B2 (.cells (fieldC C Rw ra rods.length rc (mostTo C rods (fun _ => true) (C * Rw)) M1).toArray 124 (0, 0)), As.one B1 (.cells #[.int .i64 (C : Int), .int .i64 (Rw : Int), .slice ra rods.length rc] 28 (0, 0))] := by
                  subst hF
                  refine .step (l := [9]) (by kernel_rfl) (by decide) ⟨.run rfl trivial ?_, trivial⟩
                  · refine .mapEntry (ev := vN) (c := (cellAt C k1)) 2 (0 : Nat) rfl rfl rfl mp_122 tw_30 zr_3 rfl fun st_9 ms_9 he_9 hk_9 => ?_
                    exact .weak (.one rfl (.one rfl (.one rfl (.one rfl (.one rfl (.one rfl (.one rfl (.one rfl (.one rfl (.nil)))))))))) (.refl _) (s1_1023 st_9 ms_9 he_9 hk_9)
                have s1_767 : ∀ (st_9 : Int) (ms_9 : List (Cell × Nat)) (he_9 : ∀ d, mlook (0 : Nat) ms_9 d = mlook (0 : Nat) ms d) (hk_9 : ∀ p ∈ ms_9, p = ((cellAt C k1), (0 : Nat)) ∨ p ∈ ms), F 3 #[true, true, true, true, true, true, true, true, false, true, false, false] [(7, .pointer (some ⟨B3, 0, none⟩)), (8, .int .i64 (k1 : Int)), (9, .pointer (some ⟨B5, 0, none⟩)), (41, .slice ra rods.length rc), (42, .int .i64 (rods.length : Int)), (43, .int .i64 (j : Int)), (77, .map (some M1)), (79, .int .i64 ((mlook (0 : Nat) ms (cellAt C k1) : Nat) : Int)), (81, .int .i64 ((2 ^ j : Nat) : Int)), (83, .tuple #[.int .i64 ((mlook (0 : Nat) ms (cellAt C k1) : Nat) : Int), .int .i64 st_9])] [As.one B6 (.cells #[.int .i64 x1.tip.col, .int .i64 x1.tip.row, .int .i64 x1.range, .int .i64 x1.shows] 32 (0, 0)), As.one B5 (.cells #[.int .i64 ((cellAt C k1).col), .int .i64 ((cellAt C k1).row)] 30 (0, 0)), MapE vN M1 ms_9 (cellAt C k1) st_9, As.one B3 (.cells #[.pointer (some ⟨B2, 0, none⟩)] 115 (0, 0)), As.one B2 (.cells (fieldC C Rw ra rods.length rc (mostTo C rods (fun _ => true) (C * Rw)) M1).toArray 124 (0, 0)), As.one B1 (.cells #[.int .i64 (C : Int), .int .i64 (Rw : Int), .slice ra rods.length rc] 28 (0, 0))] := by
                  intro st_9 ms_9 he_9 hk_9
                  subst hF
                  refine .step (l := [8, 10]) (by kernel_rfl) (by decide) ⟨.run rfl trivial ?_, .run rfl trivial ?_, trivial⟩
                  · refine .y (.orN (a := mlook (0 : Nat) ms (cellAt C k1)) (b := 2 ^ j) rfl rfl ⟨by rw [hP2.2.at hk1]; exact exIn_lt j 63 (by omega), Nat.pow_lt_pow_right (by decide) (by omega)⟩) rfl rfl ?_
                    exact .weak (.one rfl (.one rfl (.one rfl (.one rfl (.one rfl (.one rfl (.one rfl (.one rfl (.one rfl (.nil)))))))))) (.refl _) (s1_1023 st_9 ms_9 he_9 hk_9)
                  · refine .y (.extract rfl rfl) rfl rfl ?_
                    exact .weak (.one rfl (.one rfl (.one rfl (.one rfl (.one rfl (.one rfl (.one rfl (.one rfl (.one rfl (.one rfl (.nil))))))))))) (.refl _) (s1_1791 st_9 ms_9 he_9 hk_9)
                have s1_1759 : ∀ (st_9 : Int) (ms_9 : List (Cell × Nat)) (he_9 : ∀ d, mlook (0 : Nat) ms_9 d = mlook (0 : Nat) ms d) (hk_9 : ∀ p ∈ ms_9, p = ((cellAt C k1), (0 : Nat)) ∨ p ∈ ms), F 3 #[true, true, true, true, true, false, true, true, false, true, true, false] [(7, .pointer (some ⟨B3, 0, none⟩)), (8, .int .i64 (k1 : Int)), (9, .pointer (some ⟨B5, 0, none⟩)), (41, .slice ra rods.length rc), (42, .int .i64 (rods.length : Int)), (43, .int .i64 (j : Int)), (77, .map (some M1)), (78, .agg #[.int .i64 ((cellAt C k1).col), .int .i64 ((cellAt C k1).row)]), (81, .int .i64 ((2 ^ j : Nat) : Int)), (84, .int .i64 st_9)] [As.one B6 (.cells #[.int .i64 x1.tip.col, .int .i64 x1.tip.row, .int .i64 x1.range, .int .i64 x1.shows] 32 (0, 0)), As.one B5 (.cells #[.int .i64 ((cellAt C k1).col), .int .i64 ((cellAt C k1).row)] 30 (0, 0)), MapE vN M1 ms_9 (cellAt C k1) st_9, As.one B3 (.cells #[.pointer (some ⟨B2, 0, none⟩)] 115 (0, 0)), As.one B2 (.cells (fieldC C Rw ra rods.length rc (mostTo C rods (fun _ => true) (C * Rw)) M1).toArray 124 (0, 0)), As.one B1 (.cells #[.int .i64 (C : Int), .int .i64 (Rw : Int), .slice ra rods.length rc] 28 (0, 0))] := by
                  intro st_9 ms_9 he_9 hk_9
                  subst hF
                  refine .step (l := [5]) (by kernel_rfl) (by decide) ⟨.run rfl trivial ?_, trivial⟩
                  · refine .y (.to (v' := vN (mlook (0 : Nat) ms (cellAt C k1))) (.lookup (ev := vN) (z := (0 : Nat)) (c := (cellAt C k1)) rfl rfl (.ownE 2 rfl) mp_122 tw_30 zr_3) (congrArg vN (he_9 _))) rfl rfl ?_
                    exact .weak (.one rfl (.one rfl (.one rfl (.one rfl (.one rfl (.one rfl (.one rfl (.one rfl (.one rfl (.one rfl (.nil))))))))))) (.refl _) (s1_1791 st_9 ms_9 he_9 hk_9)
                have s1_255 : F 4 #[true, true, true, true, true, true, true, true, false, false, false, false] [(7, .pointer (some ⟨B3, 0, none⟩)), (8, .int .i64 (k1 : Int)), (9, .pointer (some ⟨B5, 0, none⟩)), (41, .slice ra rods.length rc), (42, .int .i64 (rods.length : Int)), (43, .int .i64 (j : Int)), (77, .map (some M1)), (78, .agg #[.int .i64 ((cellAt C k1).col), .int .i64 ((cellAt C k1).row)]), (79, .int .i64 ((mlook (0 : Nat) ms (cellAt C k1) : Nat) : Int)), (81, .int .i64 ((2 ^ j : Nat) : Int))] [As.one B6 (.cells #[.int .i64 x1.tip.col, .int .i64 x1.tip.row, .int .i64 x1.range, .int .i64 x1.shows] 32 (0, 0)), As.one B5 (.cells #[.int .i64 ((cellAt C k1).col), .int .i64 ((cellAt C k1).row)] 30 (0, 0)), MapO vN M1 ms, As.one B3 (.cells #[.pointer (some ⟨B2, 0, none⟩)] 115 (0, 0)), As.one B2 (.cells (fieldC C Rw ra rods.length rc (mostTo C rods (fun _ => true) (C * Rw)) M1).toArray 124 (0, 0)), As.one B1 (.cells #[.int .i64 (C : Int), .int .i64 (Rw : Int), .slice ra rods.length rc] 28 (0, 0))] := by
                  subst hF
                  refine .step (l := [8, 9]) (by kernel_rfl) (by decide) ⟨.run rfl trivial ?_, .run rfl trivial ?_, trivial⟩
                  · refine .y (.orN (a := mlook (0 : Nat) ms (cellAt C k1)) (b := 2 ^ j) rfl rfl ⟨by rw [hP2.2.at hk1]; exact exIn_lt j 63 (by omega), Nat.pow_lt_pow_right (by decide) (by omega)⟩) rfl rfl ?_
                    exact .weak (.one rfl (.one rfl (.one rfl (.one rfl (.one rfl (.one rfl (.one rfl (.one rfl (.one rfl (.nil)))))))))) (.refl _) (s1_511)
                  · refine .mapEntry (ev := vN) (c := (cellAt C k1)) 2 (0 : Nat) rfl rfl rfl mp_122 tw_30 zr_3 rfl fun st_9 ms_9 he_9 hk_9 => ?_
                    exact .weak (.one rfl (.one rfl (.one rfl (.one rfl (.one rfl (.one rfl (.one rfl (.one rfl (.one rfl (.one rfl (.nil))))))))))) (.refl _) (s1_767 st_9 ms_9 he_9 hk_9)
                have s1_735 : ∀ (st_9 : Int) (ms_9 : List (Cell × Nat)) (he_9 : ∀ d, mlook (0 : Nat) ms_9 d = mlook (0 : Nat) ms d) (hk_9 : ∀ p ∈ ms_9, p = ((cellAt C k1), (0 : Nat)) ∨ p ∈ ms), F 4 #[true, true, true, true, true, false, true, true, false, true, false, false] [(7, .pointer (some ⟨B3, 0, none⟩)), (8, .int .i64 (k1 : Int)), (9, .pointer (some ⟨B5, 0, none⟩)), (41, .slice ra rods.length rc), (42, .int .i64 (rods.length : Int)), (43, .int .i64 (j : Int)), (77, .map (some M1)), (78, .agg #[.int .i64 ((cellAt C k1).col), .int .i64 ((cellAt C k1).row)]), (81, .int .i64 ((2 ^ j : Nat) : Int)), (83, .tuple #[.int .i64 ((mlook (0 : Nat) ms (cellAt C k1) : Nat) : Int), .int .i64 st_9])] [As.one B6 (.cells #[.int .i64 x1.tip.col, .int .i64 x1.tip.row, .int .i64 x1.range, .int .i64 x1.shows] 32 (0, 0)), As.one B5 (.cells #[.int .i64 ((cellAt C k1).col), .int .i64 ((cellAt C k1).row)] 30 (0, 0)), MapE vN M1 ms_9 (cellAt C k1) st_9, As.one B3 (.cells #[.pointer (some ⟨B2, 0, none⟩)] 115 (0, 0)), As.one B2 (.cells (fieldC C Rw ra rods.length rc (mostTo C rods (fun _ => true) (C * Rw)) M1).toArray 124 (0, 0)), As.one B1 (.cells #[.int .i64 (C : Int), .int .i64 (Rw : Int), .slice ra rods.length rc] 28 (0, 0))] := by
                  intro st_9 ms_9 he_9 hk_9
                  subst hF
                  refine .step (l := [5, 10]) (by kernel_rfl) (by decide) ⟨.run rfl trivial ?_, .run rfl trivial ?_, trivial⟩
                  · refine .y (.to (v' := vN (mlook (0 : Nat) ms (cellAt C k1))) (.lookup (ev := vN) (z := (0 : Nat)) (c := (cellAt C k1)) rfl rfl (.ownE 2 rfl) mp_122 tw_30 zr_3) (congrArg vN (he_9 _))) rfl rfl ?_
                    exact .weak (.one rfl (.one rfl (.one rfl (.one rfl (.one rfl (.one rfl (.one rfl (.one rfl (.one rfl (.one rfl (.nil))))))))))) (.refl _) (s1_767 st_9 ms_9 he_9 hk_9)
                  · refine .y (.extract rfl rfl) rfl rfl ?_
                    exact .weak (.one rfl (.one rfl (.one rfl (.one rfl (.one rfl (.one rfl (.one rfl (.one rfl (.one rfl (.one rfl (.nil))))))))))) (.refl _) (s1_1759 st_9 ms_9 he_9 hk_9)
                have s1_127 : F 5 #[true, true, true, true, true, true, true, false, false, false, false, false] [(7, .pointer (some ⟨B3, 0, none⟩)), (8, .int .i64 (k1 : Int)), (9, .pointer (some ⟨B5, 0, none⟩)), (41, .slice ra rods.length rc), (42, .int .i64 (rods.length : Int)), (43, .int .i64 (j : Int)), (77, .map (some M1)), (78, .agg #[.int .i64 ((cellAt C k1).col), .int .i64 ((cellAt C k1).row)]), (79, .int .i64 ((mlook (0 : Nat) ms (cellAt C k1) : Nat) : Int)), (80, .int .i64 (j : Int))] [As.one B6 (.cells #[.int .i64 x1.tip.col, .int .i64 x1.tip.row, .int .i64 x1.range, .int .i64 x1.shows] 32 (0, 0)), As.one B5 (.cells #[.int .i64 ((cellAt C k1).col), .int .i64 ((cellAt C k1).row)] 30 (0, 0)), MapO vN M1 ms, As.one B3 (.cells #[.pointer (some ⟨B2, 0, none⟩)] 115 (0, 0)), As.one B2 (.cells (fieldC C Rw ra rods.length rc (mostTo C rods (fun _ => true) (C * Rw)) M1).toArray 124 (0, 0)), As.one B1 (.cells #[.int .i64 (C : Int), .int .i64 (Rw : Int), .slice ra rods.length rc] 28 (0, 0))] := by
                  subst hF
                  refine .step (l := [7]) (by kernel_rfl) (by decide) ⟨.run rfl trivial ?_, trivial⟩
                  · refine .y (.shlN (b := j) rfl rfl (by omega)) rfl rfl ?_
                    exact .weak (.one rfl (.one rfl (.one rfl (.one rfl (.one rfl (.one rfl (.one rfl (.one rfl (.one rfl (.one rfl (.nil))))))))))) (.refl _) (s1_255)
                have s1_223 : F 5 #[true, true, true, true, true, false, true, true, false, false, false, false] [(7, .pointer (some ⟨B3, 0, none⟩)), (8, .int .i64 (k1 : Int)), (9, .pointer (some ⟨B5, 0, none⟩)), (41, .slice ra rods.length rc), (42, .int .i64 (rods.length : Int)), (43, .int .i64 (j : Int)), (77, .map (some M1)), (78, .agg #[.int .i64 ((cellAt C k1).col), .int .i64 ((cellAt C k1).row)]), (81, .int .i64 ((2 ^ j : Nat) : Int))] [As.one B6 (.cells #[.int .i64 x1.tip.col, .int .i64 x1.tip.row, .int .i64 x1.range, .int .i64 x1.shows] 32 (0, 0)), As.one B5 (.cells #[.int .i64 ((cellAt C k1).col), .int .i64 ((cellAt C k1).row)] 30 (0, 0)), MapO vN M1 ms, As.one B3 (.cells #[.pointer (some ⟨B2, 0, none⟩)] 115 (0, 0)), As.one B2 (.cells (fieldC C Rw ra rods.length rc (mostTo C rods (fun _ => true) (C * Rw)) M1).toArray 124 (0, 0)), As.one B1 (.cells #[.int .i64 (C : Int), .int .i64 (Rw : Int), .slice ra rods.length rc] 28 (0, 0))] := by
                  subst hF
                  refine .step (l := [5, 9]) (by kernel_rfl) (by decide) ⟨.run rfl trivial ?_, .run rfl trivial ?_, trivial⟩
                  · refine .y (.lookup (ev := vN) (z := (0 : Nat)) (c := (cellAt C k1)) rfl rfl (.own 2 rfl) mp_122 tw_30 zr_3) rfl rfl ?_
                    exact .weak (.one rfl (.one rfl (.one rfl (.one rfl (.one rfl (.one rfl (.one rfl (.one rfl (.one rfl (.one rfl (.nil))))))))))) (.refl _) (s1_255)
                  · refine .mapEntry (ev := vN) (c := (cellAt C k1)) 2 (0 : Nat) rfl rfl rfl mp_122 tw_30 zr_3 rfl fun st_9 ms_9 he_9 hk_9 => ?_
                    exact .weak (.one rfl (.one rfl (.one rfl (.one rfl (.one rfl (.one rfl (.one rfl (.one rfl (.one rfl (.one rfl (.nil))))))))))) (.refl _) (s1_735 st_9 ms_9 he_9 hk_9)
                have s1_63 : F 6 #[true, true, true, true, true, true, false, false, false, false, false, false] [(7, .pointer (some ⟨B3, 0, none⟩)), (8, .int .i64 (k1 : Int)), (9, .pointer (some ⟨B5, 0, none⟩)), (10, .int .i64 (j : Int)), (41, .slice ra rods.length rc), (42, .int .i64 (rods.length : Int)), (43, .int .i64 (j : Int)), (77, .map (some M1)), (78, .agg #[.int .i64 ((cellAt C k1).col), .int .i64 ((cellAt C k1).row)]), (79, .int .i64 ((mlook (0 : Nat) ms (cellAt C k1) : Nat) : Int))] [As.one B6 (.cells #[.int .i64 x1.tip.col, .int .i64 x1.tip.row, .int .i64 x1.range, .int .i64 x1.shows] 32 (0, 0)), As.one B5 (.cells #[.int .i64 ((cellAt C k1).col), .int .i64 ((cellAt C k1).row)] 30 (0, 0)), MapO vN M1 ms, As.one B3 (.cells #[.pointer (some ⟨B2, 0, none⟩)] 115 (0, 0)), As.one B2 (.cells (fieldC C Rw ra rods.length rc (mostTo C rods (fun _ => true) (C * Rw)) M1).toArray 124 (0, 0)), As.one B1 (.cells #[.int .i64 (C : Int), .int .i64 (Rw : Int), .slice ra rods.length rc] 28 (0, 0))] := by
                  subst hF
                  refine .step (l := [6]) (by kernel_rfl) (by decide) ⟨.run rfl trivial ?_, trivial⟩
                  · refine .y (.move rfl) rfl rfl ?_
                    exact .weak (.one rfl (.one rfl (.one rfl (.one rfl (.one rfl (.one rfl (.one rfl (.one rfl (.one rfl (.one rfl (.nil))))))))))) (.refl _) (s1_127)
                have s1_95 : F 6 #[true, true, true, true, true, false, true, false, false, false, false, false] [(7, .pointer (some ⟨B3, 0, none⟩)), (8, .int .i64 (k1 : Int)), (9, .pointer (some ⟨B5, 0, none⟩)), (41, .slice ra rods.length rc), (42, .int .i64 (rods.length : Int)), (43, .int .i64 (j : Int)), (77, .map (some M1)), (78, .agg #[.int .i64 ((cellAt C k1).col), .int .i64 ((cellAt C k1).row)]), (80, .int .i64 (j : Int))] [As.one B6 (.cells #[.int .i64 x1.tip.col, .int .i64 x1.tip.row, .int .i64 x1.range, .int .i64 x1.shows] 32 (0, 0)), As.one B5 (.cells #[.int .i64 ((cellAt C k1).col), .int .i64 ((cellAt C k1).row)] 30 (0, 0)), MapO vN M1 ms, As.one B3 (.cells #[.pointer (some ⟨B2, 0, none⟩)] 115 (0, 0)), As.one B2 (.cells (fieldC C Rw ra rods.length rc (mostTo C rods (fun _ => true) (C * Rw)) M1).toArray 124 (0, 0)), As.one B1 (.cells #[.int .i64 (C : Int), .int .i64 (Rw : Int), .slice ra rods.length rc] 28 (0, 0))] := by
                  subst hF
                  refine .step (l := [5, 7]) (by kernel_rfl) (by decide) ⟨.run rfl trivial ?_, .run rfl trivial ?_, trivial⟩
                  · refine .y (.lookup (ev := vN) (z := (0 : Nat)) (c := (cellAt C k1)) rfl rfl (.own 2 rfl) mp_122 tw_30 zr_3) rfl rfl ?_
                    exact .weak (.one rfl (.one rfl (.one rfl (.one rfl (.one rfl (.one rfl (.one rfl (.one rfl (.one rfl (.one rfl (.nil))))))))))) (.refl _) (s1_127)
                  · refine .y (.shlN (b := j) rfl rfl (by omega)) rfl rfl ?_
                    exact .weak (.one rfl (.one rfl (.one rfl (.one rfl (.one rfl (.one rfl (.one rfl (.one rfl (.one rfl (.nil)))))))))) (.refl _) (s1_223)
                have s1_207 : F 6 #[true, true, true, true, false, false, true, true, false, false, false, false] [(7, .pointer (some ⟨B3, 0, none⟩)), (8, .int .i64 (k1 : Int)), (9, .pointer (some ⟨B5, 0, none⟩)), (41, .slice ra rods.length rc), (42, .int .i64 (rods.length : Int)), (43, .int .i64 (j : Int)), (77, .map (some M1)), (81, .int .i64 ((2 ^ j : Nat) : Int))] [As.one B6 (.cells #[.int .i64 x1.tip.col, .int .i64 x1.tip.row, .int .i64 x1.range, .int .i64 x1.shows] 32 (0, 0)), As.one B5 (.cells #[.int .i64 ((cellAt C k1).col), .int .i64 ((cellAt C k1).row)] 30 (0, 0)), MapO vN M1 ms, As.one B3 (.cells #[.pointer (some ⟨B2, 0, none⟩)] 115 (0, 0)), As.one B2 (.cells (fieldC C Rw ra rods.length rc (mostTo C rods (fun _ => true) (C * Rw)) M1).toArray 124 (0, 0)), As.one B1 (.cells #[.int .i64 (C : Int), .int .i64 (Rw : Int), .slice ra rods.length rc] 28 (0, 0))] := by
                  subst hF
                  refine .step (l := [4]) (by kernel_rfl) (by decide) ⟨.run rfl trivial ?_, trivial⟩
                  · refine .y (.load rfl (.own 1 rfl) ag_30 sz_30 rfl) rfl rfl ?_
                    exact .weak (.one rfl (.one rfl (.one rfl (.one rfl (.one rfl (.one rfl (.one rfl (.one rfl (.one rfl (.nil)))))))))) (.refl _) (s1_223)
                have s1_215 : F 6 #[true, true, true, false, true, false, true, true, false, false, false, false] [(7, .pointer (some ⟨B3, 0, none⟩)), (8, .int .i64 (k1 : Int)), (9, .pointer (some ⟨B5, 0, none⟩)), (41, .slice ra rods.length rc), (42, .int .i64 (rods.length : Int)), (43, .int .i64 (j : Int)), (76, .pointer (some ⟨B2, 28, none⟩)), (78, .agg #[.int .i64 ((cellAt C k1).col), .int .i64 ((cellAt C k1).row)]), (81, .int .i64 ((2 ^ j : Nat) : Int))] [As.one B6 (.cells #[.int .i64 x1.tip.col, .int .i64 x1.tip.row, .int .i64 x1.range, .int .i64 x1.shows] 32 (0, 0)), As.one B5 (.cells #[.int .i64 ((cellAt C k1).col), .int .i64 ((cellAt C k1).row)] 30 (0, 0)), MapO vN M1 ms, As.one B3 (.cells #[.pointer (some ⟨B2, 0, none⟩)] 115 (0, 0)), As.one B2 (.cells (fieldC C Rw ra rods.length rc (mostTo C rods (fun _ => true) (C * Rw)) M1).toArray 124 (0, 0)), As.one B1 (.cells #[.int .i64 (C : Int), .int .i64 (Rw : Int), .slice ra rods.length rc] 28 (0, 0))] := by
                  subst hF
                  refine .step (l := [3]) (by kernel_rfl) (by decide) ⟨.run rfl trivial ?_, trivial⟩
                  · refine .y (.load rfl (.own 4 rfl) ag_122 sz_122 (rdF_map (by first | omega | (simp; omega) | exact Nat.le_trans (membI_len _) (by decide) | (simp [*]; done) | (simp [*]; omega)) _)) rfl rfl ?_
                    exact .weak (.one rfl (.one rfl (.one rfl (.one rfl (.one rfl (.one rfl (.one rfl (.one rfl (.one rfl (.nil)))))))))) (.refl _) (s1_223)
                have s1_31 : F 7 #[true, true, true, true, true, false, false, false, false, false, false, false] [(7, .pointer (some ⟨B3, 0, none⟩)), (8, .int .i64 (k1 : Int)), (9, .pointer (some ⟨B5, 0, none⟩)), (10, .int .i64 (j : Int)), (41, .slice ra rods.length rc), (42, .int .i64 (rods.length : Int)), (43, .int .i64 (j : Int)), (77, .map (some M1)), (78, .agg #[.int .i64 ((cellAt C k1).col), .int .i64 ((cellAt C k1).row)])] [As.one B6 (.cells #[.int .i64 x1.tip.col, .int .i64 x1.tip.row, .int .i64 x1.range, .int .i64 x1.shows] 32 (0, 0)), As.one B5 (.cells #[.int .i64 ((cellAt C k1).col), .int .i64 ((cellAt C k1).row)] 30 (0, 0)), MapO vN M1 ms, As.one B3 (.cells #[.pointer (some ⟨B2, 0, none⟩)] 115 (0, 0)), As.one B2 (.cells (fieldC C Rw ra rods.length rc (mostTo C rods (fun _ => true) (C * Rw)) M1).toArray 124 (0, 0)), As.one B1 (.cells #[.int .i64 (C : Int), .int .i64 (Rw : Int), .slice ra rods.length rc] 28 (0, 0))] := by
                  subst hF
                  refine .step (l := [5, 6]) (by kernel_rfl) (by decide) ⟨.run rfl trivial ?_, .run rfl trivial ?_, trivial⟩
                  · refine .y (.lookup (ev := vN) (z := (0 : Nat)) (c := (cellAt C k1)) rfl rfl (.own 2 rfl) mp_122 tw_30 zr_3) rfl rfl ?_
                    exact .weak (.one rfl (.one rfl (.one rfl (.one rfl (.one rfl (.one rfl (.one rfl (.one rfl (.one rfl (.one rfl (.nil))))))))))) (.refl _) (s1_63)
                  · refine .y (.move rfl) rfl rfl ?_
                    exact .weak (.one rfl (.one rfl (.one rfl (.one rfl (.one rfl (.one rfl (.one rfl (.one rfl (.one rfl (.nil)))))))))) (.refl _) (s1_95)
                have s1_79 : F 7 #[true, true, true, true, false, false, true, false, false, false, false, false] [(7, .pointer (some ⟨B3, 0, none⟩)), (8, .int .i64 (k1 : Int)), (9, .pointer (some ⟨B5, 0, none⟩)), (41, .slice ra rods.length rc), (42, .int .i64 (rods.length : Int)), (43, .int .i64 (j : Int)), (77, .map (some M1)), (80, .int .i64 (j : Int))] [As.one B6 (.cells #[.int .i64 x1.tip.col, .int .i64 x1.tip.row, .int .i64 x1.range, .int .i64 x1.shows] 32 (0, 0)), As.one B5 (.cells #[.int .i64 ((cellAt C k1).col), .int .i64 ((cellAt C k1).row)] 30 (0, 0)), MapO vN M1 ms, As.one B3 (.cells #[.pointer (some ⟨B2, 0, none⟩)] 115 (0, 0)), As.one B2 (.cells (fieldC C Rw ra rods.length rc (mostTo C rods (fun _ => true) (C * Rw)) M1).toArray 124 (0, 0)), As.one B1 (.cells #[.int .i64 (C : Int), .int .i64 (Rw : Int), .slice ra rods.length rc] 28 (0, 0))] := by
                  subst hF
                  refine .step (l := [4, 7]) (by kernel_rfl) (by decide) ⟨.run rfl trivial ?_, .run rfl trivial ?_, trivial⟩
                  · refine .y (.load rfl (.own 1 rfl) ag_30 sz_30 rfl) rfl rfl ?_
                    exact .weak (.one rfl (.one rfl (.one rfl (.one rfl (.one rfl (.one rfl (.one rfl (.one rfl (.one rfl (.nil)))))))))) (.refl _) (s1_95)
                  · refine .y (.shlN (b := j) rfl rfl (by omega)) rfl rfl ?_
                    exact .weak (.one rfl (.one rfl (.one rfl (.one rfl (.one rfl (.one rfl (.one rfl (.one rfl (.nil))))))))) (.refl _) (s1_207)
                have s1_87 : F 7 #[true, true, true, false, true, false, true, false, false, false, false, false] [(7, .pointer (some ⟨B3, 0, none⟩)), (8, .int .i64 (k1 : Int)), (9, .pointer (some ⟨B5, 0, none⟩)), (41, .slice ra rods.length rc), (42, .int .i64 (rods.length : Int)), (43, .int .i64 (j : Int)), (76, .pointer (some ⟨B2, 28, none⟩)), (78, .agg #[.int .i64 ((cellAt C k1).col), .int .i64 ((cellAt C k1).row)]), (80, .int .i64 (j : Int))] [As.one B6 (.cells #[.int .i64 x1.tip.col, .int .i64 x1.tip.row, .int .i64 x1.range, .int .i64 x1.shows] 32 (0, 0)), As.one B5 (.cells #[.int .i64 ((cellAt C k1).col), .int .i64 ((cellAt C k1).row)] 30 (0, 0)), MapO vN M1 ms, As.one B3 (.cells #[.pointer (some ⟨B2, 0, none⟩)] 115 (0, 0)), As.one B2 (.cells (fieldC C Rw ra rods.length rc (mostTo C rods (fun _ => true) (C * Rw)) M1).toArray 124 (0, 0)), As.one B1 (.cells #[.int .i64 (C : Int), .int .i64 (Rw : Int), .slice ra rods.length rc] 28 (0, 0))] := by
                  subst hF
                  refine .step (l := [3, 7]) (by kernel_rfl) (by decide) ⟨.run rfl trivial ?_, .run rfl trivial ?_, trivial⟩
                  · refine .y (.load rfl (.own 4 rfl) ag_122 sz_122 (rdF_map (by first | omega | (simp; omega) | exact Nat.le_trans (membI_len _) (by decide) | (simp [*]; done) | (simp [*]; omega)) _)) rfl rfl ?_
                    exact .weak (.one rfl (.one rfl (.one rfl (.one rfl (.one rfl (.one rfl (.one rfl (.one rfl (.one rfl (.nil)))))))))) (.refl _) (s1_95)
                  · refine .y (.shlN (b := j) rfl rfl (by omega)) rfl rfl ?_
                    exact .weak (.one rfl (.one rfl (.one rfl (.one rfl (.one rfl (.one rfl (.one rfl (.one rfl (.one rfl (.nil)))))))))) (.refl _) (s1_215)
                have s1_199 : F 7 #[true, true, true, false, false, false, true, true, false, false, false, false] [(7, .pointer (some ⟨B3, 0, none⟩)), (8, .int .i64 (k1 : Int)), (9, .pointer (some ⟨B5, 0, none⟩)), (41, .slice ra rods.length rc), (42, .int .i64 (rods.length : Int)), (43, .int .i64 (j : Int)), (76, .pointer (some ⟨B2, 28, none⟩)), (81, .int .i64 ((2 ^ j : Nat) : Int))] [As.one B6 (.cells #[.int .i64 x1.tip.col, .int .i64 x1.tip.row, .int .i64 x1.range, .int .i64 x1.shows] 32 (0, 0)), As.one B5 (.cells #[.int .i64 ((cellAt C k1).col), .int .i64 ((cellAt C k1).row)] 30 (0, 0)), MapO vN M1 ms, As.one B3 (.cells #[.pointer (some ⟨B2, 0, none⟩)] 115 (0, 0)), As.one B2 (.cells (fieldC C Rw ra rods.length rc (mostTo C rods (fun _ => true) (C * Rw)) M1).toArray 124 (0, 0)), As.one B1 (.cells #[.int .i64 (C : Int), .int .i64 (Rw : Int), .slice ra rods.length rc] 28 (0, 0))] := by
                  subst hF
                  refine .step (l := [3, 4]) (by kernel_rfl) (by decide) ⟨.run rfl trivial ?_, .run rfl trivial ?_, trivial⟩
                  · refine .y (.load rfl (.own 4 rfl) ag_122 sz_122 (rdF_map (by first | omega | (simp; omega) | exact Nat.le_trans (membI_len _) (by decide) | (simp [*]; done) | (simp [*]; omega)) _)) rfl rfl ?_
                    exact .weak (.one rfl (.one rfl (.one rfl (.one rfl (.one rfl (.one rfl (.one rfl (.one rfl (.nil))))))))) (.refl _) (s1_207)
                  · refine .y (.load rfl (.own 1 rfl) ag_30 sz_30 rfl) rfl rfl ?_
                    exact .weak (.one rfl (.one rfl (.one rfl (.one rfl (.one rfl (.one rfl (.one rfl (.one rfl (.one rfl (.nil)))))))))) (.refl _) (s1_215)
                have s1_211 : F 7 #[true, true, false, false, true, false, true, true, false, false, false, false] [(7, .pointer (some ⟨B3, 0, none⟩)), (8, .int .i64 (k1 : Int)), (9, .pointer (some ⟨B5, 0, none⟩)), (41, .slice ra rods.length rc), (42, .int .i64 (rods.length : Int)), (43, .int .i64 (j : Int)), (75, .pointer (some ⟨B2, 0, none⟩)), (78, .agg #[.int .i64 ((cellAt C k1).col), .int .i64 ((cellAt C k1).row)]), (81, .int .i64 ((2 ^ j : Nat) : Int))] [As.one B6 (.cells #[.int .i64 x1.tip.col, .int .i64 x1.tip.row, .int .i64 x1.range, .int .i64 x1.shows] 32 (0, 0)), As.one B5 (.cells #[.int .i64 ((cellAt C k1).col), .int .i64 ((cellAt C k1).row)] 30 (0, 0)), MapO vN M1 ms, As.one B3 (.cells #[.pointer (some ⟨B2, 0, none⟩)] 115 (0, 0)), As.one B2 (.cells (fieldC C Rw ra rods.length rc (mostTo C rods (fun _ => true) (C * Rw)) M1).toArray 124 (0, 0)), As.one B1 (.cells #[.int .i64 (C : Int), .int .i64 (Rw : Int), .slice ra rods.length rc] 28 (0, 0))] := by
                  subst hF
                  refine .step (l := [2]) (by kernel_rfl) (by decide) ⟨.run rfl trivial ?_, trivial⟩
                  · refine .y (.fieldAddr rfl fl_124_2) rfl rfl ?_
                    exact .weak (.one rfl (.one rfl (.one rfl (.one rfl (.one rfl (.one rfl (.one rfl (.one rfl (.one rfl (.nil)))))))))) (.refl _) (s1_215)
                have s1_15 : F 8 #[true, true, true, true, false, false, false, false, false, false, false, false] [(7, .pointer (some ⟨B3, 0, none⟩)), (8, .int .i64 (k1 : Int)), (9, .pointer (some ⟨B5, 0, none⟩)), (10, .int .i64 (j : Int)), (41, .slice ra rods.length rc), (42, .int .i64 (rods.length : Int)), (43, .int .i64 (j : Int)), (77, .map (some M1))] [As.one B6 (.cells #[.int .i64 x1.tip.col, .int .i64 x1.tip.row, .int .i64 x1.range, .int .i64 x1.shows] 32 (0, 0)), As.one B5 (.cells #[.int .i64 ((cellAt C k1).col), .int .i64 ((cellAt C k1).row)] 30 (0, 0)), MapO vN M1 ms, As.one B3 (.cells #[.pointer (some ⟨B2, 0, none⟩)] 115 (0, 0)), As.one B2 (.cells (fieldC C Rw ra rods.length rc (mostTo C rods (fun _ => true) (C * Rw)) M1).toArray 124 (0, 0)), As.one B1 (.cells #[.int .i64 (C : Int), .int .i64 (Rw : Int), .slice ra rods.length rc] 28 (0, 0))] := by
                  subst hF
                  refine .step (l := [4, 6]) (by kernel_rfl) (by decide) ⟨.run rfl trivial ?_, .run rfl trivial ?_, trivial⟩
                  · refine .y (.load rfl (.own 1 rfl) ag_30 sz_30 rfl) rfl rfl ?_
                    exact .weak (.one rfl (.one rfl (.one rfl (.one rfl (.one rfl (.one rfl (.one rfl (.one rfl (.one rfl (.nil)))))))))) (.refl _) (s1_31)
                  · refine .y (.move rfl) rfl rfl ?_
                    exact .weak (.one rfl (.one rfl (.one rfl (.one rfl (.one rfl (.one rfl (.one rfl (.one rfl (.nil))))))))) (.refl _) (s1_79)
                have s1_23 : F 8 #[true, true, true, false, true, false, false, false, false, false, false, false] [(7, .pointer (some ⟨B3, 0, none⟩)), (8, .int .i64 (k1 : Int)), (9, .pointer (some ⟨B5, 0, none⟩)), (10, .int .i64 (j : Int)), (41, .slice ra rods.length rc), (42, .int .i64 (rods.length : Int)), (43, .int .i64 (j : Int)), (76, .pointer (some ⟨B2, 28, none⟩)), (78, .agg #[.int .i64 ((cellAt C k1).col), .int .i64 ((cellAt C k1).row)])] [As.one B6 (.cells #[.int .i64 x1.tip.col, .int .i64 x1.tip.row, .int .i64 x1.range, .int .i64 x1.shows] 32 (0, 0)), As.one B5 (.cells #[.int .i64 ((cellAt C k1).col), .int .i64 ((cellAt C k1).row)] 30 (0, 0)), MapO vN M1 ms, As.one B3 (.cells #[.pointer (some ⟨B2, 0, none⟩)] 115 (0, 0)), As.one B2 (.cells (fieldC C Rw ra rods.length rc (mostTo C rods (fun _ => true) (C * Rw)) M1).toArray 124 (0, 0)), As.one B1 (.cells #[.int .i64 (C : Int), .int .i64 (Rw : Int), .slice ra rods.length rc] 28 (0, 0))] := by
                  subst hF
                  refine .step (l := [3, 6]) (by kernel_rfl) (by decide) ⟨.run rfl trivial ?_, .run rfl trivial ?_, trivial⟩
                  · refine .y (.load rfl (.own 4 rfl) ag_122 sz_122 (rdF_map (by first | omega | (simp; omega) | exact Nat.le_trans (membI_len _) (by decide) | (simp [*]; done) | (simp [*]; omega)) _)) rfl rfl ?_
                    exact .weak (.one rfl (.one rfl (.one rfl (.one rfl (.one rfl (.one rfl (.one rfl (.one rfl (.one rfl (.nil)))))))))) (.refl _) (s1_31)
                  · refine .y (.move rfl) rfl rfl ?_
                    exact .weak (.one rfl (.one rfl (.one rfl (.one rfl (.one rfl (.one rfl (.one rfl (.one rfl (.one rfl (.nil)))))))))) (.refl _) (s1_87)
                have s1_71 : F 8 #[true, true, true, false, false, false, true, false, false, false, false, false] [(7, .pointer (some ⟨B3, 0, none⟩)), (8, .int .i64 (k1 : Int)), (9, .pointer (some ⟨B5, 0, none⟩)), (41, .slice ra rods.length rc), (42, .int .i64 (rods.length : Int)), (43, .int .i64 (j : Int)), (76, .pointer (some ⟨B2, 28, none⟩)), (80, .int .i64 (j : Int))] [As.one B6 (.cells #[.int .i64 x1.tip.col, .int .i64 x1.tip.row, .int .i64 x1.range, .int .i64 x1.shows] 32 (0, 0)), As.one B5 (.cells #[.int .i64 ((cellAt C k1).col), .int .i64 ((cellAt C k1).row)] 30 (0, 0)), MapO vN M1 ms, As.one B3 (.cells #[.pointer (some ⟨B2, 0, none⟩)] 115 (0, 0)), As.one B2 (.cells (fieldC C Rw ra rods.length rc (mostTo C rods (fun _ => true) (C * Rw)) M1).toArray 124 (0, 0)), As.one B1 (.cells #[.int .i64 (C : Int), .int .i64 (Rw : Int), .slice ra rods.length rc] 28 (0, 0))] := by
                  subst hF
                  refine .step (l := [3, 4, 7]) (by kernel_rfl) (by decide) ⟨.run rfl trivial ?_, .run rfl trivial ?_, .run rfl trivial ?_, trivial⟩
                  · refine .y (.load rfl (.own 4 rfl) ag_122 sz_122 (rdF_map (by first | omega | (simp; omega) | exact Nat.le_trans (membI_len _) (by decide) | (simp [*]; done) | (simp [*]; omega)) _)) rfl rfl ?_
                    exact .weak (.one rfl (.one rfl (.one rfl (.one rfl (.one rfl (.one rfl (.one rfl (.one rfl (.nil))))))))) (.refl _) (s1_79)
                  · refine .y (.load rfl (.own 1 rfl) ag_30 sz_30 rfl) rfl rfl ?_
                    exact .weak (.one rfl (.one rfl (.one rfl (.one rfl (.one rfl (.one rfl (.one rfl (.one rfl (.one rfl (.nil)))))))))) (.refl _) (s1_87)
                  · refine .y (.shlN (b := j) rfl rfl (by omega)) rfl rfl ?_
                    exact .weak (.one rfl (.one rfl (.one rfl (.one rfl (.one rfl (.one rfl (.one rfl (.one rfl (.nil))))))))) (.refl _) (s1_199)
                have s1_83 : F 8 #[true, true, false, false, true, false, true, false, false, false, false, false] [(7, .pointer (some ⟨B3, 0, none⟩)), (8, .int .i64 (k1 : Int)), (9, .pointer (some ⟨B5, 0, none⟩)), (41, .slice ra rods.length rc), (42, .int .i64 (rods.length : Int)), (43, .int .i64 (j : Int)), (75, .pointer (some ⟨B2, 0, none⟩)), (78, .agg #[.int .i64 ((cellAt C k1).col), .int .i64 ((cellAt C k1).row)]), (80, .int .i64 (j : Int))] [As.one B6 (.cells #[.int .i64 x1.tip.col, .int .i64 x1.tip.row, .int .i64 x1.range, .int .i64 x1.shows] 32 (0, 0)), As.one B5 (.cells #[.int .i64 ((cellAt C k1).col), .int .i64 ((cellAt C k1).row)] 30 (0, 0)), MapO vN M1 ms, As.one B3 (.cells #[.pointer (some ⟨B2, 0, none⟩)] 115 (0, 0)), As.one B2 (.cells (fieldC C Rw ra rods.length rc (mostTo C rods (fun _ => true) (C * Rw)) M1).toArray 124 (0, 0)), As.one B1 (.cells #[.int .i64 (C : Int), .int .i64 (Rw : Int), .slice ra rods.length rc] 28 (0, 0))] := by
                  subst hF
                  refine .step (l := [2, 7]) (by kernel_rfl) (by decide) ⟨.run rfl trivial ?_, .run rfl trivial ?_, trivial⟩
                  · refine .y (.fieldAddr rfl fl_124_2) rfl rfl ?_
                    exact .weak (.one rfl (.one rfl (.one rfl (.one rfl (.one rfl (.one rfl (.one rfl (.one rfl (.one rfl (.nil)))))))))) (.refl _) (s1_87)
                  · refine .y (.shlN (b := j) rfl rfl (by omega)) rfl rfl ?_
                    exact .weak (.one rfl (.one rfl (.one rfl (.one rfl (.one rfl (.one rfl (.one rfl (.one rfl (.one rfl (.nil)))))))))) (.refl _) (s1_211)
                have s1_195 : F 8 #[true, true, false, false, false, false, true, true, false, false, false, false] [(7, .pointer (some ⟨B3, 0, none⟩)), (8, .int .i64 (k1 : Int)), (9, .pointer (some ⟨B5, 0, none⟩)), (41, .slice ra rods.length rc), (42, .int .i64 (rods.length : Int)), (43, .int .i64 (j : Int)), (75, .pointer (some ⟨B2, 0, none⟩)), (81, .int .i64 ((2 ^ j : Nat) : Int))] [As.one B6 (.cells #[.int .i64 x1.tip.col, .int .i64 x1.tip.row, .int .i64 x1.range, .int .i64 x1.shows] 32 (0, 0)), As.one B5 (.cells #[.int .i64 ((cellAt C k1).col), .int .i64 ((cellAt C k1).row)] 30 (0, 0)), MapO vN M1 ms, As.one B3 (.cells #[.pointer (some ⟨B2, 0, none⟩)] 115 (0, 0)), As.one B2 (.cells (fieldC C Rw ra rods.length rc (mostTo C rods (fun _ => true) (C * Rw)) M1).toArray 124 (0, 0)), As.one B1 (.cells #[.int .i64 (C : Int), .int .i64 (Rw : Int), .slice ra rods.length rc] 28 (0, 0))] := by
                  subst hF
                  refine .step (l := [2, 4]) (by kernel_rfl) (by decide) ⟨.run rfl trivial ?_, .run rfl trivial ?_, trivial⟩
                  · refine .y (.fieldAddr rfl fl_124_2) rfl rfl ?_
                    exact .weak (.one rfl (.one rfl (.one rfl (.one rfl (.one rfl (.one rfl (.one rfl (.one rfl (.nil))))))))) (.refl _) (s1_199)
                  · refine .y (.load rfl (.own 1 rfl) ag_30 sz_30 rfl) rfl rfl ?_
                    exact .weak (.one rfl (.one rfl (.one rfl (.one rfl (.one rfl (.one rfl (.one rfl (.one rfl (.one rfl (.nil)))))))))) (.refl _) (s1_211)
                have s1_209 : F 8 #[true, false, false, false, true, false, true, true, false, false, false, false] [(7, .pointer (some ⟨B3, 0, none⟩)), (8, .int .i64 (k1 : Int)), (9, .pointer (some ⟨B5, 0, none⟩)), (41, .slice ra rods.length rc), (42, .int .i64 (rods.length : Int)), (43, .int .i64 (j : Int)), (74, .pointer (some ⟨B2, 0, none⟩)), (78, .agg #[.int .i64 ((cellAt C k1).col), .int .i64 ((cellAt C k1).row)]), (81, .int .i64 ((2 ^ j : Nat) : Int))] [As.one B6 (.cells #[.int .i64 x1.tip.col, .int .i64 x1.tip.row, .int .i64 x1.range, .int .i64 x1.shows] 32 (0, 0)), As.one B5 (.cells #[.int .i64 ((cellAt C k1).col), .int .i64 ((cellAt C k1).row)] 30 (0, 0)), MapO vN M1 ms, As.one B3 (.cells #[.pointer (some ⟨B2, 0, none⟩)] 115 (0, 0)), As.one B2 (.cells (fieldC C Rw ra rods.length rc (mostTo C rods (fun _ => true) (C * Rw)) M1).toArray 124 (0, 0)), As.one B1 (.cells #[.int .i64 (C : Int), .int .i64 (Rw : Int), .slice ra rods.length rc] 28 (0, 0))] := by
                  subst hF
                  refine .step (l := [1]) (by kernel_rfl) (by decide) ⟨.run rfl trivial ?_, trivial⟩
                  · refine .y (.nilCheck rfl) rfl rfl ?_
                    exact .weak (.one rfl (.one rfl (.one rfl (.one rfl (.one rfl (.one rfl (.one rfl (.one rfl (.one rfl (.nil)))))))))) (.refl _) (s1_211)
                have s1_7 : F 9 #[true, true, true, false, false, false, false, false, false, false, false, false] [(7, .pointer (some ⟨B3, 0, none⟩)), (8, .int .i64 (k1 : Int)), (9, .pointer (some ⟨B5, 0, none⟩)), (10, .int .i64 (j : Int)), (41, .slice ra rods.length rc), (42, .int .i64 (rods.length : Int)), (43, .int .i64 (j : Int)), (76, .pointer (some ⟨B2, 28, none⟩))] [As.one B6 (.cells #[.int .i64 x1.tip.col, .int .i64 x1.tip.row, .int .i64 x1.range, .int .i64 x1.shows] 32 (0, 0)), As.one B5 (.cells #[.int .i64 ((cellAt C k1).col), .int .i64 ((cellAt C k1).row)] 30 (0, 0)), MapO vN M1 ms, As.one B3 (.cells #[.pointer (some ⟨B2, 0, none⟩)] 115 (0, 0)), As.one B2 (.cells (fieldC C Rw ra rods.length rc (mostTo C rods (fun _ => true) (C * Rw)) M1).toArray 124 (0, 0)), As.one B1 (.cells #[.int .i64 (C : Int), .int .i64 (Rw : Int), .slice ra rods.length rc] 28 (0, 0))] := by
                  subst hF
                  refine .step (l := [3, 4, 6]) (by kernel_rfl) (by decide) ⟨.run rfl trivial ?_, .run rfl trivial ?_, .run rfl trivial ?_, trivial⟩
                  · refine .y (.load rfl (.own 4 rfl) ag_122 sz_122 (rdF_map (by first | omega | (simp; omega) | exact Nat.le_trans (membI_len _) (by decide) | (simp [*]; done) | (simp [*]; omega)) _)) rfl rfl ?_
                    exact .weak (.one rfl (.one rfl (.one rfl (.one rfl (.one rfl (.one rfl (.one rfl (.one rfl (.nil))))))))) (.refl _) (s1_15)
                  · refine .y (.load rfl (.own 1 rfl) ag_30 sz_30 rfl) rfl rfl ?_
                    exact .weak (.one rfl (.one rfl (.one rfl (.one rfl (.one rfl (.one rfl (.one rfl (.one rfl (.one rfl (.nil)))))))))) (.refl _) (s1_23)
                  · refine .y (.move rfl) rfl rfl ?_
                    exact .weak (.one rfl (.one rfl (.one rfl (.one rfl (.one rfl (.one rfl (.one rfl (.one rfl (.nil))))))))) (.refl _) (s1_71)
                have s1_19 : F 9 #[true, true, false, false, true, false, false, false, false, false, false, false] [(7, .pointer (some ⟨B3, 0, none⟩)), (8, .int .i64 (k1 : Int)), (9, .pointer (some ⟨B5, 0, none⟩)), (10, .int .i64 (j : Int)), (41, .slice ra rods.length rc), (42, .int .i64 (rods.length : Int)), (43, .int .i64 (j : Int)), (75, .pointer (some ⟨B2, 0, none⟩)), (78, .agg #[.int .i64 ((cellAt C k1).col), .int .i64 ((cellAt C k1).row)])] [As.one B6 (.cells #[.int .i64 x1.tip.col, .int .i64 x1.tip.row, .int .i64 x1.range, .int .i64 x1.shows] 32 (0, 0)), As.one B5 (.cells #[.int .i64 ((cellAt C k1).col), .int .i64 ((cellAt C k1).row)] 30 (0, 0)), MapO vN M1 ms, As.one B3 (.cells #[.pointer (some ⟨B2, 0, none⟩)] 115 (0, 0)), As.one B2 (.cells (fieldC C Rw ra rods.length rc (mostTo C rods (fun _ => true) (C * Rw)) M1).toArray 124 (0, 0)), As.one B1 (.cells #[.int .i64 (C : Int), .int .i64 (Rw : Int), .slice ra rods.length rc] 28 (0, 0))] := by
                  subst hF
                  refine .step (l := [2, 6]) (by kernel_rfl) (by decide) ⟨.run rfl trivial ?_, .run rfl trivial ?_, trivial⟩
                  · refine .y (.fieldAddr rfl fl_124_2) rfl rfl ?_
                    exact .weak (.one rfl (.one rfl (.one rfl (.one rfl (.one rfl (.one rfl (.one rfl (.one rfl (.one rfl (.nil)))))))))) (.refl _) (s1_23)
                  · refine .y (.move rfl) rfl rfl ?_
                    exact .weak (.one rfl (.one rfl (.one rfl (.one rfl (.one rfl (.one rfl (.one rfl (.one rfl (.one rfl (.nil)))))))))) (.refl _) (s1_83)
                have s1_67 : F 9 #[true, true, false, false, false, false, true, false, false, false, false, false] [(7, .pointer (some ⟨B3, 0, none⟩)), (8, .int .i64 (k1 : Int)), (9, .pointer (some ⟨B5, 0, none⟩)), (41, .slice ra rods.length rc), (42, .int .i64 (rods.length : Int)), (43, .int .i64 (j : Int)), (75, .pointer (some ⟨B2, 0, none⟩)), (80, .int .i64 (j : Int))] [As.one B6 (.cells #[.int .i64 x1.tip.col, .int .i64 x1.tip.row, .int .i64 x1.range, .int .i64 x1.shows] 32 (0, 0)), As.one B5 (.cells #[.int .i64 ((cellAt C k1).col), .int .i64 ((cellAt C k1).row)] 30 (0, 0)), MapO vN M1 ms, As.one B3 (.cells #[.pointer (some ⟨B2, 0, none⟩)] 115 (0, 0)), As.one B2 (.cells (fieldC C Rw ra rods.length rc (mostTo C rods (fun _ => true) (C * Rw)) M1).toArray 124 (0, 0)), As.one B1 (.cells #[.int .i64 (C : Int), .int .i64 (Rw : Int), .slice ra rods.length rc] 28 (0, 0))] := by
                  subst hF
                  refine .step (l := [2, 4, 7]) (by kernel_rfl) (by decide) ⟨.run rfl trivial ?_, .run rfl trivial ?_, .run rfl trivial ?_, trivial⟩
                  · refine .y (.fieldAddr rfl fl_124_2) rfl rfl ?_
                    exact .weak (.one rfl (.one rfl (.one rfl (.one rfl (.one rfl (.one rfl (.one rfl (.one rfl (.nil))))))))) (.refl _) (s1_71)
                  · refine .y (.load rfl (.own 1 rfl) ag_30 sz_30 rfl) rfl rfl ?_
                    exact .weak (.one rfl (.one rfl (.one rfl (.one rfl (.one rfl (.one rfl (.one rfl (.one rfl (.one rfl (.nil)))))))))) (.refl _) (s1_83)
                  · refine .y (.shlN (b := j) rfl rfl (by omega)) rfl rfl ?_
                    exact .weak (.one rfl (.one rfl (.one rfl (.one rfl (.one rfl (.one rfl (.one rfl (.one rfl (.nil))))))))) (.refl _) (s1_195)
                have s1_81 : F 9 #[true, false, false, false, true, false, true, false, false, false, false, false] [(7, .pointer (some ⟨B3, 0, none⟩)), (8, .int .i64 (k1 : Int)), (9, .pointer (some ⟨B5, 0, none⟩)), (41, .slice ra rods.length rc), (42, .int .i64 (rods.length : Int)), (43, .int .i64 (j : Int)), (74, .pointer (some ⟨B2, 0, none⟩)), (78, .agg #[.int .i64 ((cellAt C k1).col), .int .i64 ((cellAt C k1).row)]), (80, .int .i64 (j : Int))] [As.one B6 (.cells #[.int .i64 x1.tip.col, .int .i64 x1.tip.row, .int .i64 x1.range, .int .i64 x1.shows] 32 (0, 0)), As.one B5 (.cells #[.int .i64 ((cellAt C k1).col), .int .i64 ((cellAt C k1).row)] 30 (0, 0)), MapO vN M1 ms, As.one B3 (.cells #[.pointer (some ⟨B2, 0, none⟩)] 115 (0, 0)), As.one B2 (.cells (fieldC C Rw ra rods.length rc (mostTo C rods (fun _ => true) (C * Rw)) M1).toArray 124 (0, 0)), As.one B1 (.cells #[.int .i64 (C : Int), .int .i64 (Rw : Int), .slice ra rods.length rc] 28 (0, 0))] := by
                  subst hF
                  refine .step (l := [1, 7]) (by kernel_rfl) (by decide) ⟨.run rfl trivial ?_, .run rfl trivial ?_, trivial⟩
                  · refine .y (.nilCheck rfl) rfl rfl ?_
                    exact .weak (.one rfl (.one rfl (.one rfl (.one rfl (.one rfl (.one rfl (.one rfl (.one rfl (.one rfl (.nil)))))))))) (.refl _) (s1_83)
                  · refine .y (.shlN (b := j) rfl rfl (by omega)) rfl rfl ?_
                    exact .weak (.one rfl (.one rfl (.one rfl (.one rfl (.one rfl (.one rfl (.one rfl (.one rfl (.one rfl (.nil)))))))))) (.refl _) (s1_209)
                have s1_193 : F 9 #[true, false, false, false, false, false, true, true, false, false, false, false] [(7, .pointer (some ⟨B3, 0, none⟩)), (8, .int .i64 (k1 : Int)), (9, .pointer (some ⟨B5, 0, none⟩)), (41, .slice ra rods.length rc), (42, .int .i64 (rods.length : Int)), (43, .int .i64 (j : Int)), (74, .pointer (some ⟨B2, 0, none⟩)), (81, .int .i64 ((2 ^ j : Nat) : Int))] [As.one B6 (.cells #[.int .i64 x1.tip.col, .int .i64 x1.tip.row, .int .i64 x1.range, .int .i64 x1.shows] 32 (0, 0)), As.one B5 (.cells #[.int .i64 ((cellAt C k1).col), .int .i64 ((cellAt C k1).row)] 30 (0, 0)), MapO vN M1 ms, As.one B3 (.cells #[.pointer (some ⟨B2, 0, none⟩)] 115 (0, 0)), As.one B2 (.cells (fieldC C Rw ra rods.length rc (mostTo C rods (fun _ => true) (C * Rw)) M1).toArray 124 (0, 0)), As.one B1 (.cells #[.int .i64 (C : Int), .int .i64 (Rw : Int), .slice ra rods.length rc] 28 (0, 0))] := by
                  subst hF
                  refine .step (l := [1, 4]) (by kernel_rfl) (by decide) ⟨.run rfl trivial ?_, .run rfl trivial ?_, trivial⟩
                  · refine .y (.nilCheck rfl) rfl rfl ?_
                    exact .weak (.one rfl (.one rfl (.one rfl (.one rfl (.one rfl (.one rfl (.one rfl (.one rfl (.nil))))))))) (.refl _) (s1_195)
                  · refine .y (.load rfl (.own 1 rfl) ag_30 sz_30 rfl) rfl rfl ?_
                    exact .weak (.one rfl (.one rfl (.one rfl (.one rfl (.one rfl (.one rfl (.one rfl (.one rfl (.one rfl (.nil)))))))))) (.refl _) (s1_209)
                have s1_208 : F 9 #[false, false, false, false, true, false, true, true, false, false, false, false] [(7, .pointer (some ⟨B3, 0, none⟩)), (8, .int .i64 (k1 : Int)), (9, .pointer (some ⟨B5, 0, none⟩)), (41, .slice ra rods.length rc), (42, .int .i64 (rods.length : Int)), (43, .int .i64 (j : Int)), (78, .agg #[.int .i64 ((cellAt C k1).col), .int .i64 ((cellAt C k1).row)]), (81, .int .i64 ((2 ^ j : Nat) : Int))] [As.one B6 (.cells #[.int .i64 x1.tip.col, .int .i64 x1.tip.row, .int .i64 x1.range, .int .i64 x1.shows] 32 (0, 0)), As.one B5 (.cells #[.int .i64 ((cellAt C k1).col), .int .i64 ((cellAt C k1).row)] 30 (0, 0)), MapO vN M1 ms, As.one B3 (.cells #[.pointer (some ⟨B2, 0, none⟩)] 115 (0, 0)), As.one B2 (.cells (fieldC C Rw ra rods.length rc (mostTo C rods (fun _ => true) (C * Rw)) M1).toArray 124 (0, 0)), As.one B1 (.cells #[.int .i64 (C : Int), .int .i64 (Rw : Int), .slice ra rods.length rc] 28 (0, 0))] := by
                  subst hF
                  refine .step (l := [0]) (by kernel_rfl) (by decide) ⟨.run rfl trivial ?_, trivial⟩
                  · refine .y (.load rfl (.own 3 rfl) ag_115 sz_115 rfl) rfl rfl ?_
                    exact .weak (.one rfl (.one rfl (.one rfl (.one rfl (.one rfl (.one rfl (.one rfl (.one rfl (.one rfl (.nil)))))))))) (.refl _) (s1_209)
                have s1_3 : F 10 #[true, true, false, false, false, false, false, false, false, false, false, false] [(7, .pointer (some ⟨B3, 0, none⟩)), (8, .int .i64 (k1 : Int)), (9, .pointer (some ⟨B5, 0, none⟩)), (10, .int .i64 (j : Int)), (41, .slice ra rods.length rc), (42, .int .i64 (rods.length : Int)), (43, .int .i64 (j : Int)), (75, .pointer (some ⟨B2, 0, none⟩))] [As.one B6 (.cells #[.int .i64 x1.tip.col, .int .i64 x1.tip.row, .int .i64 x1.range, .int .i64 x1.shows] 32 (0, 0)), As.one B5 (.cells #[.int .i64 ((cellAt C k1).col), .int .i64 ((cellAt C k1).row)] 30 (0, 0)), MapO vN M1 ms, As.one B3 (.cells #[.pointer (some ⟨B2, 0, none⟩)] 115 (0, 0)), As.one B2 (.cells (fieldC C Rw ra rods.length rc (mostTo C rods (fun _ => true) (C * Rw)) M1).toArray 124 (0, 0)), As.one B1 (.cells #[.int .i64 (C : Int), .int .i64 (Rw : Int), .slice ra rods.length rc] 28 (0, 0))] := by
                  subst hF
                  refine .step (l := [2, 4, 6]) (by kernel_rfl) (by decide) ⟨.run rfl trivial ?_, .run rfl trivial ?_, .run rfl trivial ?_, trivial⟩
                  · refine .y (.fieldAddr rfl fl_124_2) rfl rfl ?_
                    exact .weak (.one rfl (.one rfl (.one rfl (.one rfl (.one rfl (.one rfl (.one rfl (.one rfl (.nil))))))))) (.refl _) (s1_7)
                  · refine .y (.load rfl (.own 1 rfl) ag_30 sz_30 rfl) rfl rfl ?_
                    exact .weak (.one rfl (.one rfl (.one rfl (.one rfl (.one rfl (.one rfl (.one rfl (.one rfl (.one rfl (.nil)))))))))) (.refl _) (s1_19)
                  · refine .y (.move rfl) rfl rfl ?_
                    exact .weak (.one rfl (.one rfl (.one rfl (.one rfl (.one rfl (.one rfl (.one rfl (.one rfl (.nil))))))))) (.refl _) (s1_67)
                have s1_17 : F 10 #[true, false, false, false, true, false, false, false, false, false, false, false] [(7, .pointer (some ⟨B3, 0, none⟩)), (8, .int .i64 (k1 : Int)), (9, .pointer (some ⟨B5, 0, none⟩)), (10, .int .i64 (j : Int)), (41, .slice ra rods.length rc), (42, .int .i64 (rods.length : Int)), (43, .int .i64 (j : Int)), (74, .pointer (some ⟨B2, 0, none⟩)), (78, .agg #[.int .i64 ((cellAt C k1).col), .int .i64 ((cellAt C k1).row)])] [As.one B6 (.cells #[.int .i64 x1.tip.col, .int .i64 x1.tip.row, .int .i64 x1.range, .int .i64 x1.shows] 32 (0, 0)), As.one B5 (.cells #[.int .i64 ((cellAt C k1).col), .int .i64 ((cellAt C k1).row)] 30 (0, 0)), MapO vN M1 ms, As.one B3 (.cells #[.pointer (some ⟨B2, 0, none⟩)] 115 (0, 0)), As.one B2 (.cells (fieldC C Rw ra rods.length rc (mostTo C rods (fun _ => true) (C * Rw)) M1).toArray 124 (0, 0)), As.one B1 (.cells #[.int .i64 (C : Int), .int .i64 (Rw : Int), .slice ra rods.length rc] 28 (0, 0))] := by
                  subst hF
                  refine .step (l := [1, 6]) (by kernel_rfl) (by decide) ⟨.run rfl trivial ?_, .run rfl trivial ?_, trivial⟩
                  · refine .y (.nilCheck rfl) rfl rfl ?_
                    exact .weak (.one rfl (.one rfl (.one rfl (.one rfl (.one rfl (.one rfl (.one rfl (.one rfl (.one rfl (.nil)))))))))) (.refl _) (s1_19)
                  · refine .y (.move rfl) rfl rfl ?_
                    exact .weak (.one rfl (.one rfl (.one rfl (.one rfl (.one rfl (.one rfl (.one rfl (.one rfl (.one rfl (.nil)))))))))) (.refl _) (s1_81)
                have s1_65 : F 10 #[true, false, false, false, false, false, true, false, false, false, false, false] [(7, .pointer (some ⟨B3, 0, none⟩)), (8, .int .i64 (k1 : Int)), (9, .pointer (some ⟨B5, 0, none⟩)), (41, .slice ra rods.length rc), (42, .int .i64 (rods.length : Int)), (43, .int .i64 (j : Int)), (74, .pointer (some ⟨B2, 0, none⟩)), (80, .int .i64 (j : Int))] [As.one B6 (.cells #[.int .i64 x1.tip.col, .int .i64 x1.tip.row, .int .i64 x1.range, .int .i64 x1.shows] 32 (0, 0)), As.one B5 (.cells #[.int .i64 ((cellAt C k1).col), .int .i64 ((cellAt C k1).row)] 30 (0, 0)), MapO vN M1 ms, As.one B3 (.cells #[.pointer (some ⟨B2, 0, none⟩)] 115 (0, 0)), As.one B2 (.cells (fieldC C Rw ra rods.length rc (mostTo C rods (fun _ => true) (C * Rw)) M1).toArray 124 (0, 0)), As.one B1 (.cells #[.int .i64 (C : Int), .int .i64 (Rw : Int), .slice ra rods.length rc] 28 (0, 0))] := by
                  subst hF
                  refine .step (l := [1, 4, 7]) (by kernel_rfl) (by decide) ⟨.run rfl trivial ?_, .run rfl trivial ?_, .run rfl trivial ?_, trivial⟩
                  · refine .y (.nilCheck rfl) rfl rfl ?_
                    exact .weak (.one rfl (.one rfl (.one rfl (.one rfl (.one rfl (.one rfl (.one rfl (.one rfl (.nil))))))))) (.refl _) (s1_67)
                  · refine .y (.load rfl (.own 1 rfl) ag_30 sz_30 rfl) rfl rfl ?_
                    exact .weak (.one rfl (.one rfl (.one rfl (.one rfl (.one rfl (.one rfl (.one rfl (.one rfl (.one rfl (.nil)))))))))) (.refl _) (s1_81)
                  · refine .y (.shlN (b := j) rfl rfl (by omega)) rfl rfl ?_
                    exact .weak (.one rfl (.one rfl (.one rfl (.one rfl (.one rfl (.one rfl (.one rfl (.one rfl (.nil))))))))) (.refl _) (s1_193)
                have s1_80 : F 10 #[false, false, false, false, true, false, true, false, false, false, false, false] [(7, .pointer (some ⟨B3, 0, none⟩)), (8, .int .i64 (k1 : Int)), (9, .pointer (some ⟨B5, 0, none⟩)), (41, .slice ra rods.length rc), (42, .int .i64 (rods.length : Int)), (43, .int .i64 (j : Int)), (78, .agg #[.int .i64 ((cellAt C k1).col), .int .i64 ((cellAt C k1).row)]), (80, .int .i64 (j : Int))] [As.one B6 (.cells #[.int .i64 x1.tip.col, .int .i64 x1.tip.row, .int .i64 x1.range, .int .i64 x1.shows] 32 (0, 0)), As.one B5 (.cells #[.int .i64 ((cellAt C k1).col), .int .i64 ((cellAt C k1).row)] 30 (0, 0)), MapO vN M1 ms, As.one B3 (.cells #[.pointer (some ⟨B2, 0, none⟩)] 115 (0, 0)), As.one B2 (.cells (fieldC C Rw ra rods.length rc (mostTo C rods (fun _ => true) (C * Rw)) M1).toArray 124 (0, 0)), As.one B1 (.cells #[.int .i64 (C : Int), .int .i64 (Rw : Int), .slice ra rods.length rc] 28 (0, 0))] := by
                  subst hF
                  refine .step (l := [0, 7]) (by kernel_rfl) (by decide) ⟨.run rfl trivial ?_, .run rfl trivial ?_, trivial⟩
                  · refine .y (.load rfl (.own 3 rfl) ag_115 sz_115 rfl) rfl rfl ?_
                    exact .weak (.one rfl (.one rfl (.one rfl (.one rfl (.one rfl (.one rfl (.one rfl (.one rfl (.one rfl (.nil)))))))))) (.refl _) (s1_81)
                  · refine .y (.shlN (b := j) rfl rfl (by omega)) rfl rfl ?_
                    exact .weak (.one rfl (.one rfl (.one rfl (.one rfl (.one rfl (.one rfl (.one rfl (.one rfl (.nil))))))))) (.refl _) (s1_208)
                have s1_192 : F 10 #[false, false, false, false, false, false, true, true, false, false, false, false] [(7, .pointer (some ⟨B3, 0, none⟩)), (8, .int .i64 (k1 : Int)), (9, .pointer (some ⟨B5, 0, none⟩)), (41, .slice ra rods.length rc), (42, .int .i64 (rods.length : Int)), (43, .int .i64 (j : Int)), (81, .int .i64 ((2 ^ j : Nat) : Int))] [As.one B6 (.cells #[.int .i64 x1.tip.col, .int .i64 x1.tip.row, .int .i64 x1.range, .int .i64 x1.shows] 32 (0, 0)), As.one B5 (.cells #[.int .i64 ((cellAt C k1).col), .int .i64 ((cellAt C k1).row)] 30 (0, 0)), MapO vN M1 ms, As.one B3 (.cells #[.pointer (some ⟨B2, 0, none⟩)] 115 (0, 0)), As.one B2 (.cells (fieldC C Rw ra rods.length rc (mostTo C rods (fun _ => true) (C * Rw)) M1).toArray 124 (0, 0)), As.one B1 (.cells #[.int .i64 (C : Int), .int .i64 (Rw : Int), .slice ra rods.length rc] 28 (0, 0))] := by
                  subst hF
                  refine .step (l := [0, 4]) (by kernel_rfl) (by decide) ⟨.run rfl trivial ?_, .run rfl trivial ?_, trivial⟩
                  · refine .y (.load rfl (.own 3 rfl) ag_115 sz_115 rfl) rfl rfl ?_
                    exact .weak (.one rfl (.one rfl (.one rfl (.one rfl (.one rfl (.one rfl (.one rfl (.one rfl (.nil))))))))) (.refl _) (s1_193)
                  · refine .y (.load rfl (.own 1 rfl) ag_30 sz_30 rfl) rfl rfl ?_
                    exact .weak (.one rfl (.one rfl (.one rfl (.one rfl (.one rfl (.one rfl (.one rfl (.one rfl (.nil))))))))) (.refl _) (s1_208)
                have s1_1 : F 11 #[true, false, false, false, false, false, false, false, false, false, false, false] [(7, .pointer (some ⟨B3, 0, none⟩)), (8, .int .i64 (k1 : Int)), (9, .pointer (some ⟨B5, 0, none⟩)), (10, .int .i64 (j : Int)), (41, .slice ra rods.length rc), (42, .int .i64 (rods.length : Int)), (43, .int .i64 (j : Int)), (74, .pointer (some ⟨B2, 0, none⟩))] [As.one B6 (.cells #[.int .i64 x1.tip.col, .int .i64 x1.tip.row, .int .i64 x1.range, .int .i64 x1.shows] 32 (0, 0)), As.one B5 (.cells #[.int .i64 ((cellAt C k1).col), .int .i64 ((cellAt C k1).row)] 30 (0, 0)), MapO vN M1 ms, As.one B3 (.cells #[.pointer (some ⟨B2, 0, none⟩)] 115 (0, 0)), As.one B2 (.cells (fieldC C Rw ra rods.length rc (mostTo C rods (fun _ => true) (C * Rw)) M1).toArray 124 (0, 0)), As.one B1 (.cells #[.int .i64 (C : Int), .int .i64 (Rw : Int), .slice ra rods.length rc] 28 (0, 0))] := by
                  subst hF
                  refine .step (l := [1, 4, 6]) (by kernel_rfl) (by decide) ⟨.run rfl trivial ?_, .run rfl trivial ?_, .run rfl trivial ?_, trivial⟩
                  · refine .y (.nilCheck rfl) rfl rfl ?_
                    exact .weak (.one rfl (.one rfl (.one rfl (.one rfl (.one rfl (.one rfl (.one rfl (.one rfl (.nil))))))))) (.refl _) (s1_3)
                  · refine .y (.load rfl (.own 1 rfl) ag_30 sz_30 rfl) rfl rfl ?_
                    exact .weak (.one rfl (.one rfl (.one rfl (.one rfl (.one rfl (.one rfl (.one rfl (.one rfl (.one rfl (.nil)))))))))) (.refl _) (s1_17)
                  · refine .y (.move rfl) rfl rfl ?_
                    exact .weak (.one rfl (.one rfl (.one rfl (.one rfl (.one rfl (.one rfl (.one rfl (.one rfl (.nil))))))))) (.refl _) (s1_65)
                have s1_16 : F 11 #[false, false, false, false, true, false, false, false, false, false, false, false] [(7, .pointer (some ⟨B3, 0, none⟩)), (8, .int .i64 (k1 : Int)), (9, .pointer (some ⟨B5, 0, none⟩)), (10, .int .i64 (j : Int)), (41, .slice ra rods.length rc), (42, .int .i64 (rods.length : Int)), (43, .int .i64 (j : Int)), (78, .agg #[.int .i64 ((cellAt C k1).col), .int .i64 ((cellAt C k1).row)])] [As.one B6 (.cells #[.int .i64 x1.tip.col, .int .i64 x1.tip.row, .int .i64 x1.range, .int .i64 x1.shows] 32 (0, 0)), As.one B5 (.cells #[.int .i64 ((cellAt C k1).col), .int .i64 ((cellAt C k1).row)] 30 (0, 0)), MapO vN M1 ms, As.one B3 (.cells #[.pointer (some ⟨B2, 0, none⟩)] 115 (0, 0)), As.one B2 (.cells (fieldC C Rw ra rods.length rc (mostTo C rods (fun _ => true) (C * Rw)) M1).toArray 124 (0, 0)), As.one B1 (.cells #[.int .i64 (C : Int), .int .i64 (Rw : Int), .slice ra rods.length rc] 28 (0, 0))] := by
                  subst hF
                  refine .step (l := [0, 6]) (by kernel_rfl) (by decide) ⟨.run rfl trivial ?_, .run rfl trivial ?_, trivial⟩
                  · refine .y (.load rfl (.own 3 rfl) ag_115 sz_115 rfl) rfl rfl ?_
                    exact .weak (.one rfl (.one rfl (.one rfl (.one rfl (.one rfl (.one rfl (.one rfl (.one rfl (.one rfl (.nil)))))))))) (.refl _) (s1_17)
                  · refine .y (.move rfl) rfl rfl ?_
                    exact .weak (.one rfl (.one rfl (.one rfl (.one rfl (.one rfl (.one rfl (.one rfl (.one rfl (.nil))))))))) (.refl _) (s1_80)
                have s1_64 : F 11 #[false, false, false, false, false, false, true, false, false, false, false, false] [(7, .pointer (some ⟨B3, 0, none⟩)), (8, .int .i64 (k1 : Int)), (9, .pointer (some ⟨B5, 0, none⟩)), (41, .slice ra rods.length rc), (42, .int .i64 (rods.length : Int)), (43, .int .i64 (j : Int)), (80, .int .i64 (j : Int))] [As.one B6 (.cells #[.int .i64 x1.tip.col, .int .i64 x1.tip.row, .int .i64 x1.range, .int .i64 x1.shows] 32 (0, 0)), As.one B5 (.cells #[.int .i64 ((cellAt C k1).col), .int .i64 ((cellAt C k1).row)] 30 (0, 0)), MapO vN M1 ms, As.one B3 (.cells #[.pointer (some ⟨B2, 0, none⟩)] 115 (0, 0)), As.one B2 (.cells (fieldC C Rw ra rods.length rc (mostTo C rods (fun _ => true) (C * Rw)) M1).toArray 124 (0, 0)), As.one B1 (.cells #[.int .i64 (C : Int), .int .i64 (Rw : Int), .slice ra rods.length rc] 28 (0, 0))] := by
                  subst hF
                  refine .step (l := [0, 4, 7]) (by kernel_rfl) (by decide) ⟨.run rfl trivial ?_, .run rfl trivial ?_, .run rfl trivial ?_, trivial⟩
                  · refine .y (.load rfl (.own 3 rfl) ag_115 sz_115 rfl) rfl rfl ?_
                    exact .weak (.one rfl (.one rfl (.one rfl (.one rfl (.one rfl (.one rfl (.one rfl (.one rfl (.nil))))))))) (.refl _) (s1_65)
                  · refine .y (.load rfl (.own 1 rfl) ag_30 sz_30 rfl) rfl rfl ?_
                    exact .weak (.one rfl (.one rfl (.one rfl (.one rfl (.one rfl (.one rfl (.one rfl (.one rfl (.nil))))))))) (.refl _) (s1_80)
                  · refine .y (.shlN (b := j) rfl rfl (by omega)) rfl rfl ?_
                    exact .weak (.one rfl (.one rfl (.one rfl (.one rfl (.one rfl (.one rfl (.one rfl (.nil)))))))) (.refl _) (s1_192)
                have s1_0 : F 12 #[false, false, false, false, false, false, false, false, false, false, false, false] [(7, .pointer (some ⟨B3, 0, none⟩)), (8, .int .i64 (k1 : Int)), (9, .pointer (some ⟨B5, 0, none⟩)), (10, .int .i64 (j : Int)), (41, .slice ra rods.length rc), (42, .int .i64 (rods.length : Int)), (43, .int .i64 (j : Int))] [As.one B6 (.cells #[.int .i64 x1.tip.col, .int .i64 x1.tip.row, .int .i64 x1.range, .int .i64 x1.shows] 32 (0, 0)), As.one B5 (.cells #[.int .i64 ((cellAt C k1).col), .int .i64 ((cellAt C k1).row)] 30 (0, 0)), MapO vN M1 ms, As.one B3 (.cells #[.pointer (some ⟨B2, 0, none⟩)] 115 (0, 0)), As.one B2 (.cells (fieldC C Rw ra rods.length rc (mostTo C rods (fun _ => true) (C * Rw)) M1).toArray 124 (0, 0)), As.one B1 (.cells #[.int .i64 (C : Int), .int .i64 (Rw : Int), .slice ra rods.length rc] 28 (0, 0))] := by
                  subst hF
                  refine .step (l := [0, 4, 6]) (by kernel_rfl) (by decide) ⟨.run rfl trivial ?_, .run rfl trivial ?_, .run rfl trivial ?_, trivial⟩
                  · refine .y (.load rfl (.own 3 rfl) ag_115 sz_115 rfl) rfl rfl ?_
                    exact .weak (.one rfl (.one rfl (.one rfl (.one rfl (.one rfl (.one rfl (.one rfl (.one rfl (.nil))))))))) (.refl _) (s1_1)
                  · refine .y (.load rfl (.own 1 rfl) ag_30 sz_30 rfl) rfl rfl ?_
                    exact .weak (.one rfl (.one rfl (.one rfl (.one rfl (.one rfl (.one rfl (.one rfl (.one rfl (.nil))))))))) (.refl _) (s1_16)
                  · refine .y (.move rfl) rfl rfl ?_
                    exact .weak (.one rfl (.one rfl (.one rfl (.one rfl (.one rfl (.one rfl (.one rfl (.nil)))))))) (.refl _) (s1_64)
                subst hF; exact .weak (.one rfl (.one rfl (.one rfl (.one rfl (.one rfl (.one rfl (.one rfl (.nil)))))))) (.refl _) s1_0
              · refine .skip ?_
                refine .region ?_
                refine .y (.add rfl rfl (by omega)) trivial rfl rfl ?_
                refine .y (.move rfl) trivial rfl rfl ?_
                refine .nil ?_
                refine ⟨⟨(j + 1, ms), ?_⟩, ?_, (.one rfl (.one rfl (.one rfl (.one rfl (.one rfl (.one rfl (.nil))))))), (.pick 1 rfl (.pick 1 rfl (.pick 1 rfl (.pick 1 rfl (.pick 1 rfl (.nil _))))))⟩
                · exact ⟨by omega, hP2.2.out hx1 (fun e => by first | exact absurd e.1 (of_decide_eq_false hb1) | exact absurd e.2.1 (of_decide_eq_false hb2) | (have e3 := e.2.2; rw [getD_of hx2] at e3; omega))⟩
                · show rods.length - (j + 1) < rods.length - j; omega
        · refine .exit ?_
          refine inB_hit ?_
          exact (.exA ms (hP2.2.next (by omega) (by omega)) (.pick 1 rfl (.pick 1 rfl (.pick 1 rfl (.pick 1 rfl (.nil _))))))
      · refine .exA fun ms2 hxms2 => ?_
        skip
        refine .seq ?_
        refine .region ?_
        refine .y (.load rfl (.own 1 rfl) ag_115 sz_115 rfl) trivial rfl rfl ?_
        refine .y (.assign rfl) trivial rfl rfl ?_
        refine .y (.assign rfl) trivial rfl rfl ?_
        refine .nil ?_
        refine .ret ?_
        refine ⟨.inr rfl, _, _, (.pick 2 rfl (.pick 0 rfl (.nil _))), fun own' ho => .two rfl rfl rfl, ?_⟩
        exact ⟨_, _, _, rfl, rfl, by assumption⟩
      · exact fun _ _ h => h.elim
end Go.Proofs.YtfcjmoolnadfbaaGreat
