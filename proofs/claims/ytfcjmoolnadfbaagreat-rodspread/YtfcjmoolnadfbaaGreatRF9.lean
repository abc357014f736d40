/- Contracts of functions of package rod, printed by vgen: part RF9. -/
import Derived.Test.YtfcjmoolnadfbaaGreatProg
import Derived.Test.YtfcjmoolnadfbaaGreatRSpec
import Derived.Test.YtfcjmoolnadfbaaGreatRF1
import Derived.Test.YtfcjmoolnadfbaaGreatRF2
import Derived.Test.YtfcjmoolnadfbaaGreatRF3
import Derived.Test.YtfcjmoolnadfbaaGreatRF4
import Derived.Test.YtfcjmoolnadfbaaGreatVLate
import Derived.Test.YtfcjmoolnadfbaaGreatSSpec
import Derived.Test.YtfcjmoolnadfbaaGreatSort
import Derived.Test.YtfcjmoolnadfbaaGreatRF5
import Derived.Test.YtfcjmoolnadfbaaGreatRF6
import Derived.Test.YtfcjmoolnadfbaaGreatRF7
import Derived.Test.YtfcjmoolnadfbaaGreatVTbl
import Derived.Test.YtfcjmoolnadfbaaGreatShelfB
import Derived.Test.YtfcjmoolnadfbaaGreatRF8
import Derived.Test.YtfcjmoolnadfbaaGreatSortC
import Derived.KernelRfl
set_option linter.unusedVariables false
set_option linter.unusedSimpArgs false
namespace Go.Proofs.YtfcjmoolnadfbaaGreat
open Go.V
theorem ag_118 : agOf Tryz.prog 118 = some false := by kernel_rfl
theorem el_118 : ElOk Tryz.prog 118 22 1 24 (.slice none 0 0) := ⟨by kernel_rfl, by kernel_rfl, rfl⟩
theorem fn_71 : fnOk Tryz.prog 71 = true := by kernel_rfl
theorem sl_118 : sliOf Tryz.prog 118 = some 22 := by kernel_rfl
theorem sz_118 : szOf Tryz.prog 118 = some 1 := by kernel_rfl
theorem zr_118 : zeroOf Tryz.prog 118 = some (.slice none 0 0) := by kernel_rfl
set_option maxHeartbeats 4000000 in
theorem Fewest_ct (g : Hp) {C Rw : Nat} {ra : Option Addr} {rc : Nat} {rods : List Rod} (hc : 1 ≤ C ∧ C ≤ 5 ∧ 1 ≤ Rw ∧ Rw ≤ 5) (hr : SlR eRod g ra rods) (hl : rods.length ≤ 8) (hv : ∀ r ∈ rods, RodOk r) (hck : chkBin (C : Int) (Rw : Int) rods = 0) (hfit : fitsL C Rw rods (mostTo C rods (fun _ => true) (C * Rw)) (fun _ => true) = true) : Ct Tryz.prog 17 [.agg #[.int .i64 (C : Int), .int .i64 (Rw : Int), .slice ra rods.length rc]].toArray g [] (fun v rs => ∃ (a : Option Addr) (c : Nat) (ys : List Cell), v = .tuple #[.slice a ys.length c, .int .i64 0] ∧ rs = [SlO eCell 30 a c ys] ∧ SlOk a c ∧ ys.Perm (fewL C Rw rods (mostTo C rods (fun _ => true) (C * Rw)))) := by
  obtain ⟨N2, hN2⟩ : ∃ N2, N2 = 2 ^ rods.length := ⟨_, rfl⟩
  have h256 : N2 ≤ 256 := by rw [hN2]; exact Nat.pow_le_pow_right (by decide) hl (n := 2)
  have hsh : shownTo rods rods.length < N2 := by rw [hN2]; exact shown_lt _ _ (Nat.le_refl _)
  have hfew1 : fewTo C Rw rods (mostTo C rods (fun _ => true) (C * Rw)) 1 = List.replicate N2 [] := by rw [few_one, hN2]
  refine Ct.of_body (N := 96) (l := [.agg #[.int .i64 (C : Int), .int .i64 (Rw : Int), .slice ra rods.length rc]]) Tryz.func17 rfl rfl (Nat.le_of_ble_eq_true rfl) fun n0 => ?_
  refine .seq ?_
  refine .region ?_
  refine .n (.box rfl) trivial rfl rfl fun B1 => ?_
  refine .y (.assign rfl) trivial rfl rfl ?_
  refine .y (.assign rfl) trivial rfl rfl ?_
  refine .nil ?_
  refine .seq ?_
  refine .region ?_
  refine .y (.load rfl (.own 0 rfl) ag_28 sz_28 rfl) trivial rfl rfl ?_
  refine .c (.call rfl rfl fn_69) trivial rfl rfl (fun own ho hd => told_ct _ hc (rods := rods) (SlR.up hr) hl hv hck hfit) ?_
  rintro _ _ ⟨F1, M1, ms1, rfl, rfl, hf1⟩
  refine .y (.move rfl) trivial rfl rfl ?_
  refine .y (.extract rfl rfl) trivial rfl rfl ?_
  refine .y (.extract rfl rfl) trivial rfl rfl ?_
  refine .n (.alloc zr_115) trivial rfl rfl fun B2 => ?_
  refine .cons trivial (.store 0 rfl rfl rfl sz_115 rfl rfl (Nat.le_of_ble_eq_true rfl) rfl ?_)
  refine .y (.assign rfl) trivial rfl rfl ?_
  refine .nil ?_
  refine .seq ?_
  refine .seq ?_
  refine .region ?_
  refine .y (.move rfl) trivial rfl rfl ?_
  refine .y (.to (.neq rfl rfl) (v' := .bool false) rfl) trivial rfl rfl ?_
  refine .nil ?_
  refine .cond_f rfl ?_
  refine .skip ?_
  refine .seq ?_
  refine .region ?_
  refine .y (.fieldAddr rfl fl_28_2) trivial rfl rfl ?_
  refine .y (.load rfl (.own 3 rfl) ag_26 sz_26 rfl) trivial rfl rfl ?_
  refine .y (.len rfl sl_26) trivial rfl rfl ?_
  refine .y (.to (v' := .int .i64 (N2 : Int)) (.shlN (b := rods.length) rfl rfl (by omega)) (by rw [hN2])) trivial rfl rfl ?_
  refine .cons trivial (.make (E := eHdr) (w := ⟨none, 0, 0⟩) el_118 rfl rfl (by omega) (by omega) (by omega) rfl rfl fun B3 => ?_)
  refine .n (.alloc zr_118) trivial rfl rfl fun B4 => ?_
  refine .cons trivial (.store 0 rfl rfl rfl sz_118 rfl rfl (Nat.le_of_ble_eq_true rfl) rfl ?_)
  refine .nil ?_
  refine .seq ?_
  refine .seq ?_
  refine .region ?_
  refine .n (.alloc zr_3) trivial rfl rfl fun B5 => ?_
  refine .cons trivial (.store 0 rfl rfl rfl sz_3 rfl rfl (Nat.le_of_ble_eq_true rfl) rfl ?_)
  refine .nil ?_
  refine .block ?_
  refine T.loop (ι := { zz : Nat × Nat // 1 ≤ zz.1 ∧ zz.1 ≤ N2 }) (fun zz => ([(7, .pointer (some ⟨zz.1.2, 0, none⟩)), (1, .pointer (some ⟨B1, 0, none⟩)), (4, .pointer (some ⟨B2, 0, none⟩)), (6, .pointer (some ⟨B4, 0, none⟩))], [Tbl B3 N2 (fewTo C Rw rods (mostTo C rods (fun _ => true) (C * Rw)) zz.1.1), As.one zz.1.2 (.cells #[.int .i64 (zz.1.1 : Int)] 3 (0, 0)), As.one B4 (.cells #[.slice (some ⟨B3, 0, none⟩) N2 N2] 118 (0, 0)), As.one B2 (.cells #[.pointer (some ⟨F1, 0, none⟩)] 115 (0, 0)), As.one F1 (.cells (fieldC C Rw ra rods.length rc (mostTo C rods (fun _ => true) (C * Rw)) M1).toArray 124 (0, 0)), MapO vN M1 ms1, As.one B1 (.cells #[.int .i64 (C : Int), .int .i64 (Rw : Int), .slice ra rods.length rc] 28 (0, 0))])) (fun zz => N2 - zz.1.1) ⟨(1, B5), ⟨by omega, by have := Nat.two_pow_pos rods.length; omega⟩⟩ (.one rfl (.one rfl (.one rfl (.one rfl (.nil))))) (.tbl (TblOk.zero1 hfew1) (.pick 2 rfl (.ents1 hfew1 (.refl _)))) ?_
  rintro ⟨⟨n, Bs⟩, hP0⟩
  dsimp only at hP0
  show T _ [(7, .pointer (some ⟨Bs, 0, none⟩)), (1, .pointer (some ⟨B1, 0, none⟩)), (4, .pointer (some ⟨B2, 0, none⟩)), (6, .pointer (some ⟨B4, 0, none⟩))] [Tbl B3 N2 (fewTo C Rw rods (mostTo C rods (fun _ => true) (C * Rw)) n), As.one Bs (.cells #[.int .i64 (n : Int)] 3 (0, 0)), As.one B4 (.cells #[.slice (some ⟨B3, 0, none⟩) N2 N2] 118 (0, 0)), As.one B2 (.cells #[.pointer (some ⟨F1, 0, none⟩)] 115 (0, 0)), As.one F1 (.cells (fieldC C Rw ra rods.length rc (mostTo C rods (fun _ => true) (C * Rw)) M1).toArray 124 (0, 0)), MapO vN M1 ms1, As.one B1 (.cells #[.int .i64 (C : Int), .int .i64 (Rw : Int), .slice ra rods.length rc] 28 (0, 0))] _ _
  refine .tbl fun hs1 hts1 => ?_
  refine T.pure 1 rfl (fun h e => Ents.none e) (fun hno1 => ?_)
  have hlenhs1 : hs1.length = N2 := by rw [hts1.len]; simp [hN2]
  have hsml1 := Small.to (C := C) (Rw := Rw) (rods := rods) (top := (mostTo C rods (fun _ => true) (C * Rw))) n (by omega)
  refine .seq ?_
  refine .seq ?_
  refine .region ?_
  refine .y (.load rfl (.own 2 rfl) ag_3 sz_3 rfl) trivial rfl rfl ?_
  refine .y (.load rfl (.own 3 rfl) ag_118 sz_118 rfl) trivial rfl rfl ?_
  refine .y (.len rfl sl_118) trivial rfl rfl ?_
  refine .y (.lss rfl rfl) trivial rfl rfl ?_
  refine .nil ?_
  refine .ite rfl (fun h1 => ?_) (fun h1 => ?_)
  · refine .skip ?_
    refine .seq ?_
    refine .block ?_
    refine .seq ?_
    refine .seq ?_
    refine T.dr (N := 96) [(5, (fun v rs => v = .int .i64 ((shownTo rods rods.length : Nat) : Int) ∧ rs = []))] [0, 0, 2, 6, 14, 30, 63, 127] 6 (by kernel_rfl) flw rfl (Nat.le_of_ble_eq_true rfl) ?_
    refine .y (.load rfl (.own 2 rfl) ag_3 sz_3 rfl) trivial ?_
    refine .y (.load rfl (.own 4 rfl) ag_115 sz_115 rfl) trivial ?_
    refine .y (.nilCheck rfl) trivial ?_
    refine .y (.fieldAddr rfl fl_124_0) trivial ?_
    refine .y (.load rfl (.own 5 rfl) ag_28 sz_28 rdF_bin) trivial ?_
    refine .c (.call rfl rfl fn_70) trivial (fun own ho hd => shown_ct _ (rods := rods) (SlR.up hr) (by omega)) ?_
    rintro _ _ ⟨rfl, rfl⟩
    refine .nil ?_
    refine .y (.andNotN (a := n) (b := shownTo rods rods.length) rfl rfl ⟨by omega, by omega⟩) trivial rfl rfl ?_
    refine .y (.neq rfl rfl) trivial rfl rfl ?_
    refine .nil ?_
    refine .ite rfl (fun h2 => ?_) (fun h2 => ?_)
    · refine .exit ?_
      refine inB_hit ?_
      refine .seq ?_
      refine .seq ?_
      refine .region ?_
      refine .y (.load rfl (.own 2 rfl) ag_3 sz_3 rfl) trivial rfl rfl ?_
      refine .nil ?_
      refine .region ?_
      refine .n (.alloc zr_3) trivial rfl rfl fun B6 => ?_
      refine .cons trivial (.store 0 rfl rfl rfl sz_3 rfl rfl (Nat.le_of_ble_eq_true rfl) rfl ?_)
      refine .nil ?_
      refine .region ?_
      refine .y (.load rfl (.own 0 rfl) ag_3 sz_3 rfl) trivial rfl rfl ?_
      refine .y (.to (v' := .int .i64 (((n + 1) : Nat) : Int)) (.add rfl rfl (by omega)) (congrArg _ (by omega))) trivial rfl rfl ?_
      refine .cons trivial (.store 0 rfl rfl rfl sz_3 rfl rfl (Nat.le_of_ble_eq_true rfl) rfl ?_)
      refine .nil ?_
      rw [← few_skip (by assumption)]
      rw [← few_skip (by assumption)] at hts1
      refine ⟨⟨(n + 1, B6), ?_⟩, ?_, (.one rfl (.one rfl (.one rfl (.one rfl (.nil))))), (.tbl hts1 (.pick 1 rfl (.pick 1 rfl (.pick 0 rfl (.pick 1 rfl (.pick 1 rfl (.pick 1 rfl (.pick 1 rfl (.pick 1 rfl (.nil _))))))))))⟩
      · exact ⟨by omega, by omega⟩
      · show N2 - (n + 1) < N2 - n; omega
    · refine .skip ?_
      refine .seq ?_
      refine .region ?_
      refine .y (.load rfl (.own 7 rfl) ag_28 sz_28 rfl) trivial rfl rfl ?_
      refine .c (.call rfl rfl fn_52) trivial rfl rfl (fun own ho hd => cells_ct _ ) ?_
      rintro _ _ ⟨B7, rfl, rfl⟩
      refine .nil ?_
      refine .block ?_
      refine T.range (N := C * Rw) (enc := fun k1 => [.int .i64 (k1 : Int), .agg #[.int .i64 ((cellAt C k1).col), .int .i64 ((cellAt C k1).row)]]) (r := [As.one B7 (.cells #[.int .i64 (C : Int), .int .i64 (Rw : Int), .slice ra rods.length rc] 28 (0, 0))]) (fun k1 => [Tbl B3 N2 (fewIn C rods (mostTo C rods (fun _ => true) (C * Rw)) n (fewTo C Rw rods (mostTo C rods (fun _ => true) (C * Rw)) n) k1), As.one Bs (.cells #[.int .i64 (n : Int)] 3 (0, 0)), As.one B4 (.cells #[.slice (some ⟨B3, 0, none⟩) N2 N2] 118 (0, 0)), As.one B2 (.cells #[.pointer (some ⟨F1, 0, none⟩)] 115 (0, 0)), As.one F1 (.cells (fieldC C Rw ra rods.length rc (mostTo C rods (fun _ => true) (C * Rw)) M1).toArray 124 (0, 0)), MapO vN M1 ms1, As.one B1 (.cells #[.int .i64 (C : Int), .int .i64 (Rw : Int), .slice ra rods.length rc] 28 (0, 0))]) (fun _ _ => False) rfl fn_123 (fun own ho hd => cells1_it _ (one_in 0 rfl ho hd) (by first | assumption | omega)) (.tbl hts1 (.pick 1 rfl (.pick 1 rfl (.pick 1 rfl (.pick 1 rfl (.pick 1 rfl (.pick 1 rfl (.pick 1 rfl (.pick 1 rfl (.refl _)))))))))) (fun _ => rfl) (fun p hp => by simp at hp; show p < 96; omega) (fun l1 k1 hk1 => ?_) ?_ ?_
      · have h25k1 : k1 < 25 := Nat.lt_of_lt_of_le hk1 (Nat.mul_le_mul hc.2.1 hc.2.2.2)
        refine .tbl fun hs2 hts2 => ?_
        refine T.pure 1 rfl (fun h e => Ents.none e) (fun hno2 => ?_)
        have hlenhs2 : hs2.length = N2 := by rw [hts2.len]; simp [hN2]
        have hsml2 := (Small.to (C := C) (Rw := Rw) (rods := rods) (top := (mostTo C rods (fun _ => true) (C * Rw))) n (by omega)).in (C := C) (rods := rods) (top := (mostTo C rods (fun _ => true) (C * Rw))) (set := n) (by omega) k1
        refine .region ?_
        refine .n (.alloc zr_30) trivial rfl rfl fun B8 => ?_
        refine .cons trivial (.store 0 rfl rfl rfl sz_30 rfl rfl (Nat.le_of_ble_eq_true rfl) rfl ?_)
        refine .nil ?_
        refine ⟨rfl, ?_⟩
        refine .block ?_
        refine .seq ?_
        refine T.dr (N := 96) [] [0, 1, 3, 7, 0, 31, 0, 127, 255] 7 (by kernel_rfl) flw rfl (Nat.le_of_ble_eq_true rfl) ?_
        refine .y (.load rfl (.own 5 rfl) ag_115 sz_115 rfl) trivial ?_
        refine .y (.nilCheck rfl) trivial ?_
        refine .y (.fieldAddr rfl fl_124_2) trivial ?_
        refine .y (.load rfl (.own 6 rfl) ag_122 sz_122 (rdF_map (mostTo_len ..) _)) trivial ?_
        refine .y (.load rfl (.own 0 rfl) ag_30 sz_30 rfl) trivial ?_
        refine .y (.lookup (ev := vN) (z := (0 : Nat)) (c := (cellAt C k1)) rfl rfl (.own 7 rfl) mp_122 tw_30 zr_3) trivial ?_
        refine .y (.load rfl (.own 3 rfl) ag_3 sz_3 rfl) trivial ?_
        refine .nil ?_
        refine .y (.to (v' := .int .i64 ((exIn C rods (mostTo C rods (fun _ => true) (C * Rw)) k1 rods.length &&& n : Nat) : Int)) (.andN (a := mlook (0 : Nat) ms1 (cellAt C k1)) (b := n) rfl rfl ⟨by have := exIn_lt (C := C) (rods := rods) (top := (mostTo C rods (fun _ => true) (C * Rw))) (i := k1) rods.length 62 (by omega); rw [hf1.fin hk1]; omega, by omega⟩) (by rw [hf1.fin hk1])) trivial rfl rfl ?_
        refine .y (.assign rfl) trivial rfl rfl ?_
        refine .nil ?_
        refine .seq ?_
        refine .seq ?_
        refine .region ?_
        refine .y (.move rfl) trivial rfl rfl ?_
        refine .y (.eql rfl rfl) trivial rfl rfl ?_
        refine .nil ?_
        refine .ite rfl (fun h3 => ?_) (fun h3 => ?_)
        · refine .exit ?_
          refine inB_hit ?_
          show RSub [Tbl B3 N2 (fewIn C rods (mostTo C rods (fun _ => true) (C * Rw)) n (fewTo C Rw rods (mostTo C rods (fun _ => true) (C * Rw)) n) (k1 + 1)), As.one Bs (.cells #[.int .i64 (n : Int)] 3 (0, 0)), As.one B4 (.cells #[.slice (some ⟨B3, 0, none⟩) N2 N2] 118 (0, 0)), As.one B2 (.cells #[.pointer (some ⟨F1, 0, none⟩)] 115 (0, 0)), As.one F1 (.cells (fieldC C Rw ra rods.length rc (mostTo C rods (fun _ => true) (C * Rw)) M1).toArray 124 (0, 0)), MapO vN M1 ms1, As.one B1 (.cells #[.int .i64 (C : Int), .int .i64 (Rw : Int), .slice ra rods.length rc] 28 (0, 0))] _
          first | rw [few_zero (by assumption)] | (have e71 : el71 = el62 := Option.some.inj (hex71.symm.trans hex62); rw [e71] at h4; rw [few_keep (by assumption) hex58 hex62 (fun e => by have := hnil62 e; simp_all) h4])
          exact (.tbl hts2 (.pick 1 rfl (.pick 1 rfl (.pick 1 rfl (.pick 1 rfl (.pick 1 rfl (.pick 1 rfl (.pick 1 rfl (.pick 1 rfl (.nil _))))))))))
        · refine .skip ?_
          refine .seq ?_
          refine .region ?_
          refine .y (.load rfl (.own 4 rfl) ag_118 sz_118 rfl) trivial rfl rfl ?_
          refine .y (.load rfl (.own 3 rfl) ag_3 sz_3 rfl) trivial rfl rfl ?_
          refine .y (.move rfl) trivial rfl rfl ?_
          refine .y (.andNotN (a := n) (b := exIn C rods (mostTo C rods (fun _ => true) (C * Rw)) k1 rods.length &&& n) rfl rfl ⟨by omega, Nat.lt_of_le_of_lt Nat.and_le_right (by omega)⟩) trivial rfl rfl ?_
          have hbhx1 : (andn n (exIn C rods (mostTo C rods (fun _ => true) (C * Rw)) k1 rods.length &&& n)) < hs2.length := (Nat.lt_of_le_of_lt (andn_le _ _) (by omega))
          obtain ⟨x1, hx1⟩ : ∃ x1, hs2[(andn n (exIn C rods (mostTo C rods (fun _ => true) (C * Rw)) k1 rods.length &&& n))]? = some x1 := ⟨_, List.getElem?_eq_getElem hbhx1⟩
          obtain ⟨ea58, ec58, el58, rfl, hex58, hok58, hnil58⟩ := TblOk.get hts2 hx1
          have hle58 : el58.length ≤ 62 := Nat.le_trans (hsml2 _ _ hex58) (card62 _)
          refine .y (.indexE (E := eHdr) rfl (hlenhs2.symm) (.own 1 rfl) rfl sl_118 sz_22 (by omega)) trivial rfl rfl ?_
          refine .y (.to (v' := .slice ea58 el58.length ec58) (.loadE (E := eHdr) rfl (.own 1 rfl) ag_22 sz_22 (by decide) (eHdr.rd0 hx1 (by decide) (by decide) rfl)) rfl) trivial rfl rfl ?_
          refine .y (.assign rfl) trivial rfl rfl ?_
          refine .nil ?_
          refine .seq ?_
          refine .region ?_
          refine .y (.load rfl (.own 4 rfl) ag_118 sz_118 rfl) trivial rfl rfl ?_
          refine .y (.load rfl (.own 3 rfl) ag_3 sz_3 rfl) trivial rfl rfl ?_
          have hbhx2 : n < hs2.length := by omega
          obtain ⟨x2, hx2⟩ : ∃ x2, hs2[n]? = some x2 := ⟨_, List.getElem?_eq_getElem hbhx2⟩
          obtain ⟨ea62, ec62, el62, rfl, hex62, hok62, hnil62⟩ := TblOk.get hts2 hx2
          have hle62 : el62.length ≤ 62 := Nat.le_trans (hsml2 _ _ hex62) (card62 _)
          refine .y (.indexE (E := eHdr) rfl (hlenhs2.symm) (.own 1 rfl) rfl sl_118 sz_22 (by omega)) trivial rfl rfl ?_
          refine .y (.to (v' := .slice ea62 el62.length ec62) (.loadE (E := eHdr) rfl (.own 1 rfl) ag_22 sz_22 (by decide) (eHdr.rd0 hx2 (by decide) (by decide) rfl)) rfl) trivial rfl rfl ?_
          refine .y (.nilSlice rfl rfl sl_22) trivial rfl rfl ?_
          refine .y (.move rfl) trivial rfl rfl ?_
          refine .split 65 rfl (fun hb1 => ?_) (fun hb1 => ?_)
          · refine .skip ⟨_, rfl, rfl⟩ rfl ?_
            refine .skip ⟨_, rfl, rfl⟩ rfl ?_
            refine .skip ⟨_, rfl, rfl⟩ rfl ?_
            refine .skip ⟨_, rfl, rfl⟩ rfl ?_
            refine .skip ⟨_, rfl, rfl⟩ rfl ?_
            refine .skip ⟨_, rfl, rfl⟩ rfl ?_
            refine .skip ⟨_, rfl, rfl⟩ rfl ?_
            refine .skip ⟨_, rfl, rfl⟩ rfl ?_
            refine .skip ⟨_, rfl, rfl⟩ rfl ?_
            refine .y (.pick_t rfl rfl) trivial rfl rfl ?_
            refine .nil ?_
            refine .cond_t rfl ?_
            refine T.any #[false, false, false, false, false, false, false, false, false] rfl 9 rfl flw ?_
            refine .use fun F hF => ?_
            have s1_511 : ∀ (a'_3 : Option Addr) (c'_3 : Nat) (hf_3 : SlOk a'_3 c'_3) (B_5 : Nat) (a_6 : Option Addr) (c_6 : Nat) (oka_6 : SlOk a_6 c_6), F 0 #[true, true, true, true, true, true, true, true, true] [] [As.one B_5 (.cells #[.int .i64 ((cellAt C k1).col), .int .i64 ((cellAt C k1).row)] 30 (0, 0)), SlO eCell 30 a_6 c_6 (el58 ++ ([(cellAt C k1)])), As.one B8 (.cells #[.int .i64 ((cellAt C k1).col), .int .i64 ((cellAt C k1).row)] 30 (0, 0)), SlO eHdr 22 (some ⟨B3, 0, none⟩) N2 (hs2.set n (⟨a_6, (el58 ++ ([(cellAt C k1)])).length, c_6⟩)), Ents hs2 (fewIn C rods (mostTo C rods (fun _ => true) (C * Rw)) n (fewTo C Rw rods (mostTo C rods (fun _ => true) (C * Rw)) n) k1), As.one Bs (.cells #[.int .i64 (n : Int)] 3 (0, 0)), As.one B4 (.cells #[.slice (some ⟨B3, 0, none⟩) N2 N2] 118 (0, 0)), As.one B2 (.cells #[.pointer (some ⟨F1, 0, none⟩)] 115 (0, 0)), As.one F1 (.cells (fieldC C Rw ra rods.length rc (mostTo C rods (fun _ => true) (C * Rw)) M1).toArray 124 (0, 0)), MapO vN M1 ms1, As.one B1 (.cells #[.int .i64 (C : Int), .int .i64 (Rw : Int), .slice ra rods.length rc] 28 (0, 0))] := by
              intro a'_3 c'_3 hf_3 B_5 a_6 c_6 oka_6
              subst hF
              refine .done (by kernel_rfl) ?_
              show RSub [Tbl B3 N2 (fewIn C rods (mostTo C rods (fun _ => true) (C * Rw)) n (fewTo C Rw rods (mostTo C rods (fun _ => true) (C * Rw)) n) (k1 + 1)), As.one Bs (.cells #[.int .i64 (n : Int)] 3 (0, 0)), As.one B4 (.cells #[.slice (some ⟨B3, 0, none⟩) N2 N2] 118 (0, 0)), As.one B2 (.cells #[.pointer (some ⟨F1, 0, none⟩)] 115 (0, 0)), As.one F1 (.cells (fieldC C Rw ra rods.length rc (mostTo C rods (fun _ => true) (C * Rw)) M1).toArray 124 (0, 0)), MapO vN M1 ms1, As.one B1 (.cells #[.int .i64 (C : Int), .int .i64 (Rw : Int), .slice ra rods.length rc] 28 (0, 0))] _
              first | rw [few_put (by assumption) hex58 hex71 (.inr h4)] | rw [few_put (by assumption) hex58 hex62 (.inl (hno2 _ _ _ (by assumption) hex62 (Option.isNone_iff_eq_none.1 (by assumption))))]
              exact (.tbl (hts2.set (by assumption) (fun e => by simp at e)) (.pick 3 rfl (.trans (.entSet hts2.len (by omega) (.refl _)) (.pick 3 rfl (.pick 1 rfl (.pick 2 rfl (.pick 2 rfl (.pick 2 rfl (.pick 2 rfl (.pick 2 rfl (.pick 2 rfl (.nil _))))))))))))
            have s1_255 : ∀ (a'_3 : Option Addr) (c'_3 : Nat) (hf_3 : SlOk a'_3 c'_3) (B_5 : Nat) (a_6 : Option Addr) (c_6 : Nat) (oka_6 : SlOk a_6 c_6), F 1 #[true, true, true, true, true, true, true, true, false] [(82, .slice a_6 ((el58 ++ ([(cellAt C k1)])).length) c_6), (83, .pointer (some ⟨blk (some ⟨B3, 0, none⟩), ofs (some ⟨B3, 0, none⟩) + n * 1, none⟩))] [As.one B_5 (.cells #[.int .i64 ((cellAt C k1).col), .int .i64 ((cellAt C k1).row)] 30 (0, 0)), SlO eCell 30 a_6 c_6 (el58 ++ ([(cellAt C k1)])), As.one B8 (.cells #[.int .i64 ((cellAt C k1).col), .int .i64 ((cellAt C k1).row)] 30 (0, 0)), SlO eHdr 22 (some ⟨B3, 0, none⟩) N2 hs2, Ents hs2 (fewIn C rods (mostTo C rods (fun _ => true) (C * Rw)) n (fewTo C Rw rods (mostTo C rods (fun _ => true) (C * Rw)) n) k1), As.one Bs (.cells #[.int .i64 (n : Int)] 3 (0, 0)), As.one B4 (.cells #[.slice (some ⟨B3, 0, none⟩) N2 N2] 118 (0, 0)), As.one B2 (.cells #[.pointer (some ⟨F1, 0, none⟩)] 115 (0, 0)), As.one F1 (.cells (fieldC C Rw ra rods.length rc (mostTo C rods (fun _ => true) (C * Rw)) M1).toArray 124 (0, 0)), MapO vN M1 ms1, As.one B1 (.cells #[.int .i64 (C : Int), .int .i64 (Rw : Int), .slice ra rods.length rc] 28 (0, 0))] := by
              intro a'_3 c'_3 hf_3 B_5 a_6 c_6 oka_6
              subst hF
              refine .step (l := [8]) (by kernel_rfl) (by decide) ⟨.run rfl trivial ?_, trivial⟩
              · refine .storeE (E := eHdr) (xs := hs2) (k := n) (v := ⟨a_6, (el58 ++ ([(cellAt C k1)])).length, c_6⟩) 3 rfl rfl rfl rfl rfl sz_22 (by first | omega | (simp; omega) | exact Nat.le_trans (membI_len _) (by decide) | (simp [*]; done) | (simp [*]; omega)) rfl ?_
                exact .weak (.nil) (.refl _) (s1_511 a'_3 c'_3 hf_3 B_5 a_6 c_6 oka_6)
            have s1_127 : ∀ (a'_3 : Option Addr) (c'_3 : Nat) (hf_3 : SlOk a'_3 c'_3) (B_5 : Nat) (a_6 : Option Addr) (c_6 : Nat) (oka_6 : SlOk a_6 c_6), F 2 #[true, true, true, true, true, true, true, false, false] [(76, .slice (some ⟨B3, 0, none⟩) N2 N2), (77, .int .i64 (n : Int)), (82, .slice a_6 ((el58 ++ ([(cellAt C k1)])).length) c_6)] [As.one B_5 (.cells #[.int .i64 ((cellAt C k1).col), .int .i64 ((cellAt C k1).row)] 30 (0, 0)), SlO eCell 30 a_6 c_6 (el58 ++ ([(cellAt C k1)])), As.one B8 (.cells #[.int .i64 ((cellAt C k1).col), .int .i64 ((cellAt C k1).row)] 30 (0, 0)), SlO eHdr 22 (some ⟨B3, 0, none⟩) N2 hs2, Ents hs2 (fewIn C rods (mostTo C rods (fun _ => true) (C * Rw)) n (fewTo C Rw rods (mostTo C rods (fun _ => true) (C * Rw)) n) k1), As.one Bs (.cells #[.int .i64 (n : Int)] 3 (0, 0)), As.one B4 (.cells #[.slice (some ⟨B3, 0, none⟩) N2 N2] 118 (0, 0)), As.one B2 (.cells #[.pointer (some ⟨F1, 0, none⟩)] 115 (0, 0)), As.one F1 (.cells (fieldC C Rw ra rods.length rc (mostTo C rods (fun _ => true) (C * Rw)) M1).toArray 124 (0, 0)), MapO vN M1 ms1, As.one B1 (.cells #[.int .i64 (C : Int), .int .i64 (Rw : Int), .slice ra rods.length rc] 28 (0, 0))] := by
              intro a'_3 c'_3 hf_3 B_5 a_6 c_6 oka_6
              subst hF
              refine .step (l := [7]) (by kernel_rfl) (by decide) ⟨.run rfl trivial ?_, trivial⟩
              · have hbhx_7 : n < hs2.length := by omega
                obtain ⟨x_7, hx_7⟩ : ∃ x_7, hs2[n]? = some x_7 := ⟨_, List.getElem?_eq_getElem hbhx_7⟩
                refine .y (.indexE (E := eHdr) rfl (hlenhs2.symm) (.own 3 rfl) rfl sl_118 sz_22 (by omega)) rfl rfl ?_
                exact .weak (.one rfl (.one rfl (.nil))) (.refl _) (s1_255 a'_3 c'_3 hf_3 B_5 a_6 c_6 oka_6)
            have s1_63 : ∀ (a'_3 : Option Addr) (c'_3 : Nat) (hf_3 : SlOk a'_3 c'_3) (B_5 : Nat), F 3 #[true, true, true, true, true, true, false, false, false] [(76, .slice (some ⟨B3, 0, none⟩) N2 N2), (77, .int .i64 (n : Int)), (79, .slice a'_3 el58.length c'_3), (81, .slice (some ⟨B_5, 0, none⟩) 1 1)] [As.one B_5 (.cells #[.int .i64 ((cellAt C k1).col), .int .i64 ((cellAt C k1).row)] 30 (0, 0)), SlO eCell 30 a'_3 c'_3 el58, As.one B8 (.cells #[.int .i64 ((cellAt C k1).col), .int .i64 ((cellAt C k1).row)] 30 (0, 0)), SlO eHdr 22 (some ⟨B3, 0, none⟩) N2 hs2, Ents hs2 (fewIn C rods (mostTo C rods (fun _ => true) (C * Rw)) n (fewTo C Rw rods (mostTo C rods (fun _ => true) (C * Rw)) n) k1), As.one Bs (.cells #[.int .i64 (n : Int)] 3 (0, 0)), As.one B4 (.cells #[.slice (some ⟨B3, 0, none⟩) N2 N2] 118 (0, 0)), As.one B2 (.cells #[.pointer (some ⟨F1, 0, none⟩)] 115 (0, 0)), As.one F1 (.cells (fieldC C Rw ra rods.length rc (mostTo C rods (fun _ => true) (C * Rw)) M1).toArray 124 (0, 0)), MapO vN M1 ms1, As.one B1 (.cells #[.int .i64 (C : Int), .int .i64 (Rw : Int), .slice ra rods.length rc] 28 (0, 0))] := by
              intro a'_3 c'_3 hf_3 B_5
              subst hF
              refine .step (l := [6]) (by kernel_rfl) (by decide) ⟨.run rfl trivial ?_, trivial⟩
              · refine .app (E := eCell) (ys := [(cellAt C k1)]) 1 el_22 rfl rfl rfl rfl rfl (.of_cells (.own 0 rfl)) (fun h => by cases h) (by first | omega | (simp; omega) | (simp [*]; omega)) (by first | omega | (simp; omega) | (simp [*]; omega)) rfl fun a_6 c_6 oka_6 => ?_
                exact .weak (.one rfl (.one rfl (.one rfl (.nil)))) (.refl _) (s1_127 a'_3 c'_3 hf_3 B_5 a_6 c_6 oka_6)
            have s1_125 : ∀ (a'_3 : Option Addr) (c'_3 : Nat) (hf_3 : SlOk a'_3 c'_3) (B_5 : Nat) (a_6 : Option Addr) (c_6 : Nat) (oka_6 : SlOk a_6 c_6), F 3 #[true, false, true, true, true, true, true, false, false] [(7, .pointer (some ⟨Bs, 0, none⟩)), (76, .slice (some ⟨B3, 0, none⟩) N2 N2), (82, .slice a_6 ((el58 ++ ([(cellAt C k1)])).length) c_6)] [As.one B_5 (.cells #[.int .i64 ((cellAt C k1).col), .int .i64 ((cellAt C k1).row)] 30 (0, 0)), SlO eCell 30 a_6 c_6 (el58 ++ ([(cellAt C k1)])), As.one B8 (.cells #[.int .i64 ((cellAt C k1).col), .int .i64 ((cellAt C k1).row)] 30 (0, 0)), SlO eHdr 22 (some ⟨B3, 0, none⟩) N2 hs2, Ents hs2 (fewIn C rods (mostTo C rods (fun _ => true) (C * Rw)) n (fewTo C Rw rods (mostTo C rods (fun _ => true) (C * Rw)) n) k1), As.one Bs (.cells #[.int .i64 (n : Int)] 3 (0, 0)), As.one B4 (.cells #[.slice (some ⟨B3, 0, none⟩) N2 N2] 118 (0, 0)), As.one B2 (.cells #[.pointer (some ⟨F1, 0, none⟩)] 115 (0, 0)), As.one F1 (.cells (fieldC C Rw ra rods.length rc (mostTo C rods (fun _ => true) (C * Rw)) M1).toArray 124 (0, 0)), MapO vN M1 ms1, As.one B1 (.cells #[.int .i64 (C : Int), .int .i64 (Rw : Int), .slice ra rods.length rc] 28 (0, 0))] := by
              intro a'_3 c'_3 hf_3 B_5 a_6 c_6 oka_6
              subst hF
              refine .step (l := [1]) (by kernel_rfl) (by decide) ⟨.run rfl trivial ?_, trivial⟩
              · refine .y (.load rfl (.own 5 rfl) ag_3 sz_3 rfl) rfl rfl ?_
                exact .weak (.one rfl (.one rfl (.one rfl (.nil)))) (.refl _) (s1_127 a'_3 c'_3 hf_3 B_5 a_6 c_6 oka_6)
            have s1_126 : ∀ (a'_3 : Option Addr) (c'_3 : Nat) (hf_3 : SlOk a'_3 c'_3) (B_5 : Nat) (a_6 : Option Addr) (c_6 : Nat) (oka_6 : SlOk a_6 c_6), F 3 #[false, true, true, true, true, true, true, false, false] [(6, .pointer (some ⟨B4, 0, none⟩)), (77, .int .i64 (n : Int)), (82, .slice a_6 ((el58 ++ ([(cellAt C k1)])).length) c_6)] [As.one B_5 (.cells #[.int .i64 ((cellAt C k1).col), .int .i64 ((cellAt C k1).row)] 30 (0, 0)), SlO eCell 30 a_6 c_6 (el58 ++ ([(cellAt C k1)])), As.one B8 (.cells #[.int .i64 ((cellAt C k1).col), .int .i64 ((cellAt C k1).row)] 30 (0, 0)), SlO eHdr 22 (some ⟨B3, 0, none⟩) N2 hs2, Ents hs2 (fewIn C rods (mostTo C rods (fun _ => true) (C * Rw)) n (fewTo C Rw rods (mostTo C rods (fun _ => true) (C * Rw)) n) k1), As.one Bs (.cells #[.int .i64 (n : Int)] 3 (0, 0)), As.one B4 (.cells #[.slice (some ⟨B3, 0, none⟩) N2 N2] 118 (0, 0)), As.one B2 (.cells #[.pointer (some ⟨F1, 0, none⟩)] 115 (0, 0)), As.one F1 (.cells (fieldC C Rw ra rods.length rc (mostTo C rods (fun _ => true) (C * Rw)) M1).toArray 124 (0, 0)), MapO vN M1 ms1, As.one B1 (.cells #[.int .i64 (C : Int), .int .i64 (Rw : Int), .slice ra rods.length rc] 28 (0, 0))] := by
              intro a'_3 c'_3 hf_3 B_5 a_6 c_6 oka_6
              subst hF
              refine .step (l := [0]) (by kernel_rfl) (by decide) ⟨.run rfl trivial ?_, trivial⟩
              · refine .y (.load rfl (.own 6 rfl) ag_118 sz_118 rfl) rfl rfl ?_
                exact .weak (.one rfl (.one rfl (.one rfl (.nil)))) (.refl _) (s1_127 a'_3 c'_3 hf_3 B_5 a_6 c_6 oka_6)
            have s1_31 : ∀ (a'_3 : Option Addr) (c'_3 : Nat) (hf_3 : SlOk a'_3 c'_3), F 4 #[true, true, true, true, true, false, false, false, false] [(76, .slice (some ⟨B3, 0, none⟩) N2 N2), (77, .int .i64 (n : Int)), (79, .slice a'_3 el58.length c'_3), (80, .agg #[.int .i64 ((cellAt C k1).col), .int .i64 ((cellAt C k1).row)])] [SlO eCell 30 a'_3 c'_3 el58, As.one B8 (.cells #[.int .i64 ((cellAt C k1).col), .int .i64 ((cellAt C k1).row)] 30 (0, 0)), SlO eHdr 22 (some ⟨B3, 0, none⟩) N2 hs2, Ents hs2 (fewIn C rods (mostTo C rods (fun _ => true) (C * Rw)) n (fewTo C Rw rods (mostTo C rods (fun _ => true) (C * Rw)) n) k1), As.one Bs (.cells #[.int .i64 (n : Int)] 3 (0, 0)), As.one B4 (.cells #[.slice (some ⟨B3, 0, none⟩) N2 N2] 118 (0, 0)), As.one B2 (.cells #[.pointer (some ⟨F1, 0, none⟩)] 115 (0, 0)), As.one F1 (.cells (fieldC C Rw ra rods.length rc (mostTo C rods (fun _ => true) (C * Rw)) M1).toArray 124 (0, 0)), MapO vN M1 ms1, As.one B1 (.cells #[.int .i64 (C : Int), .int .i64 (Rw : Int), .slice ra rods.length rc] 28 (0, 0))] := by
              intro a'_3 c'_3 hf_3
              subst hF
              refine .step (l := [5]) (by kernel_rfl) (by decide) ⟨.run rfl trivial ?_, trivial⟩
              · refine .n (.lit #[.int .i64 0, .int .i64 0] lz_30_1 rfl sl_22 sz_30 zr_30 rfl rfl rfl) rfl rfl fun B_5 => ?_
                exact .weak (.one rfl (.one rfl (.one rfl (.one rfl (.nil))))) (.refl _) (s1_63 a'_3 c'_3 hf_3 B_5)
            have s1_55 : ∀ (B_5 : Nat), F 4 #[true, true, true, false, true, true, false, false, false] [(76, .slice (some ⟨B3, 0, none⟩) N2 N2), (77, .int .i64 (n : Int)), (78, .slice ea58 el58.length ec58), (81, .slice (some ⟨B_5, 0, none⟩) 1 1)] [As.one B_5 (.cells #[.int .i64 ((cellAt C k1).col), .int .i64 ((cellAt C k1).row)] 30 (0, 0)), As.one B8 (.cells #[.int .i64 ((cellAt C k1).col), .int .i64 ((cellAt C k1).row)] 30 (0, 0)), SlO eHdr 22 (some ⟨B3, 0, none⟩) N2 hs2, Ents hs2 (fewIn C rods (mostTo C rods (fun _ => true) (C * Rw)) n (fewTo C Rw rods (mostTo C rods (fun _ => true) (C * Rw)) n) k1), As.one Bs (.cells #[.int .i64 (n : Int)] 3 (0, 0)), As.one B4 (.cells #[.slice (some ⟨B3, 0, none⟩) N2 N2] 118 (0, 0)), As.one B2 (.cells #[.pointer (some ⟨F1, 0, none⟩)] 115 (0, 0)), As.one F1 (.cells (fieldC C Rw ra rods.length rc (mostTo C rods (fun _ => true) (C * Rw)) M1).toArray 124 (0, 0)), MapO vN M1 ms1, As.one B1 (.cells #[.int .i64 (C : Int), .int .i64 (Rw : Int), .slice ra rods.length rc] 28 (0, 0))] := by
              intro B_5
              subst hF
              refine .step (l := [3]) (by kernel_rfl) (by decide) ⟨.run rfl trivial ?_, trivial⟩
              · refine .c (.call rfl rfl fn_60) rfl rfl (fun own ho hd => cloneeCell_ct _ (xs := el58) (Ents.in_own 3 rfl hx1 hex58 ho hd) (by first | assumption | exact .nil | exact .some | exact .drop (by assumption)) (by first | omega | (simp; omega) | (simp [*]; omega))) ?_
                rintro _ _ ⟨a'_3, c'_3, rfl, rfl, hf_3⟩
                exact .weak (.one rfl (.one rfl (.one rfl (.one rfl (.nil))))) (.pick 1 rfl (.refl _)) (s1_63 a'_3 c'_3 hf_3 B_5)
            have s1_61 : ∀ (a'_3 : Option Addr) (c'_3 : Nat) (hf_3 : SlOk a'_3 c'_3) (B_5 : Nat), F 4 #[true, false, true, true, true, true, false, false, false] [(7, .pointer (some ⟨Bs, 0, none⟩)), (76, .slice (some ⟨B3, 0, none⟩) N2 N2), (79, .slice a'_3 el58.length c'_3), (81, .slice (some ⟨B_5, 0, none⟩) 1 1)] [As.one B_5 (.cells #[.int .i64 ((cellAt C k1).col), .int .i64 ((cellAt C k1).row)] 30 (0, 0)), SlO eCell 30 a'_3 c'_3 el58, As.one B8 (.cells #[.int .i64 ((cellAt C k1).col), .int .i64 ((cellAt C k1).row)] 30 (0, 0)), SlO eHdr 22 (some ⟨B3, 0, none⟩) N2 hs2, Ents hs2 (fewIn C rods (mostTo C rods (fun _ => true) (C * Rw)) n (fewTo C Rw rods (mostTo C rods (fun _ => true) (C * Rw)) n) k1), As.one Bs (.cells #[.int .i64 (n : Int)] 3 (0, 0)), As.one B4 (.cells #[.slice (some ⟨B3, 0, none⟩) N2 N2] 118 (0, 0)), As.one B2 (.cells #[.pointer (some ⟨F1, 0, none⟩)] 115 (0, 0)), As.one F1 (.cells (fieldC C Rw ra rods.length rc (mostTo C rods (fun _ => true) (C * Rw)) M1).toArray 124 (0, 0)), MapO vN M1 ms1, As.one B1 (.cells #[.int .i64 (C : Int), .int .i64 (Rw : Int), .slice ra rods.length rc] 28 (0, 0))] := by
              intro a'_3 c'_3 hf_3 B_5
              subst hF
              refine .step (l := [1, 6]) (by kernel_rfl) (by decide) ⟨.run rfl trivial ?_, .run rfl trivial ?_, trivial⟩
              · refine .y (.load rfl (.own 5 rfl) ag_3 sz_3 rfl) rfl rfl ?_
                exact .weak (.one rfl (.one rfl (.one rfl (.one rfl (.nil))))) (.refl _) (s1_63 a'_3 c'_3 hf_3 B_5)
              · refine .app (E := eCell) (ys := [(cellAt C k1)]) 1 el_22 rfl rfl rfl rfl rfl (.of_cells (.own 0 rfl)) (fun h => by cases h) (by first | omega | (simp; omega) | (simp [*]; omega)) (by first | omega | (simp; omega) | (simp [*]; omega)) rfl fun a_6 c_6 oka_6 => ?_
                exact .weak (.one rfl (.one rfl (.one rfl (.nil)))) (.refl _) (s1_125 a'_3 c'_3 hf_3 B_5 a_6 c_6 oka_6)
            have s1_62 : ∀ (a'_3 : Option Addr) (c'_3 : Nat) (hf_3 : SlOk a'_3 c'_3) (B_5 : Nat), F 4 #[false, true, true, true, true, true, false, false, false] [(6, .pointer (some ⟨B4, 0, none⟩)), (77, .int .i64 (n : Int)), (79, .slice a'_3 el58.length c'_3), (81, .slice (some ⟨B_5, 0, none⟩) 1 1)] [As.one B_5 (.cells #[.int .i64 ((cellAt C k1).col), .int .i64 ((cellAt C k1).row)] 30 (0, 0)), SlO eCell 30 a'_3 c'_3 el58, As.one B8 (.cells #[.int .i64 ((cellAt C k1).col), .int .i64 ((cellAt C k1).row)] 30 (0, 0)), SlO eHdr 22 (some ⟨B3, 0, none⟩) N2 hs2, Ents hs2 (fewIn C rods (mostTo C rods (fun _ => true) (C * Rw)) n (fewTo C Rw rods (mostTo C rods (fun _ => true) (C * Rw)) n) k1), As.one Bs (.cells #[.int .i64 (n : Int)] 3 (0, 0)), As.one B4 (.cells #[.slice (some ⟨B3, 0, none⟩) N2 N2] 118 (0, 0)), As.one B2 (.cells #[.pointer (some ⟨F1, 0, none⟩)] 115 (0, 0)), As.one F1 (.cells (fieldC C Rw ra rods.length rc (mostTo C rods (fun _ => true) (C * Rw)) M1).toArray 124 (0, 0)), MapO vN M1 ms1, As.one B1 (.cells #[.int .i64 (C : Int), .int .i64 (Rw : Int), .slice ra rods.length rc] 28 (0, 0))] := by
              intro a'_3 c'_3 hf_3 B_5
              subst hF
              refine .step (l := [0, 6]) (by kernel_rfl) (by decide) ⟨.run rfl trivial ?_, .run rfl trivial ?_, trivial⟩
              · refine .y (.load rfl (.own 6 rfl) ag_118 sz_118 rfl) rfl rfl ?_
                exact .weak (.one rfl (.one rfl (.one rfl (.one rfl (.nil))))) (.refl _) (s1_63 a'_3 c'_3 hf_3 B_5)
              · refine .app (E := eCell) (ys := [(cellAt C k1)]) 1 el_22 rfl rfl rfl rfl rfl (.of_cells (.own 0 rfl)) (fun h => by cases h) (by first | omega | (simp; omega) | (simp [*]; omega)) (by first | omega | (simp; omega) | (simp [*]; omega)) rfl fun a_6 c_6 oka_6 => ?_
                exact .weak (.one rfl (.one rfl (.one rfl (.nil)))) (.refl _) (s1_126 a'_3 c'_3 hf_3 B_5 a_6 c_6 oka_6)
            have s1_124 : ∀ (a'_3 : Option Addr) (c'_3 : Nat) (hf_3 : SlOk a'_3 c'_3) (B_5 : Nat) (a_6 : Option Addr) (c_6 : Nat) (oka_6 : SlOk a_6 c_6), F 4 #[false, false, true, true, true, true, true, false, false] [(6, .pointer (some ⟨B4, 0, none⟩)), (7, .pointer (some ⟨Bs, 0, none⟩)), (82, .slice a_6 ((el58 ++ ([(cellAt C k1)])).length) c_6)] [As.one B_5 (.cells #[.int .i64 ((cellAt C k1).col), .int .i64 ((cellAt C k1).row)] 30 (0, 0)), SlO eCell 30 a_6 c_6 (el58 ++ ([(cellAt C k1)])), As.one B8 (.cells #[.int .i64 ((cellAt C k1).col), .int .i64 ((cellAt C k1).row)] 30 (0, 0)), SlO eHdr 22 (some ⟨B3, 0, none⟩) N2 hs2, Ents hs2 (fewIn C rods (mostTo C rods (fun _ => true) (C * Rw)) n (fewTo C Rw rods (mostTo C rods (fun _ => true) (C * Rw)) n) k1), As.one Bs (.cells #[.int .i64 (n : Int)] 3 (0, 0)), As.one B4 (.cells #[.slice (some ⟨B3, 0, none⟩) N2 N2] 118 (0, 0)), As.one B2 (.cells #[.pointer (some ⟨F1, 0, none⟩)] 115 (0, 0)), As.one F1 (.cells (fieldC C Rw ra rods.length rc (mostTo C rods (fun _ => true) (C * Rw)) M1).toArray 124 (0, 0)), MapO vN M1 ms1, As.one B1 (.cells #[.int .i64 (C : Int), .int .i64 (Rw : Int), .slice ra rods.length rc] 28 (0, 0))] := by
              intro a'_3 c'_3 hf_3 B_5 a_6 c_6 oka_6
              subst hF
              refine .step (l := [0, 1]) (by kernel_rfl) (by decide) ⟨.run rfl trivial ?_, .run rfl trivial ?_, trivial⟩
              · refine .y (.load rfl (.own 6 rfl) ag_118 sz_118 rfl) rfl rfl ?_
                exact .weak (.one rfl (.one rfl (.one rfl (.nil)))) (.refl _) (s1_125 a'_3 c'_3 hf_3 B_5 a_6 c_6 oka_6)
              · refine .y (.load rfl (.own 5 rfl) ag_3 sz_3 rfl) rfl rfl ?_
                exact .weak (.one rfl (.one rfl (.one rfl (.nil)))) (.refl _) (s1_126 a'_3 c'_3 hf_3 B_5 a_6 c_6 oka_6)
            have s1_15 : ∀ (a'_3 : Option Addr) (c'_3 : Nat) (hf_3 : SlOk a'_3 c'_3), F 5 #[true, true, true, true, false, false, false, false, false] [(9, .pointer (some ⟨B8, 0, none⟩)), (76, .slice (some ⟨B3, 0, none⟩) N2 N2), (77, .int .i64 (n : Int)), (79, .slice a'_3 el58.length c'_3)] [SlO eCell 30 a'_3 c'_3 el58, As.one B8 (.cells #[.int .i64 ((cellAt C k1).col), .int .i64 ((cellAt C k1).row)] 30 (0, 0)), SlO eHdr 22 (some ⟨B3, 0, none⟩) N2 hs2, Ents hs2 (fewIn C rods (mostTo C rods (fun _ => true) (C * Rw)) n (fewTo C Rw rods (mostTo C rods (fun _ => true) (C * Rw)) n) k1), As.one Bs (.cells #[.int .i64 (n : Int)] 3 (0, 0)), As.one B4 (.cells #[.slice (some ⟨B3, 0, none⟩) N2 N2] 118 (0, 0)), As.one B2 (.cells #[.pointer (some ⟨F1, 0, none⟩)] 115 (0, 0)), As.one F1 (.cells (fieldC C Rw ra rods.length rc (mostTo C rods (fun _ => true) (C * Rw)) M1).toArray 124 (0, 0)), MapO vN M1 ms1, As.one B1 (.cells #[.int .i64 (C : Int), .int .i64 (Rw : Int), .slice ra rods.length rc] 28 (0, 0))] := by
              intro a'_3 c'_3 hf_3
              subst hF
              refine .step (l := [4]) (by kernel_rfl) (by decide) ⟨.run rfl trivial ?_, trivial⟩
              · refine .y (.load rfl (.own 1 rfl) ag_30 sz_30 rfl) rfl rfl ?_
                exact .weak (.one rfl (.one rfl (.one rfl (.one rfl (.nil))))) (.refl _) (s1_31 a'_3 c'_3 hf_3)
            have s1_23 : F 5 #[true, true, true, false, true, false, false, false, false] [(76, .slice (some ⟨B3, 0, none⟩) N2 N2), (77, .int .i64 (n : Int)), (78, .slice ea58 el58.length ec58), (80, .agg #[.int .i64 ((cellAt C k1).col), .int .i64 ((cellAt C k1).row)])] [As.one B8 (.cells #[.int .i64 ((cellAt C k1).col), .int .i64 ((cellAt C k1).row)] 30 (0, 0)), SlO eHdr 22 (some ⟨B3, 0, none⟩) N2 hs2, Ents hs2 (fewIn C rods (mostTo C rods (fun _ => true) (C * Rw)) n (fewTo C Rw rods (mostTo C rods (fun _ => true) (C * Rw)) n) k1), As.one Bs (.cells #[.int .i64 (n : Int)] 3 (0, 0)), As.one B4 (.cells #[.slice (some ⟨B3, 0, none⟩) N2 N2] 118 (0, 0)), As.one B2 (.cells #[.pointer (some ⟨F1, 0, none⟩)] 115 (0, 0)), As.one F1 (.cells (fieldC C Rw ra rods.length rc (mostTo C rods (fun _ => true) (C * Rw)) M1).toArray 124 (0, 0)), MapO vN M1 ms1, As.one B1 (.cells #[.int .i64 (C : Int), .int .i64 (Rw : Int), .slice ra rods.length rc] 28 (0, 0))] := by
              subst hF
              refine .step (l := [3, 5]) (by kernel_rfl) (by decide) ⟨.run rfl trivial ?_, .run rfl trivial ?_, trivial⟩
              · refine .c (.call rfl rfl fn_60) rfl rfl (fun own ho hd => cloneeCell_ct _ (xs := el58) (Ents.in_own 2 rfl hx1 hex58 ho hd) (by first | assumption | exact .nil | exact .some | exact .drop (by assumption)) (by first | omega | (simp; omega) | (simp [*]; omega))) ?_
                rintro _ _ ⟨a'_3, c'_3, rfl, rfl, hf_3⟩
                exact .weak (.one rfl (.one rfl (.one rfl (.one rfl (.nil))))) (.refl _) (s1_31 a'_3 c'_3 hf_3)
              · refine .n (.lit #[.int .i64 0, .int .i64 0] lz_30_1 rfl sl_22 sz_30 zr_30 rfl rfl rfl) rfl rfl fun B_5 => ?_
                exact .weak (.one rfl (.one rfl (.one rfl (.one rfl (.nil))))) (.refl _) (s1_55 B_5)
            have s1_51 : ∀ (B_5 : Nat), F 5 #[true, true, false, false, true, true, false, false, false] [(11, .slice ea58 el58.length ec58), (76, .slice (some ⟨B3, 0, none⟩) N2 N2), (77, .int .i64 (n : Int)), (81, .slice (some ⟨B_5, 0, none⟩) 1 1)] [As.one B_5 (.cells #[.int .i64 ((cellAt C k1).col), .int .i64 ((cellAt C k1).row)] 30 (0, 0)), As.one B8 (.cells #[.int .i64 ((cellAt C k1).col), .int .i64 ((cellAt C k1).row)] 30 (0, 0)), SlO eHdr 22 (some ⟨B3, 0, none⟩) N2 hs2, Ents hs2 (fewIn C rods (mostTo C rods (fun _ => true) (C * Rw)) n (fewTo C Rw rods (mostTo C rods (fun _ => true) (C * Rw)) n) k1), As.one Bs (.cells #[.int .i64 (n : Int)] 3 (0, 0)), As.one B4 (.cells #[.slice (some ⟨B3, 0, none⟩) N2 N2] 118 (0, 0)), As.one B2 (.cells #[.pointer (some ⟨F1, 0, none⟩)] 115 (0, 0)), As.one F1 (.cells (fieldC C Rw ra rods.length rc (mostTo C rods (fun _ => true) (C * Rw)) M1).toArray 124 (0, 0)), MapO vN M1 ms1, As.one B1 (.cells #[.int .i64 (C : Int), .int .i64 (Rw : Int), .slice ra rods.length rc] 28 (0, 0))] := by
              intro B_5
              subst hF
              refine .step (l := [2]) (by kernel_rfl) (by decide) ⟨.run rfl trivial ?_, trivial⟩
              · refine .y (.move rfl) rfl rfl ?_
                exact .weak (.one rfl (.one rfl (.one rfl (.one rfl (.nil))))) (.refl _) (s1_55 B_5)
            have s1_29 : ∀ (a'_3 : Option Addr) (c'_3 : Nat) (hf_3 : SlOk a'_3 c'_3), F 5 #[true, false, true, true, true, false, false, false, false] [(7, .pointer (some ⟨Bs, 0, none⟩)), (76, .slice (some ⟨B3, 0, none⟩) N2 N2), (79, .slice a'_3 el58.length c'_3), (80, .agg #[.int .i64 ((cellAt C k1).col), .int .i64 ((cellAt C k1).row)])] [SlO eCell 30 a'_3 c'_3 el58, As.one B8 (.cells #[.int .i64 ((cellAt C k1).col), .int .i64 ((cellAt C k1).row)] 30 (0, 0)), SlO eHdr 22 (some ⟨B3, 0, none⟩) N2 hs2, Ents hs2 (fewIn C rods (mostTo C rods (fun _ => true) (C * Rw)) n (fewTo C Rw rods (mostTo C rods (fun _ => true) (C * Rw)) n) k1), As.one Bs (.cells #[.int .i64 (n : Int)] 3 (0, 0)), As.one B4 (.cells #[.slice (some ⟨B3, 0, none⟩) N2 N2] 118 (0, 0)), As.one B2 (.cells #[.pointer (some ⟨F1, 0, none⟩)] 115 (0, 0)), As.one F1 (.cells (fieldC C Rw ra rods.length rc (mostTo C rods (fun _ => true) (C * Rw)) M1).toArray 124 (0, 0)), MapO vN M1 ms1, As.one B1 (.cells #[.int .i64 (C : Int), .int .i64 (Rw : Int), .slice ra rods.length rc] 28 (0, 0))] := by
              intro a'_3 c'_3 hf_3
              subst hF
              refine .step (l := [1, 5]) (by kernel_rfl) (by decide) ⟨.run rfl trivial ?_, .run rfl trivial ?_, trivial⟩
              · refine .y (.load rfl (.own 4 rfl) ag_3 sz_3 rfl) rfl rfl ?_
                exact .weak (.one rfl (.one rfl (.one rfl (.one rfl (.nil))))) (.refl _) (s1_31 a'_3 c'_3 hf_3)
              · refine .n (.lit #[.int .i64 0, .int .i64 0] lz_30_1 rfl sl_22 sz_30 zr_30 rfl rfl rfl) rfl rfl fun B_5 => ?_
                exact .weak (.one rfl (.one rfl (.one rfl (.one rfl (.nil))))) (.refl _) (s1_61 a'_3 c'_3 hf_3 B_5)
            have s1_53 : ∀ (B_5 : Nat), F 5 #[true, false, true, false, true, true, false, false, false] [(7, .pointer (some ⟨Bs, 0, none⟩)), (76, .slice (some ⟨B3, 0, none⟩) N2 N2), (78, .slice ea58 el58.length ec58), (81, .slice (some ⟨B_5, 0, none⟩) 1 1)] [As.one B_5 (.cells #[.int .i64 ((cellAt C k1).col), .int .i64 ((cellAt C k1).row)] 30 (0, 0)), As.one B8 (.cells #[.int .i64 ((cellAt C k1).col), .int .i64 ((cellAt C k1).row)] 30 (0, 0)), SlO eHdr 22 (some ⟨B3, 0, none⟩) N2 hs2, Ents hs2 (fewIn C rods (mostTo C rods (fun _ => true) (C * Rw)) n (fewTo C Rw rods (mostTo C rods (fun _ => true) (C * Rw)) n) k1), As.one Bs (.cells #[.int .i64 (n : Int)] 3 (0, 0)), As.one B4 (.cells #[.slice (some ⟨B3, 0, none⟩) N2 N2] 118 (0, 0)), As.one B2 (.cells #[.pointer (some ⟨F1, 0, none⟩)] 115 (0, 0)), As.one F1 (.cells (fieldC C Rw ra rods.length rc (mostTo C rods (fun _ => true) (C * Rw)) M1).toArray 124 (0, 0)), MapO vN M1 ms1, As.one B1 (.cells #[.int .i64 (C : Int), .int .i64 (Rw : Int), .slice ra rods.length rc] 28 (0, 0))] := by
              intro B_5
              subst hF
              refine .step (l := [1, 3]) (by kernel_rfl) (by decide) ⟨.run rfl trivial ?_, .run rfl trivial ?_, trivial⟩
              · refine .y (.load rfl (.own 4 rfl) ag_3 sz_3 rfl) rfl rfl ?_
                exact .weak (.one rfl (.one rfl (.one rfl (.one rfl (.nil))))) (.refl _) (s1_55 B_5)
              · refine .c (.call rfl rfl fn_60) rfl rfl (fun own ho hd => cloneeCell_ct _ (xs := el58) (Ents.in_own 3 rfl hx1 hex58 ho hd) (by first | assumption | exact .nil | exact .some | exact .drop (by assumption)) (by first | omega | (simp; omega) | (simp [*]; omega))) ?_
                rintro _ _ ⟨a'_3, c'_3, rfl, rfl, hf_3⟩
                exact .weak (.one rfl (.one rfl (.one rfl (.one rfl (.nil))))) (.pick 1 rfl (.refl _)) (s1_61 a'_3 c'_3 hf_3 B_5)
            have s1_30 : ∀ (a'_3 : Option Addr) (c'_3 : Nat) (hf_3 : SlOk a'_3 c'_3), F 5 #[false, true, true, true, true, false, false, false, false] [(6, .pointer (some ⟨B4, 0, none⟩)), (77, .int .i64 (n : Int)), (79, .slice a'_3 el58.length c'_3), (80, .agg #[.int .i64 ((cellAt C k1).col), .int .i64 ((cellAt C k1).row)])] [SlO eCell 30 a'_3 c'_3 el58, As.one B8 (.cells #[.int .i64 ((cellAt C k1).col), .int .i64 ((cellAt C k1).row)] 30 (0, 0)), SlO eHdr 22 (some ⟨B3, 0, none⟩) N2 hs2, Ents hs2 (fewIn C rods (mostTo C rods (fun _ => true) (C * Rw)) n (fewTo C Rw rods (mostTo C rods (fun _ => true) (C * Rw)) n) k1), As.one Bs (.cells #[.int .i64 (n : Int)] 3 (0, 0)), As.one B4 (.cells #[.slice (some ⟨B3, 0, none⟩) N2 N2] 118 (0, 0)), As.one B2 (.cells #[.pointer (some ⟨F1, 0, none⟩)] 115 (0, 0)), As.one F1 (.cells (fieldC C Rw ra rods.length rc (mostTo C rods (fun _ => true) (C * Rw)) M1).toArray 124 (0, 0)), MapO vN M1 ms1, As.one B1 (.cells #[.int .i64 (C : Int), .int .i64 (Rw : Int), .slice ra rods.length rc] 28 (0, 0))] := by
              intro a'_3 c'_3 hf_3
              subst hF
              refine .step (l := [0, 5]) (by kernel_rfl) (by decide) ⟨.run rfl trivial ?_, .run rfl trivial ?_, trivial⟩
              · refine .y (.load rfl (.own 5 rfl) ag_118 sz_118 rfl) rfl rfl ?_
                exact .weak (.one rfl (.one rfl (.one rfl (.one rfl (.nil))))) (.refl _) (s1_31 a'_3 c'_3 hf_3)
              · refine .n (.lit #[.int .i64 0, .int .i64 0] lz_30_1 rfl sl_22 sz_30 zr_30 rfl rfl rfl) rfl rfl fun B_5 => ?_
                exact .weak (.one rfl (.one rfl (.one rfl (.one rfl (.nil))))) (.refl _) (s1_62 a'_3 c'_3 hf_3 B_5)
            have s1_54 : ∀ (B_5 : Nat), F 5 #[false, true, true, false, true, true, false, false, false] [(6, .pointer (some ⟨B4, 0, none⟩)), (77, .int .i64 (n : Int)), (78, .slice ea58 el58.length ec58), (81, .slice (some ⟨B_5, 0, none⟩) 1 1)] [As.one B_5 (.cells #[.int .i64 ((cellAt C k1).col), .int .i64 ((cellAt C k1).row)] 30 (0, 0)), As.one B8 (.cells #[.int .i64 ((cellAt C k1).col), .int .i64 ((cellAt C k1).row)] 30 (0, 0)), SlO eHdr 22 (some ⟨B3, 0, none⟩) N2 hs2, Ents hs2 (fewIn C rods (mostTo C rods (fun _ => true) (C * Rw)) n (fewTo C Rw rods (mostTo C rods (fun _ => true) (C * Rw)) n) k1), As.one Bs (.cells #[.int .i64 (n : Int)] 3 (0, 0)), As.one B4 (.cells #[.slice (some ⟨B3, 0, none⟩) N2 N2] 118 (0, 0)), As.one B2 (.cells #[.pointer (some ⟨F1, 0, none⟩)] 115 (0, 0)), As.one F1 (.cells (fieldC C Rw ra rods.length rc (mostTo C rods (fun _ => true) (C * Rw)) M1).toArray 124 (0, 0)), MapO vN M1 ms1, As.one B1 (.cells #[.int .i64 (C : Int), .int .i64 (Rw : Int), .slice ra rods.length rc] 28 (0, 0))] := by
              intro B_5
              subst hF
              refine .step (l := [0, 3]) (by kernel_rfl) (by decide) ⟨.run rfl trivial ?_, .run rfl trivial ?_, trivial⟩
              · refine .y (.load rfl (.own 5 rfl) ag_118 sz_118 rfl) rfl rfl ?_
                exact .weak (.one rfl (.one rfl (.one rfl (.one rfl (.nil))))) (.refl _) (s1_55 B_5)
              · refine .c (.call rfl rfl fn_60) rfl rfl (fun own ho hd => cloneeCell_ct _ (xs := el58) (Ents.in_own 3 rfl hx1 hex58 ho hd) (by first | assumption | exact .nil | exact .some | exact .drop (by assumption)) (by first | omega | (simp; omega) | (simp [*]; omega))) ?_
                rintro _ _ ⟨a'_3, c'_3, rfl, rfl, hf_3⟩
                exact .weak (.one rfl (.one rfl (.one rfl (.one rfl (.nil))))) (.pick 1 rfl (.refl _)) (s1_62 a'_3 c'_3 hf_3 B_5)
            have s1_60 : ∀ (a'_3 : Option Addr) (c'_3 : Nat) (hf_3 : SlOk a'_3 c'_3) (B_5 : Nat), F 5 #[false, false, true, true, true, true, false, false, false] [(6, .pointer (some ⟨B4, 0, none⟩)), (7, .pointer (some ⟨Bs, 0, none⟩)), (79, .slice a'_3 el58.length c'_3), (81, .slice (some ⟨B_5, 0, none⟩) 1 1)] [As.one B_5 (.cells #[.int .i64 ((cellAt C k1).col), .int .i64 ((cellAt C k1).row)] 30 (0, 0)), SlO eCell 30 a'_3 c'_3 el58, As.one B8 (.cells #[.int .i64 ((cellAt C k1).col), .int .i64 ((cellAt C k1).row)] 30 (0, 0)), SlO eHdr 22 (some ⟨B3, 0, none⟩) N2 hs2, Ents hs2 (fewIn C rods (mostTo C rods (fun _ => true) (C * Rw)) n (fewTo C Rw rods (mostTo C rods (fun _ => true) (C * Rw)) n) k1), As.one Bs (.cells #[.int .i64 (n : Int)] 3 (0, 0)), As.one B4 (.cells #[.slice (some ⟨B3, 0, none⟩) N2 N2] 118 (0, 0)), As.one B2 (.cells #[.pointer (some ⟨F1, 0, none⟩)] 115 (0, 0)), As.one F1 (.cells (fieldC C Rw ra rods.length rc (mostTo C rods (fun _ => true) (C * Rw)) M1).toArray 124 (0, 0)), MapO vN M1 ms1, As.one B1 (.cells #[.int .i64 (C : Int), .int .i64 (Rw : Int), .slice ra rods.length rc] 28 (0, 0))] := by
              intro a'_3 c'_3 hf_3 B_5
              subst hF
              refine .step (l := [0, 1, 6]) (by kernel_rfl) (by decide) ⟨.run rfl trivial ?_, .run rfl trivial ?_, .run rfl trivial ?_, trivial⟩
              · refine .y (.load rfl (.own 6 rfl) ag_118 sz_118 rfl) rfl rfl ?_
                exact .weak (.one rfl (.one rfl (.one rfl (.one rfl (.nil))))) (.refl _) (s1_61 a'_3 c'_3 hf_3 B_5)
              · refine .y (.load rfl (.own 5 rfl) ag_3 sz_3 rfl) rfl rfl ?_
                exact .weak (.one rfl (.one rfl (.one rfl (.one rfl (.nil))))) (.refl _) (s1_62 a'_3 c'_3 hf_3 B_5)
              · refine .app (E := eCell) (ys := [(cellAt C k1)]) 1 el_22 rfl rfl rfl rfl rfl (.of_cells (.own 0 rfl)) (fun h => by cases h) (by first | omega | (simp; omega) | (simp [*]; omega)) (by first | omega | (simp; omega) | (simp [*]; omega)) rfl fun a_6 c_6 oka_6 => ?_
                exact .weak (.one rfl (.one rfl (.one rfl (.nil)))) (.refl _) (s1_124 a'_3 c'_3 hf_3 B_5 a_6 c_6 oka_6)
            have s1_7 : F 6 #[true, true, true, false, false, false, false, false, false] [(9, .pointer (some ⟨B8, 0, none⟩)), (76, .slice (some ⟨B3, 0, none⟩) N2 N2), (77, .int .i64 (n : Int)), (78, .slice ea58 el58.length ec58)] [As.one B8 (.cells #[.int .i64 ((cellAt C k1).col), .int .i64 ((cellAt C k1).row)] 30 (0, 0)), SlO eHdr 22 (some ⟨B3, 0, none⟩) N2 hs2, Ents hs2 (fewIn C rods (mostTo C rods (fun _ => true) (C * Rw)) n (fewTo C Rw rods (mostTo C rods (fun _ => true) (C * Rw)) n) k1), As.one Bs (.cells #[.int .i64 (n : Int)] 3 (0, 0)), As.one B4 (.cells #[.slice (some ⟨B3, 0, none⟩) N2 N2] 118 (0, 0)), As.one B2 (.cells #[.pointer (some ⟨F1, 0, none⟩)] 115 (0, 0)), As.one F1 (.cells (fieldC C Rw ra rods.length rc (mostTo C rods (fun _ => true) (C * Rw)) M1).toArray 124 (0, 0)), MapO vN M1 ms1, As.one B1 (.cells #[.int .i64 (C : Int), .int .i64 (Rw : Int), .slice ra rods.length rc] 28 (0, 0))] := by
              subst hF
              refine .step (l := [3, 4]) (by kernel_rfl) (by decide) ⟨.run rfl trivial ?_, .run rfl trivial ?_, trivial⟩
              · refine .c (.call rfl rfl fn_60) rfl rfl (fun own ho hd => cloneeCell_ct _ (xs := el58) (Ents.in_own 2 rfl hx1 hex58 ho hd) (by first | assumption | exact .nil | exact .some | exact .drop (by assumption)) (by first | omega | (simp; omega) | (simp [*]; omega))) ?_
                rintro _ _ ⟨a'_3, c'_3, rfl, rfl, hf_3⟩
                exact .weak (.one rfl (.one rfl (.one rfl (.one rfl (.nil))))) (.refl _) (s1_15 a'_3 c'_3 hf_3)
              · refine .y (.load rfl (.own 0 rfl) ag_30 sz_30 rfl) rfl rfl ?_
                exact .weak (.one rfl (.one rfl (.one rfl (.one rfl (.nil))))) (.refl _) (s1_23)
            have s1_19 : F 6 #[true, true, false, false, true, false, false, false, false] [(11, .slice ea58 el58.length ec58), (76, .slice (some ⟨B3, 0, none⟩) N2 N2), (77, .int .i64 (n : Int)), (80, .agg #[.int .i64 ((cellAt C k1).col), .int .i64 ((cellAt C k1).row)])] [As.one B8 (.cells #[.int .i64 ((cellAt C k1).col), .int .i64 ((cellAt C k1).row)] 30 (0, 0)), SlO eHdr 22 (some ⟨B3, 0, none⟩) N2 hs2, Ents hs2 (fewIn C rods (mostTo C rods (fun _ => true) (C * Rw)) n (fewTo C Rw rods (mostTo C rods (fun _ => true) (C * Rw)) n) k1), As.one Bs (.cells #[.int .i64 (n : Int)] 3 (0, 0)), As.one B4 (.cells #[.slice (some ⟨B3, 0, none⟩) N2 N2] 118 (0, 0)), As.one B2 (.cells #[.pointer (some ⟨F1, 0, none⟩)] 115 (0, 0)), As.one F1 (.cells (fieldC C Rw ra rods.length rc (mostTo C rods (fun _ => true) (C * Rw)) M1).toArray 124 (0, 0)), MapO vN M1 ms1, As.one B1 (.cells #[.int .i64 (C : Int), .int .i64 (Rw : Int), .slice ra rods.length rc] 28 (0, 0))] := by
              subst hF
              refine .step (l := [2, 5]) (by kernel_rfl) (by decide) ⟨.run rfl trivial ?_, .run rfl trivial ?_, trivial⟩
              · refine .y (.move rfl) rfl rfl ?_
                exact .weak (.one rfl (.one rfl (.one rfl (.one rfl (.nil))))) (.refl _) (s1_23)
              · refine .n (.lit #[.int .i64 0, .int .i64 0] lz_30_1 rfl sl_22 sz_30 zr_30 rfl rfl rfl) rfl rfl fun B_5 => ?_
                exact .weak (.one rfl (.one rfl (.one rfl (.one rfl (.nil))))) (.refl _) (s1_51 B_5)
            have s1_13 : ∀ (a'_3 : Option Addr) (c'_3 : Nat) (hf_3 : SlOk a'_3 c'_3), F 6 #[true, false, true, true, false, false, false, false, false] [(7, .pointer (some ⟨Bs, 0, none⟩)), (9, .pointer (some ⟨B8, 0, none⟩)), (76, .slice (some ⟨B3, 0, none⟩) N2 N2), (79, .slice a'_3 el58.length c'_3)] [SlO eCell 30 a'_3 c'_3 el58, As.one B8 (.cells #[.int .i64 ((cellAt C k1).col), .int .i64 ((cellAt C k1).row)] 30 (0, 0)), SlO eHdr 22 (some ⟨B3, 0, none⟩) N2 hs2, Ents hs2 (fewIn C rods (mostTo C rods (fun _ => true) (C * Rw)) n (fewTo C Rw rods (mostTo C rods (fun _ => true) (C * Rw)) n) k1), As.one Bs (.cells #[.int .i64 (n : Int)] 3 (0, 0)), As.one B4 (.cells #[.slice (some ⟨B3, 0, none⟩) N2 N2] 118 (0, 0)), As.one B2 (.cells #[.pointer (some ⟨F1, 0, none⟩)] 115 (0, 0)), As.one F1 (.cells (fieldC C Rw ra rods.length rc (mostTo C rods (fun _ => true) (C * Rw)) M1).toArray 124 (0, 0)), MapO vN M1 ms1, As.one B1 (.cells #[.int .i64 (C : Int), .int .i64 (Rw : Int), .slice ra rods.length rc] 28 (0, 0))] := by
              intro a'_3 c'_3 hf_3
              subst hF
              refine .step (l := [1, 4]) (by kernel_rfl) (by decide) ⟨.run rfl trivial ?_, .run rfl trivial ?_, trivial⟩
              · refine .y (.load rfl (.own 4 rfl) ag_3 sz_3 rfl) rfl rfl ?_
                exact .weak (.one rfl (.one rfl (.one rfl (.one rfl (.nil))))) (.refl _) (s1_15 a'_3 c'_3 hf_3)
              · refine .y (.load rfl (.own 1 rfl) ag_30 sz_30 rfl) rfl rfl ?_
                exact .weak (.one rfl (.one rfl (.one rfl (.one rfl (.nil))))) (.refl _) (s1_29 a'_3 c'_3 hf_3)
            have s1_21 : F 6 #[true, false, true, false, true, false, false, false, false] [(7, .pointer (some ⟨Bs, 0, none⟩)), (76, .slice (some ⟨B3, 0, none⟩) N2 N2), (78, .slice ea58 el58.length ec58), (80, .agg #[.int .i64 ((cellAt C k1).col), .int .i64 ((cellAt C k1).row)])] [As.one B8 (.cells #[.int .i64 ((cellAt C k1).col), .int .i64 ((cellAt C k1).row)] 30 (0, 0)), SlO eHdr 22 (some ⟨B3, 0, none⟩) N2 hs2, Ents hs2 (fewIn C rods (mostTo C rods (fun _ => true) (C * Rw)) n (fewTo C Rw rods (mostTo C rods (fun _ => true) (C * Rw)) n) k1), As.one Bs (.cells #[.int .i64 (n : Int)] 3 (0, 0)), As.one B4 (.cells #[.slice (some ⟨B3, 0, none⟩) N2 N2] 118 (0, 0)), As.one B2 (.cells #[.pointer (some ⟨F1, 0, none⟩)] 115 (0, 0)), As.one F1 (.cells (fieldC C Rw ra rods.length rc (mostTo C rods (fun _ => true) (C * Rw)) M1).toArray 124 (0, 0)), MapO vN M1 ms1, As.one B1 (.cells #[.int .i64 (C : Int), .int .i64 (Rw : Int), .slice ra rods.length rc] 28 (0, 0))] := by
              subst hF
              refine .step (l := [1, 3, 5]) (by kernel_rfl) (by decide) ⟨.run rfl trivial ?_, .run rfl trivial ?_, .run rfl trivial ?_, trivial⟩
              · refine .y (.load rfl (.own 3 rfl) ag_3 sz_3 rfl) rfl rfl ?_
                exact .weak (.one rfl (.one rfl (.one rfl (.one rfl (.nil))))) (.refl _) (s1_23)
              · refine .c (.call rfl rfl fn_60) rfl rfl (fun own ho hd => cloneeCell_ct _ (xs := el58) (Ents.in_own 2 rfl hx1 hex58 ho hd) (by first | assumption | exact .nil | exact .some | exact .drop (by assumption)) (by first | omega | (simp; omega) | (simp [*]; omega))) ?_
                rintro _ _ ⟨a'_3, c'_3, rfl, rfl, hf_3⟩
                exact .weak (.one rfl (.one rfl (.one rfl (.one rfl (.nil))))) (.refl _) (s1_29 a'_3 c'_3 hf_3)
              · refine .n (.lit #[.int .i64 0, .int .i64 0] lz_30_1 rfl sl_22 sz_30 zr_30 rfl rfl rfl) rfl rfl fun B_5 => ?_
                exact .weak (.one rfl (.one rfl (.one rfl (.one rfl (.nil))))) (.refl _) (s1_53 B_5)
            have s1_49 : ∀ (B_5 : Nat), F 6 #[true, false, false, false, true, true, false, false, false] [(7, .pointer (some ⟨Bs, 0, none⟩)), (11, .slice ea58 el58.length ec58), (76, .slice (some ⟨B3, 0, none⟩) N2 N2), (81, .slice (some ⟨B_5, 0, none⟩) 1 1)] [As.one B_5 (.cells #[.int .i64 ((cellAt C k1).col), .int .i64 ((cellAt C k1).row)] 30 (0, 0)), As.one B8 (.cells #[.int .i64 ((cellAt C k1).col), .int .i64 ((cellAt C k1).row)] 30 (0, 0)), SlO eHdr 22 (some ⟨B3, 0, none⟩) N2 hs2, Ents hs2 (fewIn C rods (mostTo C rods (fun _ => true) (C * Rw)) n (fewTo C Rw rods (mostTo C rods (fun _ => true) (C * Rw)) n) k1), As.one Bs (.cells #[.int .i64 (n : Int)] 3 (0, 0)), As.one B4 (.cells #[.slice (some ⟨B3, 0, none⟩) N2 N2] 118 (0, 0)), As.one B2 (.cells #[.pointer (some ⟨F1, 0, none⟩)] 115 (0, 0)), As.one F1 (.cells (fieldC C Rw ra rods.length rc (mostTo C rods (fun _ => true) (C * Rw)) M1).toArray 124 (0, 0)), MapO vN M1 ms1, As.one B1 (.cells #[.int .i64 (C : Int), .int .i64 (Rw : Int), .slice ra rods.length rc] 28 (0, 0))] := by
              intro B_5
              subst hF
              refine .step (l := [1, 2]) (by kernel_rfl) (by decide) ⟨.run rfl trivial ?_, .run rfl trivial ?_, trivial⟩
              · refine .y (.load rfl (.own 4 rfl) ag_3 sz_3 rfl) rfl rfl ?_
                exact .weak (.one rfl (.one rfl (.one rfl (.one rfl (.nil))))) (.refl _) (s1_51 B_5)
              · refine .y (.move rfl) rfl rfl ?_
                exact .weak (.one rfl (.one rfl (.one rfl (.one rfl (.nil))))) (.refl _) (s1_53 B_5)
            have s1_14 : ∀ (a'_3 : Option Addr) (c'_3 : Nat) (hf_3 : SlOk a'_3 c'_3), F 6 #[false, true, true, true, false, false, false, false, false] [(6, .pointer (some ⟨B4, 0, none⟩)), (9, .pointer (some ⟨B8, 0, none⟩)), (77, .int .i64 (n : Int)), (79, .slice a'_3 el58.length c'_3)] [SlO eCell 30 a'_3 c'_3 el58, As.one B8 (.cells #[.int .i64 ((cellAt C k1).col), .int .i64 ((cellAt C k1).row)] 30 (0, 0)), SlO eHdr 22 (some ⟨B3, 0, none⟩) N2 hs2, Ents hs2 (fewIn C rods (mostTo C rods (fun _ => true) (C * Rw)) n (fewTo C Rw rods (mostTo C rods (fun _ => true) (C * Rw)) n) k1), As.one Bs (.cells #[.int .i64 (n : Int)] 3 (0, 0)), As.one B4 (.cells #[.slice (some ⟨B3, 0, none⟩) N2 N2] 118 (0, 0)), As.one B2 (.cells #[.pointer (some ⟨F1, 0, none⟩)] 115 (0, 0)), As.one F1 (.cells (fieldC C Rw ra rods.length rc (mostTo C rods (fun _ => true) (C * Rw)) M1).toArray 124 (0, 0)), MapO vN M1 ms1, As.one B1 (.cells #[.int .i64 (C : Int), .int .i64 (Rw : Int), .slice ra rods.length rc] 28 (0, 0))] := by
              intro a'_3 c'_3 hf_3
              subst hF
              refine .step (l := [0, 4]) (by kernel_rfl) (by decide) ⟨.run rfl trivial ?_, .run rfl trivial ?_, trivial⟩
              · refine .y (.load rfl (.own 5 rfl) ag_118 sz_118 rfl) rfl rfl ?_
                exact .weak (.one rfl (.one rfl (.one rfl (.one rfl (.nil))))) (.refl _) (s1_15 a'_3 c'_3 hf_3)
              · refine .y (.load rfl (.own 1 rfl) ag_30 sz_30 rfl) rfl rfl ?_
                exact .weak (.one rfl (.one rfl (.one rfl (.one rfl (.nil))))) (.refl _) (s1_30 a'_3 c'_3 hf_3)
            have s1_22 : F 6 #[false, true, true, false, true, false, false, false, false] [(6, .pointer (some ⟨B4, 0, none⟩)), (77, .int .i64 (n : Int)), (78, .slice ea58 el58.length ec58), (80, .agg #[.int .i64 ((cellAt C k1).col), .int .i64 ((cellAt C k1).row)])] [As.one B8 (.cells #[.int .i64 ((cellAt C k1).col), .int .i64 ((cellAt C k1).row)] 30 (0, 0)), SlO eHdr 22 (some ⟨B3, 0, none⟩) N2 hs2, Ents hs2 (fewIn C rods (mostTo C rods (fun _ => true) (C * Rw)) n (fewTo C Rw rods (mostTo C rods (fun _ => true) (C * Rw)) n) k1), As.one Bs (.cells #[.int .i64 (n : Int)] 3 (0, 0)), As.one B4 (.cells #[.slice (some ⟨B3, 0, none⟩) N2 N2] 118 (0, 0)), As.one B2 (.cells #[.pointer (some ⟨F1, 0, none⟩)] 115 (0, 0)), As.one F1 (.cells (fieldC C Rw ra rods.length rc (mostTo C rods (fun _ => true) (C * Rw)) M1).toArray 124 (0, 0)), MapO vN M1 ms1, As.one B1 (.cells #[.int .i64 (C : Int), .int .i64 (Rw : Int), .slice ra rods.length rc] 28 (0, 0))] := by
              subst hF
              refine .step (l := [0, 3, 5]) (by kernel_rfl) (by decide) ⟨.run rfl trivial ?_, .run rfl trivial ?_, .run rfl trivial ?_, trivial⟩
              · refine .y (.load rfl (.own 4 rfl) ag_118 sz_118 rfl) rfl rfl ?_
                exact .weak (.one rfl (.one rfl (.one rfl (.one rfl (.nil))))) (.refl _) (s1_23)
              · refine .c (.call rfl rfl fn_60) rfl rfl (fun own ho hd => cloneeCell_ct _ (xs := el58) (Ents.in_own 2 rfl hx1 hex58 ho hd) (by first | assumption | exact .nil | exact .some | exact .drop (by assumption)) (by first | omega | (simp; omega) | (simp [*]; omega))) ?_
                rintro _ _ ⟨a'_3, c'_3, rfl, rfl, hf_3⟩
                exact .weak (.one rfl (.one rfl (.one rfl (.one rfl (.nil))))) (.refl _) (s1_30 a'_3 c'_3 hf_3)
              · refine .n (.lit #[.int .i64 0, .int .i64 0] lz_30_1 rfl sl_22 sz_30 zr_30 rfl rfl rfl) rfl rfl fun B_5 => ?_
                exact .weak (.one rfl (.one rfl (.one rfl (.one rfl (.nil))))) (.refl _) (s1_54 B_5)
            have s1_50 : ∀ (B_5 : Nat), F 6 #[false, true, false, false, true, true, false, false, false] [(6, .pointer (some ⟨B4, 0, none⟩)), (11, .slice ea58 el58.length ec58), (77, .int .i64 (n : Int)), (81, .slice (some ⟨B_5, 0, none⟩) 1 1)] [As.one B_5 (.cells #[.int .i64 ((cellAt C k1).col), .int .i64 ((cellAt C k1).row)] 30 (0, 0)), As.one B8 (.cells #[.int .i64 ((cellAt C k1).col), .int .i64 ((cellAt C k1).row)] 30 (0, 0)), SlO eHdr 22 (some ⟨B3, 0, none⟩) N2 hs2, Ents hs2 (fewIn C rods (mostTo C rods (fun _ => true) (C * Rw)) n (fewTo C Rw rods (mostTo C rods (fun _ => true) (C * Rw)) n) k1), As.one Bs (.cells #[.int .i64 (n : Int)] 3 (0, 0)), As.one B4 (.cells #[.slice (some ⟨B3, 0, none⟩) N2 N2] 118 (0, 0)), As.one B2 (.cells #[.pointer (some ⟨F1, 0, none⟩)] 115 (0, 0)), As.one F1 (.cells (fieldC C Rw ra rods.length rc (mostTo C rods (fun _ => true) (C * Rw)) M1).toArray 124 (0, 0)), MapO vN M1 ms1, As.one B1 (.cells #[.int .i64 (C : Int), .int .i64 (Rw : Int), .slice ra rods.length rc] 28 (0, 0))] := by
              intro B_5
              subst hF
              refine .step (l := [0, 2]) (by kernel_rfl) (by decide) ⟨.run rfl trivial ?_, .run rfl trivial ?_, trivial⟩
              · refine .y (.load rfl (.own 5 rfl) ag_118 sz_118 rfl) rfl rfl ?_
                exact .weak (.one rfl (.one rfl (.one rfl (.one rfl (.nil))))) (.refl _) (s1_51 B_5)
              · refine .y (.move rfl) rfl rfl ?_
                exact .weak (.one rfl (.one rfl (.one rfl (.one rfl (.nil))))) (.refl _) (s1_54 B_5)
            have s1_28 : ∀ (a'_3 : Option Addr) (c'_3 : Nat) (hf_3 : SlOk a'_3 c'_3), F 6 #[false, false, true, true, true, false, false, false, false] [(6, .pointer (some ⟨B4, 0, none⟩)), (7, .pointer (some ⟨Bs, 0, none⟩)), (79, .slice a'_3 el58.length c'_3), (80, .agg #[.int .i64 ((cellAt C k1).col), .int .i64 ((cellAt C k1).row)])] [SlO eCell 30 a'_3 c'_3 el58, As.one B8 (.cells #[.int .i64 ((cellAt C k1).col), .int .i64 ((cellAt C k1).row)] 30 (0, 0)), SlO eHdr 22 (some ⟨B3, 0, none⟩) N2 hs2, Ents hs2 (fewIn C rods (mostTo C rods (fun _ => true) (C * Rw)) n (fewTo C Rw rods (mostTo C rods (fun _ => true) (C * Rw)) n) k1), As.one Bs (.cells #[.int .i64 (n : Int)] 3 (0, 0)), As.one B4 (.cells #[.slice (some ⟨B3, 0, none⟩) N2 N2] 118 (0, 0)), As.one B2 (.cells #[.pointer (some ⟨F1, 0, none⟩)] 115 (0, 0)), As.one F1 (.cells (fieldC C Rw ra rods.length rc (mostTo C rods (fun _ => true) (C * Rw)) M1).toArray 124 (0, 0)), MapO vN M1 ms1, As.one B1 (.cells #[.int .i64 (C : Int), .int .i64 (Rw : Int), .slice ra rods.length rc] 28 (0, 0))] := by
              intro a'_3 c'_3 hf_3
              subst hF
              refine .step (l := [0, 1, 5]) (by kernel_rfl) (by decide) ⟨.run rfl trivial ?_, .run rfl trivial ?_, .run rfl trivial ?_, trivial⟩
              · refine .y (.load rfl (.own 5 rfl) ag_118 sz_118 rfl) rfl rfl ?_
                exact .weak (.one rfl (.one rfl (.one rfl (.one rfl (.nil))))) (.refl _) (s1_29 a'_3 c'_3 hf_3)
              · refine .y (.load rfl (.own 4 rfl) ag_3 sz_3 rfl) rfl rfl ?_
                exact .weak (.one rfl (.one rfl (.one rfl (.one rfl (.nil))))) (.refl _) (s1_30 a'_3 c'_3 hf_3)
              · refine .n (.lit #[.int .i64 0, .int .i64 0] lz_30_1 rfl sl_22 sz_30 zr_30 rfl rfl rfl) rfl rfl fun B_5 => ?_
                exact .weak (.one rfl (.one rfl (.one rfl (.one rfl (.nil))))) (.refl _) (s1_60 a'_3 c'_3 hf_3 B_5)
            have s1_52 : ∀ (B_5 : Nat), F 6 #[false, false, true, false, true, true, false, false, false] [(6, .pointer (some ⟨B4, 0, none⟩)), (7, .pointer (some ⟨Bs, 0, none⟩)), (78, .slice ea58 el58.length ec58), (81, .slice (some ⟨B_5, 0, none⟩) 1 1)] [As.one B_5 (.cells #[.int .i64 ((cellAt C k1).col), .int .i64 ((cellAt C k1).row)] 30 (0, 0)), As.one B8 (.cells #[.int .i64 ((cellAt C k1).col), .int .i64 ((cellAt C k1).row)] 30 (0, 0)), SlO eHdr 22 (some ⟨B3, 0, none⟩) N2 hs2, Ents hs2 (fewIn C rods (mostTo C rods (fun _ => true) (C * Rw)) n (fewTo C Rw rods (mostTo C rods (fun _ => true) (C * Rw)) n) k1), As.one Bs (.cells #[.int .i64 (n : Int)] 3 (0, 0)), As.one B4 (.cells #[.slice (some ⟨B3, 0, none⟩) N2 N2] 118 (0, 0)), As.one B2 (.cells #[.pointer (some ⟨F1, 0, none⟩)] 115 (0, 0)), As.one F1 (.cells (fieldC C Rw ra rods.length rc (mostTo C rods (fun _ => true) (C * Rw)) M1).toArray 124 (0, 0)), MapO vN M1 ms1, As.one B1 (.cells #[.int .i64 (C : Int), .int .i64 (Rw : Int), .slice ra rods.length rc] 28 (0, 0))] := by
              intro B_5
              subst hF
              refine .step (l := [0, 1, 3]) (by kernel_rfl) (by decide) ⟨.run rfl trivial ?_, .run rfl trivial ?_, .run rfl trivial ?_, trivial⟩
              · refine .y (.load rfl (.own 5 rfl) ag_118 sz_118 rfl) rfl rfl ?_
                exact .weak (.one rfl (.one rfl (.one rfl (.one rfl (.nil))))) (.refl _) (s1_53 B_5)
              · refine .y (.load rfl (.own 4 rfl) ag_3 sz_3 rfl) rfl rfl ?_
                exact .weak (.one rfl (.one rfl (.one rfl (.one rfl (.nil))))) (.refl _) (s1_54 B_5)
              · refine .c (.call rfl rfl fn_60) rfl rfl (fun own ho hd => cloneeCell_ct _ (xs := el58) (Ents.in_own 3 rfl hx1 hex58 ho hd) (by first | assumption | exact .nil | exact .some | exact .drop (by assumption)) (by first | omega | (simp; omega) | (simp [*]; omega))) ?_
                rintro _ _ ⟨a'_3, c'_3, rfl, rfl, hf_3⟩
                exact .weak (.one rfl (.one rfl (.one rfl (.one rfl (.nil))))) (.pick 1 rfl (.refl _)) (s1_60 a'_3 c'_3 hf_3 B_5)
            have s1_3 : F 7 #[true, true, false, false, false, false, false, false, false] [(9, .pointer (some ⟨B8, 0, none⟩)), (11, .slice ea58 el58.length ec58), (76, .slice (some ⟨B3, 0, none⟩) N2 N2), (77, .int .i64 (n : Int))] [As.one B8 (.cells #[.int .i64 ((cellAt C k1).col), .int .i64 ((cellAt C k1).row)] 30 (0, 0)), SlO eHdr 22 (some ⟨B3, 0, none⟩) N2 hs2, Ents hs2 (fewIn C rods (mostTo C rods (fun _ => true) (C * Rw)) n (fewTo C Rw rods (mostTo C rods (fun _ => true) (C * Rw)) n) k1), As.one Bs (.cells #[.int .i64 (n : Int)] 3 (0, 0)), As.one B4 (.cells #[.slice (some ⟨B3, 0, none⟩) N2 N2] 118 (0, 0)), As.one B2 (.cells #[.pointer (some ⟨F1, 0, none⟩)] 115 (0, 0)), As.one F1 (.cells (fieldC C Rw ra rods.length rc (mostTo C rods (fun _ => true) (C * Rw)) M1).toArray 124 (0, 0)), MapO vN M1 ms1, As.one B1 (.cells #[.int .i64 (C : Int), .int .i64 (Rw : Int), .slice ra rods.length rc] 28 (0, 0))] := by
              subst hF
              refine .step (l := [2, 4]) (by kernel_rfl) (by decide) ⟨.run rfl trivial ?_, .run rfl trivial ?_, trivial⟩
              · refine .y (.move rfl) rfl rfl ?_
                exact .weak (.one rfl (.one rfl (.one rfl (.one rfl (.nil))))) (.refl _) (s1_7)
              · refine .y (.load rfl (.own 0 rfl) ag_30 sz_30 rfl) rfl rfl ?_
                exact .weak (.one rfl (.one rfl (.one rfl (.one rfl (.nil))))) (.refl _) (s1_19)
            have s1_5 : F 7 #[true, false, true, false, false, false, false, false, false] [(7, .pointer (some ⟨Bs, 0, none⟩)), (9, .pointer (some ⟨B8, 0, none⟩)), (76, .slice (some ⟨B3, 0, none⟩) N2 N2), (78, .slice ea58 el58.length ec58)] [As.one B8 (.cells #[.int .i64 ((cellAt C k1).col), .int .i64 ((cellAt C k1).row)] 30 (0, 0)), SlO eHdr 22 (some ⟨B3, 0, none⟩) N2 hs2, Ents hs2 (fewIn C rods (mostTo C rods (fun _ => true) (C * Rw)) n (fewTo C Rw rods (mostTo C rods (fun _ => true) (C * Rw)) n) k1), As.one Bs (.cells #[.int .i64 (n : Int)] 3 (0, 0)), As.one B4 (.cells #[.slice (some ⟨B3, 0, none⟩) N2 N2] 118 (0, 0)), As.one B2 (.cells #[.pointer (some ⟨F1, 0, none⟩)] 115 (0, 0)), As.one F1 (.cells (fieldC C Rw ra rods.length rc (mostTo C rods (fun _ => true) (C * Rw)) M1).toArray 124 (0, 0)), MapO vN M1 ms1, As.one B1 (.cells #[.int .i64 (C : Int), .int .i64 (Rw : Int), .slice ra rods.length rc] 28 (0, 0))] := by
              subst hF
              refine .step (l := [1, 3, 4]) (by kernel_rfl) (by decide) ⟨.run rfl trivial ?_, .run rfl trivial ?_, .run rfl trivial ?_, trivial⟩
              · refine .y (.load rfl (.own 3 rfl) ag_3 sz_3 rfl) rfl rfl ?_
                exact .weak (.one rfl (.one rfl (.one rfl (.one rfl (.nil))))) (.refl _) (s1_7)
              · refine .c (.call rfl rfl fn_60) rfl rfl (fun own ho hd => cloneeCell_ct _ (xs := el58) (Ents.in_own 2 rfl hx1 hex58 ho hd) (by first | assumption | exact .nil | exact .some | exact .drop (by assumption)) (by first | omega | (simp; omega) | (simp [*]; omega))) ?_
                rintro _ _ ⟨a'_3, c'_3, rfl, rfl, hf_3⟩
                exact .weak (.one rfl (.one rfl (.one rfl (.one rfl (.nil))))) (.refl _) (s1_13 a'_3 c'_3 hf_3)
              · refine .y (.load rfl (.own 0 rfl) ag_30 sz_30 rfl) rfl rfl ?_
                exact .weak (.one rfl (.one rfl (.one rfl (.one rfl (.nil))))) (.refl _) (s1_21)
            have s1_17 : F 7 #[true, false, false, false, true, false, false, false, false] [(7, .pointer (some ⟨Bs, 0, none⟩)), (11, .slice ea58 el58.length ec58), (76, .slice (some ⟨B3, 0, none⟩) N2 N2), (80, .agg #[.int .i64 ((cellAt C k1).col), .int .i64 ((cellAt C k1).row)])] [As.one B8 (.cells #[.int .i64 ((cellAt C k1).col), .int .i64 ((cellAt C k1).row)] 30 (0, 0)), SlO eHdr 22 (some ⟨B3, 0, none⟩) N2 hs2, Ents hs2 (fewIn C rods (mostTo C rods (fun _ => true) (C * Rw)) n (fewTo C Rw rods (mostTo C rods (fun _ => true) (C * Rw)) n) k1), As.one Bs (.cells #[.int .i64 (n : Int)] 3 (0, 0)), As.one B4 (.cells #[.slice (some ⟨B3, 0, none⟩) N2 N2] 118 (0, 0)), As.one B2 (.cells #[.pointer (some ⟨F1, 0, none⟩)] 115 (0, 0)), As.one F1 (.cells (fieldC C Rw ra rods.length rc (mostTo C rods (fun _ => true) (C * Rw)) M1).toArray 124 (0, 0)), MapO vN M1 ms1, As.one B1 (.cells #[.int .i64 (C : Int), .int .i64 (Rw : Int), .slice ra rods.length rc] 28 (0, 0))] := by
              subst hF
              refine .step (l := [1, 2, 5]) (by kernel_rfl) (by decide) ⟨.run rfl trivial ?_, .run rfl trivial ?_, .run rfl trivial ?_, trivial⟩
              · refine .y (.load rfl (.own 3 rfl) ag_3 sz_3 rfl) rfl rfl ?_
                exact .weak (.one rfl (.one rfl (.one rfl (.one rfl (.nil))))) (.refl _) (s1_19)
              · refine .y (.move rfl) rfl rfl ?_
                exact .weak (.one rfl (.one rfl (.one rfl (.one rfl (.nil))))) (.refl _) (s1_21)
              · refine .n (.lit #[.int .i64 0, .int .i64 0] lz_30_1 rfl sl_22 sz_30 zr_30 rfl rfl rfl) rfl rfl fun B_5 => ?_
                exact .weak (.one rfl (.one rfl (.one rfl (.one rfl (.nil))))) (.refl _) (s1_49 B_5)
            have s1_6 : F 7 #[false, true, true, false, false, false, false, false, false] [(6, .pointer (some ⟨B4, 0, none⟩)), (9, .pointer (some ⟨B8, 0, none⟩)), (77, .int .i64 (n : Int)), (78, .slice ea58 el58.length ec58)] [As.one B8 (.cells #[.int .i64 ((cellAt C k1).col), .int .i64 ((cellAt C k1).row)] 30 (0, 0)), SlO eHdr 22 (some ⟨B3, 0, none⟩) N2 hs2, Ents hs2 (fewIn C rods (mostTo C rods (fun _ => true) (C * Rw)) n (fewTo C Rw rods (mostTo C rods (fun _ => true) (C * Rw)) n) k1), As.one Bs (.cells #[.int .i64 (n : Int)] 3 (0, 0)), As.one B4 (.cells #[.slice (some ⟨B3, 0, none⟩) N2 N2] 118 (0, 0)), As.one B2 (.cells #[.pointer (some ⟨F1, 0, none⟩)] 115 (0, 0)), As.one F1 (.cells (fieldC C Rw ra rods.length rc (mostTo C rods (fun _ => true) (C * Rw)) M1).toArray 124 (0, 0)), MapO vN M1 ms1, As.one B1 (.cells #[.int .i64 (C : Int), .int .i64 (Rw : Int), .slice ra rods.length rc] 28 (0, 0))] := by
              subst hF
              refine .step (l := [0, 3, 4]) (by kernel_rfl) (by decide) ⟨.run rfl trivial ?_, .run rfl trivial ?_, .run rfl trivial ?_, trivial⟩
              · refine .y (.load rfl (.own 4 rfl) ag_118 sz_118 rfl) rfl rfl ?_
                exact .weak (.one rfl (.one rfl (.one rfl (.one rfl (.nil))))) (.refl _) (s1_7)
              · refine .c (.call rfl rfl fn_60) rfl rfl (fun own ho hd => cloneeCell_ct _ (xs := el58) (Ents.in_own 2 rfl hx1 hex58 ho hd) (by first | assumption | exact .nil | exact .some | exact .drop (by assumption)) (by first | omega | (simp; omega) | (simp [*]; omega))) ?_
                rintro _ _ ⟨a'_3, c'_3, rfl, rfl, hf_3⟩
                exact .weak (.one rfl (.one rfl (.one rfl (.one rfl (.nil))))) (.refl _) (s1_14 a'_3 c'_3 hf_3)
              · refine .y (.load rfl (.own 0 rfl) ag_30 sz_30 rfl) rfl rfl ?_
                exact .weak (.one rfl (.one rfl (.one rfl (.one rfl (.nil))))) (.refl _) (s1_22)
            have s1_18 : F 7 #[false, true, false, false, true, false, false, false, false] [(6, .pointer (some ⟨B4, 0, none⟩)), (11, .slice ea58 el58.length ec58), (77, .int .i64 (n : Int)), (80, .agg #[.int .i64 ((cellAt C k1).col), .int .i64 ((cellAt C k1).row)])] [As.one B8 (.cells #[.int .i64 ((cellAt C k1).col), .int .i64 ((cellAt C k1).row)] 30 (0, 0)), SlO eHdr 22 (some ⟨B3, 0, none⟩) N2 hs2, Ents hs2 (fewIn C rods (mostTo C rods (fun _ => true) (C * Rw)) n (fewTo C Rw rods (mostTo C rods (fun _ => true) (C * Rw)) n) k1), As.one Bs (.cells #[.int .i64 (n : Int)] 3 (0, 0)), As.one B4 (.cells #[.slice (some ⟨B3, 0, none⟩) N2 N2] 118 (0, 0)), As.one B2 (.cells #[.pointer (some ⟨F1, 0, none⟩)] 115 (0, 0)), As.one F1 (.cells (fieldC C Rw ra rods.length rc (mostTo C rods (fun _ => true) (C * Rw)) M1).toArray 124 (0, 0)), MapO vN M1 ms1, As.one B1 (.cells #[.int .i64 (C : Int), .int .i64 (Rw : Int), .slice ra rods.length rc] 28 (0, 0))] := by
              subst hF
              refine .step (l := [0, 2, 5]) (by kernel_rfl) (by decide) ⟨.run rfl trivial ?_, .run rfl trivial ?_, .run rfl trivial ?_, trivial⟩
              · refine .y (.load rfl (.own 4 rfl) ag_118 sz_118 rfl) rfl rfl ?_
                exact .weak (.one rfl (.one rfl (.one rfl (.one rfl (.nil))))) (.refl _) (s1_19)
              · refine .y (.move rfl) rfl rfl ?_
                exact .weak (.one rfl (.one rfl (.one rfl (.one rfl (.nil))))) (.refl _) (s1_22)
              · refine .n (.lit #[.int .i64 0, .int .i64 0] lz_30_1 rfl sl_22 sz_30 zr_30 rfl rfl rfl) rfl rfl fun B_5 => ?_
                exact .weak (.one rfl (.one rfl (.one rfl (.one rfl (.nil))))) (.refl _) (s1_50 B_5)
            have s1_12 : ∀ (a'_3 : Option Addr) (c'_3 : Nat) (hf_3 : SlOk a'_3 c'_3), F 7 #[false, false, true, true, false, false, false, false, false] [(6, .pointer (some ⟨B4, 0, none⟩)), (7, .pointer (some ⟨Bs, 0, none⟩)), (9, .pointer (some ⟨B8, 0, none⟩)), (79, .slice a'_3 el58.length c'_3)] [SlO eCell 30 a'_3 c'_3 el58, As.one B8 (.cells #[.int .i64 ((cellAt C k1).col), .int .i64 ((cellAt C k1).row)] 30 (0, 0)), SlO eHdr 22 (some ⟨B3, 0, none⟩) N2 hs2, Ents hs2 (fewIn C rods (mostTo C rods (fun _ => true) (C * Rw)) n (fewTo C Rw rods (mostTo C rods (fun _ => true) (C * Rw)) n) k1), As.one Bs (.cells #[.int .i64 (n : Int)] 3 (0, 0)), As.one B4 (.cells #[.slice (some ⟨B3, 0, none⟩) N2 N2] 118 (0, 0)), As.one B2 (.cells #[.pointer (some ⟨F1, 0, none⟩)] 115 (0, 0)), As.one F1 (.cells (fieldC C Rw ra rods.length rc (mostTo C rods (fun _ => true) (C * Rw)) M1).toArray 124 (0, 0)), MapO vN M1 ms1, As.one B1 (.cells #[.int .i64 (C : Int), .int .i64 (Rw : Int), .slice ra rods.length rc] 28 (0, 0))] := by
              intro a'_3 c'_3 hf_3
              subst hF
              refine .step (l := [0, 1, 4]) (by kernel_rfl) (by decide) ⟨.run rfl trivial ?_, .run rfl trivial ?_, .run rfl trivial ?_, trivial⟩
              · refine .y (.load rfl (.own 5 rfl) ag_118 sz_118 rfl) rfl rfl ?_
                exact .weak (.one rfl (.one rfl (.one rfl (.one rfl (.nil))))) (.refl _) (s1_13 a'_3 c'_3 hf_3)
              · refine .y (.load rfl (.own 4 rfl) ag_3 sz_3 rfl) rfl rfl ?_
                exact .weak (.one rfl (.one rfl (.one rfl (.one rfl (.nil))))) (.refl _) (s1_14 a'_3 c'_3 hf_3)
              · refine .y (.load rfl (.own 1 rfl) ag_30 sz_30 rfl) rfl rfl ?_
                exact .weak (.one rfl (.one rfl (.one rfl (.one rfl (.nil))))) (.refl _) (s1_28 a'_3 c'_3 hf_3)
            have s1_20 : F 7 #[false, false, true, false, true, false, false, false, false] [(6, .pointer (some ⟨B4, 0, none⟩)), (7, .pointer (some ⟨Bs, 0, none⟩)), (78, .slice ea58 el58.length ec58), (80, .agg #[.int .i64 ((cellAt C k1).col), .int .i64 ((cellAt C k1).row)])] [As.one B8 (.cells #[.int .i64 ((cellAt C k1).col), .int .i64 ((cellAt C k1).row)] 30 (0, 0)), SlO eHdr 22 (some ⟨B3, 0, none⟩) N2 hs2, Ents hs2 (fewIn C rods (mostTo C rods (fun _ => true) (C * Rw)) n (fewTo C Rw rods (mostTo C rods (fun _ => true) (C * Rw)) n) k1), As.one Bs (.cells #[.int .i64 (n : Int)] 3 (0, 0)), As.one B4 (.cells #[.slice (some ⟨B3, 0, none⟩) N2 N2] 118 (0, 0)), As.one B2 (.cells #[.pointer (some ⟨F1, 0, none⟩)] 115 (0, 0)), As.one F1 (.cells (fieldC C Rw ra rods.length rc (mostTo C rods (fun _ => true) (C * Rw)) M1).toArray 124 (0, 0)), MapO vN M1 ms1, As.one B1 (.cells #[.int .i64 (C : Int), .int .i64 (Rw : Int), .slice ra rods.length rc] 28 (0, 0))] := by
              subst hF
              refine .step (l := [0, 1, 3, 5]) (by kernel_rfl) (by decide) ⟨.run rfl trivial ?_, .run rfl trivial ?_, .run rfl trivial ?_, .run rfl trivial ?_, trivial⟩
              · refine .y (.load rfl (.own 4 rfl) ag_118 sz_118 rfl) rfl rfl ?_
                exact .weak (.one rfl (.one rfl (.one rfl (.one rfl (.nil))))) (.refl _) (s1_21)
              · refine .y (.load rfl (.own 3 rfl) ag_3 sz_3 rfl) rfl rfl ?_
                exact .weak (.one rfl (.one rfl (.one rfl (.one rfl (.nil))))) (.refl _) (s1_22)
              · refine .c (.call rfl rfl fn_60) rfl rfl (fun own ho hd => cloneeCell_ct _ (xs := el58) (Ents.in_own 2 rfl hx1 hex58 ho hd) (by first | assumption | exact .nil | exact .some | exact .drop (by assumption)) (by first | omega | (simp; omega) | (simp [*]; omega))) ?_
                rintro _ _ ⟨a'_3, c'_3, rfl, rfl, hf_3⟩
                exact .weak (.one rfl (.one rfl (.one rfl (.one rfl (.nil))))) (.refl _) (s1_28 a'_3 c'_3 hf_3)
              · refine .n (.lit #[.int .i64 0, .int .i64 0] lz_30_1 rfl sl_22 sz_30 zr_30 rfl rfl rfl) rfl rfl fun B_5 => ?_
                exact .weak (.one rfl (.one rfl (.one rfl (.one rfl (.nil))))) (.refl _) (s1_52 B_5)
            have s1_48 : ∀ (B_5 : Nat), F 7 #[false, false, false, false, true, true, false, false, false] [(6, .pointer (some ⟨B4, 0, none⟩)), (7, .pointer (some ⟨Bs, 0, none⟩)), (11, .slice ea58 el58.length ec58), (81, .slice (some ⟨B_5, 0, none⟩) 1 1)] [As.one B_5 (.cells #[.int .i64 ((cellAt C k1).col), .int .i64 ((cellAt C k1).row)] 30 (0, 0)), As.one B8 (.cells #[.int .i64 ((cellAt C k1).col), .int .i64 ((cellAt C k1).row)] 30 (0, 0)), SlO eHdr 22 (some ⟨B3, 0, none⟩) N2 hs2, Ents hs2 (fewIn C rods (mostTo C rods (fun _ => true) (C * Rw)) n (fewTo C Rw rods (mostTo C rods (fun _ => true) (C * Rw)) n) k1), As.one Bs (.cells #[.int .i64 (n : Int)] 3 (0, 0)), As.one B4 (.cells #[.slice (some ⟨B3, 0, none⟩) N2 N2] 118 (0, 0)), As.one B2 (.cells #[.pointer (some ⟨F1, 0, none⟩)] 115 (0, 0)), As.one F1 (.cells (fieldC C Rw ra rods.length rc (mostTo C rods (fun _ => true) (C * Rw)) M1).toArray 124 (0, 0)), MapO vN M1 ms1, As.one B1 (.cells #[.int .i64 (C : Int), .int .i64 (Rw : Int), .slice ra rods.length rc] 28 (0, 0))] := by
              intro B_5
              subst hF
              refine .step (l := [0, 1, 2]) (by kernel_rfl) (by decide) ⟨.run rfl trivial ?_, .run rfl trivial ?_, .run rfl trivial ?_, trivial⟩
              · refine .y (.load rfl (.own 5 rfl) ag_118 sz_118 rfl) rfl rfl ?_
                exact .weak (.one rfl (.one rfl (.one rfl (.one rfl (.nil))))) (.refl _) (s1_49 B_5)
              · refine .y (.load rfl (.own 4 rfl) ag_3 sz_3 rfl) rfl rfl ?_
                exact .weak (.one rfl (.one rfl (.one rfl (.one rfl (.nil))))) (.refl _) (s1_50 B_5)
              · refine .y (.move rfl) rfl rfl ?_
                exact .weak (.one rfl (.one rfl (.one rfl (.one rfl (.nil))))) (.refl _) (s1_52 B_5)
            have s1_1 : F 8 #[true, false, false, false, false, false, false, false, false] [(7, .pointer (some ⟨Bs, 0, none⟩)), (9, .pointer (some ⟨B8, 0, none⟩)), (11, .slice ea58 el58.length ec58), (76, .slice (some ⟨B3, 0, none⟩) N2 N2)] [As.one B8 (.cells #[.int .i64 ((cellAt C k1).col), .int .i64 ((cellAt C k1).row)] 30 (0, 0)), SlO eHdr 22 (some ⟨B3, 0, none⟩) N2 hs2, Ents hs2 (fewIn C rods (mostTo C rods (fun _ => true) (C * Rw)) n (fewTo C Rw rods (mostTo C rods (fun _ => true) (C * Rw)) n) k1), As.one Bs (.cells #[.int .i64 (n : Int)] 3 (0, 0)), As.one B4 (.cells #[.slice (some ⟨B3, 0, none⟩) N2 N2] 118 (0, 0)), As.one B2 (.cells #[.pointer (some ⟨F1, 0, none⟩)] 115 (0, 0)), As.one F1 (.cells (fieldC C Rw ra rods.length rc (mostTo C rods (fun _ => true) (C * Rw)) M1).toArray 124 (0, 0)), MapO vN M1 ms1, As.one B1 (.cells #[.int .i64 (C : Int), .int .i64 (Rw : Int), .slice ra rods.length rc] 28 (0, 0))] := by
              subst hF
              refine .step (l := [1, 2, 4]) (by kernel_rfl) (by decide) ⟨.run rfl trivial ?_, .run rfl trivial ?_, .run rfl trivial ?_, trivial⟩
              · refine .y (.load rfl (.own 3 rfl) ag_3 sz_3 rfl) rfl rfl ?_
                exact .weak (.one rfl (.one rfl (.one rfl (.one rfl (.nil))))) (.refl _) (s1_3)
              · refine .y (.move rfl) rfl rfl ?_
                exact .weak (.one rfl (.one rfl (.one rfl (.one rfl (.nil))))) (.refl _) (s1_5)
              · refine .y (.load rfl (.own 0 rfl) ag_30 sz_30 rfl) rfl rfl ?_
                exact .weak (.one rfl (.one rfl (.one rfl (.one rfl (.nil))))) (.refl _) (s1_17)
            have s1_2 : F 8 #[false, true, false, false, false, false, false, false, false] [(6, .pointer (some ⟨B4, 0, none⟩)), (9, .pointer (some ⟨B8, 0, none⟩)), (11, .slice ea58 el58.length ec58), (77, .int .i64 (n : Int))] [As.one B8 (.cells #[.int .i64 ((cellAt C k1).col), .int .i64 ((cellAt C k1).row)] 30 (0, 0)), SlO eHdr 22 (some ⟨B3, 0, none⟩) N2 hs2, Ents hs2 (fewIn C rods (mostTo C rods (fun _ => true) (C * Rw)) n (fewTo C Rw rods (mostTo C rods (fun _ => true) (C * Rw)) n) k1), As.one Bs (.cells #[.int .i64 (n : Int)] 3 (0, 0)), As.one B4 (.cells #[.slice (some ⟨B3, 0, none⟩) N2 N2] 118 (0, 0)), As.one B2 (.cells #[.pointer (some ⟨F1, 0, none⟩)] 115 (0, 0)), As.one F1 (.cells (fieldC C Rw ra rods.length rc (mostTo C rods (fun _ => true) (C * Rw)) M1).toArray 124 (0, 0)), MapO vN M1 ms1, As.one B1 (.cells #[.int .i64 (C : Int), .int .i64 (Rw : Int), .slice ra rods.length rc] 28 (0, 0))] := by
              subst hF
              refine .step (l := [0, 2, 4]) (by kernel_rfl) (by decide) ⟨.run rfl trivial ?_, .run rfl trivial ?_, .run rfl trivial ?_, trivial⟩
              · refine .y (.load rfl (.own 4 rfl) ag_118 sz_118 rfl) rfl rfl ?_
                exact .weak (.one rfl (.one rfl (.one rfl (.one rfl (.nil))))) (.refl _) (s1_3)
              · refine .y (.move rfl) rfl rfl ?_
                exact .weak (.one rfl (.one rfl (.one rfl (.one rfl (.nil))))) (.refl _) (s1_6)
              · refine .y (.load rfl (.own 0 rfl) ag_30 sz_30 rfl) rfl rfl ?_
                exact .weak (.one rfl (.one rfl (.one rfl (.one rfl (.nil))))) (.refl _) (s1_18)
            have s1_4 : F 8 #[false, false, true, false, false, false, false, false, false] [(6, .pointer (some ⟨B4, 0, none⟩)), (7, .pointer (some ⟨Bs, 0, none⟩)), (9, .pointer (some ⟨B8, 0, none⟩)), (78, .slice ea58 el58.length ec58)] [As.one B8 (.cells #[.int .i64 ((cellAt C k1).col), .int .i64 ((cellAt C k1).row)] 30 (0, 0)), SlO eHdr 22 (some ⟨B3, 0, none⟩) N2 hs2, Ents hs2 (fewIn C rods (mostTo C rods (fun _ => true) (C * Rw)) n (fewTo C Rw rods (mostTo C rods (fun _ => true) (C * Rw)) n) k1), As.one Bs (.cells #[.int .i64 (n : Int)] 3 (0, 0)), As.one B4 (.cells #[.slice (some ⟨B3, 0, none⟩) N2 N2] 118 (0, 0)), As.one B2 (.cells #[.pointer (some ⟨F1, 0, none⟩)] 115 (0, 0)), As.one F1 (.cells (fieldC C Rw ra rods.length rc (mostTo C rods (fun _ => true) (C * Rw)) M1).toArray 124 (0, 0)), MapO vN M1 ms1, As.one B1 (.cells #[.int .i64 (C : Int), .int .i64 (Rw : Int), .slice ra rods.length rc] 28 (0, 0))] := by
              subst hF
              refine .step (l := [0, 1, 3, 4]) (by kernel_rfl) (by decide) ⟨.run rfl trivial ?_, .run rfl trivial ?_, .run rfl trivial ?_, .run rfl trivial ?_, trivial⟩
              · refine .y (.load rfl (.own 4 rfl) ag_118 sz_118 rfl) rfl rfl ?_
                exact .weak (.one rfl (.one rfl (.one rfl (.one rfl (.nil))))) (.refl _) (s1_5)
              · refine .y (.load rfl (.own 3 rfl) ag_3 sz_3 rfl) rfl rfl ?_
                exact .weak (.one rfl (.one rfl (.one rfl (.one rfl (.nil))))) (.refl _) (s1_6)
              · refine .c (.call rfl rfl fn_60) rfl rfl (fun own ho hd => cloneeCell_ct _ (xs := el58) (Ents.in_own 2 rfl hx1 hex58 ho hd) (by first | assumption | exact .nil | exact .some | exact .drop (by assumption)) (by first | omega | (simp; omega) | (simp [*]; omega))) ?_
                rintro _ _ ⟨a'_3, c'_3, rfl, rfl, hf_3⟩
                exact .weak (.one rfl (.one rfl (.one rfl (.one rfl (.nil))))) (.refl _) (s1_12 a'_3 c'_3 hf_3)
              · refine .y (.load rfl (.own 0 rfl) ag_30 sz_30 rfl) rfl rfl ?_
                exact .weak (.one rfl (.one rfl (.one rfl (.one rfl (.nil))))) (.refl _) (s1_20)
            have s1_16 : F 8 #[false, false, false, false, true, false, false, false, false] [(6, .pointer (some ⟨B4, 0, none⟩)), (7, .pointer (some ⟨Bs, 0, none⟩)), (11, .slice ea58 el58.length ec58), (80, .agg #[.int .i64 ((cellAt C k1).col), .int .i64 ((cellAt C k1).row)])] [As.one B8 (.cells #[.int .i64 ((cellAt C k1).col), .int .i64 ((cellAt C k1).row)] 30 (0, 0)), SlO eHdr 22 (some ⟨B3, 0, none⟩) N2 hs2, Ents hs2 (fewIn C rods (mostTo C rods (fun _ => true) (C * Rw)) n (fewTo C Rw rods (mostTo C rods (fun _ => true) (C * Rw)) n) k1), As.one Bs (.cells #[.int .i64 (n : Int)] 3 (0, 0)), As.one B4 (.cells #[.slice (some ⟨B3, 0, none⟩) N2 N2] 118 (0, 0)), As.one B2 (.cells #[.pointer (some ⟨F1, 0, none⟩)] 115 (0, 0)), As.one F1 (.cells (fieldC C Rw ra rods.length rc (mostTo C rods (fun _ => true) (C * Rw)) M1).toArray 124 (0, 0)), MapO vN M1 ms1, As.one B1 (.cells #[.int .i64 (C : Int), .int .i64 (Rw : Int), .slice ra rods.length rc] 28 (0, 0))] := by
              subst hF
              refine .step (l := [0, 1, 2, 5]) (by kernel_rfl) (by decide) ⟨.run rfl trivial ?_, .run rfl trivial ?_, .run rfl trivial ?_, .run rfl trivial ?_, trivial⟩
              · refine .y (.load rfl (.own 4 rfl) ag_118 sz_118 rfl) rfl rfl ?_
                exact .weak (.one rfl (.one rfl (.one rfl (.one rfl (.nil))))) (.refl _) (s1_17)
              · refine .y (.load rfl (.own 3 rfl) ag_3 sz_3 rfl) rfl rfl ?_
                exact .weak (.one rfl (.one rfl (.one rfl (.one rfl (.nil))))) (.refl _) (s1_18)
              · refine .y (.move rfl) rfl rfl ?_
                exact .weak (.one rfl (.one rfl (.one rfl (.one rfl (.nil))))) (.refl _) (s1_20)
              · refine .n (.lit #[.int .i64 0, .int .i64 0] lz_30_1 rfl sl_22 sz_30 zr_30 rfl rfl rfl) rfl rfl fun B_5 => ?_
                exact .weak (.one rfl (.one rfl (.one rfl (.one rfl (.nil))))) (.refl _) (s1_48 B_5)
            have s1_0 : F 9 #[false, false, false, false, false, false, false, false, false] [(6, .pointer (some ⟨B4, 0, none⟩)), (7, .pointer (some ⟨Bs, 0, none⟩)), (9, .pointer (some ⟨B8, 0, none⟩)), (11, .slice ea58 el58.length ec58)] [As.one B8 (.cells #[.int .i64 ((cellAt C k1).col), .int .i64 ((cellAt C k1).row)] 30 (0, 0)), SlO eHdr 22 (some ⟨B3, 0, none⟩) N2 hs2, Ents hs2 (fewIn C rods (mostTo C rods (fun _ => true) (C * Rw)) n (fewTo C Rw rods (mostTo C rods (fun _ => true) (C * Rw)) n) k1), As.one Bs (.cells #[.int .i64 (n : Int)] 3 (0, 0)), As.one B4 (.cells #[.slice (some ⟨B3, 0, none⟩) N2 N2] 118 (0, 0)), As.one B2 (.cells #[.pointer (some ⟨F1, 0, none⟩)] 115 (0, 0)), As.one F1 (.cells (fieldC C Rw ra rods.length rc (mostTo C rods (fun _ => true) (C * Rw)) M1).toArray 124 (0, 0)), MapO vN M1 ms1, As.one B1 (.cells #[.int .i64 (C : Int), .int .i64 (Rw : Int), .slice ra rods.length rc] 28 (0, 0))] := by
              subst hF
              refine .step (l := [0, 1, 2, 4]) (by kernel_rfl) (by decide) ⟨.run rfl trivial ?_, .run rfl trivial ?_, .run rfl trivial ?_, .run rfl trivial ?_, trivial⟩
              · refine .y (.load rfl (.own 4 rfl) ag_118 sz_118 rfl) rfl rfl ?_
                exact .weak (.one rfl (.one rfl (.one rfl (.one rfl (.nil))))) (.refl _) (s1_1)
              · refine .y (.load rfl (.own 3 rfl) ag_3 sz_3 rfl) rfl rfl ?_
                exact .weak (.one rfl (.one rfl (.one rfl (.one rfl (.nil))))) (.refl _) (s1_2)
              · refine .y (.move rfl) rfl rfl ?_
                exact .weak (.one rfl (.one rfl (.one rfl (.one rfl (.nil))))) (.refl _) (s1_4)
              · refine .y (.load rfl (.own 0 rfl) ag_30 sz_30 rfl) rfl rfl ?_
                exact .weak (.one rfl (.one rfl (.one rfl (.one rfl (.nil))))) (.refl _) (s1_16)
            subst hF; exact .weak (.one rfl (.one rfl (.one rfl (.one rfl (.nil))))) (.refl _) s1_0
          · refine .y (.move rfl) ⟨_, rfl, rfl⟩ rfl rfl ?_
            refine .y (.len rfl sl_22) ⟨_, rfl, rfl⟩ rfl rfl ?_
            refine .y (.add rfl rfl (by omega)) ⟨_, rfl, rfl⟩ rfl rfl ?_
            refine .y (.load rfl (.own 4 rfl) ag_118 sz_118 rfl) ⟨_, rfl, rfl⟩ rfl rfl ?_
            refine .y (.load rfl (.own 3 rfl) ag_3 sz_3 rfl) ⟨_, rfl, rfl⟩ rfl rfl ?_
            have hbhx3 : n < hs2.length := by omega
            obtain ⟨x3, hx3⟩ : ∃ x3, hs2[n]? = some x3 := ⟨_, List.getElem?_eq_getElem hbhx3⟩
            obtain ⟨ea71, ec71, el71, rfl, hex71, hok71, hnil71⟩ := TblOk.get hts2 hx3
            have hle71 : el71.length ≤ 62 := Nat.le_trans (hsml2 _ _ hex71) (card62 _)
            refine .y (.indexE (E := eHdr) rfl (hlenhs2.symm) (.own 1 rfl) rfl sl_118 sz_22 (by omega)) ⟨_, rfl, rfl⟩ rfl rfl ?_
            refine .y (.to (v' := .slice ea71 el71.length ec71) (.loadE (E := eHdr) rfl (.own 1 rfl) ag_22 sz_22 (by decide) (eHdr.rd0 hx3 (by decide) (by decide) rfl)) rfl) ⟨_, rfl, rfl⟩ rfl rfl ?_
            refine .y (.len rfl sl_22) ⟨_, rfl, rfl⟩ rfl rfl ?_
            refine .y (.lss rfl rfl) ⟨_, rfl, rfl⟩ rfl rfl ?_
            refine .y (.pick_f rfl rfl) trivial rfl rfl ?_
            refine .nil ?_
            refine .ite rfl (fun h4 => ?_) (fun h4 => ?_)
            · refine T.any #[false, false, false, false, false, false, false, false, false] rfl 9 rfl flw ?_
              refine .use fun F hF => ?_
              have s2_511 : ∀ (a'_3 : Option Addr) (c'_3 : Nat) (hf_3 : SlOk a'_3 c'_3) (B_5 : Nat) (a_6 : Option Addr) (c_6 : Nat) (oka_6 : SlOk a_6 c_6), F 0 #[true, true, true, true, true, true, true, true, true] [] [As.one B_5 (.cells #[.int .i64 ((cellAt C k1).col), .int .i64 ((cellAt C k1).row)] 30 (0, 0)), SlO eCell 30 a_6 c_6 (el58 ++ ([(cellAt C k1)])), As.one B8 (.cells #[.int .i64 ((cellAt C k1).col), .int .i64 ((cellAt C k1).row)] 30 (0, 0)), SlO eHdr 22 (some ⟨B3, 0, none⟩) N2 (hs2.set n (⟨a_6, (el58 ++ ([(cellAt C k1)])).length, c_6⟩)), Ents hs2 (fewIn C rods (mostTo C rods (fun _ => true) (C * Rw)) n (fewTo C Rw rods (mostTo C rods (fun _ => true) (C * Rw)) n) k1), As.one Bs (.cells #[.int .i64 (n : Int)] 3 (0, 0)), As.one B4 (.cells #[.slice (some ⟨B3, 0, none⟩) N2 N2] 118 (0, 0)), As.one B2 (.cells #[.pointer (some ⟨F1, 0, none⟩)] 115 (0, 0)), As.one F1 (.cells (fieldC C Rw ra rods.length rc (mostTo C rods (fun _ => true) (C * Rw)) M1).toArray 124 (0, 0)), MapO vN M1 ms1, As.one B1 (.cells #[.int .i64 (C : Int), .int .i64 (Rw : Int), .slice ra rods.length rc] 28 (0, 0))] := by
                intro a'_3 c'_3 hf_3 B_5 a_6 c_6 oka_6
                subst hF
                refine .done (by kernel_rfl) ?_
                show RSub [Tbl B3 N2 (fewIn C rods (mostTo C rods (fun _ => true) (C * Rw)) n (fewTo C Rw rods (mostTo C rods (fun _ => true) (C * Rw)) n) (k1 + 1)), As.one Bs (.cells #[.int .i64 (n : Int)] 3 (0, 0)), As.one B4 (.cells #[.slice (some ⟨B3, 0, none⟩) N2 N2] 118 (0, 0)), As.one B2 (.cells #[.pointer (some ⟨F1, 0, none⟩)] 115 (0, 0)), As.one F1 (.cells (fieldC C Rw ra rods.length rc (mostTo C rods (fun _ => true) (C * Rw)) M1).toArray 124 (0, 0)), MapO vN M1 ms1, As.one B1 (.cells #[.int .i64 (C : Int), .int .i64 (Rw : Int), .slice ra rods.length rc] 28 (0, 0))] _
                first | rw [few_put (by assumption) hex58 hex71 (.inr h4)] | rw [few_put (by assumption) hex58 hex62 (.inl (hno2 _ _ _ (by assumption) hex62 (Option.isNone_iff_eq_none.1 (by assumption))))]
                exact (.tbl (hts2.set (by assumption) (fun e => by simp at e)) (.pick 3 rfl (.trans (.entSet hts2.len (by omega) (.refl _)) (.pick 3 rfl (.pick 1 rfl (.pick 2 rfl (.pick 2 rfl (.pick 2 rfl (.pick 2 rfl (.pick 2 rfl (.pick 2 rfl (.nil _))))))))))))
              have s2_255 : ∀ (a'_3 : Option Addr) (c'_3 : Nat) (hf_3 : SlOk a'_3 c'_3) (B_5 : Nat) (a_6 : Option Addr) (c_6 : Nat) (oka_6 : SlOk a_6 c_6), F 1 #[true, true, true, true, true, true, true, true, false] [(82, .slice a_6 ((el58 ++ ([(cellAt C k1)])).length) c_6), (83, .pointer (some ⟨blk (some ⟨B3, 0, none⟩), ofs (some ⟨B3, 0, none⟩) + n * 1, none⟩))] [As.one B_5 (.cells #[.int .i64 ((cellAt C k1).col), .int .i64 ((cellAt C k1).row)] 30 (0, 0)), SlO eCell 30 a_6 c_6 (el58 ++ ([(cellAt C k1)])), As.one B8 (.cells #[.int .i64 ((cellAt C k1).col), .int .i64 ((cellAt C k1).row)] 30 (0, 0)), SlO eHdr 22 (some ⟨B3, 0, none⟩) N2 hs2, Ents hs2 (fewIn C rods (mostTo C rods (fun _ => true) (C * Rw)) n (fewTo C Rw rods (mostTo C rods (fun _ => true) (C * Rw)) n) k1), As.one Bs (.cells #[.int .i64 (n : Int)] 3 (0, 0)), As.one B4 (.cells #[.slice (some ⟨B3, 0, none⟩) N2 N2] 118 (0, 0)), As.one B2 (.cells #[.pointer (some ⟨F1, 0, none⟩)] 115 (0, 0)), As.one F1 (.cells (fieldC C Rw ra rods.length rc (mostTo C rods (fun _ => true) (C * Rw)) M1).toArray 124 (0, 0)), MapO vN M1 ms1, As.one B1 (.cells #[.int .i64 (C : Int), .int .i64 (Rw : Int), .slice ra rods.length rc] 28 (0, 0))] := by
                intro a'_3 c'_3 hf_3 B_5 a_6 c_6 oka_6
                subst hF
                refine .step (l := [8]) (by kernel_rfl) (by decide) ⟨.run rfl trivial ?_, trivial⟩
                · refine .storeE (E := eHdr) (xs := hs2) (k := n) (v := ⟨a_6, (el58 ++ ([(cellAt C k1)])).length, c_6⟩) 3 rfl rfl rfl rfl rfl sz_22 (by first | omega | (simp; omega) | exact Nat.le_trans (membI_len _) (by decide) | (simp [*]; done) | (simp [*]; omega)) rfl ?_
                  exact .weak (.nil) (.refl _) (s2_511 a'_3 c'_3 hf_3 B_5 a_6 c_6 oka_6)
              have s2_127 : ∀ (a'_3 : Option Addr) (c'_3 : Nat) (hf_3 : SlOk a'_3 c'_3) (B_5 : Nat) (a_6 : Option Addr) (c_6 : Nat) (oka_6 : SlOk a_6 c_6), F 2 #[true, true, true, true, true, true, true, false, false] [(76, .slice (some ⟨B3, 0, none⟩) N2 N2), (77, .int .i64 (n : Int)), (82, .slice a_6 ((el58 ++ ([(cellAt C k1)])).length) c_6)] [As.one B_5 (.cells #[.int .i64 ((cellAt C k1).col), .int .i64 ((cellAt C k1).row)] 30 (0, 0)), SlO eCell 30 a_6 c_6 (el58 ++ ([(cellAt C k1)])), As.one B8 (.cells #[.int .i64 ((cellAt C k1).col), .int .i64 ((cellAt C k1).row)] 30 (0, 0)), SlO eHdr 22 (some ⟨B3, 0, none⟩) N2 hs2, Ents hs2 (fewIn C rods (mostTo C rods (fun _ => true) (C * Rw)) n (fewTo C Rw rods (mostTo C rods (fun _ => true) (C * Rw)) n) k1), As.one Bs (.cells #[.int .i64 (n : Int)] 3 (0, 0)), As.one B4 (.cells #[.slice (some ⟨B3, 0, none⟩) N2 N2] 118 (0, 0)), As.one B2 (.cells #[.pointer (some ⟨F1, 0, none⟩)] 115 (0, 0)), As.one F1 (.cells (fieldC C Rw ra rods.length rc (mostTo C rods (fun _ => true) (C * Rw)) M1).toArray 124 (0, 0)), MapO vN M1 ms1, As.one B1 (.cells #[.int .i64 (C : Int), .int .i64 (Rw : Int), .slice ra rods.length rc] 28 (0, 0))] := by
                intro a'_3 c'_3 hf_3 B_5 a_6 c_6 oka_6
                subst hF
                refine .step (l := [7]) (by kernel_rfl) (by decide) ⟨.run rfl trivial ?_, trivial⟩
                · have hbhx_7 : n < hs2.length := by omega
                  obtain ⟨x_7, hx_7⟩ : ∃ x_7, hs2[n]? = some x_7 := ⟨_, List.getElem?_eq_getElem hbhx_7⟩
                  refine .y (.indexE (E := eHdr) rfl (hlenhs2.symm) (.own 3 rfl) rfl sl_118 sz_22 (by omega)) rfl rfl ?_
                  exact .weak (.one rfl (.one rfl (.nil))) (.refl _) (s2_255 a'_3 c'_3 hf_3 B_5 a_6 c_6 oka_6)
              have s2_63 : ∀ (a'_3 : Option Addr) (c'_3 : Nat) (hf_3 : SlOk a'_3 c'_3) (B_5 : Nat), F 3 #[true, true, true, true, true, true, false, false, false] [(76, .slice (some ⟨B3, 0, none⟩) N2 N2), (77, .int .i64 (n : Int)), (79, .slice a'_3 el58.length c'_3), (81, .slice (some ⟨B_5, 0, none⟩) 1 1)] [As.one B_5 (.cells #[.int .i64 ((cellAt C k1).col), .int .i64 ((cellAt C k1).row)] 30 (0, 0)), SlO eCell 30 a'_3 c'_3 el58, As.one B8 (.cells #[.int .i64 ((cellAt C k1).col), .int .i64 ((cellAt C k1).row)] 30 (0, 0)), SlO eHdr 22 (some ⟨B3, 0, none⟩) N2 hs2, Ents hs2 (fewIn C rods (mostTo C rods (fun _ => true) (C * Rw)) n (fewTo C Rw rods (mostTo C rods (fun _ => true) (C * Rw)) n) k1), As.one Bs (.cells #[.int .i64 (n : Int)] 3 (0, 0)), As.one B4 (.cells #[.slice (some ⟨B3, 0, none⟩) N2 N2] 118 (0, 0)), As.one B2 (.cells #[.pointer (some ⟨F1, 0, none⟩)] 115 (0, 0)), As.one F1 (.cells (fieldC C Rw ra rods.length rc (mostTo C rods (fun _ => true) (C * Rw)) M1).toArray 124 (0, 0)), MapO vN M1 ms1, As.one B1 (.cells #[.int .i64 (C : Int), .int .i64 (Rw : Int), .slice ra rods.length rc] 28 (0, 0))] := by
                intro a'_3 c'_3 hf_3 B_5
                subst hF
                refine .step (l := [6]) (by kernel_rfl) (by decide) ⟨.run rfl trivial ?_, trivial⟩
                · refine .app (E := eCell) (ys := [(cellAt C k1)]) 1 el_22 rfl rfl rfl rfl rfl (.of_cells (.own 0 rfl)) (fun h => by cases h) (by first | omega | (simp; omega) | (simp [*]; omega)) (by first | omega | (simp; omega) | (simp [*]; omega)) rfl fun a_6 c_6 oka_6 => ?_
                  exact .weak (.one rfl (.one rfl (.one rfl (.nil)))) (.refl _) (s2_127 a'_3 c'_3 hf_3 B_5 a_6 c_6 oka_6)
              have s2_125 : ∀ (a'_3 : Option Addr) (c'_3 : Nat) (hf_3 : SlOk a'_3 c'_3) (B_5 : Nat) (a_6 : Option Addr) (c_6 : Nat) (oka_6 : SlOk a_6 c_6), F 3 #[true, false, true, true, true, true, true, false, false] [(7, .pointer (some ⟨Bs, 0, none⟩)), (76, .slice (some ⟨B3, 0, none⟩) N2 N2), (82, .slice a_6 ((el58 ++ ([(cellAt C k1)])).length) c_6)] [As.one B_5 (.cells #[.int .i64 ((cellAt C k1).col), .int .i64 ((cellAt C k1).row)] 30 (0, 0)), SlO eCell 30 a_6 c_6 (el58 ++ ([(cellAt C k1)])), As.one B8 (.cells #[.int .i64 ((cellAt C k1).col), .int .i64 ((cellAt C k1).row)] 30 (0, 0)), SlO eHdr 22 (some ⟨B3, 0, none⟩) N2 hs2, Ents hs2 (fewIn C rods (mostTo C rods (fun _ => true) (C * Rw)) n (fewTo C Rw rods (mostTo C rods (fun _ => true) (C * Rw)) n) k1), As.one Bs (.cells #[.int .i64 (n : Int)] 3 (0, 0)), As.one B4 (.cells #[.slice (some ⟨B3, 0, none⟩) N2 N2] 118 (0, 0)), As.one B2 (.cells #[.pointer (some ⟨F1, 0, none⟩)] 115 (0, 0)), As.one F1 (.cells (fieldC C Rw ra rods.length rc (mostTo C rods (fun _ => true) (C * Rw)) M1).toArray 124 (0, 0)), MapO vN M1 ms1, As.one B1 (.cells #[.int .i64 (C : Int), .int .i64 (Rw : Int), .slice ra rods.length rc] 28 (0, 0))] := by
                intro a'_3 c'_3 hf_3 B_5 a_6 c_6 oka_6
                subst hF
                refine .step (l := [1]) (by kernel_rfl) (by decide) ⟨.run rfl trivial ?_, trivial⟩
                · refine .y (.load rfl (.own 5 rfl) ag_3 sz_3 rfl) rfl rfl ?_
                  exact .weak (.one rfl (.one rfl (.one rfl (.nil)))) (.refl _) (s2_127 a'_3 c'_3 hf_3 B_5 a_6 c_6 oka_6)
              have s2_126 : ∀ (a'_3 : Option Addr) (c'_3 : Nat) (hf_3 : SlOk a'_3 c'_3) (B_5 : Nat) (a_6 : Option Addr) (c_6 : Nat) (oka_6 : SlOk a_6 c_6), F 3 #[false, true, true, true, true, true, true, false, false] [(6, .pointer (some ⟨B4, 0, none⟩)), (77, .int .i64 (n : Int)), (82, .slice a_6 ((el58 ++ ([(cellAt C k1)])).length) c_6)] [As.one B_5 (.cells #[.int .i64 ((cellAt C k1).col), .int .i64 ((cellAt C k1).row)] 30 (0, 0)), SlO eCell 30 a_6 c_6 (el58 ++ ([(cellAt C k1)])), As.one B8 (.cells #[.int .i64 ((cellAt C k1).col), .int .i64 ((cellAt C k1).row)] 30 (0, 0)), SlO eHdr 22 (some ⟨B3, 0, none⟩) N2 hs2, Ents hs2 (fewIn C rods (mostTo C rods (fun _ => true) (C * Rw)) n (fewTo C Rw rods (mostTo C rods (fun _ => true) (C * Rw)) n) k1), As.one Bs (.cells #[.int .i64 (n : Int)] 3 (0, 0)), As.one B4 (.cells #[.slice (some ⟨B3, 0, none⟩) N2 N2] 118 (0, 0)), As.one B2 (.cells #[.pointer (some ⟨F1, 0, none⟩)] 115 (0, 0)), As.one F1 (.cells (fieldC C Rw ra rods.length rc (mostTo C rods (fun _ => true) (C * Rw)) M1).toArray 124 (0, 0)), MapO vN M1 ms1, As.one B1 (.cells #[.int .i64 (C : Int), .int .i64 (Rw : Int), .slice ra rods.length rc] 28 (0, 0))] := by
                intro a'_3 c'_3 hf_3 B_5 a_6 c_6 oka_6
                subst hF
                refine .step (l := [0]) (by kernel_rfl) (by decide) ⟨.run rfl trivial ?_, trivial⟩
                · refine .y (.load rfl (.own 6 rfl) ag_118 sz_118 rfl) rfl rfl ?_
                  exact .weak (.one rfl (.one rfl (.one rfl (.nil)))) (.refl _) (s2_127 a'_3 c'_3 hf_3 B_5 a_6 c_6 oka_6)
              have s2_31 : ∀ (a'_3 : Option Addr) (c'_3 : Nat) (hf_3 : SlOk a'_3 c'_3), F 4 #[true, true, true, true, true, false, false, false, false] [(76, .slice (some ⟨B3, 0, none⟩) N2 N2), (77, .int .i64 (n : Int)), (79, .slice a'_3 el58.length c'_3), (80, .agg #[.int .i64 ((cellAt C k1).col), .int .i64 ((cellAt C k1).row)])] [SlO eCell 30 a'_3 c'_3 el58, As.one B8 (.cells #[.int .i64 ((cellAt C k1).col), .int .i64 ((cellAt C k1).row)] 30 (0, 0)), SlO eHdr 22 (some ⟨B3, 0, none⟩) N2 hs2, Ents hs2 (fewIn C rods (mostTo C rods (fun _ => true) (C * Rw)) n (fewTo C Rw rods (mostTo C rods (fun _ => true) (C * Rw)) n) k1), As.one Bs (.cells #[.int .i64 (n : Int)] 3 (0, 0)), As.one B4 (.cells #[.slice (some ⟨B3, 0, none⟩) N2 N2] 118 (0, 0)), As.one B2 (.cells #[.pointer (some ⟨F1, 0, none⟩)] 115 (0, 0)), As.one F1 (.cells (fieldC C Rw ra rods.length rc (mostTo C rods (fun _ => true) (C * Rw)) M1).toArray 124 (0, 0)), MapO vN M1 ms1, As.one B1 (.cells #[.int .i64 (C : Int), .int .i64 (Rw : Int), .slice ra rods.length rc] 28 (0, 0))] := by
                intro a'_3 c'_3 hf_3
                subst hF
                refine .step (l := [5]) (by kernel_rfl) (by decide) ⟨.run rfl trivial ?_, trivial⟩
                · refine .n (.lit #[.int .i64 0, .int .i64 0] lz_30_1 rfl sl_22 sz_30 zr_30 rfl rfl rfl) rfl rfl fun B_5 => ?_
                  exact .weak (.one rfl (.one rfl (.one rfl (.one rfl (.nil))))) (.refl _) (s2_63 a'_3 c'_3 hf_3 B_5)
              have s2_55 : ∀ (B_5 : Nat), F 4 #[true, true, true, false, true, true, false, false, false] [(76, .slice (some ⟨B3, 0, none⟩) N2 N2), (77, .int .i64 (n : Int)), (78, .slice ea58 el58.length ec58), (81, .slice (some ⟨B_5, 0, none⟩) 1 1)] [As.one B_5 (.cells #[.int .i64 ((cellAt C k1).col), .int .i64 ((cellAt C k1).row)] 30 (0, 0)), As.one B8 (.cells #[.int .i64 ((cellAt C k1).col), .int .i64 ((cellAt C k1).row)] 30 (0, 0)), SlO eHdr 22 (some ⟨B3, 0, none⟩) N2 hs2, Ents hs2 (fewIn C rods (mostTo C rods (fun _ => true) (C * Rw)) n (fewTo C Rw rods (mostTo C rods (fun _ => true) (C * Rw)) n) k1), As.one Bs (.cells #[.int .i64 (n : Int)] 3 (0, 0)), As.one B4 (.cells #[.slice (some ⟨B3, 0, none⟩) N2 N2] 118 (0, 0)), As.one B2 (.cells #[.pointer (some ⟨F1, 0, none⟩)] 115 (0, 0)), As.one F1 (.cells (fieldC C Rw ra rods.length rc (mostTo C rods (fun _ => true) (C * Rw)) M1).toArray 124 (0, 0)), MapO vN M1 ms1, As.one B1 (.cells #[.int .i64 (C : Int), .int .i64 (Rw : Int), .slice ra rods.length rc] 28 (0, 0))] := by
                intro B_5
                subst hF
                refine .step (l := [3]) (by kernel_rfl) (by decide) ⟨.run rfl trivial ?_, trivial⟩
                · refine .c (.call rfl rfl fn_60) rfl rfl (fun own ho hd => cloneeCell_ct _ (xs := el58) (Ents.in_own 3 rfl hx1 hex58 ho hd) (by first | assumption | exact .nil | exact .some | exact .drop (by assumption)) (by first | omega | (simp; omega) | (simp [*]; omega))) ?_
                  rintro _ _ ⟨a'_3, c'_3, rfl, rfl, hf_3⟩
                  exact .weak (.one rfl (.one rfl (.one rfl (.one rfl (.nil))))) (.pick 1 rfl (.refl _)) (s2_63 a'_3 c'_3 hf_3 B_5)
              have s2_61 : ∀ (a'_3 : Option Addr) (c'_3 : Nat) (hf_3 : SlOk a'_3 c'_3) (B_5 : Nat), F 4 #[true, false, true, true, true, true, false, false, false] [(7, .pointer (some ⟨Bs, 0, none⟩)), (76, .slice (some ⟨B3, 0, none⟩) N2 N2), (79, .slice a'_3 el58.length c'_3), (81, .slice (some ⟨B_5, 0, none⟩) 1 1)] [As.one B_5 (.cells #[.int .i64 ((cellAt C k1).col), .int .i64 ((cellAt C k1).row)] 30 (0, 0)), SlO eCell 30 a'_3 c'_3 el58, As.one B8 (.cells #[.int .i64 ((cellAt C k1).col), .int .i64 ((cellAt C k1).row)] 30 (0, 0)), SlO eHdr 22 (some ⟨B3, 0, none⟩) N2 hs2, Ents hs2 (fewIn C rods (mostTo C rods (fun _ => true) (C * Rw)) n (fewTo C Rw rods (mostTo C rods (fun _ => true) (C * Rw)) n) k1), As.one Bs (.cells #[.int .i64 (n : Int)] 3 (0, 0)), As.one B4 (.cells #[.slice (some ⟨B3, 0, none⟩) N2 N2] 118 (0, 0)), As.one B2 (.cells #[.pointer (some ⟨F1, 0, none⟩)] 115 (0, 0)), As.one F1 (.cells (fieldC C Rw ra rods.length rc (mostTo C rods (fun _ => true) (C * Rw)) M1).toArray 124 (0, 0)), MapO vN M1 ms1, As.one B1 (.cells #[.int .i64 (C : Int), .int .i64 (Rw : Int), .slice ra rods.length rc] 28 (0, 0))] := by
                intro a'_3 c'_3 hf_3 B_5
                subst hF
                refine .step (l := [1, 6]) (by kernel_rfl) (by decide) ⟨.run rfl trivial ?_, .run rfl trivial ?_, trivial⟩
                · refine .y (.load rfl (.own 5 rfl) ag_3 sz_3 rfl) rfl rfl ?_
                  exact .weak (.one rfl (.one rfl (.one rfl (.one rfl (.nil))))) (.refl _) (s2_63 a'_3 c'_3 hf_3 B_5)
                · refine .app (E := eCell) (ys := [(cellAt C k1)]) 1 el_22 rfl rfl rfl rfl rfl (.of_cells (.own 0 rfl)) (fun h => by cases h) (by first | omega | (simp; omega) | (simp [*]; omega)) (by first | omega | (simp; omega) | (simp [*]; omega)) rfl fun a_6 c_6 oka_6 => ?_
                  exact .weak (.one rfl (.one rfl (.one rfl (.nil)))) (.refl _) (s2_125 a'_3 c'_3 hf_3 B_5 a_6 c_6 oka_6)
              have s2_62 : ∀ (a'_3 : Option Addr) (c'_3 : Nat) (hf_3 : SlOk a'_3 c'_3) (B_5 : Nat), F 4 #[false, true, true, true, true, true, false, false, false] [(6, .pointer (some ⟨B4, 0, none⟩)), (77, .int .i64 (n : Int)), (79, .slice a'_3 el58.length c'_3), (81, .slice (some ⟨B_5, 0, none⟩) 1 1)] [As.one B_5 (.cells #[.int .i64 ((cellAt C k1).col), .int .i64 ((cellAt C k1).row)] 30 (0, 0)), SlO eCell 30 a'_3 c'_3 el58, As.one B8 (.cells #[.int .i64 ((cellAt C k1).col), .int .i64 ((cellAt C k1).row)] 30 (0, 0)), SlO eHdr 22 (some ⟨B3, 0, none⟩) N2 hs2, Ents hs2 (fewIn C rods (mostTo C rods (fun _ => true) (C * Rw)) n (fewTo C Rw rods (mostTo C rods (fun _ => true) (C * Rw)) n) k1), As.one Bs (.cells #[.int .i64 (n : Int)] 3 (0, 0)), As.one B4 (.cells #[.slice (some ⟨B3, 0, none⟩) N2 N2] 118 (0, 0)), As.one B2 (.cells #[.pointer (some ⟨F1, 0, none⟩)] 115 (0, 0)), As.one F1 (.cells (fieldC C Rw ra rods.length rc (mostTo C rods (fun _ => true) (C * Rw)) M1).toArray 124 (0, 0)), MapO vN M1 ms1, As.one B1 (.cells #[.int .i64 (C : Int), .int .i64 (Rw : Int), .slice ra rods.length rc] 28 (0, 0))] := by
                intro a'_3 c'_3 hf_3 B_5
                subst hF
                refine .step (l := [0, 6]) (by kernel_rfl) (by decide) ⟨.run rfl trivial ?_, .run rfl trivial ?_, trivial⟩
                · refine .y (.load rfl (.own 6 rfl) ag_118 sz_118 rfl) rfl rfl ?_
                  exact .weak (.one rfl (.one rfl (.one rfl (.one rfl (.nil))))) (.refl _) (s2_63 a'_3 c'_3 hf_3 B_5)
                · refine .app (E := eCell) (ys := [(cellAt C k1)]) 1 el_22 rfl rfl rfl rfl rfl (.of_cells (.own 0 rfl)) (fun h => by cases h) (by first | omega | (simp; omega) | (simp [*]; omega)) (by first | omega | (simp; omega) | (simp [*]; omega)) rfl fun a_6 c_6 oka_6 => ?_
                  exact .weak (.one rfl (.one rfl (.one rfl (.nil)))) (.refl _) (s2_126 a'_3 c'_3 hf_3 B_5 a_6 c_6 oka_6)
              have s2_124 : ∀ (a'_3 : Option Addr) (c'_3 : Nat) (hf_3 : SlOk a'_3 c'_3) (B_5 : Nat) (a_6 : Option Addr) (c_6 : Nat) (oka_6 : SlOk a_6 c_6), F 4 #[false, false, true, true, true, true, true, false, false] [(6, .pointer (some ⟨B4, 0, none⟩)), (7, .pointer (some ⟨Bs, 0, none⟩)), (82, .slice a_6 ((el58 ++ ([(cellAt C k1)])).length) c_6)] [As.one B_5 (.cells #[.int .i64 ((cellAt C k1).col), .int .i64 ((cellAt C k1).row)] 30 (0, 0)), SlO eCell 30 a_6 c_6 (el58 ++ ([(cellAt C k1)])), As.one B8 (.cells #[.int .i64 ((cellAt C k1).col), .int .i64 ((cellAt C k1).row)] 30 (0, 0)), SlO eHdr 22 (some ⟨B3, 0, none⟩) N2 hs2, Ents hs2 (fewIn C rods (mostTo C rods (fun _ => true) (C * Rw)) n (fewTo C Rw rods (mostTo C rods (fun _ => true) (C * Rw)) n) k1), As.one Bs (.cells #[.int .i64 (n : Int)] 3 (0, 0)), As.one B4 (.cells #[.slice (some ⟨B3, 0, none⟩) N2 N2] 118 (0, 0)), As.one B2 (.cells #[.pointer (some ⟨F1, 0, none⟩)] 115 (0, 0)), As.one F1 (.cells (fieldC C Rw ra rods.length rc (mostTo C rods (fun _ => true) (C * Rw)) M1).toArray 124 (0, 0)), MapO vN M1 ms1, As.one B1 (.cells #[.int .i64 (C : Int), .int .i64 (Rw : Int), .slice ra rods.length rc] 28 (0, 0))] := by
                intro a'_3 c'_3 hf_3 B_5 a_6 c_6 oka_6
                subst hF
                refine .step (l := [0, 1]) (by kernel_rfl) (by decide) ⟨.run rfl trivial ?_, .run rfl trivial ?_, trivial⟩
                · refine .y (.load rfl (.own 6 rfl) ag_118 sz_118 rfl) rfl rfl ?_
                  exact .weak (.one rfl (.one rfl (.one rfl (.nil)))) (.refl _) (s2_125 a'_3 c'_3 hf_3 B_5 a_6 c_6 oka_6)
                · refine .y (.load rfl (.own 5 rfl) ag_3 sz_3 rfl) rfl rfl ?_
                  exact .weak (.one rfl (.one rfl (.one rfl (.nil)))) (.refl _) (s2_126 a'_3 c'_3 hf_3 B_5 a_6 c_6 oka_6)
              have s2_15 : ∀ (a'_3 : Option Addr) (c'_3 : Nat) (hf_3 : SlOk a'_3 c'_3), F 5 #[true, true, true, true, false, false, false, false, false] [(9, .pointer (some ⟨B8, 0, none⟩)), (76, .slice (some ⟨B3, 0, none⟩) N2 N2), (77, .int .i64 (n : Int)), (79, .slice a'_3 el58.length c'_3)] [SlO eCell 30 a'_3 c'_3 el58, As.one B8 (.cells #[.int .i64 ((cellAt C k1).col), .int .i64 ((cellAt C k1).row)] 30 (0, 0)), SlO eHdr 22 (some ⟨B3, 0, none⟩) N2 hs2, Ents hs2 (fewIn C rods (mostTo C rods (fun _ => true) (C * Rw)) n (fewTo C Rw rods (mostTo C rods (fun _ => true) (C * Rw)) n) k1), As.one Bs (.cells #[.int .i64 (n : Int)] 3 (0, 0)), As.one B4 (.cells #[.slice (some ⟨B3, 0, none⟩) N2 N2] 118 (0, 0)), As.one B2 (.cells #[.pointer (some ⟨F1, 0, none⟩)] 115 (0, 0)), As.one F1 (.cells (fieldC C Rw ra rods.length rc (mostTo C rods (fun _ => true) (C * Rw)) M1).toArray 124 (0, 0)), MapO vN M1 ms1, As.one B1 (.cells #[.int .i64 (C : Int), .int .i64 (Rw : Int), .slice ra rods.length rc] 28 (0, 0))] := by
                intro a'_3 c'_3 hf_3
                subst hF
                refine .step (l := [4]) (by kernel_rfl) (by decide) ⟨.run rfl trivial ?_, trivial⟩
                · refine .y (.load rfl (.own 1 rfl) ag_30 sz_30 rfl) rfl rfl ?_
                  exact .weak (.one rfl (.one rfl (.one rfl (.one rfl (.nil))))) (.refl _) (s2_31 a'_3 c'_3 hf_3)
              have s2_23 : F 5 #[true, true, true, false, true, false, false, false, false] [(76, .slice (some ⟨B3, 0, none⟩) N2 N2), (77, .int .i64 (n : Int)), (78, .slice ea58 el58.length ec58), (80, .agg #[.int .i64 ((cellAt C k1).col), .int .i64 ((cellAt C k1).row)])] [As.one B8 (.cells #[.int .i64 ((cellAt C k1).col), .int .i64 ((cellAt C k1).row)] 30 (0, 0)), SlO eHdr 22 (some ⟨B3, 0, none⟩) N2 hs2, Ents hs2 (fewIn C rods (mostTo C rods (fun _ => true) (C * Rw)) n (fewTo C Rw rods (mostTo C rods (fun _ => true) (C * Rw)) n) k1), As.one Bs (.cells #[.int .i64 (n : Int)] 3 (0, 0)), As.one B4 (.cells #[.slice (some ⟨B3, 0, none⟩) N2 N2] 118 (0, 0)), As.one B2 (.cells #[.pointer (some ⟨F1, 0, none⟩)] 115 (0, 0)), As.one F1 (.cells (fieldC C Rw ra rods.length rc (mostTo C rods (fun _ => true) (C * Rw)) M1).toArray 124 (0, 0)), MapO vN M1 ms1, As.one B1 (.cells #[.int .i64 (C : Int), .int .i64 (Rw : Int), .slice ra rods.length rc] 28 (0, 0))] := by
                subst hF
                refine .step (l := [3, 5]) (by kernel_rfl) (by decide) ⟨.run rfl trivial ?_, .run rfl trivial ?_, trivial⟩
                · refine .c (.call rfl rfl fn_60) rfl rfl (fun own ho hd => cloneeCell_ct _ (xs := el58) (Ents.in_own 2 rfl hx1 hex58 ho hd) (by first | assumption | exact .nil | exact .some | exact .drop (by assumption)) (by first | omega | (simp; omega) | (simp [*]; omega))) ?_
                  rintro _ _ ⟨a'_3, c'_3, rfl, rfl, hf_3⟩
                  exact .weak (.one rfl (.one rfl (.one rfl (.one rfl (.nil))))) (.refl _) (s2_31 a'_3 c'_3 hf_3)
                · refine .n (.lit #[.int .i64 0, .int .i64 0] lz_30_1 rfl sl_22 sz_30 zr_30 rfl rfl rfl) rfl rfl fun B_5 => ?_
                  exact .weak (.one rfl (.one rfl (.one rfl (.one rfl (.nil))))) (.refl _) (s2_55 B_5)
              have s2_51 : ∀ (B_5 : Nat), F 5 #[true, true, false, false, true, true, false, false, false] [(11, .slice ea58 el58.length ec58), (76, .slice (some ⟨B3, 0, none⟩) N2 N2), (77, .int .i64 (n : Int)), (81, .slice (some ⟨B_5, 0, none⟩) 1 1)] [As.one B_5 (.cells #[.int .i64 ((cellAt C k1).col), .int .i64 ((cellAt C k1).row)] 30 (0, 0)), As.one B8 (.cells #[.int .i64 ((cellAt C k1).col), .int .i64 ((cellAt C k1).row)] 30 (0, 0)), SlO eHdr 22 (some ⟨B3, 0, none⟩) N2 hs2, Ents hs2 (fewIn C rods (mostTo C rods (fun _ => true) (C * Rw)) n (fewTo C Rw rods (mostTo C rods (fun _ => true) (C * Rw)) n) k1), As.one Bs (.cells #[.int .i64 (n : Int)] 3 (0, 0)), As.one B4 (.cells #[.slice (some ⟨B3, 0, none⟩) N2 N2] 118 (0, 0)), As.one B2 (.cells #[.pointer (some ⟨F1, 0, none⟩)] 115 (0, 0)), As.one F1 (.cells (fieldC C Rw ra rods.length rc (mostTo C rods (fun _ => true) (C * Rw)) M1).toArray 124 (0, 0)), MapO vN M1 ms1, As.one B1 (.cells #[.int .i64 (C : Int), .int .i64 (Rw : Int), .slice ra rods.length rc] 28 (0, 0))] := by
                intro B_5
                subst hF
                refine .step (l := [2]) (by kernel_rfl) (by decide) ⟨.run rfl trivial ?_, trivial⟩
                · refine .y (.move rfl) rfl rfl ?_
                  exact .weak (.one rfl (.one rfl (.one rfl (.one rfl (.nil))))) (.refl _) (s2_55 B_5)
              have s2_29 : ∀ (a'_3 : Option Addr) (c'_3 : Nat) (hf_3 : SlOk a'_3 c'_3), F 5 #[true, false, true, true, true, false, false, false, false] [(7, .pointer (some ⟨Bs, 0, none⟩)), (76, .slice (some ⟨B3, 0, none⟩) N2 N2), (79, .slice a'_3 el58.length c'_3), (80, .agg #[.int .i64 ((cellAt C k1).col), .int .i64 ((cellAt C k1).row)])] [SlO eCell 30 a'_3 c'_3 el58, As.one B8 (.cells #[.int .i64 ((cellAt C k1).col), .int .i64 ((cellAt C k1).row)] 30 (0, 0)), SlO eHdr 22 (some ⟨B3, 0, none⟩) N2 hs2, Ents hs2 (fewIn C rods (mostTo C rods (fun _ => true) (C * Rw)) n (fewTo C Rw rods (mostTo C rods (fun _ => true) (C * Rw)) n) k1), As.one Bs (.cells #[.int .i64 (n : Int)] 3 (0, 0)), As.one B4 (.cells #[.slice (some ⟨B3, 0, none⟩) N2 N2] 118 (0, 0)), As.one B2 (.cells #[.pointer (some ⟨F1, 0, none⟩)] 115 (0, 0)), As.one F1 (.cells (fieldC C Rw ra rods.length rc (mostTo C rods (fun _ => true) (C * Rw)) M1).toArray 124 (0, 0)), MapO vN M1 ms1, As.one B1 (.cells #[.int .i64 (C : Int), .int .i64 (Rw : Int), .slice ra rods.length rc] 28 (0, 0))] := by
                intro a'_3 c'_3 hf_3
                subst hF
                refine .step (l := [1, 5]) (by kernel_rfl) (by decide) ⟨.run rfl trivial ?_, .run rfl trivial ?_, trivial⟩
                · refine .y (.load rfl (.own 4 rfl) ag_3 sz_3 rfl) rfl rfl ?_
                  exact .weak (.one rfl (.one rfl (.one rfl (.one rfl (.nil))))) (.refl _) (s2_31 a'_3 c'_3 hf_3)
                · refine .n (.lit #[.int .i64 0, .int .i64 0] lz_30_1 rfl sl_22 sz_30 zr_30 rfl rfl rfl) rfl rfl fun B_5 => ?_
                  exact .weak (.one rfl (.one rfl (.one rfl (.one rfl (.nil))))) (.refl _) (s2_61 a'_3 c'_3 hf_3 B_5)
              have s2_53 : ∀ (B_5 : Nat), F 5 #[true, false, true, false, true, true, false, false, false] [(7, .pointer (some ⟨Bs, 0, none⟩)), (76, .slice (some ⟨B3, 0, none⟩) N2 N2), (78, .slice ea58 el58.length ec58), (81, .slice (some ⟨B_5, 0, none⟩) 1 1)] [As.one B_5 (.cells #[.int .i64 ((cellAt C k1).col), .int .i64 ((cellAt C k1).row)] 30 (0, 0)), As.one B8 (.cells #[.int .i64 ((cellAt C k1).col), .int .i64 ((cellAt C k1).row)] 30 (0, 0)), SlO eHdr 22 (some ⟨B3, 0, none⟩) N2 hs2, Ents hs2 (fewIn C rods (mostTo C rods (fun _ => true) (C * Rw)) n (fewTo C Rw rods (mostTo C rods (fun _ => true) (C * Rw)) n) k1), As.one Bs (.cells #[.int .i64 (n : Int)] 3 (0, 0)), As.one B4 (.cells #[.slice (some ⟨B3, 0, none⟩) N2 N2] 118 (0, 0)), As.one B2 (.cells #[.pointer (some ⟨F1, 0, none⟩)] 115 (0, 0)), As.one F1 (.cells (fieldC C Rw ra rods.length rc (mostTo C rods (fun _ => true) (C * Rw)) M1).toArray 124 (0, 0)), MapO vN M1 ms1, As.one B1 (.cells #[.int .i64 (C : Int), .int .i64 (Rw : Int), .slice ra rods.length rc] 28 (0, 0))] := by
                intro B_5
                subst hF
                refine .step (l := [1, 3]) (by kernel_rfl) (by decide) ⟨.run rfl trivial ?_, .run rfl trivial ?_, trivial⟩
                · refine .y (.load rfl (.own 4 rfl) ag_3 sz_3 rfl) rfl rfl ?_
                  exact .weak (.one rfl (.one rfl (.one rfl (.one rfl (.nil))))) (.refl _) (s2_55 B_5)
                · refine .c (.call rfl rfl fn_60) rfl rfl (fun own ho hd => cloneeCell_ct _ (xs := el58) (Ents.in_own 3 rfl hx1 hex58 ho hd) (by first | assumption | exact .nil | exact .some | exact .drop (by assumption)) (by first | omega | (simp; omega) | (simp [*]; omega))) ?_
                  rintro _ _ ⟨a'_3, c'_3, rfl, rfl, hf_3⟩
                  exact .weak (.one rfl (.one rfl (.one rfl (.one rfl (.nil))))) (.pick 1 rfl (.refl _)) (s2_61 a'_3 c'_3 hf_3 B_5)
              have s2_30 : ∀ (a'_3 : Option Addr) (c'_3 : Nat) (hf_3 : SlOk a'_3 c'_3), F 5 #[false, true, true, true, true, false, false, false, false] [(6, .pointer (some ⟨B4, 0, none⟩)), (77, .int .i64 (n : Int)), (79, .slice a'_3 el58.length c'_3), (80, .agg #[.int .i64 ((cellAt C k1).col), .int .i64 ((cellAt C k1).row)])] [SlO eCell 30 a'_3 c'_3 el58, As.one B8 (.cells #[.int .i64 ((cellAt C k1).col), .int .i64 ((cellAt C k1).row)] 30 (0, 0)), SlO eHdr 22 (some ⟨B3, 0, none⟩) N2 hs2, Ents hs2 (fewIn C rods (mostTo C rods (fun _ => true) (C * Rw)) n (fewTo C Rw rods (mostTo C rods (fun _ => true) (C * Rw)) n) k1), As.one Bs (.cells #[.int .i64 (n : Int)] 3 (0, 0)), As.one B4 (.cells #[.slice (some ⟨B3, 0, none⟩) N2 N2] 118 (0, 0)), As.one B2 (.cells #[.pointer (some ⟨F1, 0, none⟩)] 115 (0, 0)), As.one F1 (.cells (fieldC C Rw ra rods.length rc (mostTo C rods (fun _ => true) (C * Rw)) M1).toArray 124 (0, 0)), MapO vN M1 ms1, As.one B1 (.cells #[.int .i64 (C : Int), .int .i64 (Rw : Int), .slice ra rods.length rc] 28 (0, 0))] := by
                intro a'_3 c'_3 hf_3
                subst hF
                refine .step (l := [0, 5]) (by kernel_rfl) (by decide) ⟨.run rfl trivial ?_, .run rfl trivial ?_, trivial⟩
                · refine .y (.load rfl (.own 5 rfl) ag_118 sz_118 rfl) rfl rfl ?_
                  exact .weak (.one rfl (.one rfl (.one rfl (.one rfl (.nil))))) (.refl _) (s2_31 a'_3 c'_3 hf_3)
                · refine .n (.lit #[.int .i64 0, .int .i64 0] lz_30_1 rfl sl_22 sz_30 zr_30 rfl rfl rfl) rfl rfl fun B_5 => ?_
                  exact .weak (.one rfl (.one rfl (.one rfl (.one rfl (.nil))))) (.refl _) (s2_62 a'_3 c'_3 hf_3 B_5)
              have s2_54 : ∀ (B_5 : Nat), F 5 #[false, true, true, false, true, true, false, false, false] [(6, .pointer (some ⟨B4, 0, none⟩)), (77, .int .i64 (n : Int)), (78, .slice ea58 el58.length ec58), (81, .slice (some ⟨B_5, 0, none⟩) 1 1)] [As.one B_5 (.cells #[.int .i64 ((cellAt C k1).col), .int .i64 ((cellAt C k1).row)] 30 (0, 0)), As.one B8 (.cells #[.int .i64 ((cellAt C k1).col), .int .i64 ((cellAt C k1).row)] 30 (0, 0)), SlO eHdr 22 (some ⟨B3, 0, none⟩) N2 hs2, Ents hs2 (fewIn C rods (mostTo C rods (fun _ => true) (C * Rw)) n (fewTo C Rw rods (mostTo C rods (fun _ => true) (C * Rw)) n) k1), As.one Bs (.cells #[.int .i64 (n : Int)] 3 (0, 0)), As.one B4 (.cells #[.slice (some ⟨B3, 0, none⟩) N2 N2] 118 (0, 0)), As.one B2 (.cells #[.pointer (some ⟨F1, 0, none⟩)] 115 (0, 0)), As.one F1 (.cells (fieldC C Rw ra rods.length rc (mostTo C rods (fun _ => true) (C * Rw)) M1).toArray 124 (0, 0)), MapO vN M1 ms1, As.one B1 (.cells #[.int .i64 (C : Int), .int .i64 (Rw : Int), .slice ra rods.length rc] 28 (0, 0))] := by
                intro B_5
                subst hF
                refine .step (l := [0, 3]) (by kernel_rfl) (by decide) ⟨.run rfl trivial ?_, .run rfl trivial ?_, trivial⟩
                · refine .y (.load rfl (.own 5 rfl) ag_118 sz_118 rfl) rfl rfl ?_
                  exact .weak (.one rfl (.one rfl (.one rfl (.one rfl (.nil))))) (.refl _) (s2_55 B_5)
                · refine .c (.call rfl rfl fn_60) rfl rfl (fun own ho hd => cloneeCell_ct _ (xs := el58) (Ents.in_own 3 rfl hx1 hex58 ho hd) (by first | assumption | exact .nil | exact .some | exact .drop (by assumption)) (by first | omega | (simp; omega) | (simp [*]; omega))) ?_
                  rintro _ _ ⟨a'_3, c'_3, rfl, rfl, hf_3⟩
                  exact .weak (.one rfl (.one rfl (.one rfl (.one rfl (.nil))))) (.pick 1 rfl (.refl _)) (s2_62 a'_3 c'_3 hf_3 B_5)
              have s2_60 : ∀ (a'_3 : Option Addr) (c'_3 : Nat) (hf_3 : SlOk a'_3 c'_3) (B_5 : Nat), F 5 #[false, false, true, true, true, true, false, false, false] [(6, .pointer (some ⟨B4, 0, none⟩)), (7, .pointer (some ⟨Bs, 0, none⟩)), (79, .slice a'_3 el58.length c'_3), (81, .slice (some ⟨B_5, 0, none⟩) 1 1)] [As.one B_5 (.cells #[.int .i64 ((cellAt C k1).col), .int .i64 ((cellAt C k1).row)] 30 (0, 0)), SlO eCell 30 a'_3 c'_3 el58, As.one B8 (.cells #[.int .i64 ((cellAt C k1).col), .int .i64 ((cellAt C k1).row)] 30 (0, 0)), SlO eHdr 22 (some ⟨B3, 0, none⟩) N2 hs2, Ents hs2 (fewIn C rods (mostTo C rods (fun _ => true) (C * Rw)) n (fewTo C Rw rods (mostTo C rods (fun _ => true) (C * Rw)) n) k1), As.one Bs (.cells #[.int .i64 (n : Int)] 3 (0, 0)), As.one B4 (.cells #[.slice (some ⟨B3, 0, none⟩) N2 N2] 118 (0, 0)), As.one B2 (.cells #[.pointer (some ⟨F1, 0, none⟩)] 115 (0, 0)), As.one F1 (.cells (fieldC C Rw ra rods.length rc (mostTo C rods (fun _ => true) (C * Rw)) M1).toArray 124 (0, 0)), MapO vN M1 ms1, As.one B1 (.cells #[.int .i64 (C : Int), .int .i64 (Rw : Int), .slice ra rods.length rc] 28 (0, 0))] := by
                intro a'_3 c'_3 hf_3 B_5
                subst hF
                refine .step (l := [0, 1, 6]) (by kernel_rfl) (by decide) ⟨.run rfl trivial ?_, .run rfl trivial ?_, .run rfl trivial ?_, trivial⟩
                · refine .y (.load rfl (.own 6 rfl) ag_118 sz_118 rfl) rfl rfl ?_
                  exact .weak (.one rfl (.one rfl (.one rfl (.one rfl (.nil))))) (.refl _) (s2_61 a'_3 c'_3 hf_3 B_5)
                · refine .y (.load rfl (.own 5 rfl) ag_3 sz_3 rfl) rfl rfl ?_
                  exact .weak (.one rfl (.one rfl (.one rfl (.one rfl (.nil))))) (.refl _) (s2_62 a'_3 c'_3 hf_3 B_5)
                · refine .app (E := eCell) (ys := [(cellAt C k1)]) 1 el_22 rfl rfl rfl rfl rfl (.of_cells (.own 0 rfl)) (fun h => by cases h) (by first | omega | (simp; omega) | (simp [*]; omega)) (by first | omega | (simp; omega) | (simp [*]; omega)) rfl fun a_6 c_6 oka_6 => ?_
                  exact .weak (.one rfl (.one rfl (.one rfl (.nil)))) (.refl _) (s2_124 a'_3 c'_3 hf_3 B_5 a_6 c_6 oka_6)
              have s2_7 : F 6 #[true, true, true, false, false, false, false, false, false] [(9, .pointer (some ⟨B8, 0, none⟩)), (76, .slice (some ⟨B3, 0, none⟩) N2 N2), (77, .int .i64 (n : Int)), (78, .slice ea58 el58.length ec58)] [As.one B8 (.cells #[.int .i64 ((cellAt C k1).col), .int .i64 ((cellAt C k1).row)] 30 (0, 0)), SlO eHdr 22 (some ⟨B3, 0, none⟩) N2 hs2, Ents hs2 (fewIn C rods (mostTo C rods (fun _ => true) (C * Rw)) n (fewTo C Rw rods (mostTo C rods (fun _ => true) (C * Rw)) n) k1), As.one Bs (.cells #[.int .i64 (n : Int)] 3 (0, 0)), As.one B4 (.cells #[.slice (some ⟨B3, 0, none⟩) N2 N2] 118 (0, 0)), As.one B2 (.cells #[.pointer (some ⟨F1, 0, none⟩)] 115 (0, 0)), As.one F1 (.cells (fieldC C Rw ra rods.length rc (mostTo C rods (fun _ => true) (C * Rw)) M1).toArray 124 (0, 0)), MapO vN M1 ms1, As.one B1 (.cells #[.int .i64 (C : Int), .int .i64 (Rw : Int), .slice ra rods.length rc] 28 (0, 0))] := by
                subst hF
                refine .step (l := [3, 4]) (by kernel_rfl) (by decide) ⟨.run rfl trivial ?_, .run rfl trivial ?_, trivial⟩
                · refine .c (.call rfl rfl fn_60) rfl rfl (fun own ho hd => cloneeCell_ct _ (xs := el58) (Ents.in_own 2 rfl hx1 hex58 ho hd) (by first | assumption | exact .nil | exact .some | exact .drop (by assumption)) (by first | omega | (simp; omega) | (simp [*]; omega))) ?_
                  rintro _ _ ⟨a'_3, c'_3, rfl, rfl, hf_3⟩
                  exact .weak (.one rfl (.one rfl (.one rfl (.one rfl (.nil))))) (.refl _) (s2_15 a'_3 c'_3 hf_3)
                · refine .y (.load rfl (.own 0 rfl) ag_30 sz_30 rfl) rfl rfl ?_
                  exact .weak (.one rfl (.one rfl (.one rfl (.one rfl (.nil))))) (.refl _) (s2_23)
              have s2_19 : F 6 #[true, true, false, false, true, false, false, false, false] [(11, .slice ea58 el58.length ec58), (76, .slice (some ⟨B3, 0, none⟩) N2 N2), (77, .int .i64 (n : Int)), (80, .agg #[.int .i64 ((cellAt C k1).col), .int .i64 ((cellAt C k1).row)])] [As.one B8 (.cells #[.int .i64 ((cellAt C k1).col), .int .i64 ((cellAt C k1).row)] 30 (0, 0)), SlO eHdr 22 (some ⟨B3, 0, none⟩) N2 hs2, Ents hs2 (fewIn C rods (mostTo C rods (fun _ => true) (C * Rw)) n (fewTo C Rw rods (mostTo C rods (fun _ => true) (C * Rw)) n) k1), As.one Bs (.cells #[.int .i64 (n : Int)] 3 (0, 0)), As.one B4 (.cells #[.slice (some ⟨B3, 0, none⟩) N2 N2] 118 (0, 0)), As.one B2 (.cells #[.pointer (some ⟨F1, 0, none⟩)] 115 (0, 0)), As.one F1 (.cells (fieldC C Rw ra rods.length rc (mostTo C rods (fun _ => true) (C * Rw)) M1).toArray 124 (0, 0)), MapO vN M1 ms1, As.one B1 (.cells #[.int .i64 (C : Int), .int .i64 (Rw : Int), .slice ra rods.length rc] 28 (0, 0))] := by
                subst hF
                refine .step (l := [2, 5]) (by kernel_rfl) (by decide) ⟨.run rfl trivial ?_, .run rfl trivial ?_, trivial⟩
                · refine .y (.move rfl) rfl rfl ?_
                  exact .weak (.one rfl (.one rfl (.one rfl (.one rfl (.nil))))) (.refl _) (s2_23)
                · refine .n (.lit #[.int .i64 0, .int .i64 0] lz_30_1 rfl sl_22 sz_30 zr_30 rfl rfl rfl) rfl rfl fun B_5 => ?_
                  exact .weak (.one rfl (.one rfl (.one rfl (.one rfl (.nil))))) (.refl _) (s2_51 B_5)
              have s2_13 : ∀ (a'_3 : Option Addr) (c'_3 : Nat) (hf_3 : SlOk a'_3 c'_3), F 6 #[true, false, true, true, false, false, false, false, false] [(7, .pointer (some ⟨Bs, 0, none⟩)), (9, .pointer (some ⟨B8, 0, none⟩)), (76, .slice (some ⟨B3, 0, none⟩) N2 N2), (79, .slice a'_3 el58.length c'_3)] [SlO eCell 30 a'_3 c'_3 el58, As.one B8 (.cells #[.int .i64 ((cellAt C k1).col), .int .i64 ((cellAt C k1).row)] 30 (0, 0)), SlO eHdr 22 (some ⟨B3, 0, none⟩) N2 hs2, Ents hs2 (fewIn C rods (mostTo C rods (fun _ => true) (C * Rw)) n (fewTo C Rw rods (mostTo C rods (fun _ => true) (C * Rw)) n) k1), As.one Bs (.cells #[.int .i64 (n : Int)] 3 (0, 0)), As.one B4 (.cells #[.slice (some ⟨B3, 0, none⟩) N2 N2] 118 (0, 0)), As.one B2 (.cells #[.pointer (some ⟨F1, 0, none⟩)] 115 (0, 0)), As.one F1 (.cells (fieldC C Rw ra rods.length rc (mostTo C rods (fun _ => true) (C * Rw)) M1).toArray 124 (0, 0)), MapO vN M1 ms1, As.one B1 (.cells #[.int .i64 (C : Int), .int .i64 (Rw : Int), .slice ra rods.length rc] 28 (0, 0))] := by
                intro a'_3 c'_3 hf_3
                subst hF
                refine .step (l := [1, 4]) (by kernel_rfl) (by decide) ⟨.run rfl trivial ?_, .run rfl trivial ?_, trivial⟩
                · refine .y (.load rfl (.own 4 rfl) ag_3 sz_3 rfl) rfl rfl ?_
                  exact .weak (.one rfl (.one rfl (.one rfl (.one rfl (.nil))))) (.refl _) (s2_15 a'_3 c'_3 hf_3)
                · refine .y (.load rfl (.own 1 rfl) ag_30 sz_30 rfl) rfl rfl ?_
                  exact .weak (.one rfl (.one rfl (.one rfl (.one rfl (.nil))))) (.refl _) (s2_29 a'_3 c'_3 hf_3)
              have s2_21 : F 6 #[true, false, true, false, true, false, false, false, false] [(7, .pointer (some ⟨Bs, 0, none⟩)), (76, .slice (some ⟨B3, 0, none⟩) N2 N2), (78, .slice ea58 el58.length ec58), (80, .agg #[.int .i64 ((cellAt C k1).col), .int .i64 ((cellAt C k1).row)])] [As.one B8 (.cells #[.int .i64 ((cellAt C k1).col), .int .i64 ((cellAt C k1).row)] 30 (0, 0)), SlO eHdr 22 (some ⟨B3, 0, none⟩) N2 hs2, Ents hs2 (fewIn C rods (mostTo C rods (fun _ => true) (C * Rw)) n (fewTo C Rw rods (mostTo C rods (fun _ => true) (C * Rw)) n) k1), As.one Bs (.cells #[.int .i64 (n : Int)] 3 (0, 0)), As.one B4 (.cells #[.slice (some ⟨B3, 0, none⟩) N2 N2] 118 (0, 0)), As.one B2 (.cells #[.pointer (some ⟨F1, 0, none⟩)] 115 (0, 0)), As.one F1 (.cells (fieldC C Rw ra rods.length rc (mostTo C rods (fun _ => true) (C * Rw)) M1).toArray 124 (0, 0)), MapO vN M1 ms1, As.one B1 (.cells #[.int .i64 (C : Int), .int .i64 (Rw : Int), .slice ra rods.length rc] 28 (0, 0))] := by
                subst hF
                refine .step (l := [1, 3, 5]) (by kernel_rfl) (by decide) ⟨.run rfl trivial ?_, .run rfl trivial ?_, .run rfl trivial ?_, trivial⟩
                · refine .y (.load rfl (.own 3 rfl) ag_3 sz_3 rfl) rfl rfl ?_
                  exact .weak (.one rfl (.one rfl (.one rfl (.one rfl (.nil))))) (.refl _) (s2_23)
                · refine .c (.call rfl rfl fn_60) rfl rfl (fun own ho hd => cloneeCell_ct _ (xs := el58) (Ents.in_own 2 rfl hx1 hex58 ho hd) (by first | assumption | exact .nil | exact .some | exact .drop (by assumption)) (by first | omega | (simp; omega) | (simp [*]; omega))) ?_
                  rintro _ _ ⟨a'_3, c'_3, rfl, rfl, hf_3⟩
                  exact .weak (.one rfl (.one rfl (.one rfl (.one rfl (.nil))))) (.refl _) (s2_29 a'_3 c'_3 hf_3)
                · refine .n (.lit #[.int .i64 0, .int .i64 0] lz_30_1 rfl sl_22 sz_30 zr_30 rfl rfl rfl) rfl rfl fun B_5 => ?_
                  exact .weak (.one rfl (.one rfl (.one rfl (.one rfl (.nil))))) (.refl _) (s2_53 B_5)
              have s2_49 : ∀ (B_5 : Nat), F 6 #[true, false, false, false, true, true, false, false, false] [(7, .pointer (some ⟨Bs, 0, none⟩)), (11, .slice ea58 el58.length ec58), (76, .slice (some ⟨B3, 0, none⟩) N2 N2), (81, .slice (some ⟨B_5, 0, none⟩) 1 1)] [As.one B_5 (.cells #[.int .i64 ((cellAt C k1).col), .int .i64 ((cellAt C k1).row)] 30 (0, 0)), As.one B8 (.cells #[.int .i64 ((cellAt C k1).col), .int .i64 ((cellAt C k1).row)] 30 (0, 0)), SlO eHdr 22 (some ⟨B3, 0, none⟩) N2 hs2, Ents hs2 (fewIn C rods (mostTo C rods (fun _ => true) (C * Rw)) n (fewTo C Rw rods (mostTo C rods (fun _ => true) (C * Rw)) n) k1), As.one Bs (.cells #[.int .i64 (n : Int)] 3 (0, 0)), As.one B4 (.cells #[.slice (some ⟨B3, 0, none⟩) N2 N2] 118 (0, 0)), As.one B2 (.cells #[.pointer (some ⟨F1, 0, none⟩)] 115 (0, 0)), As.one F1 (.cells (fieldC C Rw ra rods.length rc (mostTo C rods (fun _ => true) (C * Rw)) M1).toArray 124 (0, 0)), MapO vN M1 ms1, As.one B1 (.cells #[.int .i64 (C : Int), .int .i64 (Rw : Int), .slice ra rods.length rc] 28 (0, 0))] := by
                intro B_5
                subst hF
                refine .step (l := [1, 2]) (by kernel_rfl) (by decide) ⟨.run rfl trivial ?_, .run rfl trivial ?_, trivial⟩
                · refine .y (.load rfl (.own 4 rfl) ag_3 sz_3 rfl) rfl rfl ?_
                  exact .weak (.one rfl (.one rfl (.one rfl (.one rfl (.nil))))) (.refl _) (s2_51 B_5)
                · refine .y (.move rfl) rfl rfl ?_
                  exact .weak (.one rfl (.one rfl (.one rfl (.one rfl (.nil))))) (.refl _) (s2_53 B_5)
              have s2_14 : ∀ (a'_3 : Option Addr) (c'_3 : Nat) (hf_3 : SlOk a'_3 c'_3), F 6 #[false, true, true, true, false, false, false, false, false] [(6, .pointer (some ⟨B4, 0, none⟩)), (9, .pointer (some ⟨B8, 0, none⟩)), (77, .int .i64 (n : Int)), (79, .slice a'_3 el58.length c'_3)] [SlO eCell 30 a'_3 c'_3 el58, As.one B8 (.cells #[.int .i64 ((cellAt C k1).col), .int .i64 ((cellAt C k1).row)] 30 (0, 0)), SlO eHdr 22 (some ⟨B3, 0, none⟩) N2 hs2, Ents hs2 (fewIn C rods (mostTo C rods (fun _ => true) (C * Rw)) n (fewTo C Rw rods (mostTo C rods (fun _ => true) (C * Rw)) n) k1), As.one Bs (.cells #[.int .i64 (n : Int)] 3 (0, 0)), As.one B4 (.cells #[.slice (some ⟨B3, 0, none⟩) N2 N2] 118 (0, 0)), As.one B2 (.cells #[.pointer (some ⟨F1, 0, none⟩)] 115 (0, 0)), As.one F1 (.cells (fieldC C Rw ra rods.length rc (mostTo C rods (fun _ => true) (C * Rw)) M1).toArray 124 (0, 0)), MapO vN M1 ms1, As.one B1 (.cells #[.int .i64 (C : Int), .int .i64 (Rw : Int), .slice ra rods.length rc] 28 (0, 0))] := by
                intro a'_3 c'_3 hf_3
                subst hF
                refine .step (l := [0, 4]) (by kernel_rfl) (by decide) ⟨.run rfl trivial ?_, .run rfl trivial ?_, trivial⟩
                · refine .y (.load rfl (.own 5 rfl) ag_118 sz_118 rfl) rfl rfl ?_
                  exact .weak (.one rfl (.one rfl (.one rfl (.one rfl (.nil))))) (.refl _) (s2_15 a'_3 c'_3 hf_3)
                · refine .y (.load rfl (.own 1 rfl) ag_30 sz_30 rfl) rfl rfl ?_
                  exact .weak (.one rfl (.one rfl (.one rfl (.one rfl (.nil))))) (.refl _) (s2_30 a'_3 c'_3 hf_3)
              have s2_22 : F 6 #[false, true, true, false, true, false, false, false, false] [(6, .pointer (some ⟨B4, 0, none⟩)), (77, .int .i64 (n : Int)), (78, .slice ea58 el58.length ec58), (80, .agg #[.int .i64 ((cellAt C k1).col), .int .i64 ((cellAt C k1).row)])] [As.one B8 (.cells #[.int .i64 ((cellAt C k1).col), .int .i64 ((cellAt C k1).row)] 30 (0, 0)), SlO eHdr 22 (some ⟨B3, 0, none⟩) N2 hs2, Ents hs2 (fewIn C rods (mostTo C rods (fun _ => true) (C * Rw)) n (fewTo C Rw rods (mostTo C rods (fun _ => true) (C * Rw)) n) k1), As.one Bs (.cells #[.int .i64 (n : Int)] 3 (0, 0)), As.one B4 (.cells #[.slice (some ⟨B3, 0, none⟩) N2 N2] 118 (0, 0)), As.one B2 (.cells #[.pointer (some ⟨F1, 0, none⟩)] 115 (0, 0)), As.one F1 (.cells (fieldC C Rw ra rods.length rc (mostTo C rods (fun _ => true) (C * Rw)) M1).toArray 124 (0, 0)), MapO vN M1 ms1, As.one B1 (.cells #[.int .i64 (C : Int), .int .i64 (Rw : Int), .slice ra rods.length rc] 28 (0, 0))] := by
                subst hF
                refine .step (l := [0, 3, 5]) (by kernel_rfl) (by decide) ⟨.run rfl trivial ?_, .run rfl trivial ?_, .run rfl trivial ?_, trivial⟩
                · refine .y (.load rfl (.own 4 rfl) ag_118 sz_118 rfl) rfl rfl ?_
                  exact .weak (.one rfl (.one rfl (.one rfl (.one rfl (.nil))))) (.refl _) (s2_23)
                · refine .c (.call rfl rfl fn_60) rfl rfl (fun own ho hd => cloneeCell_ct _ (xs := el58) (Ents.in_own 2 rfl hx1 hex58 ho hd) (by first | assumption | exact .nil | exact .some | exact .drop (by assumption)) (by first | omega | (simp; omega) | (simp [*]; omega))) ?_
                  rintro _ _ ⟨a'_3, c'_3, rfl, rfl, hf_3⟩
                  exact .weak (.one rfl (.one rfl (.one rfl (.one rfl (.nil))))) (.refl _) (s2_30 a'_3 c'_3 hf_3)
                · refine .n (.lit #[.int .i64 0, .int .i64 0] lz_30_1 rfl sl_22 sz_30 zr_30 rfl rfl rfl) rfl rfl fun B_5 => ?_
                  exact .weak (.one rfl (.one rfl (.one rfl (.one rfl (.nil))))) (.refl _) (s2_54 B_5)
              have s2_50 : ∀ (B_5 : Nat), F 6 #[false, true, false, false, true, true, false, false, false] [(6, .pointer (some ⟨B4, 0, none⟩)), (11, .slice ea58 el58.length ec58), (77, .int .i64 (n : Int)), (81, .slice (some ⟨B_5, 0, none⟩) 1 1)] [As.one B_5 (.cells #[.int .i64 ((cellAt C k1).col), .int .i64 ((cellAt C k1).row)] 30 (0, 0)), As.one B8 (.cells #[.int .i64 ((cellAt C k1).col), .int .i64 ((cellAt C k1).row)] 30 (0, 0)), SlO eHdr 22 (some ⟨B3, 0, none⟩) N2 hs2, Ents hs2 (fewIn C rods (mostTo C rods (fun _ => true) (C * Rw)) n (fewTo C Rw rods (mostTo C rods (fun _ => true) (C * Rw)) n) k1), As.one Bs (.cells #[.int .i64 (n : Int)] 3 (0, 0)), As.one B4 (.cells #[.slice (some ⟨B3, 0, none⟩) N2 N2] 118 (0, 0)), As.one B2 (.cells #[.pointer (some ⟨F1, 0, none⟩)] 115 (0, 0)), As.one F1 (.cells (fieldC C Rw ra rods.length rc (mostTo C rods (fun _ => true) (C * Rw)) M1).toArray 124 (0, 0)), MapO vN M1 ms1, As.one B1 (.cells #[.int .i64 (C : Int), .int .i64 (Rw : Int), .slice ra rods.length rc] 28 (0, 0))] := by
                intro B_5
                subst hF
                refine .step (l := [0, 2]) (by kernel_rfl) (by decide) ⟨.run rfl trivial ?_, .run rfl trivial ?_, trivial⟩
                · refine .y (.load rfl (.own 5 rfl) ag_118 sz_118 rfl) rfl rfl ?_
                  exact .weak (.one rfl (.one rfl (.one rfl (.one rfl (.nil))))) (.refl _) (s2_51 B_5)
                · refine .y (.move rfl) rfl rfl ?_
                  exact .weak (.one rfl (.one rfl (.one rfl (.one rfl (.nil))))) (.refl _) (s2_54 B_5)
              have s2_28 : ∀ (a'_3 : Option Addr) (c'_3 : Nat) (hf_3 : SlOk a'_3 c'_3), F 6 #[false, false, true, true, true, false, false, false, false] [(6, .pointer (some ⟨B4, 0, none⟩)), (7, .pointer (some ⟨Bs, 0, none⟩)), (79, .slice a'_3 el58.length c'_3), (80, .agg #[.int .i64 ((cellAt C k1).col), .int .i64 ((cellAt C k1).row)])] [SlO eCell 30 a'_3 c'_3 el58, As.one B8 (.cells #[.int .i64 ((cellAt C k1).col), .int .i64 ((cellAt C k1).row)] 30 (0, 0)), SlO eHdr 22 (some ⟨B3, 0, none⟩) N2 hs2, Ents hs2 (fewIn C rods (mostTo C rods (fun _ => true) (C * Rw)) n (fewTo C Rw rods (mostTo C rods (fun _ => true) (C * Rw)) n) k1), As.one Bs (.cells #[.int .i64 (n : Int)] 3 (0, 0)), As.one B4 (.cells #[.slice (some ⟨B3, 0, none⟩) N2 N2] 118 (0, 0)), As.one B2 (.cells #[.pointer (some ⟨F1, 0, none⟩)] 115 (0, 0)), As.one F1 (.cells (fieldC C Rw ra rods.length rc (mostTo C rods (fun _ => true) (C * Rw)) M1).toArray 124 (0, 0)), MapO vN M1 ms1, As.one B1 (.cells #[.int .i64 (C : Int), .int .i64 (Rw : Int), .slice ra rods.length rc] 28 (0, 0))] := by
                intro a'_3 c'_3 hf_3
                subst hF
                refine .step (l := [0, 1, 5]) (by kernel_rfl) (by decide) ⟨.run rfl trivial ?_, .run rfl trivial ?_, .run rfl trivial ?_, trivial⟩
                · refine .y (.load rfl (.own 5 rfl) ag_118 sz_118 rfl) rfl rfl ?_
                  exact .weak (.one rfl (.one rfl (.one rfl (.one rfl (.nil))))) (.refl _) (s2_29 a'_3 c'_3 hf_3)
                · refine .y (.load rfl (.own 4 rfl) ag_3 sz_3 rfl) rfl rfl ?_
                  exact .weak (.one rfl (.one rfl (.one rfl (.one rfl (.nil))))) (.refl _) (s2_30 a'_3 c'_3 hf_3)
                · refine .n (.lit #[.int .i64 0, .int .i64 0] lz_30_1 rfl sl_22 sz_30 zr_30 rfl rfl rfl) rfl rfl fun B_5 => ?_
                  exact .weak (.one rfl (.one rfl (.one rfl (.one rfl (.nil))))) (.refl _) (s2_60 a'_3 c'_3 hf_3 B_5)
              have s2_52 : ∀ (B_5 : Nat), F 6 #[false, false, true, false, true, true, false, false, false] [(6, .pointer (some ⟨B4, 0, none⟩)), (7, .pointer (some ⟨Bs, 0, none⟩)), (78, .slice ea58 el58.length ec58), (81, .slice (some ⟨B_5, 0, none⟩) 1 1)] [As.one B_5 (.cells #[.int .i64 ((cellAt C k1).col), .int .i64 ((cellAt C k1).row)] 30 (0, 0)), As.one B8 (.cells #[.int .i64 ((cellAt C k1).col), .int .i64 ((cellAt C k1).row)] 30 (0, 0)), SlO eHdr 22 (some ⟨B3, 0, none⟩) N2 hs2, Ents hs2 (fewIn C rods (mostTo C rods (fun _ => true) (C * Rw)) n (fewTo C Rw rods (mostTo C rods (fun _ => true) (C * Rw)) n) k1), As.one Bs (.cells #[.int .i64 (n : Int)] 3 (0, 0)), As.one B4 (.cells #[.slice (some ⟨B3, 0, none⟩) N2 N2] 118 (0, 0)), As.one B2 (.cells #[.pointer (some ⟨F1, 0, none⟩)] 115 (0, 0)), As.one F1 (.cells (fieldC C Rw ra rods.length rc (mostTo C rods (fun _ => true) (C * Rw)) M1).toArray 124 (0, 0)), MapO vN M1 ms1, As.one B1 (.cells #[.int .i64 (C : Int), .int .i64 (Rw : Int), .slice ra rods.length rc] 28 (0, 0))] := by
                intro B_5
                subst hF
                refine .step (l := [0, 1, 3]) (by kernel_rfl) (by decide) ⟨.run rfl trivial ?_, .run rfl trivial ?_, .run rfl trivial ?_, trivial⟩
                · refine .y (.load rfl (.own 5 rfl) ag_118 sz_118 rfl) rfl rfl ?_
                  exact .weak (.one rfl (.one rfl (.one rfl (.one rfl (.nil))))) (.refl _) (s2_53 B_5)
                · refine .y (.load rfl (.own 4 rfl) ag_3 sz_3 rfl) rfl rfl ?_
                  exact .weak (.one rfl (.one rfl (.one rfl (.one rfl (.nil))))) (.refl _) (s2_54 B_5)
                · refine .c (.call rfl rfl fn_60) rfl rfl (fun own ho hd => cloneeCell_ct _ (xs := el58) (Ents.in_own 3 rfl hx1 hex58 ho hd) (by first | assumption | exact .nil | exact .some | exact .drop (by assumption)) (by first | omega | (simp; omega) | (simp [*]; omega))) ?_
                  rintro _ _ ⟨a'_3, c'_3, rfl, rfl, hf_3⟩
                  exact .weak (.one rfl (.one rfl (.one rfl (.one rfl (.nil))))) (.pick 1 rfl (.refl _)) (s2_60 a'_3 c'_3 hf_3 B_5)
              have s2_3 : F 7 #[true, true, false, false, false, false, false, false, false] [(9, .pointer (some ⟨B8, 0, none⟩)), (11, .slice ea58 el58.length ec58), (76, .slice (some ⟨B3, 0, none⟩) N2 N2), (77, .int .i64 (n : Int))] [As.one B8 (.cells #[.int .i64 ((cellAt C k1).col), .int .i64 ((cellAt C k1).row)] 30 (0, 0)), SlO eHdr 22 (some ⟨B3, 0, none⟩) N2 hs2, Ents hs2 (fewIn C rods (mostTo C rods (fun _ => true) (C * Rw)) n (fewTo C Rw rods (mostTo C rods (fun _ => true) (C * Rw)) n) k1), As.one Bs (.cells #[.int .i64 (n : Int)] 3 (0, 0)), As.one B4 (.cells #[.slice (some ⟨B3, 0, none⟩) N2 N2] 118 (0, 0)), As.one B2 (.cells #[.pointer (some ⟨F1, 0, none⟩)] 115 (0, 0)), As.one F1 (.cells (fieldC C Rw ra rods.length rc (mostTo C rods (fun _ => true) (C * Rw)) M1).toArray 124 (0, 0)), MapO vN M1 ms1, As.one B1 (.cells #[.int .i64 (C : Int), .int .i64 (Rw : Int), .slice ra rods.length rc] 28 (0, 0))] := by
                subst hF
                refine .step (l := [2, 4]) (by kernel_rfl) (by decide) ⟨.run rfl trivial ?_, .run rfl trivial ?_, trivial⟩
                · refine .y (.move rfl) rfl rfl ?_
                  exact .weak (.one rfl (.one rfl (.one rfl (.one rfl (.nil))))) (.refl _) (s2_7)
                · refine .y (.load rfl (.own 0 rfl) ag_30 sz_30 rfl) rfl rfl ?_
                  exact .weak (.one rfl (.one rfl (.one rfl (.one rfl (.nil))))) (.refl _) (s2_19)
              have s2_5 : F 7 #[true, false, true, false, false, false, false, false, false] [(7, .pointer (some ⟨Bs, 0, none⟩)), (9, .pointer (some ⟨B8, 0, none⟩)), (76, .slice (some ⟨B3, 0, none⟩) N2 N2), (78, .slice ea58 el58.length ec58)] [As.one B8 (.cells #[.int .i64 ((cellAt C k1).col), .int .i64 ((cellAt C k1).row)] 30 (0, 0)), SlO eHdr 22 (some ⟨B3, 0, none⟩) N2 hs2, Ents hs2 (fewIn C rods (mostTo C rods (fun _ => true) (C * Rw)) n (fewTo C Rw rods (mostTo C rods (fun _ => true) (C * Rw)) n) k1), As.one Bs (.cells #[.int .i64 (n : Int)] 3 (0, 0)), As.one B4 (.cells #[.slice (some ⟨B3, 0, none⟩) N2 N2] 118 (0, 0)), As.one B2 (.cells #[.pointer (some ⟨F1, 0, none⟩)] 115 (0, 0)), As.one F1 (.cells (fieldC C Rw ra rods.length rc (mostTo C rods (fun _ => true) (C * Rw)) M1).toArray 124 (0, 0)), MapO vN M1 ms1, As.one B1 (.cells #[.int .i64 (C : Int), .int .i64 (Rw : Int), .slice ra rods.length rc] 28 (0, 0))] := by
                subst hF
                refine .step (l := [1, 3, 4]) (by kernel_rfl) (by decide) ⟨.run rfl trivial ?_, .run rfl trivial ?_, .run rfl trivial ?_, trivial⟩
                · refine .y (.load rfl (.own 3 rfl) ag_3 sz_3 rfl) rfl rfl ?_
                  exact .weak (.one rfl (.one rfl (.one rfl (.one rfl (.nil))))) (.refl _) (s2_7)
                · refine .c (.call rfl rfl fn_60) rfl rfl (fun own ho hd => cloneeCell_ct _ (xs := el58) (Ents.in_own 2 rfl hx1 hex58 ho hd) (by first | assumption | exact .nil | exact .some | exact .drop (by assumption)) (by first | omega | (simp; omega) | (simp [*]; omega))) ?_
                  rintro _ _ ⟨a'_3, c'_3, rfl, rfl, hf_3⟩
                  exact .weak (.one rfl (.one rfl (.one rfl (.one rfl (.nil))))) (.refl _) (s2_13 a'_3 c'_3 hf_3)
                · refine .y (.load rfl (.own 0 rfl) ag_30 sz_30 rfl) rfl rfl ?_
                  exact .weak (.one rfl (.one rfl (.one rfl (.one rfl (.nil))))) (.refl _) (s2_21)
              have s2_17 : F 7 #[true, false, false, false, true, false, false, false, false] [(7, .pointer (some ⟨Bs, 0, none⟩)), (11, .slice ea58 el58.length ec58), (76, .slice (some ⟨B3, 0, none⟩) N2 N2), (80, .agg #[.int .i64 ((cellAt C k1).col), .int .i64 ((cellAt C k1).row)])] [As.one B8 (.cells #[.int .i64 ((cellAt C k1).col), .int .i64 ((cellAt C k1).row)] 30 (0, 0)), SlO eHdr 22 (some ⟨B3, 0, none⟩) N2 hs2, Ents hs2 (fewIn C rods (mostTo C rods (fun _ => true) (C * Rw)) n (fewTo C Rw rods (mostTo C rods (fun _ => true) (C * Rw)) n) k1), As.one Bs (.cells #[.int .i64 (n : Int)] 3 (0, 0)), As.one B4 (.cells #[.slice (some ⟨B3, 0, none⟩) N2 N2] 118 (0, 0)), As.one B2 (.cells #[.pointer (some ⟨F1, 0, none⟩)] 115 (0, 0)), As.one F1 (.cells (fieldC C Rw ra rods.length rc (mostTo C rods (fun _ => true) (C * Rw)) M1).toArray 124 (0, 0)), MapO vN M1 ms1, As.one B1 (.cells #[.int .i64 (C : Int), .int .i64 (Rw : Int), .slice ra rods.length rc] 28 (0, 0))] := by
                subst hF
                refine .step (l := [1, 2, 5]) (by kernel_rfl) (by decide) ⟨.run rfl trivial ?_, .run rfl trivial ?_, .run rfl trivial ?_, trivial⟩
                · refine .y (.load rfl (.own 3 rfl) ag_3 sz_3 rfl) rfl rfl ?_
                  exact .weak (.one rfl (.one rfl (.one rfl (.one rfl (.nil))))) (.refl _) (s2_19)
                · refine .y (.move rfl) rfl rfl ?_
                  exact .weak (.one rfl (.one rfl (.one rfl (.one rfl (.nil))))) (.refl _) (s2_21)
                · refine .n (.lit #[.int .i64 0, .int .i64 0] lz_30_1 rfl sl_22 sz_30 zr_30 rfl rfl rfl) rfl rfl fun B_5 => ?_
                  exact .weak (.one rfl (.one rfl (.one rfl (.one rfl (.nil))))) (.refl _) (s2_49 B_5)
              have s2_6 : F 7 #[false, true, true, false, false, false, false, false, false] [(6, .pointer (some ⟨B4, 0, none⟩)), (9, .pointer (some ⟨B8, 0, none⟩)), (77, .int .i64 (n : Int)), (78, .slice ea58 el58.length ec58)] [As.one B8 (.cells #[.int .i64 ((cellAt C k1).col), .int .i64 ((cellAt C k1).row)] 30 (0, 0)), SlO eHdr 22 (some ⟨B3, 0, none⟩) N2 hs2, Ents hs2 (fewIn C rods (mostTo C rods (fun _ => true) (C * Rw)) n (fewTo C Rw rods (mostTo C rods (fun _ => true) (C * Rw)) n) k1), As.one Bs (.cells #[.int .i64 (n : Int)] 3 (0, 0)), As.one B4 (.cells #[.slice (some ⟨B3, 0, none⟩) N2 N2] 118 (0, 0)), As.one B2 (.cells #[.pointer (some ⟨F1, 0, none⟩)] 115 (0, 0)), As.one F1 (.cells (fieldC C Rw ra rods.length rc (mostTo C rods (fun _ => true) (C * Rw)) M1).toArray 124 (0, 0)), MapO vN M1 ms1, As.one B1 (.cells #[.int .i64 (C : Int), .int .i64 (Rw : Int), .slice ra rods.length rc] 28 (0, 0))] := by
                subst hF
                refine .step (l := [0, 3, 4]) (by kernel_rfl) (by decide) ⟨.run rfl trivial ?_, .run rfl trivial ?_, .run rfl trivial ?_, trivial⟩
                · refine .y (.load rfl (.own 4 rfl) ag_118 sz_118 rfl) rfl rfl ?_
                  exact .weak (.one rfl (.one rfl (.one rfl (.one rfl (.nil))))) (.refl _) (s2_7)
                · refine .c (.call rfl rfl fn_60) rfl rfl (fun own ho hd => cloneeCell_ct _ (xs := el58) (Ents.in_own 2 rfl hx1 hex58 ho hd) (by first | assumption | exact .nil | exact .some | exact .drop (by assumption)) (by first | omega | (simp; omega) | (simp [*]; omega))) ?_
                  rintro _ _ ⟨a'_3, c'_3, rfl, rfl, hf_3⟩
                  exact .weak (.one rfl (.one rfl (.one rfl (.one rfl (.nil))))) (.refl _) (s2_14 a'_3 c'_3 hf_3)
                · refine .y (.load rfl (.own 0 rfl) ag_30 sz_30 rfl) rfl rfl ?_
                  exact .weak (.one rfl (.one rfl (.one rfl (.one rfl (.nil))))) (.refl _) (s2_22)
              have s2_18 : F 7 #[false, true, false, false, true, false, false, false, false] [(6, .pointer (some ⟨B4, 0, none⟩)), (11, .slice ea58 el58.length ec58), (77, .int .i64 (n : Int)), (80, .agg #[.int .i64 ((cellAt C k1).col), .int .i64 ((cellAt C k1).row)])] [As.one B8 (.cells #[.int .i64 ((cellAt C k1).col), .int .i64 ((cellAt C k1).row)] 30 (0, 0)), SlO eHdr 22 (some ⟨B3, 0, none⟩) N2 hs2, Ents hs2 (fewIn C rods (mostTo C rods (fun _ => true) (C * Rw)) n (fewTo C Rw rods (mostTo C rods (fun _ => true) (C * Rw)) n) k1), As.one Bs (.cells #[.int .i64 (n : Int)] 3 (0, 0)), As.one B4 (.cells #[.slice (some ⟨B3, 0, none⟩) N2 N2] 118 (0, 0)), As.one B2 (.cells #[.pointer (some ⟨F1, 0, none⟩)] 115 (0, 0)), As.one F1 (.cells (fieldC C Rw ra rods.length rc (mostTo C rods (fun _ => true) (C * Rw)) M1).toArray 124 (0, 0)), MapO vN M1 ms1, As.one B1 (.cells #[.int .i64 (C : Int), .int .i64 (Rw : Int), .slice ra rods.length rc] 28 (0, 0))] := by
                subst hF
                refine .step (l := [0, 2, 5]) (by kernel_rfl) (by decide) ⟨.run rfl trivial ?_, .run rfl trivial ?_, .run rfl trivial ?_, trivial⟩
                · refine .y (.load rfl (.own 4 rfl) ag_118 sz_118 rfl) rfl rfl ?_
                  exact .weak (.one rfl (.one rfl (.one rfl (.one rfl (.nil))))) (.refl _) (s2_19)
                · refine .y (.move rfl) rfl rfl ?_
                  exact .weak (.one rfl (.one rfl (.one rfl (.one rfl (.nil))))) (.refl _) (s2_22)
                · refine .n (.lit #[.int .i64 0, .int .i64 0] lz_30_1 rfl sl_22 sz_30 zr_30 rfl rfl rfl) rfl rfl fun B_5 => ?_
                  exact .weak (.one rfl (.one rfl (.one rfl (.one rfl (.nil))))) (.refl _) (s2_50 B_5)
              have s2_12 : ∀ (a'_3 : Option Addr) (c'_3 : Nat) (hf_3 : SlOk a'_3 c'_3), F 7 #[false, false, true, true, false, false, false, false, false] [(6, .pointer (some ⟨B4, 0, none⟩)), (7, .pointer (some ⟨Bs, 0, none⟩)), (9, .pointer (some ⟨B8, 0, none⟩)), (79, .slice a'_3 el58.length c'_3)] [SlO eCell 30 a'_3 c'_3 el58, As.one B8 (.cells #[.int .i64 ((cellAt C k1).col), .int .i64 ((cellAt C k1).row)] 30 (0, 0)), SlO eHdr 22 (some ⟨B3, 0, none⟩) N2 hs2, Ents hs2 (fewIn C rods (mostTo C rods (fun _ => true) (C * Rw)) n (fewTo C Rw rods (mostTo C rods (fun _ => true) (C * Rw)) n) k1), As.one Bs (.cells #[.int .i64 (n : Int)] 3 (0, 0)), As.one B4 (.cells #[.slice (some ⟨B3, 0, none⟩) N2 N2] 118 (0, 0)), As.one B2 (.cells #[.pointer (some ⟨F1, 0, none⟩)] 115 (0, 0)), As.one F1 (.cells (fieldC C Rw ra rods.length rc (mostTo C rods (fun _ => true) (C * Rw)) M1).toArray 124 (0, 0)), MapO vN M1 ms1, As.one B1 (.cells #[.int .i64 (C : Int), .int .i64 (Rw : Int), .slice ra rods.length rc] 28 (0, 0))] := by
                intro a'_3 c'_3 hf_3
                subst hF
                refine .step (l := [0, 1, 4]) (by kernel_rfl) (by decide) ⟨.run rfl trivial ?_, .run rfl trivial ?_, .run rfl trivial ?_, trivial⟩
                · refine .y (.load rfl (.own 5 rfl) ag_118 sz_118 rfl) rfl rfl ?_
                  exact .weak (.one rfl (.one rfl (.one rfl (.one rfl (.nil))))) (.refl _) (s2_13 a'_3 c'_3 hf_3)
                · refine .y (.load rfl (.own 4 rfl) ag_3 sz_3 rfl) rfl rfl ?_
                  exact .weak (.one rfl (.one rfl (.one rfl (.one rfl (.nil))))) (.refl _) (s2_14 a'_3 c'_3 hf_3)
                · refine .y (.load rfl (.own 1 rfl) ag_30 sz_30 rfl) rfl rfl ?_
                  exact .weak (.one rfl (.one rfl (.one rfl (.one rfl (.nil))))) (.refl _) (s2_28 a'_3 c'_3 hf_3)
              have s2_20 : F 7 #[false, false, true, false, true, false, false, false, false] [(6, .pointer (some ⟨B4, 0, none⟩)), (7, .pointer (some ⟨Bs, 0, none⟩)), (78, .slice ea58 el58.length ec58), (80, .agg #[.int .i64 ((cellAt C k1).col), .int .i64 ((cellAt C k1).row)])] [As.one B8 (.cells #[.int .i64 ((cellAt C k1).col), .int .i64 ((cellAt C k1).row)] 30 (0, 0)), SlO eHdr 22 (some ⟨B3, 0, none⟩) N2 hs2, Ents hs2 (fewIn C rods (mostTo C rods (fun _ => true) (C * Rw)) n (fewTo C Rw rods (mostTo C rods (fun _ => true) (C * Rw)) n) k1), As.one Bs (.cells #[.int .i64 (n : Int)] 3 (0, 0)), As.one B4 (.cells #[.slice (some ⟨B3, 0, none⟩) N2 N2] 118 (0, 0)), As.one B2 (.cells #[.pointer (some ⟨F1, 0, none⟩)] 115 (0, 0)), As.one F1 (.cells (fieldC C Rw ra rods.length rc (mostTo C rods (fun _ => true) (C * Rw)) M1).toArray 124 (0, 0)), MapO vN M1 ms1, As.one B1 (.cells #[.int .i64 (C : Int), .int .i64 (Rw : Int), .slice ra rods.length rc] 28 (0, 0))] := by
                subst hF
                refine .step (l := [0, 1, 3, 5]) (by kernel_rfl) (by decide) ⟨.run rfl trivial ?_, .run rfl trivial ?_, .run rfl trivial ?_, .run rfl trivial ?_, trivial⟩
                · refine .y (.load rfl (.own 4 rfl) ag_118 sz_118 rfl) rfl rfl ?_
                  exact .weak (.one rfl (.one rfl (.one rfl (.one rfl (.nil))))) (.refl _) (s2_21)
                · refine .y (.load rfl (.own 3 rfl) ag_3 sz_3 rfl) rfl rfl ?_
                  exact .weak (.one rfl (.one rfl (.one rfl (.one rfl (.nil))))) (.refl _) (s2_22)
                · refine .c (.call rfl rfl fn_60) rfl rfl (fun own ho hd => cloneeCell_ct _ (xs := el58) (Ents.in_own 2 rfl hx1 hex58 ho hd) (by first | assumption | exact .nil | exact .some | exact .drop (by assumption)) (by first | omega | (simp; omega) | (simp [*]; omega))) ?_
                  rintro _ _ ⟨a'_3, c'_3, rfl, rfl, hf_3⟩
                  exact .weak (.one rfl (.one rfl (.one rfl (.one rfl (.nil))))) (.refl _) (s2_28 a'_3 c'_3 hf_3)
                · refine .n (.lit #[.int .i64 0, .int .i64 0] lz_30_1 rfl sl_22 sz_30 zr_30 rfl rfl rfl) rfl rfl fun B_5 => ?_
                  exact .weak (.one rfl (.one rfl (.one rfl (.one rfl (.nil))))) (.refl _) (s2_52 B_5)
              have s2_48 : ∀ (B_5 : Nat), F 7 #[false, false, false, false, true, true, false, false, false] [(6, .pointer (some ⟨B4, 0, none⟩)), (7, .pointer (some ⟨Bs, 0, none⟩)), (11, .slice ea58 el58.length ec58), (81, .slice (some ⟨B_5, 0, none⟩) 1 1)] [As.one B_5 (.cells #[.int .i64 ((cellAt C k1).col), .int .i64 ((cellAt C k1).row)] 30 (0, 0)), As.one B8 (.cells #[.int .i64 ((cellAt C k1).col), .int .i64 ((cellAt C k1).row)] 30 (0, 0)), SlO eHdr 22 (some ⟨B3, 0, none⟩) N2 hs2, Ents hs2 (fewIn C rods (mostTo C rods (fun _ => true) (C * Rw)) n (fewTo C Rw rods (mostTo C rods (fun _ => true) (C * Rw)) n) k1), As.one Bs (.cells #[.int .i64 (n : Int)] 3 (0, 0)), As.one B4 (.cells #[.slice (some ⟨B3, 0, none⟩) N2 N2] 118 (0, 0)), As.one B2 (.cells #[.pointer (some ⟨F1, 0, none⟩)] 115 (0, 0)), As.one F1 (.cells (fieldC C Rw ra rods.length rc (mostTo C rods (fun _ => true) (C * Rw)) M1).toArray 124 (0, 0)), MapO vN M1 ms1, As.one B1 (.cells #[.int .i64 (C : Int), .int .i64 (Rw : Int), .slice ra rods.length rc] 28 (0, 0))] := by
                intro B_5
                subst hF
                refine .step (l := [0, 1, 2]) (by kernel_rfl) (by decide) ⟨.run rfl trivial ?_, .run rfl trivial ?_, .run rfl trivial ?_, trivial⟩
                · refine .y (.load rfl (.own 5 rfl) ag_118 sz_118 rfl) rfl rfl ?_
                  exact .weak (.one rfl (.one rfl (.one rfl (.one rfl (.nil))))) (.refl _) (s2_49 B_5)
                · refine .y (.load rfl (.own 4 rfl) ag_3 sz_3 rfl) rfl rfl ?_
                  exact .weak (.one rfl (.one rfl (.one rfl (.one rfl (.nil))))) (.refl _) (s2_50 B_5)
                · refine .y (.move rfl) rfl rfl ?_
                  exact .weak (.one rfl (.one rfl (.one rfl (.one rfl (.nil))))) (.refl _) (s2_52 B_5)
              have s2_1 : F 8 #[true, false, false, false, false, false, false, false, false] [(7, .pointer (some ⟨Bs, 0, none⟩)), (9, .pointer (some ⟨B8, 0, none⟩)), (11, .slice ea58 el58.length ec58), (76, .slice (some ⟨B3, 0, none⟩) N2 N2)] [As.one B8 (.cells #[.int .i64 ((cellAt C k1).col), .int .i64 ((cellAt C k1).row)] 30 (0, 0)), SlO eHdr 22 (some ⟨B3, 0, none⟩) N2 hs2, Ents hs2 (fewIn C rods (mostTo C rods (fun _ => true) (C * Rw)) n (fewTo C Rw rods (mostTo C rods (fun _ => true) (C * Rw)) n) k1), As.one Bs (.cells #[.int .i64 (n : Int)] 3 (0, 0)), As.one B4 (.cells #[.slice (some ⟨B3, 0, none⟩) N2 N2] 118 (0, 0)), As.one B2 (.cells #[.pointer (some ⟨F1, 0, none⟩)] 115 (0, 0)), As.one F1 (.cells (fieldC C Rw ra rods.length rc (mostTo C rods (fun _ => true) (C * Rw)) M1).toArray 124 (0, 0)), MapO vN M1 ms1, As.one B1 (.cells #[.int .i64 (C : Int), .int .i64 (Rw : Int), .slice ra rods.length rc] 28 (0, 0))] := by
                subst hF
                refine .step (l := [1, 2, 4]) (by kernel_rfl) (by decide) ⟨.run rfl trivial ?_, .run rfl trivial ?_, .run rfl trivial ?_, trivial⟩
                · refine .y (.load rfl (.own 3 rfl) ag_3 sz_3 rfl) rfl rfl ?_
                  exact .weak (.one rfl (.one rfl (.one rfl (.one rfl (.nil))))) (.refl _) (s2_3)
                · refine .y (.move rfl) rfl rfl ?_
                  exact .weak (.one rfl (.one rfl (.one rfl (.one rfl (.nil))))) (.refl _) (s2_5)
                · refine .y (.load rfl (.own 0 rfl) ag_30 sz_30 rfl) rfl rfl ?_
                  exact .weak (.one rfl (.one rfl (.one rfl (.one rfl (.nil))))) (.refl _) (s2_17)
              have s2_2 : F 8 #[false, true, false, false, false, false, false, false, false] [(6, .pointer (some ⟨B4, 0, none⟩)), (9, .pointer (some ⟨B8, 0, none⟩)), (11, .slice ea58 el58.length ec58), (77, .int .i64 (n : Int))] [As.one B8 (.cells #[.int .i64 ((cellAt C k1).col), .int .i64 ((cellAt C k1).row)] 30 (0, 0)), SlO eHdr 22 (some ⟨B3, 0, none⟩) N2 hs2, Ents hs2 (fewIn C rods (mostTo C rods (fun _ => true) (C * Rw)) n (fewTo C Rw rods (mostTo C rods (fun _ => true) (C * Rw)) n) k1), As.one Bs (.cells #[.int .i64 (n : Int)] 3 (0, 0)), As.one B4 (.cells #[.slice (some ⟨B3, 0, none⟩) N2 N2] 118 (0, 0)), As.one B2 (.cells #[.pointer (some ⟨F1, 0, none⟩)] 115 (0, 0)), As.one F1 (.cells (fieldC C Rw ra rods.length rc (mostTo C rods (fun _ => true) (C * Rw)) M1).toArray 124 (0, 0)), MapO vN M1 ms1, As.one B1 (.cells #[.int .i64 (C : Int), .int .i64 (Rw : Int), .slice ra rods.length rc] 28 (0, 0))] := by
                subst hF
                refine .step (l := [0, 2, 4]) (by kernel_rfl) (by decide) ⟨.run rfl trivial ?_, .run rfl trivial ?_, .run rfl trivial ?_, trivial⟩
                · refine .y (.load rfl (.own 4 rfl) ag_118 sz_118 rfl) rfl rfl ?_
                  exact .weak (.one rfl (.one rfl (.one rfl (.one rfl (.nil))))) (.refl _) (s2_3)
                · refine .y (.move rfl) rfl rfl ?_
                  exact .weak (.one rfl (.one rfl (.one rfl (.one rfl (.nil))))) (.refl _) (s2_6)
                · refine .y (.load rfl (.own 0 rfl) ag_30 sz_30 rfl) rfl rfl ?_
                  exact .weak (.one rfl (.one rfl (.one rfl (.one rfl (.nil))))) (.refl _) (s2_18)
              have s2_4 : F 8 #[false, false, true, false, false, false, false, false, false] [(6, .pointer (some ⟨B4, 0, none⟩)), (7, .pointer (some ⟨Bs, 0, none⟩)), (9, .pointer (some ⟨B8, 0, none⟩)), (78, .slice ea58 el58.length ec58)] [As.one B8 (.cells #[.int .i64 ((cellAt C k1).col), .int .i64 ((cellAt C k1).row)] 30 (0, 0)), SlO eHdr 22 (some ⟨B3, 0, none⟩) N2 hs2, Ents hs2 (fewIn C rods (mostTo C rods (fun _ => true) (C * Rw)) n (fewTo C Rw rods (mostTo C rods (fun _ => true) (C * Rw)) n) k1), As.one Bs (.cells #[.int .i64 (n : Int)] 3 (0, 0)), As.one B4 (.cells #[.slice (some ⟨B3, 0, none⟩) N2 N2] 118 (0, 0)), As.one B2 (.cells #[.pointer (some ⟨F1, 0, none⟩)] 115 (0, 0)), As.one F1 (.cells (fieldC C Rw ra rods.length rc (mostTo C rods (fun _ => true) (C * Rw)) M1).toArray 124 (0, 0)), MapO vN M1 ms1, As.one B1 (.cells #[.int .i64 (C : Int), .int .i64 (Rw : Int), .slice ra rods.length rc] 28 (0, 0))] := by
                subst hF
                refine .step (l := [0, 1, 3, 4]) (by kernel_rfl) (by decide) ⟨.run rfl trivial ?_, .run rfl trivial ?_, .run rfl trivial ?_, .run rfl trivial ?_, trivial⟩
                · refine .y (.load rfl (.own 4 rfl) ag_118 sz_118 rfl) rfl rfl ?_
                  exact .weak (.one rfl (.one rfl (.one rfl (.one rfl (.nil))))) (.refl _) (s2_5)
                · refine .y (.load rfl (.own 3 rfl) ag_3 sz_3 rfl) rfl rfl ?_
                  exact .weak (.one rfl (.one rfl (.one rfl (.one rfl (.nil))))) (.refl _) (s2_6)
                · refine .c (.call rfl rfl fn_60) rfl rfl (fun own ho hd => cloneeCell_ct _ (xs := el58) (Ents.in_own 2 rfl hx1 hex58 ho hd) (by first | assumption | exact .nil | exact .some | exact .drop (by assumption)) (by first | omega | (simp; omega) | (simp [*]; omega))) ?_
                  rintro _ _ ⟨a'_3, c'_3, rfl, rfl, hf_3⟩
                  exact .weak (.one rfl (.one rfl (.one rfl (.one rfl (.nil))))) (.refl _) (s2_12 a'_3 c'_3 hf_3)
                · refine .y (.load rfl (.own 0 rfl) ag_30 sz_30 rfl) rfl rfl ?_
                  exact .weak (.one rfl (.one rfl (.one rfl (.one rfl (.nil))))) (.refl _) (s2_20)
              have s2_16 : F 8 #[false, false, false, false, true, false, false, false, false] [(6, .pointer (some ⟨B4, 0, none⟩)), (7, .pointer (some ⟨Bs, 0, none⟩)), (11, .slice ea58 el58.length ec58), (80, .agg #[.int .i64 ((cellAt C k1).col), .int .i64 ((cellAt C k1).row)])] [As.one B8 (.cells #[.int .i64 ((cellAt C k1).col), .int .i64 ((cellAt C k1).row)] 30 (0, 0)), SlO eHdr 22 (some ⟨B3, 0, none⟩) N2 hs2, Ents hs2 (fewIn C rods (mostTo C rods (fun _ => true) (C * Rw)) n (fewTo C Rw rods (mostTo C rods (fun _ => true) (C * Rw)) n) k1), As.one Bs (.cells #[.int .i64 (n : Int)] 3 (0, 0)), As.one B4 (.cells #[.slice (some ⟨B3, 0, none⟩) N2 N2] 118 (0, 0)), As.one B2 (.cells #[.pointer (some ⟨F1, 0, none⟩)] 115 (0, 0)), As.one F1 (.cells (fieldC C Rw ra rods.length rc (mostTo C rods (fun _ => true) (C * Rw)) M1).toArray 124 (0, 0)), MapO vN M1 ms1, As.one B1 (.cells #[.int .i64 (C : Int), .int .i64 (Rw : Int), .slice ra rods.length rc] 28 (0, 0))] := by
                subst hF
                refine .step (l := [0, 1, 2, 5]) (by kernel_rfl) (by decide) ⟨.run rfl trivial ?_, .run rfl trivial ?_, .run rfl trivial ?_, .run rfl trivial ?_, trivial⟩
                · refine .y (.load rfl (.own 4 rfl) ag_118 sz_118 rfl) rfl rfl ?_
                  exact .weak (.one rfl (.one rfl (.one rfl (.one rfl (.nil))))) (.refl _) (s2_17)
                · refine .y (.load rfl (.own 3 rfl) ag_3 sz_3 rfl) rfl rfl ?_
                  exact .weak (.one rfl (.one rfl (.one rfl (.one rfl (.nil))))) (.refl _) (s2_18)
                · refine .y (.move rfl) rfl rfl ?_
                  exact .weak (.one rfl (.one rfl (.one rfl (.one rfl (.nil))))) (.refl _) (s2_20)
                · refine .n (.lit #[.int .i64 0, .int .i64 0] lz_30_1 rfl sl_22 sz_30 zr_30 rfl rfl rfl) rfl rfl fun B_5 => ?_
                  exact .weak (.one rfl (.one rfl (.one rfl (.one rfl (.nil))))) (.refl _) (s2_48 B_5)
              have s2_0 : F 9 #[false, false, false, false, false, false, false, false, false] [(6, .pointer (some ⟨B4, 0, none⟩)), (7, .pointer (some ⟨Bs, 0, none⟩)), (9, .pointer (some ⟨B8, 0, none⟩)), (11, .slice ea58 el58.length ec58)] [As.one B8 (.cells #[.int .i64 ((cellAt C k1).col), .int .i64 ((cellAt C k1).row)] 30 (0, 0)), SlO eHdr 22 (some ⟨B3, 0, none⟩) N2 hs2, Ents hs2 (fewIn C rods (mostTo C rods (fun _ => true) (C * Rw)) n (fewTo C Rw rods (mostTo C rods (fun _ => true) (C * Rw)) n) k1), As.one Bs (.cells #[.int .i64 (n : Int)] 3 (0, 0)), As.one B4 (.cells #[.slice (some ⟨B3, 0, none⟩) N2 N2] 118 (0, 0)), As.one B2 (.cells #[.pointer (some ⟨F1, 0, none⟩)] 115 (0, 0)), As.one F1 (.cells (fieldC C Rw ra rods.length rc (mostTo C rods (fun _ => true) (C * Rw)) M1).toArray 124 (0, 0)), MapO vN M1 ms1, As.one B1 (.cells #[.int .i64 (C : Int), .int .i64 (Rw : Int), .slice ra rods.length rc] 28 (0, 0))] := by
                subst hF
                refine .step (l := [0, 1, 2, 4]) (by kernel_rfl) (by decide) ⟨.run rfl trivial ?_, .run rfl trivial ?_, .run rfl trivial ?_, .run rfl trivial ?_, trivial⟩
                · refine .y (.load rfl (.own 4 rfl) ag_118 sz_118 rfl) rfl rfl ?_
                  exact .weak (.one rfl (.one rfl (.one rfl (.one rfl (.nil))))) (.refl _) (s2_1)
                · refine .y (.load rfl (.own 3 rfl) ag_3 sz_3 rfl) rfl rfl ?_
                  exact .weak (.one rfl (.one rfl (.one rfl (.one rfl (.nil))))) (.refl _) (s2_2)
                · refine .y (.move rfl) rfl rfl ?_
                  exact .weak (.one rfl (.one rfl (.one rfl (.one rfl (.nil))))) (.refl _) (s2_4)
                · refine .y (.load rfl (.own 0 rfl) ag_30 sz_30 rfl) rfl rfl ?_
                  exact .weak (.one rfl (.one rfl (.one rfl (.one rfl (.nil))))) (.refl _) (s2_16)
              subst hF; exact .weak (.one rfl (.one rfl (.one rfl (.one rfl (.nil))))) (.refl _) s2_0
            · refine .skip ?_
              show RSub [Tbl B3 N2 (fewIn C rods (mostTo C rods (fun _ => true) (C * Rw)) n (fewTo C Rw rods (mostTo C rods (fun _ => true) (C * Rw)) n) (k1 + 1)), As.one Bs (.cells #[.int .i64 (n : Int)] 3 (0, 0)), As.one B4 (.cells #[.slice (some ⟨B3, 0, none⟩) N2 N2] 118 (0, 0)), As.one B2 (.cells #[.pointer (some ⟨F1, 0, none⟩)] 115 (0, 0)), As.one F1 (.cells (fieldC C Rw ra rods.length rc (mostTo C rods (fun _ => true) (C * Rw)) M1).toArray 124 (0, 0)), MapO vN M1 ms1, As.one B1 (.cells #[.int .i64 (C : Int), .int .i64 (Rw : Int), .slice ra rods.length rc] 28 (0, 0))] _
              first | rw [few_zero (by assumption)] | (have e71 : el71 = el62 := Option.some.inj (hex71.symm.trans hex62); rw [e71] at h4; rw [few_keep (by assumption) hex58 hex62 (fun e => by have := hnil62 e; simp_all) h4])
              exact (.tbl hts2 (.pick 1 rfl (.pick 1 rfl (.pick 1 rfl (.pick 1 rfl (.pick 1 rfl (.pick 1 rfl (.pick 1 rfl (.pick 1 rfl (.nil _))))))))))
      · refine .tbl fun hs3 hts3 => ?_
        refine T.pure 1 rfl (fun h e => Ents.none e) (fun hno3 => ?_)
        have hlenhs3 : hs3.length = N2 := by rw [hts3.len]; simp [hN2]
        refine .seq ?_
        refine .seq ?_
        refine .region ?_
        refine .y (.load rfl (.own 2 rfl) ag_3 sz_3 rfl) trivial rfl rfl ?_
        refine .nil ?_
        refine .region ?_
        refine .n (.alloc zr_3) trivial rfl rfl fun B9 => ?_
        refine .cons trivial (.store 0 rfl rfl rfl sz_3 rfl rfl (Nat.le_of_ble_eq_true rfl) rfl ?_)
        refine .nil ?_
        refine .region ?_
        refine .y (.load rfl (.own 0 rfl) ag_3 sz_3 rfl) trivial rfl rfl ?_
        refine .y (.to (v' := .int .i64 (((n + 1) : Nat) : Int)) (.add rfl rfl (by omega)) (congrArg _ (by omega))) trivial rfl rfl ?_
        refine .cons trivial (.store 0 rfl rfl rfl sz_3 rfl rfl (Nat.le_of_ble_eq_true rfl) rfl ?_)
        refine .nil ?_
        rw [← few_go hP0.1 (by assumption)]
        rw [← few_go hP0.1 (by assumption)] at hts3
        refine ⟨⟨(n + 1, B9), ?_⟩, ?_, (.one rfl (.one rfl (.one rfl (.one rfl (.nil))))), (.tbl hts3 (.pick 1 rfl (.pick 1 rfl (.pick 0 rfl (.pick 1 rfl (.pick 1 rfl (.pick 1 rfl (.pick 1 rfl (.pick 1 rfl (.nil _))))))))))⟩
        · exact ⟨by omega, by omega⟩
        · show N2 - (n + 1) < N2 - n; omega
      · exact fun _ _ h => h.elim
  · refine .exit ?_
    refine inB_hit ?_
    refine .seq ?_
    refine T.dr (N := 96) [(5, (fun v rs => v = .int .i64 ((shownTo rods rods.length : Nat) : Int) ∧ rs = []))] [0, 0, 2, 6, 14, 30, 63, 127, 255] 6 (by kernel_rfl) flw rfl (Nat.le_of_ble_eq_true rfl) ?_
    refine .y (.load rfl (.own 3 rfl) ag_118 sz_118 rfl) trivial ?_
    refine .y (.load rfl (.own 4 rfl) ag_115 sz_115 rfl) trivial ?_
    refine .y (.nilCheck rfl) trivial ?_
    refine .y (.fieldAddr rfl fl_124_0) trivial ?_
    refine .y (.load rfl (.own 5 rfl) ag_28 sz_28 rdF_bin) trivial ?_
    refine .c (.call rfl rfl fn_70) trivial (fun own ho hd => shown_ct _ (rods := rods) (SlR.up hr) (by omega)) ?_
    rintro _ _ ⟨rfl, rfl⟩
    refine .nil ?_
    have hbhx4 : (shownTo rods rods.length) < hs1.length := by omega
    obtain ⟨x4, hx4⟩ : ∃ x4, hs1[(shownTo rods rods.length)]? = some x4 := ⟨_, List.getElem?_eq_getElem hbhx4⟩
    obtain ⟨ea91, ec91, el91, rfl, hex91, hok91, hnil91⟩ := TblOk.get hts1 hx4
    have hle91 : el91.length ≤ 62 := Nat.le_trans (hsml1 _ _ hex91) (card62 _)
    have hle12 : el91.length ≤ 12 := Nat.le_trans (Nat.le_trans (hsml1 _ _ hex91) (card_le (by omega))) (by decide)
    have hsm91 : ∀ x ∈ el91, Sm x := fun x hx => by obtain ⟨k, hk, rfl⟩ := InBin.to _ _ _ hex91 x hx; exact cellAt_Sm hc.2.1 hc.2.2.2 hk
    refine .y (.indexE (E := eHdr) rfl (hlenhs1.symm) (.own 0 rfl) rfl sl_118 sz_22 (by omega)) trivial rfl rfl ?_
    refine .y (.to (v' := .slice ea91 el91.length ec91) (.loadE (E := eHdr) rfl (.own 0 rfl) ag_22 sz_22 (by decide) (eHdr.rd0 hx4 (by decide) (by decide) rfl)) rfl) trivial rfl rfl ?_
    refine .y (.assign rfl) trivial rfl rfl ?_
    refine .nil ?_
    refine .seq ?_
    refine .region ?_
    refine .y (.move rfl) trivial rfl rfl ?_
    refine .rsub (.trans (.ent hx4 hex91 (.refl _)) (.pick 1 rfl (.refl _))) ?_
    refine .cm (l := [SlO eCell 30 ea91 ec91 el91]) (.pick 0 rfl (.refl _)) (.call rfl rfl fn_71) trivial rfl rfl (fun own ho hd => sortC_ct _ (xs := el91) hnil91 hle12 hsm91) ?_
    rintro _ _ ⟨ys1, rfl, hperm1, rfl⟩
    refine .nil ?_
    refine .seq ?_
    refine .region ?_
    refine .y (.move rfl) trivial rfl rfl ?_
    refine .y (.assign rfl) trivial rfl rfl ?_
    refine .y (.assign rfl) trivial rfl rfl ?_
    refine .nil ?_
    refine .ret ?_
    refine ⟨.inr rfl, _, _, (.pick 0 rfl (.nil _)), fun own' ho => .two rfl rfl rfl, ?_⟩
    have hn9 : n = 2 ^ rods.length := by omega
    have e : (fewL C Rw rods (mostTo C rods (fun _ => true) (C * Rw))) = el91 := by rw [fewL, ← hn9]; exact getD_at hex91
    rw [e]; exact ⟨_, _, ys1, by rw [hperm1.length_eq], rfl, hok91, hperm1⟩
end Go.Proofs.YtfcjmoolnadfbaaGreat
