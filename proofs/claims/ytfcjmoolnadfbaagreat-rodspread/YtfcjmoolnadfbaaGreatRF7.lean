/- Contracts of functions of package rod, printed by vgen: part RF7. -/
import Derived.Test.YtfcjmoolnadfbaaGreatProg
import Derived.Test.YtfcjmoolnadfbaaGreatRSpec
import Derived.Test.YtfcjmoolnadfbaaGreatRF1
import Derived.Test.YtfcjmoolnadfbaaGreatRF2
import Derived.Test.YtfcjmoolnadfbaaGreatRF3
import Derived.Test.YtfcjmoolnadfbaaGreatRF4
import Derived.Test.YtfcjmoolnadfbaaGreatVLate
import Derived.Test.YtfcjmoolnadfbaaGreatSSpec
import Derived.Test.YtfcjmoolnadfbaaGreatSort
import Derived.Test.YtfcjmoolnadfbaaGreatRF5
import Derived.Test.YtfcjmoolnadfbaaGreatRF6
import Derived.KernelRfl
set_option linter.unusedVariables false
set_option linter.unusedSimpArgs false
namespace Go.Proofs.YtfcjmoolnadfbaaGreat
open Go.V
theorem ag_100 : agOf Tryz.prog 100 = some false := by kernel_rfl
theorem fn_58 : fnOk Tryz.prog 58 = true := by kernel_rfl
theorem fn_59 : fnOk Tryz.prog 59 = true := by kernel_rfl
theorem fn_60 : fnOk Tryz.prog 60 = true := by kernel_rfl
theorem fn_61 : fnOk Tryz.prog 61 = true := by kernel_rfl
theorem sz_100 : szOf Tryz.prog 100 = some 1 := by kernel_rfl
theorem zr_100 : zeroOf Tryz.prog 100 = some (.nilFunc) := by kernel_rfl
theorem scat1_ct (g : Hp) {x a : Cell} {r B D : Nat} (hB : g B = some (.cells #[.int .i64 a.col, .int .i64 a.row] 30 (0, 0))) (hD : g D = some (.cells #[.int .i64 (r : Int)] 3 (0, 0))) (hx : Sm x) (ha : Sm a) (hr : r ≤ 3) : Ct Tryz.prog 61 [.agg #[.int .i64 x.col, .int .i64 x.row], .pointer (some ⟨B, 0, none⟩), .pointer (some ⟨D, 0, none⟩)].toArray g [] (fun v rs => v = .bool (decide (dist x a ≤ 2 * (r : Int))) ∧ rs = []) := by
  refine Ct.of_body (N := 11) (l := [.agg #[.int .i64 x.col, .int .i64 x.row], .pointer (some ⟨B, 0, none⟩), .pointer (some ⟨D, 0, none⟩)]) Tryz.func61 rfl rfl (Nat.le_of_ble_eq_true rfl) fun n0 => ?_
  refine .seq ?_
  refine .region ?_
  refine .n (.box rfl) trivial rfl rfl fun B1 => ?_
  refine .y (.assign rfl) trivial rfl rfl ?_
  refine .nil ?_
  refine .seq ?_
  refine T.dr (N := 11) [(2, (fun v rs => v = .int .i64 (dist x a) ∧ rs = []))] [0, 0, 3, 0, 8, 31, 63] 5 (by kernel_rfl) flw rfl (Nat.le_of_ble_eq_true rfl) ?_
  refine .y (.load rfl (.own 0 rfl) ag_30 sz_30 rfl) trivial ?_
  refine .y (.load rfl (.g hB) ag_30 sz_30 rfl) trivial ?_
  refine .c (.call rfl rfl fn_53) trivial (fun own ho hd => from_ct _ (by first | assumption | exact (show RodOk _ from (by assumption)).1 | exact (getRod hv (by assumption)).1 | exact cellAt_Sm hc.2.1 hc.2.2.2 (by assumption)) (by first | assumption | exact (show RodOk _ from (by assumption)).1 | exact (getRod hv (by assumption)).1 | exact cellAt_Sm hc.2.1 hc.2.2.2 (by assumption))) ?_
  rintro _ _ ⟨rfl, rfl⟩
  refine .y (.load rfl (.g hD) ag_3 sz_3 rfl) trivial ?_
  refine .y (.mul rfl rfl (by omega)) trivial ?_
  refine .nil ?_
  refine .y (.leq rfl rfl) trivial rfl rfl ?_
  refine .y (.assign rfl) trivial rfl rfl ?_
  refine .nil ?_
  refine .ret ?_
  refine ⟨.inr rfl, _, _, (.nil _), fun own' ho => .one rfl rfl, ?_⟩
  first | exact ⟨rfl, rfl⟩ | (refine ⟨?_, rfl⟩; simp [*])
theorem deleteFunc_ct (g : Hp) {a : Option Addr} {c : Nat} {xs : List Cell} {f : FuncId} {q : List Value} {p : Cell → Bool} (hk : fnOk Tryz.prog f = true) (hF : PureB Tryz.prog g f q argC (· ∈ xs) p) (hl : xs.length ≤ 1000000) : Ct Tryz.prog 59 [.slice a xs.length c, .func (.func f) #[] q.toArray].toArray g [SlO eCell 30 a c xs] (fun v rs => v = .slice a ((xs.filter (fun x => !p x)).length) c ∧ rs = [SlO eCell 30 a c (xs.filter (fun x => !p x))]) := by
  refine Ct.of_body (N := 42) (l := [.slice a xs.length c, .func (.func f) #[] q.toArray]) Tryz.func59 rfl rfl (Nat.le_of_ble_eq_true rfl) fun n0 => ?_
  refine .seq ?_
  refine .region ?_
  refine .y (.assign rfl) trivial rfl rfl ?_
  refine .nil ?_
  refine .seq ?_
  refine .region ?_
  refine .y (.move rfl) trivial rfl rfl ?_
  refine .y (.move rfl) trivial rfl rfl ?_
  refine .c (.call rfl rfl fn_96) trivial rfl rfl (fun own ho hd => indexFunceCell_ct _ hk (xs := xs) (SlAt.in_own 0 rfl ho hd) hF.up (by first | omega | (simp; omega))) ?_
  rintro _ _ ⟨rfl, rfl⟩
  refine .y (.assign rfl) trivial rfl rfl ?_
  refine .nil ?_
  refine .seq ?_
  refine .seq ?_
  refine .region ?_
  refine .y (.move rfl) trivial rfl rfl ?_
  refine .y (.eql rfl rfl) trivial rfl rfl ?_
  refine .nil ?_
  refine .ite rfl (fun h1 => ?_) (fun h1 => ?_)
  · refine .seq ?_
    refine .region ?_
    refine .y (.move rfl) trivial rfl rfl ?_
    refine .y (.assign rfl) trivial rfl rfl ?_
    refine .nil ?_
    refine .ret ?_
    refine ⟨.inr rfl, _, _, (.pick 0 rfl (.nil _)), fun own' ho => .one rfl rfl, ?_⟩
    rw [fidx_filt h1]; exact ⟨rfl, rfl⟩
  · obtain ⟨k, hk1, hk2, hk3⟩ := fidx_get h1
    rw [hk1]
    refine .skip ?_
    refine .seq ?_
    refine .seq ?_
    refine .region ?_
    refine .y (.move rfl) trivial rfl rfl ?_
    refine .y (.to (v' := .int .i64 (((k + 1) : Nat) : Int)) (.add rfl rfl (by omega)) (congrArg _ (by omega))) trivial rfl rfl ?_
    refine .y (.assign rfl) trivial rfl rfl ?_
    refine .nil ?_
    refine .block ?_
    refine T.loop (ι := { zz : Nat × Nat × List Cell // DelOk p xs zz.2.2 zz.1 zz.2.1 }) (fun zz => ([(0, .slice a xs.length c), (5, .int .i64 (zz.1.1 : Int)), (6, .int .i64 (zz.1.2.1 : Int)), (1, .func (.func f) #[] q.toArray)], [SlO eCell 30 a c zz.1.2.2])) (fun zz => xs.length - zz.1.2.1) ⟨(k, k + 1, xs), .zero hk2 hk3⟩ (.one rfl (.one rfl (.one rfl (.one rfl (.nil))))) (.refl _) ?_
    rintro ⟨⟨i, j, ys⟩, hP0⟩
    dsimp only at hP0
    show T _ [(0, .slice a xs.length c), (5, .int .i64 (i : Int)), (6, .int .i64 (j : Int)), (1, .func (.func f) #[] q.toArray)] [SlO eCell 30 a c ys] _ _
    refine T.pure 0 rfl (fun h hh => SlO.len hh) (fun hcap => ?_)
    have hP9 := hP0.2.1
    have hP8 := hP0.2.2.1
    have hP7 := hP0.1
    refine .seq ?_
    refine .seq ?_
    refine .region ?_
    refine .y (.move rfl) trivial rfl rfl ?_
    refine .y (.move rfl) trivial rfl rfl ?_
    refine .y (.len rfl sl_22) trivial rfl rfl ?_
    refine .y (.lss rfl rfl) trivial rfl rfl ?_
    refine .nil ?_
    refine .ite rfl (fun h2 => ?_) (fun h2 => ?_)
    · refine .skip ?_
      refine .seq ?_
      refine .block ?_
      refine .seq ?_
      refine .region ?_
      refine .y (.move rfl) trivial rfl rfl ?_
      refine .y (.move rfl) trivial rfl rfl ?_
      have hbhx1 : j < ys.length := by omega
      obtain ⟨x1, hx1⟩ : ∃ x1, ys[j]? = some x1 := ⟨_, List.getElem?_eq_getElem hbhx1⟩
      refine .y (.indexE (E := eCell) rfl hP0.2.2.1.symm (.own 0 rfl) rfl sl_22 sz_30 (by omega)) trivial rfl rfl ?_
      refine .y (.loadE (E := eCell) rfl (.own 0 rfl) ag_30 sz_30 (by decide) (eCell.rd0 hx1 (by decide) (by decide) rfl)) trivial rfl rfl ?_
      refine .n (.alloc zr_30) trivial rfl rfl fun B1 => ?_
      refine .cons trivial (.store 0 rfl rfl rfl sz_30 rfl rfl (Nat.le_of_ble_eq_true rfl) rfl ?_)
      refine .nil ?_
      refine .seq ?_
      refine .region ?_
      refine .y (.move rfl) trivial rfl rfl ?_
      refine .y (.load rfl (.own 0 rfl) ag_30 sz_30 rfl) trivial rfl rfl ?_
      refine .c (.call rfl rfl hk) trivial rfl rfl (fun own ho hd => hF _ (fun B x h => Hp.up h) _ (hP0.mem hx1)) ?_
      rintro _ _ ⟨rfl, rfl⟩
      refine .y (.not rfl) trivial rfl rfl ?_
      refine .nil ?_
      refine .cond rfl (fun h3 => ?_) (fun h3 => ?_)
      · refine .seq ?_
        refine .region ?_
        refine .y (.move rfl) trivial rfl rfl ?_
        refine .y (.move rfl) trivial rfl rfl ?_
        refine .y (.load rfl (.own 0 rfl) ag_30 sz_30 rfl) trivial rfl rfl ?_
        have hbhx2 : i < ys.length := by omega
        obtain ⟨x2, hx2⟩ : ∃ x2, ys[i]? = some x2 := ⟨_, List.getElem?_eq_getElem hbhx2⟩
        refine .y (.indexE (E := eCell) rfl hP0.2.2.1.symm (.own 1 rfl) rfl sl_22 sz_30 (by omega)) trivial rfl rfl ?_
        refine .cons trivial (.storeE (E := eCell) (xs := ys) (k := i) (v := x1) 1 rfl rfl rfl rfl rfl sz_30 (by first | omega | (simp; omega) | exact Nat.le_trans (membI_len _) (by decide) | (simp [*]; done) | (simp [*]; omega)) rfl ?_)
        refine .nil ?_
        refine .region ?_
        refine .y (.move rfl) trivial rfl rfl ?_
        refine .y (.to (v' := .int .i64 (((i + 1) : Nat) : Int)) (.add rfl rfl (by omega)) (congrArg _ (by omega))) trivial rfl rfl ?_
        refine .y (.assign rfl) trivial rfl rfl ?_
        refine .nil ?_
        refine .region ?_
        refine .y (.move rfl) trivial rfl rfl ?_
        refine .y (.to (v' := .int .i64 (((j + 1) : Nat) : Int)) (.add rfl rfl (by omega)) (congrArg _ (by omega))) trivial rfl rfl ?_
        refine .y (.assign rfl) trivial rfl rfl ?_
        refine .nil ?_
        refine ⟨⟨(i + 1, j + 1, ys.set i x1), ?_⟩, ?_, (.one rfl (.one rfl (.one rfl (.one rfl (.nil))))), (.pick 1 rfl (.nil _))⟩
        · exact hP0.keep hx1 (by simpa using h3)
        · show xs.length - (j + 1) < xs.length - j; omega
      · refine .skip ?_
        refine .region ?_
        refine .y (.move rfl) trivial rfl rfl ?_
        refine .y (.to (v' := .int .i64 (((j + 1) : Nat) : Int)) (.add rfl rfl (by omega)) (congrArg _ (by omega))) trivial rfl rfl ?_
        refine .y (.assign rfl) trivial rfl rfl ?_
        refine .nil ?_
        refine ⟨⟨(i, j + 1, ys), ?_⟩, ?_, (.one rfl (.one rfl (.one rfl (.one rfl (.nil))))), (.pick 1 rfl (.nil _))⟩
        · exact hP0.out hx1 (by simpa using h3)
        · show xs.length - (j + 1) < xs.length - j; omega
    · refine .exit ?_
      refine inB_hit ?_
      refine .seq ?_
      refine .region ?_
      refine .y (.move rfl) trivial rfl rfl ?_
      refine .y (.move rfl) trivial rfl rfl ?_
      refine .y (.to (v' := .slice (if c = i then a else dropA a (i * 2)) (xs.length - i) (c - i)) (.sliceLo rfl rfl sl_22 sz_30 ⟨by omega, by have := hP0.1; have := hP0.2.1; omega⟩) rfl) trivial rfl rfl ?_
      refine .cons trivial (.clearTail (E := eCell) (k := i) 0 el_22 rfl rfl (by have := hP0.1; have := hP0.2.1; have := hP0.2.2.1; omega) rfl (by rw [hP0.2.2.1]) rfl rfl ?_)
      refine .nil ?_
      refine .seq ?_
      refine .region ?_
      refine .y (.move rfl) trivial rfl rfl ?_
      refine .y (.move rfl) trivial rfl rfl ?_
      refine .y (.to (v' := .slice a ((ys.take i).length) c) (.sliceHi rfl rfl sl_22 sz_30 ⟨by omega, by have := hP0.1; have := hP0.2.1; have := hP0.2.2.1; omega⟩) (by have := hP0.1; have := hP0.2.1; have := hP0.2.2.1; rw [List.length_take, Nat.min_eq_left (by omega)]; rfl)) trivial rfl rfl ?_
      refine .y (.assign rfl) trivial rfl rfl ?_
      refine .nil ?_
      refine .ret ?_
      refine ⟨.inr rfl, _, _, (.pick 0 rfl (.nil _)), fun own' ho => .one rfl rfl, ?_⟩
      have e := hP0.fin (by omega)
      rw [← e]; exact ⟨rfl, rfl⟩
set_option maxHeartbeats 2000000 in
theorem scat_step (g : Hp) {r B D M : Nat} (hD : g D = some (.cells #[.int .i64 (r : Int)] 3 (0, 0))) (hM : g M = some (.cells #[.func (.func 58) #[] #[.pointer (some ⟨B, 0, none⟩), .pointer (some ⟨D, 0, none⟩), .pointer (some ⟨M, 0, none⟩)]] 100 (0, 0))) (hr : r ≤ 3) {n : Nat} {la fa : Option Addr} {lc fc : Nat} {l left best : List Cell} (IH : ∀ m, m < n → ∀ g', (∀ B x, g B = some x → g' B = some x) → ∀ (la : Option Addr) (lc : Nat) (l : List Cell) (fa : Option Addr) (fc : Nat) (left best : List Cell), SlR eCell g' la l → SlR eCell g' fa left → SlOk la lc → SlOk fa fc → left.length ≤ m → left.length ≤ fc → l.length + left.length ≤ 50 → (∀ x ∈ left, Sm x) → l.length ≤ lc → Ct Tryz.prog 58 [.slice la l.length lc, .slice fa left.length fc, .pointer (some ⟨B, 0, none⟩), .pointer (some ⟨D, 0, none⟩), .pointer (some ⟨M, 0, none⟩)].toArray g' [BoxG eCell g' 22 B best] (fun v rs => v = .tuple #[] ∧ rs = [BoxG eCell g' 22 B (scatF (r : Int) m l left best)])) (hl : SlR eCell g la l) (hf : SlR eCell g fa left) (okl : SlOk la lc) (okf : SlOk fa fc) (hln : left.length ≤ n) (hfc : left.length ≤ fc) (hll : l.length + left.length ≤ 50) (hsm : ∀ x ∈ left, Sm x) (hlc : l.length ≤ lc) : Ct Tryz.prog 58 [.slice la l.length lc, .slice fa left.length fc, .pointer (some ⟨B, 0, none⟩), .pointer (some ⟨D, 0, none⟩), .pointer (some ⟨M, 0, none⟩)].toArray g [BoxG eCell g 22 B best] (fun v rs => v = .tuple #[] ∧ rs = [BoxG eCell g 22 B (scatF (r : Int) n l left best)]) := by
  refine Ct.of_body (N := 49) (l := [.slice la l.length lc, .slice fa left.length fc, .pointer (some ⟨B, 0, none⟩), .pointer (some ⟨D, 0, none⟩), .pointer (some ⟨M, 0, none⟩)]) Tryz.func58 rfl rfl (Nat.le_of_ble_eq_true rfl) fun n0 => ?_
  refine T.boxG fun a0 c0 => ?_
  refine .seq ?_
  refine .seq ?_
  refine .region ?_
  refine .y (.move rfl) trivial rfl rfl ?_
  refine .y (.len rfl sl_22) trivial rfl rfl ?_
  refine .y (.load rfl (.boxG 0 rfl) ag_22 sz_22 rfl) trivial rfl rfl ?_
  refine .y (.len rfl sl_22) trivial rfl rfl ?_
  refine .y (.gtr rfl rfl) trivial rfl rfl ?_
  refine .nil ?_
  refine .ite rfl (fun h1 => ?_) (fun h1 => ?_)
  · refine .region ?_
    refine .y (.move rfl) trivial rfl rfl ?_
    refine .cons trivial (.storeBoxG (ys := l) 0 rfl rfl rfl (by first | assumption | omega) hl rfl sz_22 rfl ?_)
    refine .nil ?_
    refine .seq ?_
    refine .region ?_
    refine .y (.move rfl) trivial rfl rfl ?_
    refine .y (.len rfl sl_22) trivial rfl rfl ?_
    refine .y (.move rfl) trivial rfl rfl ?_
    refine .nil ?_
    refine .block ?_
    refine T.loop (ι := { zz : Nat × List Cell // zz.1 ≤ left.length ∧ scatF (r : Int) n l left best = scatL (scatP (r : Int) n) (r : Int) l (left.drop zz.1) zz.2 }) (fun zz => ([(18, .int .i64 (zz.1.1 : Int)), (0, .slice la l.length lc), (1, .slice fa left.length fc), (2, .pointer (some ⟨B, 0, none⟩)), (3, .pointer (some ⟨D, 0, none⟩)), (4, .pointer (some ⟨M, 0, none⟩)), (16, .slice fa left.length fc), (17, .int .i64 (left.length : Int))], [BoxG eCell g 22 B zz.1.2])) (fun zz => left.length - zz.1.1) ⟨(0, l), ⟨Nat.zero_le _, by rw [scatF_eq, updB, if_pos (by omega)]; rfl⟩⟩ (.one rfl (.one rfl (.one rfl (.one rfl (.one rfl (.one rfl (.one rfl (.one rfl (.nil))))))))) (.boxG (.pick 0 rfl (.refl _))) ?_
    rintro ⟨⟨i, bst⟩, hP0⟩
    dsimp only at hP0
    show T _ [(18, .int .i64 (i : Int)), (0, .slice la l.length lc), (1, .slice fa left.length fc), (2, .pointer (some ⟨B, 0, none⟩)), (3, .pointer (some ⟨D, 0, none⟩)), (4, .pointer (some ⟨M, 0, none⟩)), (16, .slice fa left.length fc), (17, .int .i64 (left.length : Int))] [BoxG eCell g 22 B bst] _ _
    refine T.boxG fun a1 c1 => ?_
    refine .seq ?_
    refine .region ?_
    refine .y (.lss rfl rfl) trivial rfl rfl ?_
    refine .nil ?_
    refine .seq ?_
    refine .ite rfl (fun h2 => ?_) (fun h2 => ?_)
    · refine .skip ?_
      refine .seq ?_
      refine .block ?_
      refine .seq ?_
      refine .region ?_
      refine .y (.move rfl) trivial rfl rfl ?_
      have hbhx1 : i < left.length := by omega
      obtain ⟨x1, hx1⟩ : ∃ x1, left[i]? = some x1 := ⟨_, List.getElem?_eq_getElem hbhx1⟩
      refine .y (.indexE (E := eCell) rfl rfl (.g hf) rfl sl_22 sz_30 (by omega)) trivial rfl rfl ?_
      refine .y (.loadE (E := eCell) rfl (.g hf) ag_30 sz_30 (by decide) (eCell.rd0 hx1 (by decide) (by decide) rfl)) trivial rfl rfl ?_
      refine .n (.alloc zr_30) trivial rfl rfl fun B1 => ?_
      refine .y (.assign rfl) trivial rfl rfl ?_
      refine .cons trivial (.store 0 rfl rfl rfl sz_30 rfl rfl (Nat.le_of_ble_eq_true rfl) rfl ?_)
      refine .nil ?_
      refine .seq ?_
      refine .seq ?_
      refine .region ?_
      refine .y (.move rfl) trivial rfl rfl ?_
      refine .y (.len rfl sl_22) trivial rfl rfl ?_
      refine .y (.move rfl) trivial rfl rfl ?_
      refine .y (.len rfl sl_22) trivial rfl rfl ?_
      refine .y (.add rfl rfl (by omega)) trivial rfl rfl ?_
      refine .y (.move rfl) trivial rfl rfl ?_
      refine .y (.sub rfl rfl (by omega)) trivial rfl rfl ?_
      refine .y (.load rfl (.boxG 1 rfl) ag_22 sz_22 rfl) trivial rfl rfl ?_
      refine .y (.len rfl sl_22) trivial rfl rfl ?_
      refine .y (.leq rfl rfl) trivial rfl rfl ?_
      refine .nil ?_
      refine .ite rfl (fun h3 => ?_) (fun h3 => ?_)
      · refine .ret ?_
        refine ⟨.inr rfl, _, _, (.boxG (.pick 1 rfl (.nil _))), fun own' ho => .zero rfl, ?_⟩
        rw [scat_stop hP0.2 hx1 h3]; exact ⟨rfl, rfl⟩
      · refine .skip ?_
        refine .seq ?_
        refine .region ?_
        refine .y (.move rfl) trivial rfl rfl ?_
        refine .y (.move rfl) trivial rfl rfl ?_
        refine .y (.add rfl rfl (by omega)) trivial rfl rfl ?_
        refine .y (.to (v' := .slice (if fc = i + 1 then fa else dropA fa ((i + 1) * 2)) ((left.drop (i + 1)).length) (fc - (i + 1))) (.sliceLo rfl rfl sl_22 sz_30 ⟨by omega, by omega⟩) (by rw [List.length_drop]; rfl)) trivial rfl rfl ?_
        refine .c (.call rfl rfl fn_60) trivial rfl rfl (fun own ho hd => cloneeCell_ct _ (xs := left.drop (i + 1)) (SlR.up (hf.drop (i + 1) hfc)) (by first | assumption | exact .nil | exact .some | exact .drop (by assumption)) (by first | omega | (simp; omega) | (simp [*]; omega))) ?_
        rintro _ _ ⟨a'1, c'1, rfl, rfl, hf1⟩
        refine .y (.makeFunc rfl rfl) trivial rfl rfl ?_
        refine .cm (l := [SlO eCell 30 a'1 c'1 (left.drop (i + 1))]) (.pick 0 rfl (.refl _)) (.call rfl rfl fn_59) trivial rfl rfl (fun own ho hd => deleteFunc_ct _ fn_61 (fun g' hg z_ hz_ => scat1_ct g' (hg _ _ (one_in 0 rfl ho hd)) (hg _ _ (Hp.up hD)) (hsm _ (List.mem_of_mem_drop hz_)) (hsm _ (List.mem_of_getElem? (by assumption))) hr) (by first | omega | (simp; omega) | exact Nat.le_trans (membI_len _) (by decide) | (simp [*]; done) | (simp [*]; omega))) ?_
        rintro _ _ ⟨rfl, rfl⟩
        refine .y (.assign rfl) trivial rfl rfl ?_
        refine .pure 0 rfl (fun h hh => SlO.len hh) (fun hlen2 => ?_)
        have hlen0 : ((left.drop (i + 1)).filter fun z_ => !decide (dist z_ x1 ≤ 2 * (r : Int))).length ≤ left.length - (i + 1) := Nat.le_trans (List.length_filter_le _ _) (by rw [List.length_drop]; exact Nat.le_refl _)
        have hlen1 : ((left.drop (i + 1)).filter fun z_ => !decide (dist z_ x1 ≤ 2 * (r : Int))).length ≤ n - 1 := by omega
        have hlen3 : (l ++ [x1]).length + ((left.drop (i + 1)).filter fun z_ => !decide (dist z_ x1 ≤ 2 * (r : Int))).length ≤ 50 := by rw [List.length_append, List.length_singleton]; omega
        have hsm2 : ∀ x ∈ ((left.drop (i + 1)).filter fun z_ => !decide (dist z_ x1 ≤ 2 * (r : Int))), Sm x := fun x hx => hsm x (List.mem_of_mem_drop (List.mem_filter.1 hx).1)
        refine .nil ?_
        refine T.any #[false, false, false, false, false, false, false, false] rfl 8 rfl flw ?_
        refine .use fun F hF => ?_
        have s1_255 : ∀ (a'_2 : Option Addr) (c'_2 : Nat) (hf_2 : SlOk a'_2 c'_2) (B_4 : Nat) (a_5 : Option Addr) (c_5 : Nat) (oka_5 : SlOk a_5 c_5), F 0 #[true, true, true, true, true, true, true, true] [(0, .slice la l.length lc), (1, .slice fa left.length fc), (2, .pointer (some ⟨B, 0, none⟩)), (3, .pointer (some ⟨D, 0, none⟩)), (4, .pointer (some ⟨M, 0, none⟩)), (16, .slice fa left.length fc), (17, .int .i64 (left.length : Int)), (18, .int .i64 (i : Int))] [BoxG eCell g 22 B (scatF (r : Int) (n - 1) (l ++ ([x1])) ((left.drop (i + 1)).filter (fun x => !(fun z_ => decide (dist z_ x1 ≤ 2 * (r : Int))) x)) bst), As.one B_4 (.cells #[.int .i64 x1.col, .int .i64 x1.row] 30 (0, 0)), As.one B1 (.cells #[.int .i64 x1.col, .int .i64 x1.row] 30 (0, 0))] := by
          intro a'_2 c'_2 hf_2 B_4 a_5 c_5 oka_5
          subst hF
          refine .done (by kernel_rfl) ?_
          refine .region ?_
          refine .y (.add rfl rfl (by omega)) trivial rfl rfl ?_
          refine .y (.move rfl) trivial rfl rfl ?_
          refine .nil ?_
          refine ⟨⟨(i + 1, scatF (r : Int) (n - 1) (l ++ ([x1])) ((left.drop (i + 1)).filter (fun x => !(fun z_ => decide (dist z_ x1 ≤ 2 * (r : Int))) x)) bst), ?_⟩, ?_, (.one rfl (.one rfl (.one rfl (.one rfl (.one rfl (.one rfl (.one rfl (.one rfl (.nil))))))))), (.pick 0 rfl (.nil _))⟩
          · exact ⟨by omega, scat_go (by omega) hP0.2 hx1 h3⟩
          · show left.length - (i + 1) < left.length - i; omega
        have s1_127 : ∀ (a'_2 : Option Addr) (c'_2 : Nat) (hf_2 : SlOk a'_2 c'_2) (B_4 : Nat) (a_5 : Option Addr) (c_5 : Nat) (oka_5 : SlOk a_5 c_5), F 1 #[true, true, true, true, true, true, true, false] [(0, .slice la l.length lc), (1, .slice fa left.length fc), (2, .pointer (some ⟨B, 0, none⟩)), (3, .pointer (some ⟨D, 0, none⟩)), (4, .pointer (some ⟨M, 0, none⟩)), (16, .slice fa left.length fc), (17, .int .i64 (left.length : Int)), (18, .int .i64 (i : Int)), (40, .func (.func 58) #[] #[.pointer (some ⟨B, 0, none⟩), .pointer (some ⟨D, 0, none⟩), .pointer (some ⟨M, 0, none⟩)]), (45, .slice a_5 ((l ++ ([x1])).length) c_5), (46, .slice a'1 (((left.drop (i + 1)).filter (fun x => !(fun z_ => decide (dist z_ x1 ≤ 2 * (r : Int))) x)).length) c'1)] [As.one B_4 (.cells #[.int .i64 x1.col, .int .i64 x1.row] 30 (0, 0)), SlO eCell 30 a_5 c_5 (l ++ ([x1])), SlO eCell 30 a'1 c'1 ((left.drop (i + 1)).filter (fun x => !(fun z_ => decide (dist z_ x1 ≤ 2 * (r : Int))) x)), As.one B1 (.cells #[.int .i64 x1.col, .int .i64 x1.row] 30 (0, 0)), BoxGo eCell g 22 B a1 c1 bst] := by
          intro a'_2 c'_2 hf_2 B_4 a_5 c_5 oka_5
          subst hF
          refine .step (l := [7]) (by kernel_rfl) (by decide) ⟨.run rfl trivial ?_, trivial⟩
          · refine .rsub (.boxG (.pick 4 rfl (.pick 1 rfl (.pick 1 rfl (.refl _))))) (.cm (l := [BoxG eCell g 22 B bst, SlO eCell 30 a_5 c_5 (l ++ ([x1])), SlO eCell 30 a'1 c'1 ((left.drop (i + 1)).filter (fun x => !(fun z_ => decide (dist z_ x1 ≤ 2 * (r : Int))) x))]) (.call rfl rfl fn_58) rfl rfl (fun own ho hd => Ct.absorb (fun o ho2 hd2 => IH (n - 1) (by omega) _ (fun B x h => Hp.up h) _ _ _ _ _ _ _ (SlAt.in_own (X := { P := Tryz.prog, g := g, ro := none, n0 := 0, N := 0 }) 0 rfl ho2 hd2) (SlAt.in_own (X := { P := Tryz.prog, g := g, ro := none, n0 := 0, N := 0 }) 1 rfl ho2 hd2) (by assumption) (by assumption) hlen1 hlen2 hlen3 hsm2 (own_cap 0 rfl ho2))) ?_)
            rintro _ _ ⟨rfl, rfl⟩
            exact .weak (.one rfl (.one rfl (.one rfl (.one rfl (.one rfl (.one rfl (.one rfl (.one rfl (.nil))))))))) (.refl _) (s1_255 a'_2 c'_2 hf_2 B_4 a_5 c_5 oka_5)
        have s1_63 : ∀ (a'_2 : Option Addr) (c'_2 : Nat) (hf_2 : SlOk a'_2 c'_2) (B_4 : Nat) (a_5 : Option Addr) (c_5 : Nat) (oka_5 : SlOk a_5 c_5), F 2 #[true, true, true, true, true, true, false, false] [(0, .slice la l.length lc), (1, .slice fa left.length fc), (2, .pointer (some ⟨B, 0, none⟩)), (3, .pointer (some ⟨D, 0, none⟩)), (4, .pointer (some ⟨M, 0, none⟩)), (9, .slice a'1 (((left.drop (i + 1)).filter (fun x => !(fun z_ => decide (dist z_ x1 ≤ 2 * (r : Int))) x)).length) c'1), (16, .slice fa left.length fc), (17, .int .i64 (left.length : Int)), (18, .int .i64 (i : Int)), (40, .func (.func 58) #[] #[.pointer (some ⟨B, 0, none⟩), .pointer (some ⟨D, 0, none⟩), .pointer (some ⟨M, 0, none⟩)]), (45, .slice a_5 ((l ++ ([x1])).length) c_5)] [As.one B_4 (.cells #[.int .i64 x1.col, .int .i64 x1.row] 30 (0, 0)), SlO eCell 30 a_5 c_5 (l ++ ([x1])), SlO eCell 30 a'1 c'1 ((left.drop (i + 1)).filter (fun x => !(fun z_ => decide (dist z_ x1 ≤ 2 * (r : Int))) x)), As.one B1 (.cells #[.int .i64 x1.col, .int .i64 x1.row] 30 (0, 0)), BoxGo eCell g 22 B a1 c1 bst] := by
          intro a'_2 c'_2 hf_2 B_4 a_5 c_5 oka_5
          subst hF
          refine .step (l := [6]) (by kernel_rfl) (by decide) ⟨.run rfl trivial ?_, trivial⟩
          · refine .y (.move rfl) rfl rfl ?_
            exact .weak (.one rfl (.one rfl (.one rfl (.one rfl (.one rfl (.one rfl (.one rfl (.one rfl (.one rfl (.one rfl (.one rfl (.nil)))))))))))) (.refl _) (s1_127 a'_2 c'_2 hf_2 B_4 a_5 c_5 oka_5)
        have s1_95 : ∀ (a'_2 : Option Addr) (c'_2 : Nat) (hf_2 : SlOk a'_2 c'_2) (B_4 : Nat), F 2 #[true, true, true, true, true, false, true, false] [(0, .slice la l.length lc), (1, .slice fa left.length fc), (2, .pointer (some ⟨B, 0, none⟩)), (3, .pointer (some ⟨D, 0, none⟩)), (4, .pointer (some ⟨M, 0, none⟩)), (16, .slice fa left.length fc), (17, .int .i64 (left.length : Int)), (18, .int .i64 (i : Int)), (40, .func (.func 58) #[] #[.pointer (some ⟨B, 0, none⟩), .pointer (some ⟨D, 0, none⟩), .pointer (some ⟨M, 0, none⟩)]), (42, .slice a'_2 l.length c'_2), (44, .slice (some ⟨B_4, 0, none⟩) 1 1), (46, .slice a'1 (((left.drop (i + 1)).filter (fun x => !(fun z_ => decide (dist z_ x1 ≤ 2 * (r : Int))) x)).length) c'1)] [As.one B_4 (.cells #[.int .i64 x1.col, .int .i64 x1.row] 30 (0, 0)), SlO eCell 30 a'_2 c'_2 l, SlO eCell 30 a'1 c'1 ((left.drop (i + 1)).filter (fun x => !(fun z_ => decide (dist z_ x1 ≤ 2 * (r : Int))) x)), As.one B1 (.cells #[.int .i64 x1.col, .int .i64 x1.row] 30 (0, 0)), BoxGo eCell g 22 B a1 c1 bst] := by
          intro a'_2 c'_2 hf_2 B_4
          subst hF
          refine .step (l := [5]) (by kernel_rfl) (by decide) ⟨.run rfl trivial ?_, trivial⟩
          · refine .app (E := eCell) (ys := [x1]) 1 el_22 rfl rfl rfl rfl rfl (.of_cells (.own 0 rfl)) (fun h => by cases h) (by first | omega | (simp; omega) | (simp [*]; omega)) (by first | omega | (simp; omega) | (simp [*]; omega)) rfl fun a_5 c_5 oka_5 => ?_
            exact .weak (.one rfl (.one rfl (.one rfl (.one rfl (.one rfl (.one rfl (.one rfl (.one rfl (.one rfl (.one rfl (.one rfl (.nil)))))))))))) (.refl _) (s1_127 a'_2 c'_2 hf_2 B_4 a_5 c_5 oka_5)
        have s1_126 : ∀ (a'_2 : Option Addr) (c'_2 : Nat) (hf_2 : SlOk a'_2 c'_2) (B_4 : Nat) (a_5 : Option Addr) (c_5 : Nat) (oka_5 : SlOk a_5 c_5), F 2 #[false, true, true, true, true, true, true, false] [(0, .slice la l.length lc), (1, .slice fa left.length fc), (2, .pointer (some ⟨B, 0, none⟩)), (3, .pointer (some ⟨D, 0, none⟩)), (4, .pointer (some ⟨M, 0, none⟩)), (16, .slice fa left.length fc), (17, .int .i64 (left.length : Int)), (18, .int .i64 (i : Int)), (45, .slice a_5 ((l ++ ([x1])).length) c_5), (46, .slice a'1 (((left.drop (i + 1)).filter (fun x => !(fun z_ => decide (dist z_ x1 ≤ 2 * (r : Int))) x)).length) c'1)] [As.one B_4 (.cells #[.int .i64 x1.col, .int .i64 x1.row] 30 (0, 0)), SlO eCell 30 a_5 c_5 (l ++ ([x1])), SlO eCell 30 a'1 c'1 ((left.drop (i + 1)).filter (fun x => !(fun z_ => decide (dist z_ x1 ≤ 2 * (r : Int))) x)), As.one B1 (.cells #[.int .i64 x1.col, .int .i64 x1.row] 30 (0, 0)), BoxGo eCell g 22 B a1 c1 bst] := by
          intro a'_2 c'_2 hf_2 B_4 a_5 c_5 oka_5
          subst hF
          refine .step (l := [0]) (by kernel_rfl) (by decide) ⟨.run rfl trivial ?_, trivial⟩
          · refine .y (.load rfl (.g hM) ag_100 sz_100 rfl) rfl rfl ?_
            exact .weak (.one rfl (.one rfl (.one rfl (.one rfl (.one rfl (.one rfl (.one rfl (.one rfl (.one rfl (.one rfl (.one rfl (.nil)))))))))))) (.refl _) (s1_127 a'_2 c'_2 hf_2 B_4 a_5 c_5 oka_5)
        have s1_31 : ∀ (a'_2 : Option Addr) (c'_2 : Nat) (hf_2 : SlOk a'_2 c'_2) (B_4 : Nat), F 3 #[true, true, true, true, true, false, false, false] [(0, .slice la l.length lc), (1, .slice fa left.length fc), (2, .pointer (some ⟨B, 0, none⟩)), (3, .pointer (some ⟨D, 0, none⟩)), (4, .pointer (some ⟨M, 0, none⟩)), (9, .slice a'1 (((left.drop (i + 1)).filter (fun x => !(fun z_ => decide (dist z_ x1 ≤ 2 * (r : Int))) x)).length) c'1), (16, .slice fa left.length fc), (17, .int .i64 (left.length : Int)), (18, .int .i64 (i : Int)), (40, .func (.func 58) #[] #[.pointer (some ⟨B, 0, none⟩), .pointer (some ⟨D, 0, none⟩), .pointer (some ⟨M, 0, none⟩)]), (42, .slice a'_2 l.length c'_2), (44, .slice (some ⟨B_4, 0, none⟩) 1 1)] [As.one B_4 (.cells #[.int .i64 x1.col, .int .i64 x1.row] 30 (0, 0)), SlO eCell 30 a'_2 c'_2 l, SlO eCell 30 a'1 c'1 ((left.drop (i + 1)).filter (fun x => !(fun z_ => decide (dist z_ x1 ≤ 2 * (r : Int))) x)), As.one B1 (.cells #[.int .i64 x1.col, .int .i64 x1.row] 30 (0, 0)), BoxGo eCell g 22 B a1 c1 bst] := by
          intro a'_2 c'_2 hf_2 B_4
          subst hF
          refine .step (l := [5, 6]) (by kernel_rfl) (by decide) ⟨.run rfl trivial ?_, .run rfl trivial ?_, trivial⟩
          · refine .app (E := eCell) (ys := [x1]) 1 el_22 rfl rfl rfl rfl rfl (.of_cells (.own 0 rfl)) (fun h => by cases h) (by first | omega | (simp; omega) | (simp [*]; omega)) (by first | omega | (simp; omega) | (simp [*]; omega)) rfl fun a_5 c_5 oka_5 => ?_
            exact .weak (.one rfl (.one rfl (.one rfl (.one rfl (.one rfl (.one rfl (.one rfl (.one rfl (.one rfl (.one rfl (.one rfl (.nil)))))))))))) (.refl _) (s1_63 a'_2 c'_2 hf_2 B_4 a_5 c_5 oka_5)
          · refine .y (.move rfl) rfl rfl ?_
            exact .weak (.one rfl (.one rfl (.one rfl (.one rfl (.one rfl (.one rfl (.one rfl (.one rfl (.one rfl (.one rfl (.one rfl (.one rfl (.nil))))))))))))) (.refl _) (s1_95 a'_2 c'_2 hf_2 B_4)
        have s1_79 : ∀ (a'_2 : Option Addr) (c'_2 : Nat) (hf_2 : SlOk a'_2 c'_2), F 3 #[true, true, true, true, false, false, true, false] [(0, .slice la l.length lc), (1, .slice fa left.length fc), (2, .pointer (some ⟨B, 0, none⟩)), (3, .pointer (some ⟨D, 0, none⟩)), (4, .pointer (some ⟨M, 0, none⟩)), (16, .slice fa left.length fc), (17, .int .i64 (left.length : Int)), (18, .int .i64 (i : Int)), (40, .func (.func 58) #[] #[.pointer (some ⟨B, 0, none⟩), .pointer (some ⟨D, 0, none⟩), .pointer (some ⟨M, 0, none⟩)]), (42, .slice a'_2 l.length c'_2), (43, .agg #[.int .i64 x1.col, .int .i64 x1.row]), (46, .slice a'1 (((left.drop (i + 1)).filter (fun x => !(fun z_ => decide (dist z_ x1 ≤ 2 * (r : Int))) x)).length) c'1)] [SlO eCell 30 a'_2 c'_2 l, SlO eCell 30 a'1 c'1 ((left.drop (i + 1)).filter (fun x => !(fun z_ => decide (dist z_ x1 ≤ 2 * (r : Int))) x)), As.one B1 (.cells #[.int .i64 x1.col, .int .i64 x1.row] 30 (0, 0)), BoxGo eCell g 22 B a1 c1 bst] := by
          intro a'_2 c'_2 hf_2
          subst hF
          refine .step (l := [4]) (by kernel_rfl) (by decide) ⟨.run rfl trivial ?_, trivial⟩
          · refine .n (.lit #[.int .i64 0, .int .i64 0] lz_30_1 rfl sl_22 sz_30 zr_30 rfl rfl rfl) rfl rfl fun B_4 => ?_
            exact .weak (.one rfl (.one rfl (.one rfl (.one rfl (.one rfl (.one rfl (.one rfl (.one rfl (.one rfl (.one rfl (.one rfl (.one rfl (.nil))))))))))))) (.refl _) (s1_95 a'_2 c'_2 hf_2 B_4)
        have s1_91 : ∀ (B_4 : Nat), F 3 #[true, true, false, true, true, false, true, false] [(0, .slice la l.length lc), (1, .slice fa left.length fc), (2, .pointer (some ⟨B, 0, none⟩)), (3, .pointer (some ⟨D, 0, none⟩)), (4, .pointer (some ⟨M, 0, none⟩)), (16, .slice fa left.length fc), (17, .int .i64 (left.length : Int)), (18, .int .i64 (i : Int)), (40, .func (.func 58) #[] #[.pointer (some ⟨B, 0, none⟩), .pointer (some ⟨D, 0, none⟩), .pointer (some ⟨M, 0, none⟩)]), (41, .slice la l.length lc), (44, .slice (some ⟨B_4, 0, none⟩) 1 1), (46, .slice a'1 (((left.drop (i + 1)).filter (fun x => !(fun z_ => decide (dist z_ x1 ≤ 2 * (r : Int))) x)).length) c'1)] [As.one B_4 (.cells #[.int .i64 x1.col, .int .i64 x1.row] 30 (0, 0)), SlO eCell 30 a'1 c'1 ((left.drop (i + 1)).filter (fun x => !(fun z_ => decide (dist z_ x1 ≤ 2 * (r : Int))) x)), As.one B1 (.cells #[.int .i64 x1.col, .int .i64 x1.row] 30 (0, 0)), BoxGo eCell g 22 B a1 c1 bst] := by
          intro B_4
          subst hF
          refine .step (l := [2]) (by kernel_rfl) (by decide) ⟨.run rfl trivial ?_, trivial⟩
          · refine .c (.call rfl rfl fn_60) rfl rfl (fun own ho hd => cloneeCell_ct _ (xs := l) (SlR.up hl) (by first | assumption | exact .nil | exact .some | exact .drop (by assumption)) (by first | omega | (simp; omega) | (simp [*]; omega))) ?_
            rintro _ _ ⟨a'_2, c'_2, rfl, rfl, hf_2⟩
            exact .weak (.one rfl (.one rfl (.one rfl (.one rfl (.one rfl (.one rfl (.one rfl (.one rfl (.one rfl (.one rfl (.one rfl (.one rfl (.nil))))))))))))) (.pick 1 rfl (.refl _)) (s1_95 a'_2 c'_2 hf_2 B_4)
        have s1_62 : ∀ (a'_2 : Option Addr) (c'_2 : Nat) (hf_2 : SlOk a'_2 c'_2) (B_4 : Nat) (a_5 : Option Addr) (c_5 : Nat) (oka_5 : SlOk a_5 c_5), F 3 #[false, true, true, true, true, true, false, false] [(0, .slice la l.length lc), (1, .slice fa left.length fc), (2, .pointer (some ⟨B, 0, none⟩)), (3, .pointer (some ⟨D, 0, none⟩)), (4, .pointer (some ⟨M, 0, none⟩)), (9, .slice a'1 (((left.drop (i + 1)).filter (fun x => !(fun z_ => decide (dist z_ x1 ≤ 2 * (r : Int))) x)).length) c'1), (16, .slice fa left.length fc), (17, .int .i64 (left.length : Int)), (18, .int .i64 (i : Int)), (45, .slice a_5 ((l ++ ([x1])).length) c_5)] [As.one B_4 (.cells #[.int .i64 x1.col, .int .i64 x1.row] 30 (0, 0)), SlO eCell 30 a_5 c_5 (l ++ ([x1])), SlO eCell 30 a'1 c'1 ((left.drop (i + 1)).filter (fun x => !(fun z_ => decide (dist z_ x1 ≤ 2 * (r : Int))) x)), As.one B1 (.cells #[.int .i64 x1.col, .int .i64 x1.row] 30 (0, 0)), BoxGo eCell g 22 B a1 c1 bst] := by
          intro a'_2 c'_2 hf_2 B_4 a_5 c_5 oka_5
          subst hF
          refine .step (l := [0, 6]) (by kernel_rfl) (by decide) ⟨.run rfl trivial ?_, .run rfl trivial ?_, trivial⟩
          · refine .y (.load rfl (.g hM) ag_100 sz_100 rfl) rfl rfl ?_
            exact .weak (.one rfl (.one rfl (.one rfl (.one rfl (.one rfl (.one rfl (.one rfl (.one rfl (.one rfl (.one rfl (.one rfl (.nil)))))))))))) (.refl _) (s1_63 a'_2 c'_2 hf_2 B_4 a_5 c_5 oka_5)
          · refine .y (.move rfl) rfl rfl ?_
            exact .weak (.one rfl (.one rfl (.one rfl (.one rfl (.one rfl (.one rfl (.one rfl (.one rfl (.one rfl (.one rfl (.nil))))))))))) (.refl _) (s1_126 a'_2 c'_2 hf_2 B_4 a_5 c_5 oka_5)
        have s1_94 : ∀ (a'_2 : Option Addr) (c'_2 : Nat) (hf_2 : SlOk a'_2 c'_2) (B_4 : Nat), F 3 #[false, true, true, true, true, false, true, false] [(0, .slice la l.length lc), (1, .slice fa left.length fc), (2, .pointer (some ⟨B, 0, none⟩)), (3, .pointer (some ⟨D, 0, none⟩)), (4, .pointer (some ⟨M, 0, none⟩)), (16, .slice fa left.length fc), (17, .int .i64 (left.length : Int)), (18, .int .i64 (i : Int)), (42, .slice a'_2 l.length c'_2), (44, .slice (some ⟨B_4, 0, none⟩) 1 1), (46, .slice a'1 (((left.drop (i + 1)).filter (fun x => !(fun z_ => decide (dist z_ x1 ≤ 2 * (r : Int))) x)).length) c'1)] [As.one B_4 (.cells #[.int .i64 x1.col, .int .i64 x1.row] 30 (0, 0)), SlO eCell 30 a'_2 c'_2 l, SlO eCell 30 a'1 c'1 ((left.drop (i + 1)).filter (fun x => !(fun z_ => decide (dist z_ x1 ≤ 2 * (r : Int))) x)), As.one B1 (.cells #[.int .i64 x1.col, .int .i64 x1.row] 30 (0, 0)), BoxGo eCell g 22 B a1 c1 bst] := by
          intro a'_2 c'_2 hf_2 B_4
          subst hF
          refine .step (l := [0, 5]) (by kernel_rfl) (by decide) ⟨.run rfl trivial ?_, .run rfl trivial ?_, trivial⟩
          · refine .y (.load rfl (.g hM) ag_100 sz_100 rfl) rfl rfl ?_
            exact .weak (.one rfl (.one rfl (.one rfl (.one rfl (.one rfl (.one rfl (.one rfl (.one rfl (.one rfl (.one rfl (.one rfl (.one rfl (.nil))))))))))))) (.refl _) (s1_95 a'_2 c'_2 hf_2 B_4)
          · refine .app (E := eCell) (ys := [x1]) 1 el_22 rfl rfl rfl rfl rfl (.of_cells (.own 0 rfl)) (fun h => by cases h) (by first | omega | (simp; omega) | (simp [*]; omega)) (by first | omega | (simp; omega) | (simp [*]; omega)) rfl fun a_5 c_5 oka_5 => ?_
            exact .weak (.one rfl (.one rfl (.one rfl (.one rfl (.one rfl (.one rfl (.one rfl (.one rfl (.one rfl (.one rfl (.nil))))))))))) (.refl _) (s1_126 a'_2 c'_2 hf_2 B_4 a_5 c_5 oka_5)
        have s1_15 : ∀ (a'_2 : Option Addr) (c'_2 : Nat) (hf_2 : SlOk a'_2 c'_2), F 4 #[true, true, true, true, false, false, false, false] [(0, .slice la l.length lc), (1, .slice fa left.length fc), (2, .pointer (some ⟨B, 0, none⟩)), (3, .pointer (some ⟨D, 0, none⟩)), (4, .pointer (some ⟨M, 0, none⟩)), (9, .slice a'1 (((left.drop (i + 1)).filter (fun x => !(fun z_ => decide (dist z_ x1 ≤ 2 * (r : Int))) x)).length) c'1), (16, .slice fa left.length fc), (17, .int .i64 (left.length : Int)), (18, .int .i64 (i : Int)), (40, .func (.func 58) #[] #[.pointer (some ⟨B, 0, none⟩), .pointer (some ⟨D, 0, none⟩), .pointer (some ⟨M, 0, none⟩)]), (42, .slice a'_2 l.length c'_2), (43, .agg #[.int .i64 x1.col, .int .i64 x1.row])] [SlO eCell 30 a'_2 c'_2 l, SlO eCell 30 a'1 c'1 ((left.drop (i + 1)).filter (fun x => !(fun z_ => decide (dist z_ x1 ≤ 2 * (r : Int))) x)), As.one B1 (.cells #[.int .i64 x1.col, .int .i64 x1.row] 30 (0, 0)), BoxGo eCell g 22 B a1 c1 bst] := by
          intro a'_2 c'_2 hf_2
          subst hF
          refine .step (l := [4, 6]) (by kernel_rfl) (by decide) ⟨.run rfl trivial ?_, .run rfl trivial ?_, trivial⟩
          · refine .n (.lit #[.int .i64 0, .int .i64 0] lz_30_1 rfl sl_22 sz_30 zr_30 rfl rfl rfl) rfl rfl fun B_4 => ?_
            exact .weak (.one rfl (.one rfl (.one rfl (.one rfl (.one rfl (.one rfl (.one rfl (.one rfl (.one rfl (.one rfl (.one rfl (.one rfl (.nil))))))))))))) (.refl _) (s1_31 a'_2 c'_2 hf_2 B_4)
          · refine .y (.move rfl) rfl rfl ?_
            exact .weak (.one rfl (.one rfl (.one rfl (.one rfl (.one rfl (.one rfl (.one rfl (.one rfl (.one rfl (.one rfl (.one rfl (.one rfl (.nil))))))))))))) (.refl _) (s1_79 a'_2 c'_2 hf_2)
        have s1_71 : ∀ (a'_2 : Option Addr) (c'_2 : Nat) (hf_2 : SlOk a'_2 c'_2), F 4 #[true, true, true, false, false, false, true, false] [(0, .slice la l.length lc), (1, .slice fa left.length fc), (2, .pointer (some ⟨B, 0, none⟩)), (3, .pointer (some ⟨D, 0, none⟩)), (4, .pointer (some ⟨M, 0, none⟩)), (8, .pointer (some ⟨B1, 0, none⟩)), (16, .slice fa left.length fc), (17, .int .i64 (left.length : Int)), (18, .int .i64 (i : Int)), (40, .func (.func 58) #[] #[.pointer (some ⟨B, 0, none⟩), .pointer (some ⟨D, 0, none⟩), .pointer (some ⟨M, 0, none⟩)]), (42, .slice a'_2 l.length c'_2), (46, .slice a'1 (((left.drop (i + 1)).filter (fun x => !(fun z_ => decide (dist z_ x1 ≤ 2 * (r : Int))) x)).length) c'1)] [SlO eCell 30 a'_2 c'_2 l, SlO eCell 30 a'1 c'1 ((left.drop (i + 1)).filter (fun x => !(fun z_ => decide (dist z_ x1 ≤ 2 * (r : Int))) x)), As.one B1 (.cells #[.int .i64 x1.col, .int .i64 x1.row] 30 (0, 0)), BoxGo eCell g 22 B a1 c1 bst] := by
          intro a'_2 c'_2 hf_2
          subst hF
          refine .step (l := [3]) (by kernel_rfl) (by decide) ⟨.run rfl trivial ?_, trivial⟩
          · refine .y (.load rfl (.own 2 rfl) ag_30 sz_30 rfl) rfl rfl ?_
            exact .weak (.one rfl (.one rfl (.one rfl (.one rfl (.one rfl (.one rfl (.one rfl (.one rfl (.one rfl (.one rfl (.one rfl (.one rfl (.nil))))))))))))) (.refl _) (s1_79 a'_2 c'_2 hf_2)
        have s1_27 : ∀ (B_4 : Nat), F 4 #[true, true, false, true, true, false, false, false] [(0, .slice la l.length lc), (1, .slice fa left.length fc), (2, .pointer (some ⟨B, 0, none⟩)), (3, .pointer (some ⟨D, 0, none⟩)), (4, .pointer (some ⟨M, 0, none⟩)), (9, .slice a'1 (((left.drop (i + 1)).filter (fun x => !(fun z_ => decide (dist z_ x1 ≤ 2 * (r : Int))) x)).length) c'1), (16, .slice fa left.length fc), (17, .int .i64 (left.length : Int)), (18, .int .i64 (i : Int)), (40, .func (.func 58) #[] #[.pointer (some ⟨B, 0, none⟩), .pointer (some ⟨D, 0, none⟩), .pointer (some ⟨M, 0, none⟩)]), (41, .slice la l.length lc), (44, .slice (some ⟨B_4, 0, none⟩) 1 1)] [As.one B_4 (.cells #[.int .i64 x1.col, .int .i64 x1.row] 30 (0, 0)), SlO eCell 30 a'1 c'1 ((left.drop (i + 1)).filter (fun x => !(fun z_ => decide (dist z_ x1 ≤ 2 * (r : Int))) x)), As.one B1 (.cells #[.int .i64 x1.col, .int .i64 x1.row] 30 (0, 0)), BoxGo eCell g 22 B a1 c1 bst] := by
          intro B_4
          subst hF
          refine .step (l := [2, 6]) (by kernel_rfl) (by decide) ⟨.run rfl trivial ?_, .run rfl trivial ?_, trivial⟩
          · refine .c (.call rfl rfl fn_60) rfl rfl (fun own ho hd => cloneeCell_ct _ (xs := l) (SlR.up hl) (by first | assumption | exact .nil | exact .some | exact .drop (by assumption)) (by first | omega | (simp; omega) | (simp [*]; omega))) ?_
            rintro _ _ ⟨a'_2, c'_2, rfl, rfl, hf_2⟩
            exact .weak (.one rfl (.one rfl (.one rfl (.one rfl (.one rfl (.one rfl (.one rfl (.one rfl (.one rfl (.one rfl (.one rfl (.one rfl (.nil))))))))))))) (.pick 1 rfl (.refl _)) (s1_31 a'_2 c'_2 hf_2 B_4)
          · refine .y (.move rfl) rfl rfl ?_
            exact .weak (.one rfl (.one rfl (.one rfl (.one rfl (.one rfl (.one rfl (.one rfl (.one rfl (.one rfl (.one rfl (.one rfl (.one rfl (.nil))))))))))))) (.refl _) (s1_91 B_4)
        have s1_75 : F 4 #[true, true, false, true, false, false, true, false] [(0, .slice la l.length lc), (1, .slice fa left.length fc), (2, .pointer (some ⟨B, 0, none⟩)), (3, .pointer (some ⟨D, 0, none⟩)), (4, .pointer (some ⟨M, 0, none⟩)), (16, .slice fa left.length fc), (17, .int .i64 (left.length : Int)), (18, .int .i64 (i : Int)), (40, .func (.func 58) #[] #[.pointer (some ⟨B, 0, none⟩), .pointer (some ⟨D, 0, none⟩), .pointer (some ⟨M, 0, none⟩)]), (41, .slice la l.length lc), (43, .agg #[.int .i64 x1.col, .int .i64 x1.row]), (46, .slice a'1 (((left.drop (i + 1)).filter (fun x => !(fun z_ => decide (dist z_ x1 ≤ 2 * (r : Int))) x)).length) c'1)] [SlO eCell 30 a'1 c'1 ((left.drop (i + 1)).filter (fun x => !(fun z_ => decide (dist z_ x1 ≤ 2 * (r : Int))) x)), As.one B1 (.cells #[.int .i64 x1.col, .int .i64 x1.row] 30 (0, 0)), BoxGo eCell g 22 B a1 c1 bst] := by
          subst hF
          refine .step (l := [2, 4]) (by kernel_rfl) (by decide) ⟨.run rfl trivial ?_, .run rfl trivial ?_, trivial⟩
          · refine .c (.call rfl rfl fn_60) rfl rfl (fun own ho hd => cloneeCell_ct _ (xs := l) (SlR.up hl) (by first | assumption | exact .nil | exact .some | exact .drop (by assumption)) (by first | omega | (simp; omega) | (simp [*]; omega))) ?_
            rintro _ _ ⟨a'_2, c'_2, rfl, rfl, hf_2⟩
            exact .weak (.one rfl (.one rfl (.one rfl (.one rfl (.one rfl (.one rfl (.one rfl (.one rfl (.one rfl (.one rfl (.one rfl (.one rfl (.nil))))))))))))) (.refl _) (s1_79 a'_2 c'_2 hf_2)
          · refine .n (.lit #[.int .i64 0, .int .i64 0] lz_30_1 rfl sl_22 sz_30 zr_30 rfl rfl rfl) rfl rfl fun B_4 => ?_
            exact .weak (.one rfl (.one rfl (.one rfl (.one rfl (.one rfl (.one rfl (.one rfl (.one rfl (.one rfl (.one rfl (.one rfl (.one rfl (.nil))))))))))))) (.refl _) (s1_91 B_4)
        have s1_89 : ∀ (B_4 : Nat), F 4 #[true, false, false, true, true, false, true, false] [(0, .slice la l.length lc), (1, .slice fa left.length fc), (2, .pointer (some ⟨B, 0, none⟩)), (3, .pointer (some ⟨D, 0, none⟩)), (4, .pointer (some ⟨M, 0, none⟩)), (16, .slice fa left.length fc), (17, .int .i64 (left.length : Int)), (18, .int .i64 (i : Int)), (40, .func (.func 58) #[] #[.pointer (some ⟨B, 0, none⟩), .pointer (some ⟨D, 0, none⟩), .pointer (some ⟨M, 0, none⟩)]), (44, .slice (some ⟨B_4, 0, none⟩) 1 1), (46, .slice a'1 (((left.drop (i + 1)).filter (fun x => !(fun z_ => decide (dist z_ x1 ≤ 2 * (r : Int))) x)).length) c'1)] [As.one B_4 (.cells #[.int .i64 x1.col, .int .i64 x1.row] 30 (0, 0)), SlO eCell 30 a'1 c'1 ((left.drop (i + 1)).filter (fun x => !(fun z_ => decide (dist z_ x1 ≤ 2 * (r : Int))) x)), As.one B1 (.cells #[.int .i64 x1.col, .int .i64 x1.row] 30 (0, 0)), BoxGo eCell g 22 B a1 c1 bst] := by
          intro B_4
          subst hF
          refine .step (l := [1]) (by kernel_rfl) (by decide) ⟨.run rfl trivial ?_, trivial⟩
          · refine .y (.move rfl) rfl rfl ?_
            exact .weak (.one rfl (.one rfl (.one rfl (.one rfl (.one rfl (.one rfl (.one rfl (.one rfl (.one rfl (.one rfl (.one rfl (.one rfl (.nil))))))))))))) (.refl _) (s1_91 B_4)
        have s1_30 : ∀ (a'_2 : Option Addr) (c'_2 : Nat) (hf_2 : SlOk a'_2 c'_2) (B_4 : Nat), F 4 #[false, true, true, true, true, false, false, false] [(0, .slice la l.length lc), (1, .slice fa left.length fc), (2, .pointer (some ⟨B, 0, none⟩)), (3, .pointer (some ⟨D, 0, none⟩)), (4, .pointer (some ⟨M, 0, none⟩)), (9, .slice a'1 (((left.drop (i + 1)).filter (fun x => !(fun z_ => decide (dist z_ x1 ≤ 2 * (r : Int))) x)).length) c'1), (16, .slice fa left.length fc), (17, .int .i64 (left.length : Int)), (18, .int .i64 (i : Int)), (42, .slice a'_2 l.length c'_2), (44, .slice (some ⟨B_4, 0, none⟩) 1 1)] [As.one B_4 (.cells #[.int .i64 x1.col, .int .i64 x1.row] 30 (0, 0)), SlO eCell 30 a'_2 c'_2 l, SlO eCell 30 a'1 c'1 ((left.drop (i + 1)).filter (fun x => !(fun z_ => decide (dist z_ x1 ≤ 2 * (r : Int))) x)), As.one B1 (.cells #[.int .i64 x1.col, .int .i64 x1.row] 30 (0, 0)), BoxGo eCell g 22 B a1 c1 bst] := by
          intro a'_2 c'_2 hf_2 B_4
          subst hF
          refine .step (l := [0, 5, 6]) (by kernel_rfl) (by decide) ⟨.run rfl trivial ?_, .run rfl trivial ?_, .run rfl trivial ?_, trivial⟩
          · refine .y (.load rfl (.g hM) ag_100 sz_100 rfl) rfl rfl ?_
            exact .weak (.one rfl (.one rfl (.one rfl (.one rfl (.one rfl (.one rfl (.one rfl (.one rfl (.one rfl (.one rfl (.one rfl (.one rfl (.nil))))))))))))) (.refl _) (s1_31 a'_2 c'_2 hf_2 B_4)
          · refine .app (E := eCell) (ys := [x1]) 1 el_22 rfl rfl rfl rfl rfl (.of_cells (.own 0 rfl)) (fun h => by cases h) (by first | omega | (simp; omega) | (simp [*]; omega)) (by first | omega | (simp; omega) | (simp [*]; omega)) rfl fun a_5 c_5 oka_5 => ?_
            exact .weak (.one rfl (.one rfl (.one rfl (.one rfl (.one rfl (.one rfl (.one rfl (.one rfl (.one rfl (.one rfl (.nil))))))))))) (.refl _) (s1_62 a'_2 c'_2 hf_2 B_4 a_5 c_5 oka_5)
          · refine .y (.move rfl) rfl rfl ?_
            exact .weak (.one rfl (.one rfl (.one rfl (.one rfl (.one rfl (.one rfl (.one rfl (.one rfl (.one rfl (.one rfl (.one rfl (.nil)))))))))))) (.refl _) (s1_94 a'_2 c'_2 hf_2 B_4)
        have s1_78 : ∀ (a'_2 : Option Addr) (c'_2 : Nat) (hf_2 : SlOk a'_2 c'_2), F 4 #[false, true, true, true, false, false, true, false] [(0, .slice la l.length lc), (1, .slice fa left.length fc), (2, .pointer (some ⟨B, 0, none⟩)), (3, .pointer (some ⟨D, 0, none⟩)), (4, .pointer (some ⟨M, 0, none⟩)), (16, .slice fa left.length fc), (17, .int .i64 (left.length : Int)), (18, .int .i64 (i : Int)), (42, .slice a'_2 l.length c'_2), (43, .agg #[.int .i64 x1.col, .int .i64 x1.row]), (46, .slice a'1 (((left.drop (i + 1)).filter (fun x => !(fun z_ => decide (dist z_ x1 ≤ 2 * (r : Int))) x)).length) c'1)] [SlO eCell 30 a'_2 c'_2 l, SlO eCell 30 a'1 c'1 ((left.drop (i + 1)).filter (fun x => !(fun z_ => decide (dist z_ x1 ≤ 2 * (r : Int))) x)), As.one B1 (.cells #[.int .i64 x1.col, .int .i64 x1.row] 30 (0, 0)), BoxGo eCell g 22 B a1 c1 bst] := by
          intro a'_2 c'_2 hf_2
          subst hF
          refine .step (l := [0, 4]) (by kernel_rfl) (by decide) ⟨.run rfl trivial ?_, .run rfl trivial ?_, trivial⟩
          · refine .y (.load rfl (.g hM) ag_100 sz_100 rfl) rfl rfl ?_
            exact .weak (.one rfl (.one rfl (.one rfl (.one rfl (.one rfl (.one rfl (.one rfl (.one rfl (.one rfl (.one rfl (.one rfl (.one rfl (.nil))))))))))))) (.refl _) (s1_79 a'_2 c'_2 hf_2)
          · refine .n (.lit #[.int .i64 0, .int .i64 0] lz_30_1 rfl sl_22 sz_30 zr_30 rfl rfl rfl) rfl rfl fun B_4 => ?_
            exact .weak (.one rfl (.one rfl (.one rfl (.one rfl (.one rfl (.one rfl (.one rfl (.one rfl (.one rfl (.one rfl (.one rfl (.nil)))))))))))) (.refl _) (s1_94 a'_2 c'_2 hf_2 B_4)
        have s1_90 : ∀ (B_4 : Nat), F 4 #[false, true, false, true, true, false, true, false] [(0, .slice la l.length lc), (1, .slice fa left.length fc), (2, .pointer (some ⟨B, 0, none⟩)), (3, .pointer (some ⟨D, 0, none⟩)), (4, .pointer (some ⟨M, 0, none⟩)), (16, .slice fa left.length fc), (17, .int .i64 (left.length : Int)), (18, .int .i64 (i : Int)), (41, .slice la l.length lc), (44, .slice (some ⟨B_4, 0, none⟩) 1 1), (46, .slice a'1 (((left.drop (i + 1)).filter (fun x => !(fun z_ => decide (dist z_ x1 ≤ 2 * (r : Int))) x)).length) c'1)] [As.one B_4 (.cells #[.int .i64 x1.col, .int .i64 x1.row] 30 (0, 0)), SlO eCell 30 a'1 c'1 ((left.drop (i + 1)).filter (fun x => !(fun z_ => decide (dist z_ x1 ≤ 2 * (r : Int))) x)), As.one B1 (.cells #[.int .i64 x1.col, .int .i64 x1.row] 30 (0, 0)), BoxGo eCell g 22 B a1 c1 bst] := by
          intro B_4
          subst hF
          refine .step (l := [0, 2]) (by kernel_rfl) (by decide) ⟨.run rfl trivial ?_, .run rfl trivial ?_, trivial⟩
          · refine .y (.load rfl (.g hM) ag_100 sz_100 rfl) rfl rfl ?_
            exact .weak (.one rfl (.one rfl (.one rfl (.one rfl (.one rfl (.one rfl (.one rfl (.one rfl (.one rfl (.one rfl (.one rfl (.one rfl (.nil))))))))))))) (.refl _) (s1_91 B_4)
          · refine .c (.call rfl rfl fn_60) rfl rfl (fun own ho hd => cloneeCell_ct _ (xs := l) (SlR.up hl) (by first | assumption | exact .nil | exact .some | exact .drop (by assumption)) (by first | omega | (simp; omega) | (simp [*]; omega))) ?_
            rintro _ _ ⟨a'_2, c'_2, rfl, rfl, hf_2⟩
            exact .weak (.one rfl (.one rfl (.one rfl (.one rfl (.one rfl (.one rfl (.one rfl (.one rfl (.one rfl (.one rfl (.one rfl (.nil)))))))))))) (.pick 1 rfl (.refl _)) (s1_94 a'_2 c'_2 hf_2 B_4)
        have s1_7 : ∀ (a'_2 : Option Addr) (c'_2 : Nat) (hf_2 : SlOk a'_2 c'_2), F 5 #[true, true, true, false, false, false, false, false] [(0, .slice la l.length lc), (1, .slice fa left.length fc), (2, .pointer (some ⟨B, 0, none⟩)), (3, .pointer (some ⟨D, 0, none⟩)), (4, .pointer (some ⟨M, 0, none⟩)), (8, .pointer (some ⟨B1, 0, none⟩)), (9, .slice a'1 (((left.drop (i + 1)).filter (fun x => !(fun z_ => decide (dist z_ x1 ≤ 2 * (r : Int))) x)).length) c'1), (16, .slice fa left.length fc), (17, .int .i64 (left.length : Int)), (18, .int .i64 (i : Int)), (40, .func (.func 58) #[] #[.pointer (some ⟨B, 0, none⟩), .pointer (some ⟨D, 0, none⟩), .pointer (some ⟨M, 0, none⟩)]), (42, .slice a'_2 l.length c'_2)] [SlO eCell 30 a'_2 c'_2 l, SlO eCell 30 a'1 c'1 ((left.drop (i + 1)).filter (fun x => !(fun z_ => decide (dist z_ x1 ≤ 2 * (r : Int))) x)), As.one B1 (.cells #[.int .i64 x1.col, .int .i64 x1.row] 30 (0, 0)), BoxGo eCell g 22 B a1 c1 bst] := by
          intro a'_2 c'_2 hf_2
          subst hF
          refine .step (l := [3, 6]) (by kernel_rfl) (by decide) ⟨.run rfl trivial ?_, .run rfl trivial ?_, trivial⟩
          · refine .y (.load rfl (.own 2 rfl) ag_30 sz_30 rfl) rfl rfl ?_
            exact .weak (.one rfl (.one rfl (.one rfl (.one rfl (.one rfl (.one rfl (.one rfl (.one rfl (.one rfl (.one rfl (.one rfl (.one rfl (.nil))))))))))))) (.refl _) (s1_15 a'_2 c'_2 hf_2)
          · refine .y (.move rfl) rfl rfl ?_
            exact .weak (.one rfl (.one rfl (.one rfl (.one rfl (.one rfl (.one rfl (.one rfl (.one rfl (.one rfl (.one rfl (.one rfl (.one rfl (.nil))))))))))))) (.refl _) (s1_71 a'_2 c'_2 hf_2)
        have s1_11 : F 5 #[true, true, false, true, false, false, false, false] [(0, .slice la l.length lc), (1, .slice fa left.length fc), (2, .pointer (some ⟨B, 0, none⟩)), (3, .pointer (some ⟨D, 0, none⟩)), (4, .pointer (some ⟨M, 0, none⟩)), (9, .slice a'1 (((left.drop (i + 1)).filter (fun x => !(fun z_ => decide (dist z_ x1 ≤ 2 * (r : Int))) x)).length) c'1), (16, .slice fa left.length fc), (17, .int .i64 (left.length : Int)), (18, .int .i64 (i : Int)), (40, .func (.func 58) #[] #[.pointer (some ⟨B, 0, none⟩), .pointer (some ⟨D, 0, none⟩), .pointer (some ⟨M, 0, none⟩)]), (41, .slice la l.length lc), (43, .agg #[.int .i64 x1.col, .int .i64 x1.row])] [SlO eCell 30 a'1 c'1 ((left.drop (i + 1)).filter (fun x => !(fun z_ => decide (dist z_ x1 ≤ 2 * (r : Int))) x)), As.one B1 (.cells #[.int .i64 x1.col, .int .i64 x1.row] 30 (0, 0)), BoxGo eCell g 22 B a1 c1 bst] := by
          subst hF
          refine .step (l := [2, 4, 6]) (by kernel_rfl) (by decide) ⟨.run rfl trivial ?_, .run rfl trivial ?_, .run rfl trivial ?_, trivial⟩
          · refine .c (.call rfl rfl fn_60) rfl rfl (fun own ho hd => cloneeCell_ct _ (xs := l) (SlR.up hl) (by first | assumption | exact .nil | exact .some | exact .drop (by assumption)) (by first | omega | (simp; omega) | (simp [*]; omega))) ?_
            rintro _ _ ⟨a'_2, c'_2, rfl, rfl, hf_2⟩
            exact .weak (.one rfl (.one rfl (.one rfl (.one rfl (.one rfl (.one rfl (.one rfl (.one rfl (.one rfl (.one rfl (.one rfl (.one rfl (.nil))))))))))))) (.refl _) (s1_15 a'_2 c'_2 hf_2)
          · refine .n (.lit #[.int .i64 0, .int .i64 0] lz_30_1 rfl sl_22 sz_30 zr_30 rfl rfl rfl) rfl rfl fun B_4 => ?_
            exact .weak (.one rfl (.one rfl (.one rfl (.one rfl (.one rfl (.one rfl (.one rfl (.one rfl (.one rfl (.one rfl (.one rfl (.one rfl (.nil))))))))))))) (.refl _) (s1_27 B_4)
          · refine .y (.move rfl) rfl rfl ?_
            exact .weak (.one rfl (.one rfl (.one rfl (.one rfl (.one rfl (.one rfl (.one rfl (.one rfl (.one rfl (.one rfl (.one rfl (.one rfl (.nil))))))))))))) (.refl _) (s1_75)
        have s1_67 : F 5 #[true, true, false, false, false, false, true, false] [(0, .slice la l.length lc), (1, .slice fa left.length fc), (2, .pointer (some ⟨B, 0, none⟩)), (3, .pointer (some ⟨D, 0, none⟩)), (4, .pointer (some ⟨M, 0, none⟩)), (8, .pointer (some ⟨B1, 0, none⟩)), (16, .slice fa left.length fc), (17, .int .i64 (left.length : Int)), (18, .int .i64 (i : Int)), (40, .func (.func 58) #[] #[.pointer (some ⟨B, 0, none⟩), .pointer (some ⟨D, 0, none⟩), .pointer (some ⟨M, 0, none⟩)]), (41, .slice la l.length lc), (46, .slice a'1 (((left.drop (i + 1)).filter (fun x => !(fun z_ => decide (dist z_ x1 ≤ 2 * (r : Int))) x)).length) c'1)] [SlO eCell 30 a'1 c'1 ((left.drop (i + 1)).filter (fun x => !(fun z_ => decide (dist z_ x1 ≤ 2 * (r : Int))) x)), As.one B1 (.cells #[.int .i64 x1.col, .int .i64 x1.row] 30 (0, 0)), BoxGo eCell g 22 B a1 c1 bst] := by
          subst hF
          refine .step (l := [2, 3]) (by kernel_rfl) (by decide) ⟨.run rfl trivial ?_, .run rfl trivial ?_, trivial⟩
          · refine .c (.call rfl rfl fn_60) rfl rfl (fun own ho hd => cloneeCell_ct _ (xs := l) (SlR.up hl) (by first | assumption | exact .nil | exact .some | exact .drop (by assumption)) (by first | omega | (simp; omega) | (simp [*]; omega))) ?_
            rintro _ _ ⟨a'_2, c'_2, rfl, rfl, hf_2⟩
            exact .weak (.one rfl (.one rfl (.one rfl (.one rfl (.one rfl (.one rfl (.one rfl (.one rfl (.one rfl (.one rfl (.one rfl (.one rfl (.nil))))))))))))) (.refl _) (s1_71 a'_2 c'_2 hf_2)
          · refine .y (.load rfl (.own 1 rfl) ag_30 sz_30 rfl) rfl rfl ?_
            exact .weak (.one rfl (.one rfl (.one rfl (.one rfl (.one rfl (.one rfl (.one rfl (.one rfl (.one rfl (.one rfl (.one rfl (.one rfl (.nil))))))))))))) (.refl _) (s1_75)
        have s1_25 : ∀ (B_4 : Nat), F 5 #[true, false, false, true, true, false, false, false] [(0, .slice la l.length lc), (1, .slice fa left.length fc), (2, .pointer (some ⟨B, 0, none⟩)), (3, .pointer (some ⟨D, 0, none⟩)), (4, .pointer (some ⟨M, 0, none⟩)), (9, .slice a'1 (((left.drop (i + 1)).filter (fun x => !(fun z_ => decide (dist z_ x1 ≤ 2 * (r : Int))) x)).length) c'1), (16, .slice fa left.length fc), (17, .int .i64 (left.length : Int)), (18, .int .i64 (i : Int)), (40, .func (.func 58) #[] #[.pointer (some ⟨B, 0, none⟩), .pointer (some ⟨D, 0, none⟩), .pointer (some ⟨M, 0, none⟩)]), (44, .slice (some ⟨B_4, 0, none⟩) 1 1)] [As.one B_4 (.cells #[.int .i64 x1.col, .int .i64 x1.row] 30 (0, 0)), SlO eCell 30 a'1 c'1 ((left.drop (i + 1)).filter (fun x => !(fun z_ => decide (dist z_ x1 ≤ 2 * (r : Int))) x)), As.one B1 (.cells #[.int .i64 x1.col, .int .i64 x1.row] 30 (0, 0)), BoxGo eCell g 22 B a1 c1 bst] := by
          intro B_4
          subst hF
          refine .step (l := [1, 6]) (by kernel_rfl) (by decide) ⟨.run rfl trivial ?_, .run rfl trivial ?_, trivial⟩
          · refine .y (.move rfl) rfl rfl ?_
            exact .weak (.one rfl (.one rfl (.one rfl (.one rfl (.one rfl (.one rfl (.one rfl (.one rfl (.one rfl (.one rfl (.one rfl (.one rfl (.nil))))))))))))) (.refl _) (s1_27 B_4)
          · refine .y (.move rfl) rfl rfl ?_
            exact .weak (.one rfl (.one rfl (.one rfl (.one rfl (.one rfl (.one rfl (.one rfl (.one rfl (.one rfl (.one rfl (.one rfl (.nil)))))))))))) (.refl _) (s1_89 B_4)
        have s1_73 : F 5 #[true, false, false, true, false, false, true, false] [(0, .slice la l.length lc), (1, .slice fa left.length fc), (2, .pointer (some ⟨B, 0, none⟩)), (3, .pointer (some ⟨D, 0, none⟩)), (4, .pointer (some ⟨M, 0, none⟩)), (16, .slice fa left.length fc), (17, .int .i64 (left.length : Int)), (18, .int .i64 (i : Int)), (40, .func (.func 58) #[] #[.pointer (some ⟨B, 0, none⟩), .pointer (some ⟨D, 0, none⟩), .pointer (some ⟨M, 0, none⟩)]), (43, .agg #[.int .i64 x1.col, .int .i64 x1.row]), (46, .slice a'1 (((left.drop (i + 1)).filter (fun x => !(fun z_ => decide (dist z_ x1 ≤ 2 * (r : Int))) x)).length) c'1)] [SlO eCell 30 a'1 c'1 ((left.drop (i + 1)).filter (fun x => !(fun z_ => decide (dist z_ x1 ≤ 2 * (r : Int))) x)), As.one B1 (.cells #[.int .i64 x1.col, .int .i64 x1.row] 30 (0, 0)), BoxGo eCell g 22 B a1 c1 bst] := by
          subst hF
          refine .step (l := [1, 4]) (by kernel_rfl) (by decide) ⟨.run rfl trivial ?_, .run rfl trivial ?_, trivial⟩
          · refine .y (.move rfl) rfl rfl ?_
            exact .weak (.one rfl (.one rfl (.one rfl (.one rfl (.one rfl (.one rfl (.one rfl (.one rfl (.one rfl (.one rfl (.one rfl (.one rfl (.nil))))))))))))) (.refl _) (s1_75)
          · refine .n (.lit #[.int .i64 0, .int .i64 0] lz_30_1 rfl sl_22 sz_30 zr_30 rfl rfl rfl) rfl rfl fun B_4 => ?_
            exact .weak (.one rfl (.one rfl (.one rfl (.one rfl (.one rfl (.one rfl (.one rfl (.one rfl (.one rfl (.one rfl (.one rfl (.nil)))))))))))) (.refl _) (s1_89 B_4)
        have s1_14 : ∀ (a'_2 : Option Addr) (c'_2 : Nat) (hf_2 : SlOk a'_2 c'_2), F 5 #[false, true, true, true, false, false, false, false] [(0, .slice la l.length lc), (1, .slice fa left.length fc), (2, .pointer (some ⟨B, 0, none⟩)), (3, .pointer (some ⟨D, 0, none⟩)), (4, .pointer (some ⟨M, 0, none⟩)), (9, .slice a'1 (((left.drop (i + 1)).filter (fun x => !(fun z_ => decide (dist z_ x1 ≤ 2 * (r : Int))) x)).length) c'1), (16, .slice fa left.length fc), (17, .int .i64 (left.length : Int)), (18, .int .i64 (i : Int)), (42, .slice a'_2 l.length c'_2), (43, .agg #[.int .i64 x1.col, .int .i64 x1.row])] [SlO eCell 30 a'_2 c'_2 l, SlO eCell 30 a'1 c'1 ((left.drop (i + 1)).filter (fun x => !(fun z_ => decide (dist z_ x1 ≤ 2 * (r : Int))) x)), As.one B1 (.cells #[.int .i64 x1.col, .int .i64 x1.row] 30 (0, 0)), BoxGo eCell g 22 B a1 c1 bst] := by
          intro a'_2 c'_2 hf_2
          subst hF
          refine .step (l := [0, 4, 6]) (by kernel_rfl) (by decide) ⟨.run rfl trivial ?_, .run rfl trivial ?_, .run rfl trivial ?_, trivial⟩
          · refine .y (.load rfl (.g hM) ag_100 sz_100 rfl) rfl rfl ?_
            exact .weak (.one rfl (.one rfl (.one rfl (.one rfl (.one rfl (.one rfl (.one rfl (.one rfl (.one rfl (.one rfl (.one rfl (.one rfl (.nil))))))))))))) (.refl _) (s1_15 a'_2 c'_2 hf_2)
          · refine .n (.lit #[.int .i64 0, .int .i64 0] lz_30_1 rfl sl_22 sz_30 zr_30 rfl rfl rfl) rfl rfl fun B_4 => ?_
            exact .weak (.one rfl (.one rfl (.one rfl (.one rfl (.one rfl (.one rfl (.one rfl (.one rfl (.one rfl (.one rfl (.one rfl (.nil)))))))))))) (.refl _) (s1_30 a'_2 c'_2 hf_2 B_4)
          · refine .y (.move rfl) rfl rfl ?_
            exact .weak (.one rfl (.one rfl (.one rfl (.one rfl (.one rfl (.one rfl (.one rfl (.one rfl (.one rfl (.one rfl (.one rfl (.nil)))))))))))) (.refl _) (s1_78 a'_2 c'_2 hf_2)
        have s1_70 : ∀ (a'_2 : Option Addr) (c'_2 : Nat) (hf_2 : SlOk a'_2 c'_2), F 5 #[false, true, true, false, false, false, true, false] [(0, .slice la l.length lc), (1, .slice fa left.length fc), (2, .pointer (some ⟨B, 0, none⟩)), (3, .pointer (some ⟨D, 0, none⟩)), (4, .pointer (some ⟨M, 0, none⟩)), (8, .pointer (some ⟨B1, 0, none⟩)), (16, .slice fa left.length fc), (17, .int .i64 (left.length : Int)), (18, .int .i64 (i : Int)), (42, .slice a'_2 l.length c'_2), (46, .slice a'1 (((left.drop (i + 1)).filter (fun x => !(fun z_ => decide (dist z_ x1 ≤ 2 * (r : Int))) x)).length) c'1)] [SlO eCell 30 a'_2 c'_2 l, SlO eCell 30 a'1 c'1 ((left.drop (i + 1)).filter (fun x => !(fun z_ => decide (dist z_ x1 ≤ 2 * (r : Int))) x)), As.one B1 (.cells #[.int .i64 x1.col, .int .i64 x1.row] 30 (0, 0)), BoxGo eCell g 22 B a1 c1 bst] := by
          intro a'_2 c'_2 hf_2
          subst hF
          refine .step (l := [0, 3]) (by kernel_rfl) (by decide) ⟨.run rfl trivial ?_, .run rfl trivial ?_, trivial⟩
          · refine .y (.load rfl (.g hM) ag_100 sz_100 rfl) rfl rfl ?_
            exact .weak (.one rfl (.one rfl (.one rfl (.one rfl (.one rfl (.one rfl (.one rfl (.one rfl (.one rfl (.one rfl (.one rfl (.one rfl (.nil))))))))))))) (.refl _) (s1_71 a'_2 c'_2 hf_2)
          · refine .y (.load rfl (.own 2 rfl) ag_30 sz_30 rfl) rfl rfl ?_
            exact .weak (.one rfl (.one rfl (.one rfl (.one rfl (.one rfl (.one rfl (.one rfl (.one rfl (.one rfl (.one rfl (.one rfl (.nil)))))))))))) (.refl _) (s1_78 a'_2 c'_2 hf_2)
        have s1_26 : ∀ (B_4 : Nat), F 5 #[false, true, false, true, true, false, false, false] [(0, .slice la l.length lc), (1, .slice fa left.length fc), (2, .pointer (some ⟨B, 0, none⟩)), (3, .pointer (some ⟨D, 0, none⟩)), (4, .pointer (some ⟨M, 0, none⟩)), (9, .slice a'1 (((left.drop (i + 1)).filter (fun x => !(fun z_ => decide (dist z_ x1 ≤ 2 * (r : Int))) x)).length) c'1), (16, .slice fa left.length fc), (17, .int .i64 (left.length : Int)), (18, .int .i64 (i : Int)), (41, .slice la l.length lc), (44, .slice (some ⟨B_4, 0, none⟩) 1 1)] [As.one B_4 (.cells #[.int .i64 x1.col, .int .i64 x1.row] 30 (0, 0)), SlO eCell 30 a'1 c'1 ((left.drop (i + 1)).filter (fun x => !(fun z_ => decide (dist z_ x1 ≤ 2 * (r : Int))) x)), As.one B1 (.cells #[.int .i64 x1.col, .int .i64 x1.row] 30 (0, 0)), BoxGo eCell g 22 B a1 c1 bst] := by
          intro B_4
          subst hF
          refine .step (l := [0, 2, 6]) (by kernel_rfl) (by decide) ⟨.run rfl trivial ?_, .run rfl trivial ?_, .run rfl trivial ?_, trivial⟩
          · refine .y (.load rfl (.g hM) ag_100 sz_100 rfl) rfl rfl ?_
            exact .weak (.one rfl (.one rfl (.one rfl (.one rfl (.one rfl (.one rfl (.one rfl (.one rfl (.one rfl (.one rfl (.one rfl (.one rfl (.nil))))))))))))) (.refl _) (s1_27 B_4)
          · refine .c (.call rfl rfl fn_60) rfl rfl (fun own ho hd => cloneeCell_ct _ (xs := l) (SlR.up hl) (by first | assumption | exact .nil | exact .some | exact .drop (by assumption)) (by first | omega | (simp; omega) | (simp [*]; omega))) ?_
            rintro _ _ ⟨a'_2, c'_2, rfl, rfl, hf_2⟩
            exact .weak (.one rfl (.one rfl (.one rfl (.one rfl (.one rfl (.one rfl (.one rfl (.one rfl (.one rfl (.one rfl (.one rfl (.nil)))))))))))) (.pick 1 rfl (.refl _)) (s1_30 a'_2 c'_2 hf_2 B_4)
          · refine .y (.move rfl) rfl rfl ?_
            exact .weak (.one rfl (.one rfl (.one rfl (.one rfl (.one rfl (.one rfl (.one rfl (.one rfl (.one rfl (.one rfl (.one rfl (.nil)))))))))))) (.refl _) (s1_90 B_4)
        have s1_74 : F 5 #[false, true, false, true, false, false, true, false] [(0, .slice la l.length lc), (1, .slice fa left.length fc), (2, .pointer (some ⟨B, 0, none⟩)), (3, .pointer (some ⟨D, 0, none⟩)), (4, .pointer (some ⟨M, 0, none⟩)), (16, .slice fa left.length fc), (17, .int .i64 (left.length : Int)), (18, .int .i64 (i : Int)), (41, .slice la l.length lc), (43, .agg #[.int .i64 x1.col, .int .i64 x1.row]), (46, .slice a'1 (((left.drop (i + 1)).filter (fun x => !(fun z_ => decide (dist z_ x1 ≤ 2 * (r : Int))) x)).length) c'1)] [SlO eCell 30 a'1 c'1 ((left.drop (i + 1)).filter (fun x => !(fun z_ => decide (dist z_ x1 ≤ 2 * (r : Int))) x)), As.one B1 (.cells #[.int .i64 x1.col, .int .i64 x1.row] 30 (0, 0)), BoxGo eCell g 22 B a1 c1 bst] := by
          subst hF
          refine .step (l := [0, 2, 4]) (by kernel_rfl) (by decide) ⟨.run rfl trivial ?_, .run rfl trivial ?_, .run rfl trivial ?_, trivial⟩
          · refine .y (.load rfl (.g hM) ag_100 sz_100 rfl) rfl rfl ?_
            exact .weak (.one rfl (.one rfl (.one rfl (.one rfl (.one rfl (.one rfl (.one rfl (.one rfl (.one rfl (.one rfl (.one rfl (.one rfl (.nil))))))))))))) (.refl _) (s1_75)
          · refine .c (.call rfl rfl fn_60) rfl rfl (fun own ho hd => cloneeCell_ct _ (xs := l) (SlR.up hl) (by first | assumption | exact .nil | exact .some | exact .drop (by assumption)) (by first | omega | (simp; omega) | (simp [*]; omega))) ?_
            rintro _ _ ⟨a'_2, c'_2, rfl, rfl, hf_2⟩
            exact .weak (.one rfl (.one rfl (.one rfl (.one rfl (.one rfl (.one rfl (.one rfl (.one rfl (.one rfl (.one rfl (.one rfl (.nil)))))))))))) (.refl _) (s1_78 a'_2 c'_2 hf_2)
          · refine .n (.lit #[.int .i64 0, .int .i64 0] lz_30_1 rfl sl_22 sz_30 zr_30 rfl rfl rfl) rfl rfl fun B_4 => ?_
            exact .weak (.one rfl (.one rfl (.one rfl (.one rfl (.one rfl (.one rfl (.one rfl (.one rfl (.one rfl (.one rfl (.one rfl (.nil)))))))))))) (.refl _) (s1_90 B_4)
        have s1_88 : ∀ (B_4 : Nat), F 5 #[false, false, false, true, true, false, true, false] [(0, .slice la l.length lc), (1, .slice fa left.length fc), (2, .pointer (some ⟨B, 0, none⟩)), (3, .pointer (some ⟨D, 0, none⟩)), (4, .pointer (some ⟨M, 0, none⟩)), (16, .slice fa left.length fc), (17, .int .i64 (left.length : Int)), (18, .int .i64 (i : Int)), (44, .slice (some ⟨B_4, 0, none⟩) 1 1), (46, .slice a'1 (((left.drop (i + 1)).filter (fun x => !(fun z_ => decide (dist z_ x1 ≤ 2 * (r : Int))) x)).length) c'1)] [As.one B_4 (.cells #[.int .i64 x1.col, .int .i64 x1.row] 30 (0, 0)), SlO eCell 30 a'1 c'1 ((left.drop (i + 1)).filter (fun x => !(fun z_ => decide (dist z_ x1 ≤ 2 * (r : Int))) x)), As.one B1 (.cells #[.int .i64 x1.col, .int .i64 x1.row] 30 (0, 0)), BoxGo eCell g 22 B a1 c1 bst] := by
          intro B_4
          subst hF
          refine .step (l := [0, 1]) (by kernel_rfl) (by decide) ⟨.run rfl trivial ?_, .run rfl trivial ?_, trivial⟩
          · refine .y (.load rfl (.g hM) ag_100 sz_100 rfl) rfl rfl ?_
            exact .weak (.one rfl (.one rfl (.one rfl (.one rfl (.one rfl (.one rfl (.one rfl (.one rfl (.one rfl (.one rfl (.one rfl (.nil)))))))))))) (.refl _) (s1_89 B_4)
          · refine .y (.move rfl) rfl rfl ?_
            exact .weak (.one rfl (.one rfl (.one rfl (.one rfl (.one rfl (.one rfl (.one rfl (.one rfl (.one rfl (.one rfl (.one rfl (.nil)))))))))))) (.refl _) (s1_90 B_4)
        have s1_3 : F 6 #[true, true, false, false, false, false, false, false] [(0, .slice la l.length lc), (1, .slice fa left.length fc), (2, .pointer (some ⟨B, 0, none⟩)), (3, .pointer (some ⟨D, 0, none⟩)), (4, .pointer (some ⟨M, 0, none⟩)), (8, .pointer (some ⟨B1, 0, none⟩)), (9, .slice a'1 (((left.drop (i + 1)).filter (fun x => !(fun z_ => decide (dist z_ x1 ≤ 2 * (r : Int))) x)).length) c'1), (16, .slice fa left.length fc), (17, .int .i64 (left.length : Int)), (18, .int .i64 (i : Int)), (40, .func (.func 58) #[] #[.pointer (some ⟨B, 0, none⟩), .pointer (some ⟨D, 0, none⟩), .pointer (some ⟨M, 0, none⟩)]), (41, .slice la l.length lc)] [SlO eCell 30 a'1 c'1 ((left.drop (i + 1)).filter (fun x => !(fun z_ => decide (dist z_ x1 ≤ 2 * (r : Int))) x)), As.one B1 (.cells #[.int .i64 x1.col, .int .i64 x1.row] 30 (0, 0)), BoxGo eCell g 22 B a1 c1 bst] := by
          subst hF
          refine .step (l := [2, 3, 6]) (by kernel_rfl) (by decide) ⟨.run rfl trivial ?_, .run rfl trivial ?_, .run rfl trivial ?_, trivial⟩
          · refine .c (.call rfl rfl fn_60) rfl rfl (fun own ho hd => cloneeCell_ct _ (xs := l) (SlR.up hl) (by first | assumption | exact .nil | exact .some | exact .drop (by assumption)) (by first | omega | (simp; omega) | (simp [*]; omega))) ?_
            rintro _ _ ⟨a'_2, c'_2, rfl, rfl, hf_2⟩
            exact .weak (.one rfl (.one rfl (.one rfl (.one rfl (.one rfl (.one rfl (.one rfl (.one rfl (.one rfl (.one rfl (.one rfl (.one rfl (.nil))))))))))))) (.refl _) (s1_7 a'_2 c'_2 hf_2)
          · refine .y (.load rfl (.own 1 rfl) ag_30 sz_30 rfl) rfl rfl ?_
            exact .weak (.one rfl (.one rfl (.one rfl (.one rfl (.one rfl (.one rfl (.one rfl (.one rfl (.one rfl (.one rfl (.one rfl (.one rfl (.nil))))))))))))) (.refl _) (s1_11)
          · refine .y (.move rfl) rfl rfl ?_
            exact .weak (.one rfl (.one rfl (.one rfl (.one rfl (.one rfl (.one rfl (.one rfl (.one rfl (.one rfl (.one rfl (.one rfl (.one rfl (.nil))))))))))))) (.refl _) (s1_67)
        have s1_9 : F 6 #[true, false, false, true, false, false, false, false] [(0, .slice la l.length lc), (1, .slice fa left.length fc), (2, .pointer (some ⟨B, 0, none⟩)), (3, .pointer (some ⟨D, 0, none⟩)), (4, .pointer (some ⟨M, 0, none⟩)), (9, .slice a'1 (((left.drop (i + 1)).filter (fun x => !(fun z_ => decide (dist z_ x1 ≤ 2 * (r : Int))) x)).length) c'1), (16, .slice fa left.length fc), (17, .int .i64 (left.length : Int)), (18, .int .i64 (i : Int)), (40, .func (.func 58) #[] #[.pointer (some ⟨B, 0, none⟩), .pointer (some ⟨D, 0, none⟩), .pointer (some ⟨M, 0, none⟩)]), (43, .agg #[.int .i64 x1.col, .int .i64 x1.row])] [SlO eCell 30 a'1 c'1 ((left.drop (i + 1)).filter (fun x => !(fun z_ => decide (dist z_ x1 ≤ 2 * (r : Int))) x)), As.one B1 (.cells #[.int .i64 x1.col, .int .i64 x1.row] 30 (0, 0)), BoxGo eCell g 22 B a1 c1 bst] := by
          subst hF
          refine .step (l := [1, 4, 6]) (by kernel_rfl) (by decide) ⟨.run rfl trivial ?_, .run rfl trivial ?_, .run rfl trivial ?_, trivial⟩
          · refine .y (.move rfl) rfl rfl ?_
            exact .weak (.one rfl (.one rfl (.one rfl (.one rfl (.one rfl (.one rfl (.one rfl (.one rfl (.one rfl (.one rfl (.one rfl (.one rfl (.nil))))))))))))) (.refl _) (s1_11)
          · refine .n (.lit #[.int .i64 0, .int .i64 0] lz_30_1 rfl sl_22 sz_30 zr_30 rfl rfl rfl) rfl rfl fun B_4 => ?_
            exact .weak (.one rfl (.one rfl (.one rfl (.one rfl (.one rfl (.one rfl (.one rfl (.one rfl (.one rfl (.one rfl (.one rfl (.nil)))))))))))) (.refl _) (s1_25 B_4)
          · refine .y (.move rfl) rfl rfl ?_
            exact .weak (.one rfl (.one rfl (.one rfl (.one rfl (.one rfl (.one rfl (.one rfl (.one rfl (.one rfl (.one rfl (.one rfl (.nil)))))))))))) (.refl _) (s1_73)
        have s1_65 : F 6 #[true, false, false, false, false, false, true, false] [(0, .slice la l.length lc), (1, .slice fa left.length fc), (2, .pointer (some ⟨B, 0, none⟩)), (3, .pointer (some ⟨D, 0, none⟩)), (4, .pointer (some ⟨M, 0, none⟩)), (8, .pointer (some ⟨B1, 0, none⟩)), (16, .slice fa left.length fc), (17, .int .i64 (left.length : Int)), (18, .int .i64 (i : Int)), (40, .func (.func 58) #[] #[.pointer (some ⟨B, 0, none⟩), .pointer (some ⟨D, 0, none⟩), .pointer (some ⟨M, 0, none⟩)]), (46, .slice a'1 (((left.drop (i + 1)).filter (fun x => !(fun z_ => decide (dist z_ x1 ≤ 2 * (r : Int))) x)).length) c'1)] [SlO eCell 30 a'1 c'1 ((left.drop (i + 1)).filter (fun x => !(fun z_ => decide (dist z_ x1 ≤ 2 * (r : Int))) x)), As.one B1 (.cells #[.int .i64 x1.col, .int .i64 x1.row] 30 (0, 0)), BoxGo eCell g 22 B a1 c1 bst] := by
          subst hF
          refine .step (l := [1, 3]) (by kernel_rfl) (by decide) ⟨.run rfl trivial ?_, .run rfl trivial ?_, trivial⟩
          · refine .y (.move rfl) rfl rfl ?_
            exact .weak (.one rfl (.one rfl (.one rfl (.one rfl (.one rfl (.one rfl (.one rfl (.one rfl (.one rfl (.one rfl (.one rfl (.one rfl (.nil))))))))))))) (.refl _) (s1_67)
          · refine .y (.load rfl (.own 1 rfl) ag_30 sz_30 rfl) rfl rfl ?_
            exact .weak (.one rfl (.one rfl (.one rfl (.one rfl (.one rfl (.one rfl (.one rfl (.one rfl (.one rfl (.one rfl (.one rfl (.nil)))))))))))) (.refl _) (s1_73)
        have s1_6 : ∀ (a'_2 : Option Addr) (c'_2 : Nat) (hf_2 : SlOk a'_2 c'_2), F 6 #[false, true, true, false, false, false, false, false] [(0, .slice la l.length lc), (1, .slice fa left.length fc), (2, .pointer (some ⟨B, 0, none⟩)), (3, .pointer (some ⟨D, 0, none⟩)), (4, .pointer (some ⟨M, 0, none⟩)), (8, .pointer (some ⟨B1, 0, none⟩)), (9, .slice a'1 (((left.drop (i + 1)).filter (fun x => !(fun z_ => decide (dist z_ x1 ≤ 2 * (r : Int))) x)).length) c'1), (16, .slice fa left.length fc), (17, .int .i64 (left.length : Int)), (18, .int .i64 (i : Int)), (42, .slice a'_2 l.length c'_2)] [SlO eCell 30 a'_2 c'_2 l, SlO eCell 30 a'1 c'1 ((left.drop (i + 1)).filter (fun x => !(fun z_ => decide (dist z_ x1 ≤ 2 * (r : Int))) x)), As.one B1 (.cells #[.int .i64 x1.col, .int .i64 x1.row] 30 (0, 0)), BoxGo eCell g 22 B a1 c1 bst] := by
          intro a'_2 c'_2 hf_2
          subst hF
          refine .step (l := [0, 3, 6]) (by kernel_rfl) (by decide) ⟨.run rfl trivial ?_, .run rfl trivial ?_, .run rfl trivial ?_, trivial⟩
          · refine .y (.load rfl (.g hM) ag_100 sz_100 rfl) rfl rfl ?_
            exact .weak (.one rfl (.one rfl (.one rfl (.one rfl (.one rfl (.one rfl (.one rfl (.one rfl (.one rfl (.one rfl (.one rfl (.one rfl (.nil))))))))))))) (.refl _) (s1_7 a'_2 c'_2 hf_2)
          · refine .y (.load rfl (.own 2 rfl) ag_30 sz_30 rfl) rfl rfl ?_
            exact .weak (.one rfl (.one rfl (.one rfl (.one rfl (.one rfl (.one rfl (.one rfl (.one rfl (.one rfl (.one rfl (.one rfl (.nil)))))))))))) (.refl _) (s1_14 a'_2 c'_2 hf_2)
          · refine .y (.move rfl) rfl rfl ?_
            exact .weak (.one rfl (.one rfl (.one rfl (.one rfl (.one rfl (.one rfl (.one rfl (.one rfl (.one rfl (.one rfl (.one rfl (.nil)))))))))))) (.refl _) (s1_70 a'_2 c'_2 hf_2)
        have s1_10 : F 6 #[false, true, false, true, false, false, false, false] [(0, .slice la l.length lc), (1, .slice fa left.length fc), (2, .pointer (some ⟨B, 0, none⟩)), (3, .pointer (some ⟨D, 0, none⟩)), (4, .pointer (some ⟨M, 0, none⟩)), (9, .slice a'1 (((left.drop (i + 1)).filter (fun x => !(fun z_ => decide (dist z_ x1 ≤ 2 * (r : Int))) x)).length) c'1), (16, .slice fa left.length fc), (17, .int .i64 (left.length : Int)), (18, .int .i64 (i : Int)), (41, .slice la l.length lc), (43, .agg #[.int .i64 x1.col, .int .i64 x1.row])] [SlO eCell 30 a'1 c'1 ((left.drop (i + 1)).filter (fun x => !(fun z_ => decide (dist z_ x1 ≤ 2 * (r : Int))) x)), As.one B1 (.cells #[.int .i64 x1.col, .int .i64 x1.row] 30 (0, 0)), BoxGo eCell g 22 B a1 c1 bst] := by
          subst hF
          refine .step (l := [0, 2, 4, 6]) (by kernel_rfl) (by decide) ⟨.run rfl trivial ?_, .run rfl trivial ?_, .run rfl trivial ?_, .run rfl trivial ?_, trivial⟩
          · refine .y (.load rfl (.g hM) ag_100 sz_100 rfl) rfl rfl ?_
            exact .weak (.one rfl (.one rfl (.one rfl (.one rfl (.one rfl (.one rfl (.one rfl (.one rfl (.one rfl (.one rfl (.one rfl (.one rfl (.nil))))))))))))) (.refl _) (s1_11)
          · refine .c (.call rfl rfl fn_60) rfl rfl (fun own ho hd => cloneeCell_ct _ (xs := l) (SlR.up hl) (by first | assumption | exact .nil | exact .some | exact .drop (by assumption)) (by first | omega | (simp; omega) | (simp [*]; omega))) ?_
            rintro _ _ ⟨a'_2, c'_2, rfl, rfl, hf_2⟩
            exact .weak (.one rfl (.one rfl (.one rfl (.one rfl (.one rfl (.one rfl (.one rfl (.one rfl (.one rfl (.one rfl (.one rfl (.nil)))))))))))) (.refl _) (s1_14 a'_2 c'_2 hf_2)
          · refine .n (.lit #[.int .i64 0, .int .i64 0] lz_30_1 rfl sl_22 sz_30 zr_30 rfl rfl rfl) rfl rfl fun B_4 => ?_
            exact .weak (.one rfl (.one rfl (.one rfl (.one rfl (.one rfl (.one rfl (.one rfl (.one rfl (.one rfl (.one rfl (.one rfl (.nil)))))))))))) (.refl _) (s1_26 B_4)
          · refine .y (.move rfl) rfl rfl ?_
            exact .weak (.one rfl (.one rfl (.one rfl (.one rfl (.one rfl (.one rfl (.one rfl (.one rfl (.one rfl (.one rfl (.one rfl (.nil)))))))))))) (.refl _) (s1_74)
        have s1_66 : F 6 #[false, true, false, false, false, false, true, false] [(0, .slice la l.length lc), (1, .slice fa left.length fc), (2, .pointer (some ⟨B, 0, none⟩)), (3, .pointer (some ⟨D, 0, none⟩)), (4, .pointer (some ⟨M, 0, none⟩)), (8, .pointer (some ⟨B1, 0, none⟩)), (16, .slice fa left.length fc), (17, .int .i64 (left.length : Int)), (18, .int .i64 (i : Int)), (41, .slice la l.length lc), (46, .slice a'1 (((left.drop (i + 1)).filter (fun x => !(fun z_ => decide (dist z_ x1 ≤ 2 * (r : Int))) x)).length) c'1)] [SlO eCell 30 a'1 c'1 ((left.drop (i + 1)).filter (fun x => !(fun z_ => decide (dist z_ x1 ≤ 2 * (r : Int))) x)), As.one B1 (.cells #[.int .i64 x1.col, .int .i64 x1.row] 30 (0, 0)), BoxGo eCell g 22 B a1 c1 bst] := by
          subst hF
          refine .step (l := [0, 2, 3]) (by kernel_rfl) (by decide) ⟨.run rfl trivial ?_, .run rfl trivial ?_, .run rfl trivial ?_, trivial⟩
          · refine .y (.load rfl (.g hM) ag_100 sz_100 rfl) rfl rfl ?_
            exact .weak (.one rfl (.one rfl (.one rfl (.one rfl (.one rfl (.one rfl (.one rfl (.one rfl (.one rfl (.one rfl (.one rfl (.one rfl (.nil))))))))))))) (.refl _) (s1_67)
          · refine .c (.call rfl rfl fn_60) rfl rfl (fun own ho hd => cloneeCell_ct _ (xs := l) (SlR.up hl) (by first | assumption | exact .nil | exact .some | exact .drop (by assumption)) (by first | omega | (simp; omega) | (simp [*]; omega))) ?_
            rintro _ _ ⟨a'_2, c'_2, rfl, rfl, hf_2⟩
            exact .weak (.one rfl (.one rfl (.one rfl (.one rfl (.one rfl (.one rfl (.one rfl (.one rfl (.one rfl (.one rfl (.one rfl (.nil)))))))))))) (.refl _) (s1_70 a'_2 c'_2 hf_2)
          · refine .y (.load rfl (.own 1 rfl) ag_30 sz_30 rfl) rfl rfl ?_
            exact .weak (.one rfl (.one rfl (.one rfl (.one rfl (.one rfl (.one rfl (.one rfl (.one rfl (.one rfl (.one rfl (.one rfl (.nil)))))))))))) (.refl _) (s1_74)
        have s1_24 : ∀ (B_4 : Nat), F 6 #[false, false, false, true, true, false, false, false] [(0, .slice la l.length lc), (1, .slice fa left.length fc), (2, .pointer (some ⟨B, 0, none⟩)), (3, .pointer (some ⟨D, 0, none⟩)), (4, .pointer (some ⟨M, 0, none⟩)), (9, .slice a'1 (((left.drop (i + 1)).filter (fun x => !(fun z_ => decide (dist z_ x1 ≤ 2 * (r : Int))) x)).length) c'1), (16, .slice fa left.length fc), (17, .int .i64 (left.length : Int)), (18, .int .i64 (i : Int)), (44, .slice (some ⟨B_4, 0, none⟩) 1 1)] [As.one B_4 (.cells #[.int .i64 x1.col, .int .i64 x1.row] 30 (0, 0)), SlO eCell 30 a'1 c'1 ((left.drop (i + 1)).filter (fun x => !(fun z_ => decide (dist z_ x1 ≤ 2 * (r : Int))) x)), As.one B1 (.cells #[.int .i64 x1.col, .int .i64 x1.row] 30 (0, 0)), BoxGo eCell g 22 B a1 c1 bst] := by
          intro B_4
          subst hF
          refine .step (l := [0, 1, 6]) (by kernel_rfl) (by decide) ⟨.run rfl trivial ?_, .run rfl trivial ?_, .run rfl trivial ?_, trivial⟩
          · refine .y (.load rfl (.g hM) ag_100 sz_100 rfl) rfl rfl ?_
            exact .weak (.one rfl (.one rfl (.one rfl (.one rfl (.one rfl (.one rfl (.one rfl (.one rfl (.one rfl (.one rfl (.one rfl (.nil)))))))))))) (.refl _) (s1_25 B_4)
          · refine .y (.move rfl) rfl rfl ?_
            exact .weak (.one rfl (.one rfl (.one rfl (.one rfl (.one rfl (.one rfl (.one rfl (.one rfl (.one rfl (.one rfl (.one rfl (.nil)))))))))))) (.refl _) (s1_26 B_4)
          · refine .y (.move rfl) rfl rfl ?_
            exact .weak (.one rfl (.one rfl (.one rfl (.one rfl (.one rfl (.one rfl (.one rfl (.one rfl (.one rfl (.one rfl (.nil))))))))))) (.refl _) (s1_88 B_4)
        have s1_72 : F 6 #[false, false, false, true, false, false, true, false] [(0, .slice la l.length lc), (1, .slice fa left.length fc), (2, .pointer (some ⟨B, 0, none⟩)), (3, .pointer (some ⟨D, 0, none⟩)), (4, .pointer (some ⟨M, 0, none⟩)), (16, .slice fa left.length fc), (17, .int .i64 (left.length : Int)), (18, .int .i64 (i : Int)), (43, .agg #[.int .i64 x1.col, .int .i64 x1.row]), (46, .slice a'1 (((left.drop (i + 1)).filter (fun x => !(fun z_ => decide (dist z_ x1 ≤ 2 * (r : Int))) x)).length) c'1)] [SlO eCell 30 a'1 c'1 ((left.drop (i + 1)).filter (fun x => !(fun z_ => decide (dist z_ x1 ≤ 2 * (r : Int))) x)), As.one B1 (.cells #[.int .i64 x1.col, .int .i64 x1.row] 30 (0, 0)), BoxGo eCell g 22 B a1 c1 bst] := by
          subst hF
          refine .step (l := [0, 1, 4]) (by kernel_rfl) (by decide) ⟨.run rfl trivial ?_, .run rfl trivial ?_, .run rfl trivial ?_, trivial⟩
          · refine .y (.load rfl (.g hM) ag_100 sz_100 rfl) rfl rfl ?_
            exact .weak (.one rfl (.one rfl (.one rfl (.one rfl (.one rfl (.one rfl (.one rfl (.one rfl (.one rfl (.one rfl (.one rfl (.nil)))))))))))) (.refl _) (s1_73)
          · refine .y (.move rfl) rfl rfl ?_
            exact .weak (.one rfl (.one rfl (.one rfl (.one rfl (.one rfl (.one rfl (.one rfl (.one rfl (.one rfl (.one rfl (.one rfl (.nil)))))))))))) (.refl _) (s1_74)
          · refine .n (.lit #[.int .i64 0, .int .i64 0] lz_30_1 rfl sl_22 sz_30 zr_30 rfl rfl rfl) rfl rfl fun B_4 => ?_
            exact .weak (.one rfl (.one rfl (.one rfl (.one rfl (.one rfl (.one rfl (.one rfl (.one rfl (.one rfl (.one rfl (.nil))))))))))) (.refl _) (s1_88 B_4)
        have s1_1 : F 7 #[true, false, false, false, false, false, false, false] [(0, .slice la l.length lc), (1, .slice fa left.length fc), (2, .pointer (some ⟨B, 0, none⟩)), (3, .pointer (some ⟨D, 0, none⟩)), (4, .pointer (some ⟨M, 0, none⟩)), (8, .pointer (some ⟨B1, 0, none⟩)), (9, .slice a'1 (((left.drop (i + 1)).filter (fun x => !(fun z_ => decide (dist z_ x1 ≤ 2 * (r : Int))) x)).length) c'1), (16, .slice fa left.length fc), (17, .int .i64 (left.length : Int)), (18, .int .i64 (i : Int)), (40, .func (.func 58) #[] #[.pointer (some ⟨B, 0, none⟩), .pointer (some ⟨D, 0, none⟩), .pointer (some ⟨M, 0, none⟩)])] [SlO eCell 30 a'1 c'1 ((left.drop (i + 1)).filter (fun x => !(fun z_ => decide (dist z_ x1 ≤ 2 * (r : Int))) x)), As.one B1 (.cells #[.int .i64 x1.col, .int .i64 x1.row] 30 (0, 0)), BoxGo eCell g 22 B a1 c1 bst] := by
          subst hF
          refine .step (l := [1, 3, 6]) (by kernel_rfl) (by decide) ⟨.run rfl trivial ?_, .run rfl trivial ?_, .run rfl trivial ?_, trivial⟩
          · refine .y (.move rfl) rfl rfl ?_
            exact .weak (.one rfl (.one rfl (.one rfl (.one rfl (.one rfl (.one rfl (.one rfl (.one rfl (.one rfl (.one rfl (.one rfl (.one rfl (.nil))))))))))))) (.refl _) (s1_3)
          · refine .y (.load rfl (.own 1 rfl) ag_30 sz_30 rfl) rfl rfl ?_
            exact .weak (.one rfl (.one rfl (.one rfl (.one rfl (.one rfl (.one rfl (.one rfl (.one rfl (.one rfl (.one rfl (.one rfl (.nil)))))))))))) (.refl _) (s1_9)
          · refine .y (.move rfl) rfl rfl ?_
            exact .weak (.one rfl (.one rfl (.one rfl (.one rfl (.one rfl (.one rfl (.one rfl (.one rfl (.one rfl (.one rfl (.one rfl (.nil)))))))))))) (.refl _) (s1_65)
        have s1_2 : F 7 #[false, true, false, false, false, false, false, false] [(0, .slice la l.length lc), (1, .slice fa left.length fc), (2, .pointer (some ⟨B, 0, none⟩)), (3, .pointer (some ⟨D, 0, none⟩)), (4, .pointer (some ⟨M, 0, none⟩)), (8, .pointer (some ⟨B1, 0, none⟩)), (9, .slice a'1 (((left.drop (i + 1)).filter (fun x => !(fun z_ => decide (dist z_ x1 ≤ 2 * (r : Int))) x)).length) c'1), (16, .slice fa left.length fc), (17, .int .i64 (left.length : Int)), (18, .int .i64 (i : Int)), (41, .slice la l.length lc)] [SlO eCell 30 a'1 c'1 ((left.drop (i + 1)).filter (fun x => !(fun z_ => decide (dist z_ x1 ≤ 2 * (r : Int))) x)), As.one B1 (.cells #[.int .i64 x1.col, .int .i64 x1.row] 30 (0, 0)), BoxGo eCell g 22 B a1 c1 bst] := by
          subst hF
          refine .step (l := [0, 2, 3, 6]) (by kernel_rfl) (by decide) ⟨.run rfl trivial ?_, .run rfl trivial ?_, .run rfl trivial ?_, .run rfl trivial ?_, trivial⟩
          · refine .y (.load rfl (.g hM) ag_100 sz_100 rfl) rfl rfl ?_
            exact .weak (.one rfl (.one rfl (.one rfl (.one rfl (.one rfl (.one rfl (.one rfl (.one rfl (.one rfl (.one rfl (.one rfl (.one rfl (.nil))))))))))))) (.refl _) (s1_3)
          · refine .c (.call rfl rfl fn_60) rfl rfl (fun own ho hd => cloneeCell_ct _ (xs := l) (SlR.up hl) (by first | assumption | exact .nil | exact .some | exact .drop (by assumption)) (by first | omega | (simp; omega) | (simp [*]; omega))) ?_
            rintro _ _ ⟨a'_2, c'_2, rfl, rfl, hf_2⟩
            exact .weak (.one rfl (.one rfl (.one rfl (.one rfl (.one rfl (.one rfl (.one rfl (.one rfl (.one rfl (.one rfl (.one rfl (.nil)))))))))))) (.refl _) (s1_6 a'_2 c'_2 hf_2)
          · refine .y (.load rfl (.own 1 rfl) ag_30 sz_30 rfl) rfl rfl ?_
            exact .weak (.one rfl (.one rfl (.one rfl (.one rfl (.one rfl (.one rfl (.one rfl (.one rfl (.one rfl (.one rfl (.one rfl (.nil)))))))))))) (.refl _) (s1_10)
          · refine .y (.move rfl) rfl rfl ?_
            exact .weak (.one rfl (.one rfl (.one rfl (.one rfl (.one rfl (.one rfl (.one rfl (.one rfl (.one rfl (.one rfl (.one rfl (.nil)))))))))))) (.refl _) (s1_66)
        have s1_8 : F 7 #[false, false, false, true, false, false, false, false] [(0, .slice la l.length lc), (1, .slice fa left.length fc), (2, .pointer (some ⟨B, 0, none⟩)), (3, .pointer (some ⟨D, 0, none⟩)), (4, .pointer (some ⟨M, 0, none⟩)), (9, .slice a'1 (((left.drop (i + 1)).filter (fun x => !(fun z_ => decide (dist z_ x1 ≤ 2 * (r : Int))) x)).length) c'1), (16, .slice fa left.length fc), (17, .int .i64 (left.length : Int)), (18, .int .i64 (i : Int)), (43, .agg #[.int .i64 x1.col, .int .i64 x1.row])] [SlO eCell 30 a'1 c'1 ((left.drop (i + 1)).filter (fun x => !(fun z_ => decide (dist z_ x1 ≤ 2 * (r : Int))) x)), As.one B1 (.cells #[.int .i64 x1.col, .int .i64 x1.row] 30 (0, 0)), BoxGo eCell g 22 B a1 c1 bst] := by
          subst hF
          refine .step (l := [0, 1, 4, 6]) (by kernel_rfl) (by decide) ⟨.run rfl trivial ?_, .run rfl trivial ?_, .run rfl trivial ?_, .run rfl trivial ?_, trivial⟩
          · refine .y (.load rfl (.g hM) ag_100 sz_100 rfl) rfl rfl ?_
            exact .weak (.one rfl (.one rfl (.one rfl (.one rfl (.one rfl (.one rfl (.one rfl (.one rfl (.one rfl (.one rfl (.one rfl (.nil)))))))))))) (.refl _) (s1_9)
          · refine .y (.move rfl) rfl rfl ?_
            exact .weak (.one rfl (.one rfl (.one rfl (.one rfl (.one rfl (.one rfl (.one rfl (.one rfl (.one rfl (.one rfl (.one rfl (.nil)))))))))))) (.refl _) (s1_10)
          · refine .n (.lit #[.int .i64 0, .int .i64 0] lz_30_1 rfl sl_22 sz_30 zr_30 rfl rfl rfl) rfl rfl fun B_4 => ?_
            exact .weak (.one rfl (.one rfl (.one rfl (.one rfl (.one rfl (.one rfl (.one rfl (.one rfl (.one rfl (.one rfl (.nil))))))))))) (.refl _) (s1_24 B_4)
          · refine .y (.move rfl) rfl rfl ?_
            exact .weak (.one rfl (.one rfl (.one rfl (.one rfl (.one rfl (.one rfl (.one rfl (.one rfl (.one rfl (.one rfl (.nil))))))))))) (.refl _) (s1_72)
        have s1_64 : F 7 #[false, false, false, false, false, false, true, false] [(0, .slice la l.length lc), (1, .slice fa left.length fc), (2, .pointer (some ⟨B, 0, none⟩)), (3, .pointer (some ⟨D, 0, none⟩)), (4, .pointer (some ⟨M, 0, none⟩)), (8, .pointer (some ⟨B1, 0, none⟩)), (16, .slice fa left.length fc), (17, .int .i64 (left.length : Int)), (18, .int .i64 (i : Int)), (46, .slice a'1 (((left.drop (i + 1)).filter (fun x => !(fun z_ => decide (dist z_ x1 ≤ 2 * (r : Int))) x)).length) c'1)] [SlO eCell 30 a'1 c'1 ((left.drop (i + 1)).filter (fun x => !(fun z_ => decide (dist z_ x1 ≤ 2 * (r : Int))) x)), As.one B1 (.cells #[.int .i64 x1.col, .int .i64 x1.row] 30 (0, 0)), BoxGo eCell g 22 B a1 c1 bst] := by
          subst hF
          refine .step (l := [0, 1, 3]) (by kernel_rfl) (by decide) ⟨.run rfl trivial ?_, .run rfl trivial ?_, .run rfl trivial ?_, trivial⟩
          · refine .y (.load rfl (.g hM) ag_100 sz_100 rfl) rfl rfl ?_
            exact .weak (.one rfl (.one rfl (.one rfl (.one rfl (.one rfl (.one rfl (.one rfl (.one rfl (.one rfl (.one rfl (.one rfl (.nil)))))))))))) (.refl _) (s1_65)
          · refine .y (.move rfl) rfl rfl ?_
            exact .weak (.one rfl (.one rfl (.one rfl (.one rfl (.one rfl (.one rfl (.one rfl (.one rfl (.one rfl (.one rfl (.one rfl (.nil)))))))))))) (.refl _) (s1_66)
          · refine .y (.load rfl (.own 1 rfl) ag_30 sz_30 rfl) rfl rfl ?_
            exact .weak (.one rfl (.one rfl (.one rfl (.one rfl (.one rfl (.one rfl (.one rfl (.one rfl (.one rfl (.one rfl (.nil))))))))))) (.refl _) (s1_72)
        have s1_0 : F 8 #[false, false, false, false, false, false, false, false] [(0, .slice la l.length lc), (1, .slice fa left.length fc), (2, .pointer (some ⟨B, 0, none⟩)), (3, .pointer (some ⟨D, 0, none⟩)), (4, .pointer (some ⟨M, 0, none⟩)), (8, .pointer (some ⟨B1, 0, none⟩)), (9, .slice a'1 (((left.drop (i + 1)).filter (fun x => !(fun z_ => decide (dist z_ x1 ≤ 2 * (r : Int))) x)).length) c'1), (16, .slice fa left.length fc), (17, .int .i64 (left.length : Int)), (18, .int .i64 (i : Int))] [SlO eCell 30 a'1 c'1 ((left.drop (i + 1)).filter (fun x => !(fun z_ => decide (dist z_ x1 ≤ 2 * (r : Int))) x)), As.one B1 (.cells #[.int .i64 x1.col, .int .i64 x1.row] 30 (0, 0)), BoxGo eCell g 22 B a1 c1 bst] := by
          subst hF
          refine .step (l := [0, 1, 3, 6]) (by kernel_rfl) (by decide) ⟨.run rfl trivial ?_, .run rfl trivial ?_, .run rfl trivial ?_, .run rfl trivial ?_, trivial⟩
          · refine .y (.load rfl (.g hM) ag_100 sz_100 rfl) rfl rfl ?_
            exact .weak (.one rfl (.one rfl (.one rfl (.one rfl (.one rfl (.one rfl (.one rfl (.one rfl (.one rfl (.one rfl (.one rfl (.nil)))))))))))) (.refl _) (s1_1)
          · refine .y (.move rfl) rfl rfl ?_
            exact .weak (.one rfl (.one rfl (.one rfl (.one rfl (.one rfl (.one rfl (.one rfl (.one rfl (.one rfl (.one rfl (.one rfl (.nil)))))))))))) (.refl _) (s1_2)
          · refine .y (.load rfl (.own 1 rfl) ag_30 sz_30 rfl) rfl rfl ?_
            exact .weak (.one rfl (.one rfl (.one rfl (.one rfl (.one rfl (.one rfl (.one rfl (.one rfl (.one rfl (.one rfl (.nil))))))))))) (.refl _) (s1_8)
          · refine .y (.move rfl) rfl rfl ?_
            exact .weak (.one rfl (.one rfl (.one rfl (.one rfl (.one rfl (.one rfl (.one rfl (.one rfl (.one rfl (.one rfl (.nil))))))))))) (.refl _) (s1_64)
        subst hF; exact .weak (.one rfl (.one rfl (.one rfl (.one rfl (.one rfl (.one rfl (.one rfl (.one rfl (.one rfl (.one rfl (.nil))))))))))) (.refl _) s1_0
    · refine .exit ?_
      refine inB_hit ?_
      refine ⟨.inl rfl, _, _, (.boxG (.pick 0 rfl (.nil _))), fun own' ho => .zero rfl, ?_⟩
      rw [scat_end hP0.2 (by omega)]; exact ⟨rfl, rfl⟩
  · refine .skip ?_
    refine .seq ?_
    refine .region ?_
    refine .y (.move rfl) trivial rfl rfl ?_
    refine .y (.len rfl sl_22) trivial rfl rfl ?_
    refine .y (.move rfl) trivial rfl rfl ?_
    refine .nil ?_
    refine .block ?_
    refine T.loop (ι := { zz : Nat × List Cell // zz.1 ≤ left.length ∧ scatF (r : Int) n l left best = scatL (scatP (r : Int) n) (r : Int) l (left.drop zz.1) zz.2 }) (fun zz => ([(18, .int .i64 (zz.1.1 : Int)), (0, .slice la l.length lc), (1, .slice fa left.length fc), (2, .pointer (some ⟨B, 0, none⟩)), (3, .pointer (some ⟨D, 0, none⟩)), (4, .pointer (some ⟨M, 0, none⟩)), (16, .slice fa left.length fc), (17, .int .i64 (left.length : Int))], [BoxG eCell g 22 B zz.1.2])) (fun zz => left.length - zz.1.1) ⟨(0, best), ⟨Nat.zero_le _, by rw [scatF_eq, updB, if_neg (by omega)]; rfl⟩⟩ (.one rfl (.one rfl (.one rfl (.one rfl (.one rfl (.one rfl (.one rfl (.one rfl (.nil))))))))) (.boxG (.pick 0 rfl (.refl _))) ?_
    rintro ⟨⟨i, bst⟩, hP0⟩
    dsimp only at hP0
    show T _ [(18, .int .i64 (i : Int)), (0, .slice la l.length lc), (1, .slice fa left.length fc), (2, .pointer (some ⟨B, 0, none⟩)), (3, .pointer (some ⟨D, 0, none⟩)), (4, .pointer (some ⟨M, 0, none⟩)), (16, .slice fa left.length fc), (17, .int .i64 (left.length : Int))] [BoxG eCell g 22 B bst] _ _
    refine T.boxG fun a1 c1 => ?_
    refine .seq ?_
    refine .region ?_
    refine .y (.lss rfl rfl) trivial rfl rfl ?_
    refine .nil ?_
    refine .seq ?_
    refine .ite rfl (fun h2 => ?_) (fun h2 => ?_)
    · refine .skip ?_
      refine .seq ?_
      refine .block ?_
      refine .seq ?_
      refine .region ?_
      refine .y (.move rfl) trivial rfl rfl ?_
      have hbhx1 : i < left.length := by omega
      obtain ⟨x1, hx1⟩ : ∃ x1, left[i]? = some x1 := ⟨_, List.getElem?_eq_getElem hbhx1⟩
      refine .y (.indexE (E := eCell) rfl rfl (.g hf) rfl sl_22 sz_30 (by omega)) trivial rfl rfl ?_
      refine .y (.loadE (E := eCell) rfl (.g hf) ag_30 sz_30 (by decide) (eCell.rd0 hx1 (by decide) (by decide) rfl)) trivial rfl rfl ?_
      refine .n (.alloc zr_30) trivial rfl rfl fun B1 => ?_
      refine .y (.assign rfl) trivial rfl rfl ?_
      refine .cons trivial (.store 0 rfl rfl rfl sz_30 rfl rfl (Nat.le_of_ble_eq_true rfl) rfl ?_)
      refine .nil ?_
      refine .seq ?_
      refine .seq ?_
      refine .region ?_
      refine .y (.move rfl) trivial rfl rfl ?_
      refine .y (.len rfl sl_22) trivial rfl rfl ?_
      refine .y (.move rfl) trivial rfl rfl ?_
      refine .y (.len rfl sl_22) trivial rfl rfl ?_
      refine .y (.add rfl rfl (by omega)) trivial rfl rfl ?_
      refine .y (.move rfl) trivial rfl rfl ?_
      refine .y (.sub rfl rfl (by omega)) trivial rfl rfl ?_
      refine .y (.load rfl (.boxG 1 rfl) ag_22 sz_22 rfl) trivial rfl rfl ?_
      refine .y (.len rfl sl_22) trivial rfl rfl ?_
      refine .y (.leq rfl rfl) trivial rfl rfl ?_
      refine .nil ?_
      refine .ite rfl (fun h3 => ?_) (fun h3 => ?_)
      · refine .ret ?_
        refine ⟨.inr rfl, _, _, (.boxG (.pick 1 rfl (.nil _))), fun own' ho => .zero rfl, ?_⟩
        rw [scat_stop hP0.2 hx1 h3]; exact ⟨rfl, rfl⟩
      · refine .skip ?_
        refine .seq ?_
        refine .region ?_
        refine .y (.move rfl) trivial rfl rfl ?_
        refine .y (.move rfl) trivial rfl rfl ?_
        refine .y (.add rfl rfl (by omega)) trivial rfl rfl ?_
        refine .y (.to (v' := .slice (if fc = i + 1 then fa else dropA fa ((i + 1) * 2)) ((left.drop (i + 1)).length) (fc - (i + 1))) (.sliceLo rfl rfl sl_22 sz_30 ⟨by omega, by omega⟩) (by rw [List.length_drop]; rfl)) trivial rfl rfl ?_
        refine .c (.call rfl rfl fn_60) trivial rfl rfl (fun own ho hd => cloneeCell_ct _ (xs := left.drop (i + 1)) (SlR.up (hf.drop (i + 1) hfc)) (by first | assumption | exact .nil | exact .some | exact .drop (by assumption)) (by first | omega | (simp; omega) | (simp [*]; omega))) ?_
        rintro _ _ ⟨a'1, c'1, rfl, rfl, hf1⟩
        refine .y (.makeFunc rfl rfl) trivial rfl rfl ?_
        refine .cm (l := [SlO eCell 30 a'1 c'1 (left.drop (i + 1))]) (.pick 0 rfl (.refl _)) (.call rfl rfl fn_59) trivial rfl rfl (fun own ho hd => deleteFunc_ct _ fn_61 (fun g' hg z_ hz_ => scat1_ct g' (hg _ _ (one_in 0 rfl ho hd)) (hg _ _ (Hp.up hD)) (hsm _ (List.mem_of_mem_drop hz_)) (hsm _ (List.mem_of_getElem? (by assumption))) hr) (by first | omega | (simp; omega) | exact Nat.le_trans (membI_len _) (by decide) | (simp [*]; done) | (simp [*]; omega))) ?_
        rintro _ _ ⟨rfl, rfl⟩
        refine .y (.assign rfl) trivial rfl rfl ?_
        refine .pure 0 rfl (fun h hh => SlO.len hh) (fun hlen2 => ?_)
        have hlen0 : ((left.drop (i + 1)).filter fun z_ => !decide (dist z_ x1 ≤ 2 * (r : Int))).length ≤ left.length - (i + 1) := Nat.le_trans (List.length_filter_le _ _) (by rw [List.length_drop]; exact Nat.le_refl _)
        have hlen1 : ((left.drop (i + 1)).filter fun z_ => !decide (dist z_ x1 ≤ 2 * (r : Int))).length ≤ n - 1 := by omega
        have hlen3 : (l ++ [x1]).length + ((left.drop (i + 1)).filter fun z_ => !decide (dist z_ x1 ≤ 2 * (r : Int))).length ≤ 50 := by rw [List.length_append, List.length_singleton]; omega
        have hsm2 : ∀ x ∈ ((left.drop (i + 1)).filter fun z_ => !decide (dist z_ x1 ≤ 2 * (r : Int))), Sm x := fun x hx => hsm x (List.mem_of_mem_drop (List.mem_filter.1 hx).1)
        refine .nil ?_
        refine T.any #[false, false, false, false, false, false, false, false] rfl 8 rfl flw ?_
        refine .use fun F hF => ?_
        have s2_255 : ∀ (a'_2 : Option Addr) (c'_2 : Nat) (hf_2 : SlOk a'_2 c'_2) (B_4 : Nat) (a_5 : Option Addr) (c_5 : Nat) (oka_5 : SlOk a_5 c_5), F 0 #[true, true, true, true, true, true, true, true] [(0, .slice la l.length lc), (1, .slice fa left.length fc), (2, .pointer (some ⟨B, 0, none⟩)), (3, .pointer (some ⟨D, 0, none⟩)), (4, .pointer (some ⟨M, 0, none⟩)), (16, .slice fa left.length fc), (17, .int .i64 (left.length : Int)), (18, .int .i64 (i : Int))] [BoxG eCell g 22 B (scatF (r : Int) (n - 1) (l ++ ([x1])) ((left.drop (i + 1)).filter (fun x => !(fun z_ => decide (dist z_ x1 ≤ 2 * (r : Int))) x)) bst), As.one B_4 (.cells #[.int .i64 x1.col, .int .i64 x1.row] 30 (0, 0)), As.one B1 (.cells #[.int .i64 x1.col, .int .i64 x1.row] 30 (0, 0))] := by
          intro a'_2 c'_2 hf_2 B_4 a_5 c_5 oka_5
          subst hF
          refine .done (by kernel_rfl) ?_
          refine .region ?_
          refine .y (.add rfl rfl (by omega)) trivial rfl rfl ?_
          refine .y (.move rfl) trivial rfl rfl ?_
          refine .nil ?_
          refine ⟨⟨(i + 1, scatF (r : Int) (n - 1) (l ++ ([x1])) ((left.drop (i + 1)).filter (fun x => !(fun z_ => decide (dist z_ x1 ≤ 2 * (r : Int))) x)) bst), ?_⟩, ?_, (.one rfl (.one rfl (.one rfl (.one rfl (.one rfl (.one rfl (.one rfl (.one rfl (.nil))))))))), (.pick 0 rfl (.nil _))⟩
          · exact ⟨by omega, scat_go (by omega) hP0.2 hx1 h3⟩
          · show left.length - (i + 1) < left.length - i; omega
        have s2_127 : ∀ (a'_2 : Option Addr) (c'_2 : Nat) (hf_2 : SlOk a'_2 c'_2) (B_4 : Nat) (a_5 : Option Addr) (c_5 : Nat) (oka_5 : SlOk a_5 c_5), F 1 #[true, true, true, true, true, true, true, false] [(0, .slice la l.length lc), (1, .slice fa left.length fc), (2, .pointer (some ⟨B, 0, none⟩)), (3, .pointer (some ⟨D, 0, none⟩)), (4, .pointer (some ⟨M, 0, none⟩)), (16, .slice fa left.length fc), (17, .int .i64 (left.length : Int)), (18, .int .i64 (i : Int)), (40, .func (.func 58) #[] #[.pointer (some ⟨B, 0, none⟩), .pointer (some ⟨D, 0, none⟩), .pointer (some ⟨M, 0, none⟩)]), (45, .slice a_5 ((l ++ ([x1])).length) c_5), (46, .slice a'1 (((left.drop (i + 1)).filter (fun x => !(fun z_ => decide (dist z_ x1 ≤ 2 * (r : Int))) x)).length) c'1)] [As.one B_4 (.cells #[.int .i64 x1.col, .int .i64 x1.row] 30 (0, 0)), SlO eCell 30 a_5 c_5 (l ++ ([x1])), SlO eCell 30 a'1 c'1 ((left.drop (i + 1)).filter (fun x => !(fun z_ => decide (dist z_ x1 ≤ 2 * (r : Int))) x)), As.one B1 (.cells #[.int .i64 x1.col, .int .i64 x1.row] 30 (0, 0)), BoxGo eCell g 22 B a1 c1 bst] := by
          intro a'_2 c'_2 hf_2 B_4 a_5 c_5 oka_5
          subst hF
          refine .step (l := [7]) (by kernel_rfl) (by decide) ⟨.run rfl trivial ?_, trivial⟩
          · refine .rsub (.boxG (.pick 4 rfl (.pick 1 rfl (.pick 1 rfl (.refl _))))) (.cm (l := [BoxG eCell g 22 B bst, SlO eCell 30 a_5 c_5 (l ++ ([x1])), SlO eCell 30 a'1 c'1 ((left.drop (i + 1)).filter (fun x => !(fun z_ => decide (dist z_ x1 ≤ 2 * (r : Int))) x))]) (.call rfl rfl fn_58) rfl rfl (fun own ho hd => Ct.absorb (fun o ho2 hd2 => IH (n - 1) (by omega) _ (fun B x h => Hp.up h) _ _ _ _ _ _ _ (SlAt.in_own (X := { P := Tryz.prog, g := g, ro := none, n0 := 0, N := 0 }) 0 rfl ho2 hd2) (SlAt.in_own (X := { P := Tryz.prog, g := g, ro := none, n0 := 0, N := 0 }) 1 rfl ho2 hd2) (by assumption) (by assumption) hlen1 hlen2 hlen3 hsm2 (own_cap 0 rfl ho2))) ?_)
            rintro _ _ ⟨rfl, rfl⟩
            exact .weak (.one rfl (.one rfl (.one rfl (.one rfl (.one rfl (.one rfl (.one rfl (.one rfl (.nil))))))))) (.refl _) (s2_255 a'_2 c'_2 hf_2 B_4 a_5 c_5 oka_5)
        have s2_63 : ∀ (a'_2 : Option Addr) (c'_2 : Nat) (hf_2 : SlOk a'_2 c'_2) (B_4 : Nat) (a_5 : Option Addr) (c_5 : Nat) (oka_5 : SlOk a_5 c_5), F 2 #[true, true, true, true, true, true, false, false] [(0, .slice la l.length lc), (1, .slice fa left.length fc), (2, .pointer (some ⟨B, 0, none⟩)), (3, .pointer (some ⟨D, 0, none⟩)), (4, .pointer (some ⟨M, 0, none⟩)), (9, .slice a'1 (((left.drop (i + 1)).filter (fun x => !(fun z_ => decide (dist z_ x1 ≤ 2 * (r : Int))) x)).length) c'1), (16, .slice fa left.length fc), (17, .int .i64 (left.length : Int)), (18, .int .i64 (i : Int)), (40, .func (.func 58) #[] #[.pointer (some ⟨B, 0, none⟩), .pointer (some ⟨D, 0, none⟩), .pointer (some ⟨M, 0, none⟩)]), (45, .slice a_5 ((l ++ ([x1])).length) c_5)] [As.one B_4 (.cells #[.int .i64 x1.col, .int .i64 x1.row] 30 (0, 0)), SlO eCell 30 a_5 c_5 (l ++ ([x1])), SlO eCell 30 a'1 c'1 ((left.drop (i + 1)).filter (fun x => !(fun z_ => decide (dist z_ x1 ≤ 2 * (r : Int))) x)), As.one B1 (.cells #[.int .i64 x1.col, .int .i64 x1.row] 30 (0, 0)), BoxGo eCell g 22 B a1 c1 bst] := by
          intro a'_2 c'_2 hf_2 B_4 a_5 c_5 oka_5
          subst hF
          refine .step (l := [6]) (by kernel_rfl) (by decide) ⟨.run rfl trivial ?_, trivial⟩
          · refine .y (.move rfl) rfl rfl ?_
            exact .weak (.one rfl (.one rfl (.one rfl (.one rfl (.one rfl (.one rfl (.one rfl (.one rfl (.one rfl (.one rfl (.one rfl (.nil)))))))))))) (.refl _) (s2_127 a'_2 c'_2 hf_2 B_4 a_5 c_5 oka_5)
        have s2_95 : ∀ (a'_2 : Option Addr) (c'_2 : Nat) (hf_2 : SlOk a'_2 c'_2) (B_4 : Nat), F 2 #[true, true, true, true, true, false, true, false] [(0, .slice la l.length lc), (1, .slice fa left.length fc), (2, .pointer (some ⟨B, 0, none⟩)), (3, .pointer (some ⟨D, 0, none⟩)), (4, .pointer (some ⟨M, 0, none⟩)), (16, .slice fa left.length fc), (17, .int .i64 (left.length : Int)), (18, .int .i64 (i : Int)), (40, .func (.func 58) #[] #[.pointer (some ⟨B, 0, none⟩), .pointer (some ⟨D, 0, none⟩), .pointer (some ⟨M, 0, none⟩)]), (42, .slice a'_2 l.length c'_2), (44, .slice (some ⟨B_4, 0, none⟩) 1 1), (46, .slice a'1 (((left.drop (i + 1)).filter (fun x => !(fun z_ => decide (dist z_ x1 ≤ 2 * (r : Int))) x)).length) c'1)] [As.one B_4 (.cells #[.int .i64 x1.col, .int .i64 x1.row] 30 (0, 0)), SlO eCell 30 a'_2 c'_2 l, SlO eCell 30 a'1 c'1 ((left.drop (i + 1)).filter (fun x => !(fun z_ => decide (dist z_ x1 ≤ 2 * (r : Int))) x)), As.one B1 (.cells #[.int .i64 x1.col, .int .i64 x1.row] 30 (0, 0)), BoxGo eCell g 22 B a1 c1 bst] := by
          intro a'_2 c'_2 hf_2 B_4
          subst hF
          refine .step (l := [5]) (by kernel_rfl) (by decide) ⟨.run rfl trivial ?_, trivial⟩
          · refine .app (E := eCell) (ys := [x1]) 1 el_22 rfl rfl rfl rfl rfl (.of_cells (.own 0 rfl)) (fun h => by cases h) (by first | omega | (simp; omega) | (simp [*]; omega)) (by first | omega | (simp; omega) | (simp [*]; omega)) rfl fun a_5 c_5 oka_5 => ?_
            exact .weak (.one rfl (.one rfl (.one rfl (.one rfl (.one rfl (.one rfl (.one rfl (.one rfl (.one rfl (.one rfl (.one rfl (.nil)))))))))))) (.refl _) (s2_127 a'_2 c'_2 hf_2 B_4 a_5 c_5 oka_5)
        have s2_126 : ∀ (a'_2 : Option Addr) (c'_2 : Nat) (hf_2 : SlOk a'_2 c'_2) (B_4 : Nat) (a_5 : Option Addr) (c_5 : Nat) (oka_5 : SlOk a_5 c_5), F 2 #[false, true, true, true, true, true, true, false] [(0, .slice la l.length lc), (1, .slice fa left.length fc), (2, .pointer (some ⟨B, 0, none⟩)), (3, .pointer (some ⟨D, 0, none⟩)), (4, .pointer (some ⟨M, 0, none⟩)), (16, .slice fa left.length fc), (17, .int .i64 (left.length : Int)), (18, .int .i64 (i : Int)), (45, .slice a_5 ((l ++ ([x1])).length) c_5), (46, .slice a'1 (((left.drop (i + 1)).filter (fun x => !(fun z_ => decide (dist z_ x1 ≤ 2 * (r : Int))) x)).length) c'1)] [As.one B_4 (.cells #[.int .i64 x1.col, .int .i64 x1.row] 30 (0, 0)), SlO eCell 30 a_5 c_5 (l ++ ([x1])), SlO eCell 30 a'1 c'1 ((left.drop (i + 1)).filter (fun x => !(fun z_ => decide (dist z_ x1 ≤ 2 * (r : Int))) x)), As.one B1 (.cells #[.int .i64 x1.col, .int .i64 x1.row] 30 (0, 0)), BoxGo eCell g 22 B a1 c1 bst] := by
          intro a'_2 c'_2 hf_2 B_4 a_5 c_5 oka_5
          subst hF
          refine .step (l := [0]) (by kernel_rfl) (by decide) ⟨.run rfl trivial ?_, trivial⟩
          · refine .y (.load rfl (.g hM) ag_100 sz_100 rfl) rfl rfl ?_
            exact .weak (.one rfl (.one rfl (.one rfl (.one rfl (.one rfl (.one rfl (.one rfl (.one rfl (.one rfl (.one rfl (.one rfl (.nil)))))))))))) (.refl _) (s2_127 a'_2 c'_2 hf_2 B_4 a_5 c_5 oka_5)
        have s2_31 : ∀ (a'_2 : Option Addr) (c'_2 : Nat) (hf_2 : SlOk a'_2 c'_2) (B_4 : Nat), F 3 #[true, true, true, true, true, false, false, false] [(0, .slice la l.length lc), (1, .slice fa left.length fc), (2, .pointer (some ⟨B, 0, none⟩)), (3, .pointer (some ⟨D, 0, none⟩)), (4, .pointer (some ⟨M, 0, none⟩)), (9, .slice a'1 (((left.drop (i + 1)).filter (fun x => !(fun z_ => decide (dist z_ x1 ≤ 2 * (r : Int))) x)).length) c'1), (16, .slice fa left.length fc), (17, .int .i64 (left.length : Int)), (18, .int .i64 (i : Int)), (40, .func (.func 58) #[] #[.pointer (some ⟨B, 0, none⟩), .pointer (some ⟨D, 0, none⟩), .pointer (some ⟨M, 0, none⟩)]), (42, .slice a'_2 l.length c'_2), (44, .slice (some ⟨B_4, 0, none⟩) 1 1)] [As.one B_4 (.cells #[.int .i64 x1.col, .int .i64 x1.row] 30 (0, 0)), SlO eCell 30 a'_2 c'_2 l, SlO eCell 30 a'1 c'1 ((left.drop (i + 1)).filter (fun x => !(fun z_ => decide (dist z_ x1 ≤ 2 * (r : Int))) x)), As.one B1 (.cells #[.int .i64 x1.col, .int .i64 x1.row] 30 (0, 0)), BoxGo eCell g 22 B a1 c1 bst] := by
          intro a'_2 c'_2 hf_2 B_4
          subst hF
          refine .step (l := [5, 6]) (by kernel_rfl) (by decide) ⟨.run rfl trivial ?_, .run rfl trivial ?_, trivial⟩
          · refine .app (E := eCell) (ys := [x1]) 1 el_22 rfl rfl rfl rfl rfl (.of_cells (.own 0 rfl)) (fun h => by cases h) (by first | omega | (simp; omega) | (simp [*]; omega)) (by first | omega | (simp; omega) | (simp [*]; omega)) rfl fun a_5 c_5 oka_5 => ?_
            exact .weak (.one rfl (.one rfl (.one rfl (.one rfl (.one rfl (.one rfl (.one rfl (.one rfl (.one rfl (.one rfl (.one rfl (.nil)))))))))))) (.refl _) (s2_63 a'_2 c'_2 hf_2 B_4 a_5 c_5 oka_5)
          · refine .y (.move rfl) rfl rfl ?_
            exact .weak (.one rfl (.one rfl (.one rfl (.one rfl (.one rfl (.one rfl (.one rfl (.one rfl (.one rfl (.one rfl (.one rfl (.one rfl (.nil))))))))))))) (.refl _) (s2_95 a'_2 c'_2 hf_2 B_4)
        have s2_79 : ∀ (a'_2 : Option Addr) (c'_2 : Nat) (hf_2 : SlOk a'_2 c'_2), F 3 #[true, true, true, true, false, false, true, false] [(0, .slice la l.length lc), (1, .slice fa left.length fc), (2, .pointer (some ⟨B, 0, none⟩)), (3, .pointer (some ⟨D, 0, none⟩)), (4, .pointer (some ⟨M, 0, none⟩)), (16, .slice fa left.length fc), (17, .int .i64 (left.length : Int)), (18, .int .i64 (i : Int)), (40, .func (.func 58) #[] #[.pointer (some ⟨B, 0, none⟩), .pointer (some ⟨D, 0, none⟩), .pointer (some ⟨M, 0, none⟩)]), (42, .slice a'_2 l.length c'_2), (43, .agg #[.int .i64 x1.col, .int .i64 x1.row]), (46, .slice a'1 (((left.drop (i + 1)).filter (fun x => !(fun z_ => decide (dist z_ x1 ≤ 2 * (r : Int))) x)).length) c'1)] [SlO eCell 30 a'_2 c'_2 l, SlO eCell 30 a'1 c'1 ((left.drop (i + 1)).filter (fun x => !(fun z_ => decide (dist z_ x1 ≤ 2 * (r : Int))) x)), As.one B1 (.cells #[.int .i64 x1.col, .int .i64 x1.row] 30 (0, 0)), BoxGo eCell g 22 B a1 c1 bst] := by
          intro a'_2 c'_2 hf_2
          subst hF
          refine .step (l := [4]) (by kernel_rfl) (by decide) ⟨.run rfl trivial ?_, trivial⟩
          · refine .n (.lit #[.int .i64 0, .int .i64 0] lz_30_1 rfl sl_22 sz_30 zr_30 rfl rfl rfl) rfl rfl fun B_4 => ?_
            exact .weak (.one rfl (.one rfl (.one rfl (.one rfl (.one rfl (.one rfl (.one rfl (.one rfl (.one rfl (.one rfl (.one rfl (.one rfl (.nil))))))))))))) (.refl _) (s2_95 a'_2 c'_2 hf_2 B_4)
        have s2_91 : ∀ (B_4 : Nat), F 3 #[true, true, false, true, true, false, true, false] [(0, .slice la l.length lc), (1, .slice fa left.length fc), (2, .pointer (some ⟨B, 0, none⟩)), (3, .pointer (some ⟨D, 0, none⟩)), (4, .pointer (some ⟨M, 0, none⟩)), (16, .slice fa left.length fc), (17, .int .i64 (left.length : Int)), (18, .int .i64 (i : Int)), (40, .func (.func 58) #[] #[.pointer (some ⟨B, 0, none⟩), .pointer (some ⟨D, 0, none⟩), .pointer (some ⟨M, 0, none⟩)]), (41, .slice la l.length lc), (44, .slice (some ⟨B_4, 0, none⟩) 1 1), (46, .slice a'1 (((left.drop (i + 1)).filter (fun x => !(fun z_ => decide (dist z_ x1 ≤ 2 * (r : Int))) x)).length) c'1)] [As.one B_4 (.cells #[.int .i64 x1.col, .int .i64 x1.row] 30 (0, 0)), SlO eCell 30 a'1 c'1 ((left.drop (i + 1)).filter (fun x => !(fun z_ => decide (dist z_ x1 ≤ 2 * (r : Int))) x)), As.one B1 (.cells #[.int .i64 x1.col, .int .i64 x1.row] 30 (0, 0)), BoxGo eCell g 22 B a1 c1 bst] := by
          intro B_4
          subst hF
          refine .step (l := [2]) (by kernel_rfl) (by decide) ⟨.run rfl trivial ?_, trivial⟩
          · refine .c (.call rfl rfl fn_60) rfl rfl (fun own ho hd => cloneeCell_ct _ (xs := l) (SlR.up hl) (by first | assumption | exact .nil | exact .some | exact .drop (by assumption)) (by first | omega | (simp; omega) | (simp [*]; omega))) ?_
            rintro _ _ ⟨a'_2, c'_2, rfl, rfl, hf_2⟩
            exact .weak (.one rfl (.one rfl (.one rfl (.one rfl (.one rfl (.one rfl (.one rfl (.one rfl (.one rfl (.one rfl (.one rfl (.one rfl (.nil))))))))))))) (.pick 1 rfl (.refl _)) (s2_95 a'_2 c'_2 hf_2 B_4)
        have s2_62 : ∀ (a'_2 : Option Addr) (c'_2 : Nat) (hf_2 : SlOk a'_2 c'_2) (B_4 : Nat) (a_5 : Option Addr) (c_5 : Nat) (oka_5 : SlOk a_5 c_5), F 3 #[false, true, true, true, true, true, false, false] [(0, .slice la l.length lc), (1, .slice fa left.length fc), (2, .pointer (some ⟨B, 0, none⟩)), (3, .pointer (some ⟨D, 0, none⟩)), (4, .pointer (some ⟨M, 0, none⟩)), (9, .slice a'1 (((left.drop (i + 1)).filter (fun x => !(fun z_ => decide (dist z_ x1 ≤ 2 * (r : Int))) x)).length) c'1), (16, .slice fa left.length fc), (17, .int .i64 (left.length : Int)), (18, .int .i64 (i : Int)), (45, .slice a_5 ((l ++ ([x1])).length) c_5)] [As.one B_4 (.cells #[.int .i64 x1.col, .int .i64 x1.row] 30 (0, 0)), SlO eCell 30 a_5 c_5 (l ++ ([x1])), SlO eCell 30 a'1 c'1 ((left.drop (i + 1)).filter (fun x => !(fun z_ => decide (dist z_ x1 ≤ 2 * (r : Int))) x)), As.one B1 (.cells #[.int .i64 x1.col, .int .i64 x1.row] 30 (0, 0)), BoxGo eCell g 22 B a1 c1 bst] := by
          intro a'_2 c'_2 hf_2 B_4 a_5 c_5 oka_5
          subst hF
          refine .step (l := [0, 6]) (by kernel_rfl) (by decide) ⟨.run rfl trivial ?_, .run rfl trivial ?_, trivial⟩
          · refine .y (.load rfl (.g hM) ag_100 sz_100 rfl) rfl rfl ?_
            exact .weak (.one rfl (.one rfl (.one rfl (.one rfl (.one rfl (.one rfl (.one rfl (.one rfl (.one rfl (.one rfl (.one rfl (.nil)))))))))))) (.refl _) (s2_63 a'_2 c'_2 hf_2 B_4 a_5 c_5 oka_5)
          · refine .y (.move rfl) rfl rfl ?_
            exact .weak (.one rfl (.one rfl (.one rfl (.one rfl (.one rfl (.one rfl (.one rfl (.one rfl (.one rfl (.one rfl (.nil))))))))))) (.refl _) (s2_126 a'_2 c'_2 hf_2 B_4 a_5 c_5 oka_5)
        have s2_94 : ∀ (a'_2 : Option Addr) (c'_2 : Nat) (hf_2 : SlOk a'_2 c'_2) (B_4 : Nat), F 3 #[false, true, true, true, true, false, true, false] [(0, .slice la l.length lc), (1, .slice fa left.length fc), (2, .pointer (some ⟨B, 0, none⟩)), (3, .pointer (some ⟨D, 0, none⟩)), (4, .pointer (some ⟨M, 0, none⟩)), (16, .slice fa left.length fc), (17, .int .i64 (left.length : Int)), (18, .int .i64 (i : Int)), (42, .slice a'_2 l.length c'_2), (44, .slice (some ⟨B_4, 0, none⟩) 1 1), (46, .slice a'1 (((left.drop (i + 1)).filter (fun x => !(fun z_ => decide (dist z_ x1 ≤ 2 * (r : Int))) x)).length) c'1)] [As.one B_4 (.cells #[.int .i64 x1.col, .int .i64 x1.row] 30 (0, 0)), SlO eCell 30 a'_2 c'_2 l, SlO eCell 30 a'1 c'1 ((left.drop (i + 1)).filter (fun x => !(fun z_ => decide (dist z_ x1 ≤ 2 * (r : Int))) x)), As.one B1 (.cells #[.int .i64 x1.col, .int .i64 x1.row] 30 (0, 0)), BoxGo eCell g 22 B a1 c1 bst] := by
          intro a'_2 c'_2 hf_2 B_4
          subst hF
          refine .step (l := [0, 5]) (by kernel_rfl) (by decide) ⟨.run rfl trivial ?_, .run rfl trivial ?_, trivial⟩
          · refine .y (.load rfl (.g hM) ag_100 sz_100 rfl) rfl rfl ?_
            exact .weak (.one rfl (.one rfl (.one rfl (.one rfl (.one rfl (.one rfl (.one rfl (.one rfl (.one rfl (.one rfl (.one rfl (.one rfl (.nil))))))))))))) (.refl _) (s2_95 a'_2 c'_2 hf_2 B_4)
          · refine .app (E := eCell) (ys := [x1]) 1 el_22 rfl rfl rfl rfl rfl (.of_cells (.own 0 rfl)) (fun h => by cases h) (by first | omega | (simp; omega) | (simp [*]; omega)) (by first | omega | (simp; omega) | (simp [*]; omega)) rfl fun a_5 c_5 oka_5 => ?_
            exact .weak (.one rfl (.one rfl (.one rfl (.one rfl (.one rfl (.one rfl (.one rfl (.one rfl (.one rfl (.one rfl (.nil))))))))))) (.refl _) (s2_126 a'_2 c'_2 hf_2 B_4 a_5 c_5 oka_5)
        have s2_15 : ∀ (a'_2 : Option Addr) (c'_2 : Nat) (hf_2 : SlOk a'_2 c'_2), F 4 #[true, true, true, true, false, false, false, false] [(0, .slice la l.length lc), (1, .slice fa left.length fc), (2, .pointer (some ⟨B, 0, none⟩)), (3, .pointer (some ⟨D, 0, none⟩)), (4, .pointer (some ⟨M, 0, none⟩)), (9, .slice a'1 (((left.drop (i + 1)).filter (fun x => !(fun z_ => decide (dist z_ x1 ≤ 2 * (r : Int))) x)).length) c'1), (16, .slice fa left.length fc), (17, .int .i64 (left.length : Int)), (18, .int .i64 (i : Int)), (40, .func (.func 58) #[] #[.pointer (some ⟨B, 0, none⟩), .pointer (some ⟨D, 0, none⟩), .pointer (some ⟨M, 0, none⟩)]), (42, .slice a'_2 l.length c'_2), (43, .agg #[.int .i64 x1.col, .int .i64 x1.row])] [SlO eCell 30 a'_2 c'_2 l, SlO eCell 30 a'1 c'1 ((left.drop (i + 1)).filter (fun x => !(fun z_ => decide (dist z_ x1 ≤ 2 * (r : Int))) x)), As.one B1 (.cells #[.int .i64 x1.col, .int .i64 x1.row] 30 (0, 0)), BoxGo eCell g 22 B a1 c1 bst] := by
          intro a'_2 c'_2 hf_2
          subst hF
          refine .step (l := [4, 6]) (by kernel_rfl) (by decide) ⟨.run rfl trivial ?_, .run rfl trivial ?_, trivial⟩
          · refine .n (.lit #[.int .i64 0, .int .i64 0] lz_30_1 rfl sl_22 sz_30 zr_30 rfl rfl rfl) rfl rfl fun B_4 => ?_
            exact .weak (.one rfl (.one rfl (.one rfl (.one rfl (.one rfl (.one rfl (.one rfl (.one rfl (.one rfl (.one rfl (.one rfl (.one rfl (.nil))))))))))))) (.refl _) (s2_31 a'_2 c'_2 hf_2 B_4)
          · refine .y (.move rfl) rfl rfl ?_
            exact .weak (.one rfl (.one rfl (.one rfl (.one rfl (.one rfl (.one rfl (.one rfl (.one rfl (.one rfl (.one rfl (.one rfl (.one rfl (.nil))))))))))))) (.refl _) (s2_79 a'_2 c'_2 hf_2)
        have s2_71 : ∀ (a'_2 : Option Addr) (c'_2 : Nat) (hf_2 : SlOk a'_2 c'_2), F 4 #[true, true, true, false, false, false, true, false] [(0, .slice la l.length lc), (1, .slice fa left.length fc), (2, .pointer (some ⟨B, 0, none⟩)), (3, .pointer (some ⟨D, 0, none⟩)), (4, .pointer (some ⟨M, 0, none⟩)), (8, .pointer (some ⟨B1, 0, none⟩)), (16, .slice fa left.length fc), (17, .int .i64 (left.length : Int)), (18, .int .i64 (i : Int)), (40, .func (.func 58) #[] #[.pointer (some ⟨B, 0, none⟩), .pointer (some ⟨D, 0, none⟩), .pointer (some ⟨M, 0, none⟩)]), (42, .slice a'_2 l.length c'_2), (46, .slice a'1 (((left.drop (i + 1)).filter (fun x => !(fun z_ => decide (dist z_ x1 ≤ 2 * (r : Int))) x)).length) c'1)] [SlO eCell 30 a'_2 c'_2 l, SlO eCell 30 a'1 c'1 ((left.drop (i + 1)).filter (fun x => !(fun z_ => decide (dist z_ x1 ≤ 2 * (r : Int))) x)), As.one B1 (.cells #[.int .i64 x1.col, .int .i64 x1.row] 30 (0, 0)), BoxGo eCell g 22 B a1 c1 bst] := by
          intro a'_2 c'_2 hf_2
          subst hF
          refine .step (l := [3]) (by kernel_rfl) (by decide) ⟨.run rfl trivial ?_, trivial⟩
          · refine .y (.load rfl (.own 2 rfl) ag_30 sz_30 rfl) rfl rfl ?_
            exact .weak (.one rfl (.one rfl (.one rfl (.one rfl (.one rfl (.one rfl (.one rfl (.one rfl (.one rfl (.one rfl (.one rfl (.one rfl (.nil))))))))))))) (.refl _) (s2_79 a'_2 c'_2 hf_2)
        have s2_27 : ∀ (B_4 : Nat), F 4 #[true, true, false, true, true, false, false, false] [(0, .slice la l.length lc), (1, .slice fa left.length fc), (2, .pointer (some ⟨B, 0, none⟩)), (3, .pointer (some ⟨D, 0, none⟩)), (4, .pointer (some ⟨M, 0, none⟩)), (9, .slice a'1 (((left.drop (i + 1)).filter (fun x => !(fun z_ => decide (dist z_ x1 ≤ 2 * (r : Int))) x)).length) c'1), (16, .slice fa left.length fc), (17, .int .i64 (left.length : Int)), (18, .int .i64 (i : Int)), (40, .func (.func 58) #[] #[.pointer (some ⟨B, 0, none⟩), .pointer (some ⟨D, 0, none⟩), .pointer (some ⟨M, 0, none⟩)]), (41, .slice la l.length lc), (44, .slice (some ⟨B_4, 0, none⟩) 1 1)] [As.one B_4 (.cells #[.int .i64 x1.col, .int .i64 x1.row] 30 (0, 0)), SlO eCell 30 a'1 c'1 ((left.drop (i + 1)).filter (fun x => !(fun z_ => decide (dist z_ x1 ≤ 2 * (r : Int))) x)), As.one B1 (.cells #[.int .i64 x1.col, .int .i64 x1.row] 30 (0, 0)), BoxGo eCell g 22 B a1 c1 bst] := by
          intro B_4
          subst hF
          refine .step (l := [2, 6]) (by kernel_rfl) (by decide) ⟨.run rfl trivial ?_, .run rfl trivial ?_, trivial⟩
          · refine .c (.call rfl rfl fn_60) rfl rfl (fun own ho hd => cloneeCell_ct _ (xs := l) (SlR.up hl) (by first | assumption | exact .nil | exact .some | exact .drop (by assumption)) (by first | omega | (simp; omega) | (simp [*]; omega))) ?_
            rintro _ _ ⟨a'_2, c'_2, rfl, rfl, hf_2⟩
            exact .weak (.one rfl (.one rfl (.one rfl (.one rfl (.one rfl (.one rfl (.one rfl (.one rfl (.one rfl (.one rfl (.one rfl (.one rfl (.nil))))))))))))) (.pick 1 rfl (.refl _)) (s2_31 a'_2 c'_2 hf_2 B_4)
          · refine .y (.move rfl) rfl rfl ?_
            exact .weak (.one rfl (.one rfl (.one rfl (.one rfl (.one rfl (.one rfl (.one rfl (.one rfl (.one rfl (.one rfl (.one rfl (.one rfl (.nil))))))))))))) (.refl _) (s2_91 B_4)
        have s2_75 : F 4 #[true, true, false, true, false, false, true, false] [(0, .slice la l.length lc), (1, .slice fa left.length fc), (2, .pointer (some ⟨B, 0, none⟩)), (3, .pointer (some ⟨D, 0, none⟩)), (4, .pointer (some ⟨M, 0, none⟩)), (16, .slice fa left.length fc), (17, .int .i64 (left.length : Int)), (18, .int .i64 (i : Int)), (40, .func (.func 58) #[] #[.pointer (some ⟨B, 0, none⟩), .pointer (some ⟨D, 0, none⟩), .pointer (some ⟨M, 0, none⟩)]), (41, .slice la l.length lc), (43, .agg #[.int .i64 x1.col, .int .i64 x1.row]), (46, .slice a'1 (((left.drop (i + 1)).filter (fun x => !(fun z_ => decide (dist z_ x1 ≤ 2 * (r : Int))) x)).length) c'1)] [SlO eCell 30 a'1 c'1 ((left.drop (i + 1)).filter (fun x => !(fun z_ => decide (dist z_ x1 ≤ 2 * (r : Int))) x)), As.one B1 (.cells #[.int .i64 x1.col, .int .i64 x1.row] 30 (0, 0)), BoxGo eCell g 22 B a1 c1 bst] := by
          subst hF
          refine .step (l := [2, 4]) (by kernel_rfl) (by decide) ⟨.run rfl trivial ?_, .run rfl trivial ?_, trivial⟩
          · refine .c (.call rfl rfl fn_60) rfl rfl (fun own ho hd => cloneeCell_ct _ (xs := l) (SlR.up hl) (by first | assumption | exact .nil | exact .some | exact .drop (by assumption)) (by first | omega | (simp; omega) | (simp [*]; omega))) ?_
            rintro _ _ ⟨a'_2, c'_2, rfl, rfl, hf_2⟩
            exact .weak (.one rfl (.one rfl (.one rfl (.one rfl (.one rfl (.one rfl (.one rfl (.one rfl (.one rfl (.one rfl (.one rfl (.one rfl (.nil))))))))))))) (.refl _) (s2_79 a'_2 c'_2 hf_2)
          · refine .n (.lit #[.int .i64 0, .int .i64 0] lz_30_1 rfl sl_22 sz_30 zr_30 rfl rfl rfl) rfl rfl fun B_4 => ?_
            exact .weak (.one rfl (.one rfl (.one rfl (.one rfl (.one rfl (.one rfl (.one rfl (.one rfl (.one rfl (.one rfl (.one rfl (.one rfl (.nil))))))))))))) (.refl _) (s2_91 B_4)
        have s2_89 : ∀ (B_4 : Nat), F 4 #[true, false, false, true, true, false, true, false] [(0, .slice la l.length lc), (1, .slice fa left.length fc), (2, .pointer (some ⟨B, 0, none⟩)), (3, .pointer (some ⟨D, 0, none⟩)), (4, .pointer (some ⟨M, 0, none⟩)), (16, .slice fa left.length fc), (17, .int .i64 (left.length : Int)), (18, .int .i64 (i : Int)), (40, .func (.func 58) #[] #[.pointer (some ⟨B, 0, none⟩), .pointer (some ⟨D, 0, none⟩), .pointer (some ⟨M, 0, none⟩)]), (44, .slice (some ⟨B_4, 0, none⟩) 1 1), (46, .slice a'1 (((left.drop (i + 1)).filter (fun x => !(fun z_ => decide (dist z_ x1 ≤ 2 * (r : Int))) x)).length) c'1)] [As.one B_4 (.cells #[.int .i64 x1.col, .int .i64 x1.row] 30 (0, 0)), SlO eCell 30 a'1 c'1 ((left.drop (i + 1)).filter (fun x => !(fun z_ => decide (dist z_ x1 ≤ 2 * (r : Int))) x)), As.one B1 (.cells #[.int .i64 x1.col, .int .i64 x1.row] 30 (0, 0)), BoxGo eCell g 22 B a1 c1 bst] := by
          intro B_4
          subst hF
          refine .step (l := [1]) (by kernel_rfl) (by decide) ⟨.run rfl trivial ?_, trivial⟩
          · refine .y (.move rfl) rfl rfl ?_
            exact .weak (.one rfl (.one rfl (.one rfl (.one rfl (.one rfl (.one rfl (.one rfl (.one rfl (.one rfl (.one rfl (.one rfl (.one rfl (.nil))))))))))))) (.refl _) (s2_91 B_4)
        have s2_30 : ∀ (a'_2 : Option Addr) (c'_2 : Nat) (hf_2 : SlOk a'_2 c'_2) (B_4 : Nat), F 4 #[false, true, true, true, true, false, false, false] [(0, .slice la l.length lc), (1, .slice fa left.length fc), (2, .pointer (some ⟨B, 0, none⟩)), (3, .pointer (some ⟨D, 0, none⟩)), (4, .pointer (some ⟨M, 0, none⟩)), (9, .slice a'1 (((left.drop (i + 1)).filter (fun x => !(fun z_ => decide (dist z_ x1 ≤ 2 * (r : Int))) x)).length) c'1), (16, .slice fa left.length fc), (17, .int .i64 (left.length : Int)), (18, .int .i64 (i : Int)), (42, .slice a'_2 l.length c'_2), (44, .slice (some ⟨B_4, 0, none⟩) 1 1)] [As.one B_4 (.cells #[.int .i64 x1.col, .int .i64 x1.row] 30 (0, 0)), SlO eCell 30 a'_2 c'_2 l, SlO eCell 30 a'1 c'1 ((left.drop (i + 1)).filter (fun x => !(fun z_ => decide (dist z_ x1 ≤ 2 * (r : Int))) x)), As.one B1 (.cells #[.int .i64 x1.col, .int .i64 x1.row] 30 (0, 0)), BoxGo eCell g 22 B a1 c1 bst] := by
          intro a'_2 c'_2 hf_2 B_4
          subst hF
          refine .step (l := [0, 5, 6]) (by kernel_rfl) (by decide) ⟨.run rfl trivial ?_, .run rfl trivial ?_, .run rfl trivial ?_, trivial⟩
          · refine .y (.load rfl (.g hM) ag_100 sz_100 rfl) rfl rfl ?_
            exact .weak (.one rfl (.one rfl (.one rfl (.one rfl (.one rfl (.one rfl (.one rfl (.one rfl (.one rfl (.one rfl (.one rfl (.one rfl (.nil))))))))))))) (.refl _) (s2_31 a'_2 c'_2 hf_2 B_4)
          · refine .app (E := eCell) (ys := [x1]) 1 el_22 rfl rfl rfl rfl rfl (.of_cells (.own 0 rfl)) (fun h => by cases h) (by first | omega | (simp; omega) | (simp [*]; omega)) (by first | omega | (simp; omega) | (simp [*]; omega)) rfl fun a_5 c_5 oka_5 => ?_
            exact .weak (.one rfl (.one rfl (.one rfl (.one rfl (.one rfl (.one rfl (.one rfl (.one rfl (.one rfl (.one rfl (.nil))))))))))) (.refl _) (s2_62 a'_2 c'_2 hf_2 B_4 a_5 c_5 oka_5)
          · refine .y (.move rfl) rfl rfl ?_
            exact .weak (.one rfl (.one rfl (.one rfl (.one rfl (.one rfl (.one rfl (.one rfl (.one rfl (.one rfl (.one rfl (.one rfl (.nil)))))))))))) (.refl _) (s2_94 a'_2 c'_2 hf_2 B_4)
        have s2_78 : ∀ (a'_2 : Option Addr) (c'_2 : Nat) (hf_2 : SlOk a'_2 c'_2), F 4 #[false, true, true, true, false, false, true, false] [(0, .slice la l.length lc), (1, .slice fa left.length fc), (2, .pointer (some ⟨B, 0, none⟩)), (3, .pointer (some ⟨D, 0, none⟩)), (4, .pointer (some ⟨M, 0, none⟩)), (16, .slice fa left.length fc), (17, .int .i64 (left.length : Int)), (18, .int .i64 (i : Int)), (42, .slice a'_2 l.length c'_2), (43, .agg #[.int .i64 x1.col, .int .i64 x1.row]), (46, .slice a'1 (((left.drop (i + 1)).filter (fun x => !(fun z_ => decide (dist z_ x1 ≤ 2 * (r : Int))) x)).length) c'1)] [SlO eCell 30 a'_2 c'_2 l, SlO eCell 30 a'1 c'1 ((left.drop (i + 1)).filter (fun x => !(fun z_ => decide (dist z_ x1 ≤ 2 * (r : Int))) x)), As.one B1 (.cells #[.int .i64 x1.col, .int .i64 x1.row] 30 (0, 0)), BoxGo eCell g 22 B a1 c1 bst] := by
          intro a'_2 c'_2 hf_2
          subst hF
          refine .step (l := [0, 4]) (by kernel_rfl) (by decide) ⟨.run rfl trivial ?_, .run rfl trivial ?_, trivial⟩
          · refine .y (.load rfl (.g hM) ag_100 sz_100 rfl) rfl rfl ?_
            exact .weak (.one rfl (.one rfl (.one rfl (.one rfl (.one rfl (.one rfl (.one rfl (.one rfl (.one rfl (.one rfl (.one rfl (.one rfl (.nil))))))))))))) (.refl _) (s2_79 a'_2 c'_2 hf_2)
          · refine .n (.lit #[.int .i64 0, .int .i64 0] lz_30_1 rfl sl_22 sz_30 zr_30 rfl rfl rfl) rfl rfl fun B_4 => ?_
            exact .weak (.one rfl (.one rfl (.one rfl (.one rfl (.one rfl (.one rfl (.one rfl (.one rfl (.one rfl (.one rfl (.one rfl (.nil)))))))))))) (.refl _) (s2_94 a'_2 c'_2 hf_2 B_4)
        have s2_90 : ∀ (B_4 : Nat), F 4 #[false, true, false, true, true, false, true, false] [(0, .slice la l.length lc), (1, .slice fa left.length fc), (2, .pointer (some ⟨B, 0, none⟩)), (3, .pointer (some ⟨D, 0, none⟩)), (4, .pointer (some ⟨M, 0, none⟩)), (16, .slice fa left.length fc), (17, .int .i64 (left.length : Int)), (18, .int .i64 (i : Int)), (41, .slice la l.length lc), (44, .slice (some ⟨B_4, 0, none⟩) 1 1), (46, .slice a'1 (((left.drop (i + 1)).filter (fun x => !(fun z_ => decide (dist z_ x1 ≤ 2 * (r : Int))) x)).length) c'1)] [As.one B_4 (.cells #[.int .i64 x1.col, .int .i64 x1.row] 30 (0, 0)), SlO eCell 30 a'1 c'1 ((left.drop (i + 1)).filter (fun x => !(fun z_ => decide (dist z_ x1 ≤ 2 * (r : Int))) x)), As.one B1 (.cells #[.int .i64 x1.col, .int .i64 x1.row] 30 (0, 0)), BoxGo eCell g 22 B a1 c1 bst] := by
          intro B_4
          subst hF
          refine .step (l := [0, 2]) (by kernel_rfl) (by decide) ⟨.run rfl trivial ?_, .run rfl trivial ?_, trivial⟩
          · refine .y (.load rfl (.g hM) ag_100 sz_100 rfl) rfl rfl ?_
            exact .weak (.one rfl (.one rfl (.one rfl (.one rfl (.one rfl (.one rfl (.one rfl (.one rfl (.one rfl (.one rfl (.one rfl (.one rfl (.nil))))))))))))) (.refl _) (s2_91 B_4)
          · refine .c (.call rfl rfl fn_60) rfl rfl (fun own ho hd => cloneeCell_ct _ (xs := l) (SlR.up hl) (by first | assumption | exact .nil | exact .some | exact .drop (by assumption)) (by first | omega | (simp; omega) | (simp [*]; omega))) ?_
            rintro _ _ ⟨a'_2, c'_2, rfl, rfl, hf_2⟩
            exact .weak (.one rfl (.one rfl (.one rfl (.one rfl (.one rfl (.one rfl (.one rfl (.one rfl (.one rfl (.one rfl (.one rfl (.nil)))))))))))) (.pick 1 rfl (.refl _)) (s2_94 a'_2 c'_2 hf_2 B_4)
        have s2_7 : ∀ (a'_2 : Option Addr) (c'_2 : Nat) (hf_2 : SlOk a'_2 c'_2), F 5 #[true, true, true, false, false, false, false, false] [(0, .slice la l.length lc), (1, .slice fa left.length fc), (2, .pointer (some ⟨B, 0, none⟩)), (3, .pointer (some ⟨D, 0, none⟩)), (4, .pointer (some ⟨M, 0, none⟩)), (8, .pointer (some ⟨B1, 0, none⟩)), (9, .slice a'1 (((left.drop (i + 1)).filter (fun x => !(fun z_ => decide (dist z_ x1 ≤ 2 * (r : Int))) x)).length) c'1), (16, .slice fa left.length fc), (17, .int .i64 (left.length : Int)), (18, .int .i64 (i : Int)), (40, .func (.func 58) #[] #[.pointer (some ⟨B, 0, none⟩), .pointer (some ⟨D, 0, none⟩), .pointer (some ⟨M, 0, none⟩)]), (42, .slice a'_2 l.length c'_2)] [SlO eCell 30 a'_2 c'_2 l, SlO eCell 30 a'1 c'1 ((left.drop (i + 1)).filter (fun x => !(fun z_ => decide (dist z_ x1 ≤ 2 * (r : Int))) x)), As.one B1 (.cells #[.int .i64 x1.col, .int .i64 x1.row] 30 (0, 0)), BoxGo eCell g 22 B a1 c1 bst] := by
          intro a'_2 c'_2 hf_2
          subst hF
          refine .step (l := [3, 6]) (by kernel_rfl) (by decide) ⟨.run rfl trivial ?_, .run rfl trivial ?_, trivial⟩
          · refine .y (.load rfl (.own 2 rfl) ag_30 sz_30 rfl) rfl rfl ?_
            exact .weak (.one rfl (.one rfl (.one rfl (.one rfl (.one rfl (.one rfl (.one rfl (.one rfl (.one rfl (.one rfl (.one rfl (.one rfl (.nil))))))))))))) (.refl _) (s2_15 a'_2 c'_2 hf_2)
          · refine .y (.move rfl) rfl rfl ?_
            exact .weak (.one rfl (.one rfl (.one rfl (.one rfl (.one rfl (.one rfl (.one rfl (.one rfl (.one rfl (.one rfl (.one rfl (.one rfl (.nil))))))))))))) (.refl _) (s2_71 a'_2 c'_2 hf_2)
        have s2_11 : F 5 #[true, true, false, true, false, false, false, false] [(0, .slice la l.length lc), (1, .slice fa left.length fc), (2, .pointer (some ⟨B, 0, none⟩)), (3, .pointer (some ⟨D, 0, none⟩)), (4, .pointer (some ⟨M, 0, none⟩)), (9, .slice a'1 (((left.drop (i + 1)).filter (fun x => !(fun z_ => decide (dist z_ x1 ≤ 2 * (r : Int))) x)).length) c'1), (16, .slice fa left.length fc), (17, .int .i64 (left.length : Int)), (18, .int .i64 (i : Int)), (40, .func (.func 58) #[] #[.pointer (some ⟨B, 0, none⟩), .pointer (some ⟨D, 0, none⟩), .pointer (some ⟨M, 0, none⟩)]), (41, .slice la l.length lc), (43, .agg #[.int .i64 x1.col, .int .i64 x1.row])] [SlO eCell 30 a'1 c'1 ((left.drop (i + 1)).filter (fun x => !(fun z_ => decide (dist z_ x1 ≤ 2 * (r : Int))) x)), As.one B1 (.cells #[.int .i64 x1.col, .int .i64 x1.row] 30 (0, 0)), BoxGo eCell g 22 B a1 c1 bst] := by
          subst hF
          refine .step (l := [2, 4, 6]) (by kernel_rfl) (by decide) ⟨.run rfl trivial ?_, .run rfl trivial ?_, .run rfl trivial ?_, trivial⟩
          · refine .c (.call rfl rfl fn_60) rfl rfl (fun own ho hd => cloneeCell_ct _ (xs := l) (SlR.up hl) (by first | assumption | exact .nil | exact .some | exact .drop (by assumption)) (by first | omega | (simp; omega) | (simp [*]; omega))) ?_
            rintro _ _ ⟨a'_2, c'_2, rfl, rfl, hf_2⟩
            exact .weak (.one rfl (.one rfl (.one rfl (.one rfl (.one rfl (.one rfl (.one rfl (.one rfl (.one rfl (.one rfl (.one rfl (.one rfl (.nil))))))))))))) (.refl _) (s2_15 a'_2 c'_2 hf_2)
          · refine .n (.lit #[.int .i64 0, .int .i64 0] lz_30_1 rfl sl_22 sz_30 zr_30 rfl rfl rfl) rfl rfl fun B_4 => ?_
            exact .weak (.one rfl (.one rfl (.one rfl (.one rfl (.one rfl (.one rfl (.one rfl (.one rfl (.one rfl (.one rfl (.one rfl (.one rfl (.nil))))))))))))) (.refl _) (s2_27 B_4)
          · refine .y (.move rfl) rfl rfl ?_
            exact .weak (.one rfl (.one rfl (.one rfl (.one rfl (.one rfl (.one rfl (.one rfl (.one rfl (.one rfl (.one rfl (.one rfl (.one rfl (.nil))))))))))))) (.refl _) (s2_75)
        have s2_67 : F 5 #[true, true, false, false, false, false, true, false] [(0, .slice la l.length lc), (1, .slice fa left.length fc), (2, .pointer (some ⟨B, 0, none⟩)), (3, .pointer (some ⟨D, 0, none⟩)), (4, .pointer (some ⟨M, 0, none⟩)), (8, .pointer (some ⟨B1, 0, none⟩)), (16, .slice fa left.length fc), (17, .int .i64 (left.length : Int)), (18, .int .i64 (i : Int)), (40, .func (.func 58) #[] #[.pointer (some ⟨B, 0, none⟩), .pointer (some ⟨D, 0, none⟩), .pointer (some ⟨M, 0, none⟩)]), (41, .slice la l.length lc), (46, .slice a'1 (((left.drop (i + 1)).filter (fun x => !(fun z_ => decide (dist z_ x1 ≤ 2 * (r : Int))) x)).length) c'1)] [SlO eCell 30 a'1 c'1 ((left.drop (i + 1)).filter (fun x => !(fun z_ => decide (dist z_ x1 ≤ 2 * (r : Int))) x)), As.one B1 (.cells #[.int .i64 x1.col, .int .i64 x1.row] 30 (0, 0)), BoxGo eCell g 22 B a1 c1 bst] := by
          subst hF
          refine .step (l := [2, 3]) (by kernel_rfl) (by decide) ⟨.run rfl trivial ?_, .run rfl trivial ?_, trivial⟩
          · refine .c (.call rfl rfl fn_60) rfl rfl (fun own ho hd => cloneeCell_ct _ (xs := l) (SlR.up hl) (by first | assumption | exact .nil | exact .some | exact .drop (by assumption)) (by first | omega | (simp; omega) | (simp [*]; omega))) ?_
            rintro _ _ ⟨a'_2, c'_2, rfl, rfl, hf_2⟩
            exact .weak (.one rfl (.one rfl (.one rfl (.one rfl (.one rfl (.one rfl (.one rfl (.one rfl (.one rfl (.one rfl (.one rfl (.one rfl (.nil))))))))))))) (.refl _) (s2_71 a'_2 c'_2 hf_2)
          · refine .y (.load rfl (.own 1 rfl) ag_30 sz_30 rfl) rfl rfl ?_
            exact .weak (.one rfl (.one rfl (.one rfl (.one rfl (.one rfl (.one rfl (.one rfl (.one rfl (.one rfl (.one rfl (.one rfl (.one rfl (.nil))))))))))))) (.refl _) (s2_75)
        have s2_25 : ∀ (B_4 : Nat), F 5 #[true, false, false, true, true, false, false, false] [(0, .slice la l.length lc), (1, .slice fa left.length fc), (2, .pointer (some ⟨B, 0, none⟩)), (3, .pointer (some ⟨D, 0, none⟩)), (4, .pointer (some ⟨M, 0, none⟩)), (9, .slice a'1 (((left.drop (i + 1)).filter (fun x => !(fun z_ => decide (dist z_ x1 ≤ 2 * (r : Int))) x)).length) c'1), (16, .slice fa left.length fc), (17, .int .i64 (left.length : Int)), (18, .int .i64 (i : Int)), (40, .func (.func 58) #[] #[.pointer (some ⟨B, 0, none⟩), .pointer (some ⟨D, 0, none⟩), .pointer (some ⟨M, 0, none⟩)]), (44, .slice (some ⟨B_4, 0, none⟩) 1 1)] [As.one B_4 (.cells #[.int .i64 x1.col, .int .i64 x1.row] 30 (0, 0)), SlO eCell 30 a'1 c'1 ((left.drop (i + 1)).filter (fun x => !(fun z_ => decide (dist z_ x1 ≤ 2 * (r : Int))) x)), As.one B1 (.cells #[.int .i64 x1.col, .int .i64 x1.row] 30 (0, 0)), BoxGo eCell g 22 B a1 c1 bst] := by
          intro B_4
          subst hF
          refine .step (l := [1, 6]) (by kernel_rfl) (by decide) ⟨.run rfl trivial ?_, .run rfl trivial ?_, trivial⟩
          · refine .y (.move rfl) rfl rfl ?_
            exact .weak (.one rfl (.one rfl (.one rfl (.one rfl (.one rfl (.one rfl (.one rfl (.one rfl (.one rfl (.one rfl (.one rfl (.one rfl (.nil))))))))))))) (.refl _) (s2_27 B_4)
          · refine .y (.move rfl) rfl rfl ?_
            exact .weak (.one rfl (.one rfl (.one rfl (.one rfl (.one rfl (.one rfl (.one rfl (.one rfl (.one rfl (.one rfl (.one rfl (.nil)))))))))))) (.refl _) (s2_89 B_4)
        have s2_73 : F 5 #[true, false, false, true, false, false, true, false] [(0, .slice la l.length lc), (1, .slice fa left.length fc), (2, .pointer (some ⟨B, 0, none⟩)), (3, .pointer (some ⟨D, 0, none⟩)), (4, .pointer (some ⟨M, 0, none⟩)), (16, .slice fa left.length fc), (17, .int .i64 (left.length : Int)), (18, .int .i64 (i : Int)), (40, .func (.func 58) #[] #[.pointer (some ⟨B, 0, none⟩), .pointer (some ⟨D, 0, none⟩), .pointer (some ⟨M, 0, none⟩)]), (43, .agg #[.int .i64 x1.col, .int .i64 x1.row]), (46, .slice a'1 (((left.drop (i + 1)).filter (fun x => !(fun z_ => decide (dist z_ x1 ≤ 2 * (r : Int))) x)).length) c'1)] [SlO eCell 30 a'1 c'1 ((left.drop (i + 1)).filter (fun x => !(fun z_ => decide (dist z_ x1 ≤ 2 * (r : Int))) x)), As.one B1 (.cells #[.int .i64 x1.col, .int .i64 x1.row] 30 (0, 0)), BoxGo eCell g 22 B a1 c1 bst] := by
          subst hF
          refine .step (l := [1, 4]) (by kernel_rfl) (by decide) ⟨.run rfl trivial ?_, .run rfl trivial ?_, trivial⟩
          · refine .y (.move rfl) rfl rfl ?_
            exact .weak (.one rfl (.one rfl (.one rfl (.one rfl (.one rfl (.one rfl (.one rfl (.one rfl (.one rfl (.one rfl (.one rfl (.one rfl (.nil))))))))))))) (.refl _) (s2_75)
          · refine .n (.lit #[.int .i64 0, .int .i64 0] lz_30_1 rfl sl_22 sz_30 zr_30 rfl rfl rfl) rfl rfl fun B_4 => ?_
            exact .weak (.one rfl (.one rfl (.one rfl (.one rfl (.one rfl (.one rfl (.one rfl (.one rfl (.one rfl (.one rfl (.one rfl (.nil)))))))))))) (.refl _) (s2_89 B_4)
        have s2_14 : ∀ (a'_2 : Option Addr) (c'_2 : Nat) (hf_2 : SlOk a'_2 c'_2), F 5 #[false, true, true, true, false, false, false, false] [(0, .slice la l.length lc), (1, .slice fa left.length fc), (2, .pointer (some ⟨B, 0, none⟩)), (3, .pointer (some ⟨D, 0, none⟩)), (4, .pointer (some ⟨M, 0, none⟩)), (9, .slice a'1 (((left.drop (i + 1)).filter (fun x => !(fun z_ => decide (dist z_ x1 ≤ 2 * (r : Int))) x)).length) c'1), (16, .slice fa left.length fc), (17, .int .i64 (left.length : Int)), (18, .int .i64 (i : Int)), (42, .slice a'_2 l.length c'_2), (43, .agg #[.int .i64 x1.col, .int .i64 x1.row])] [SlO eCell 30 a'_2 c'_2 l, SlO eCell 30 a'1 c'1 ((left.drop (i + 1)).filter (fun x => !(fun z_ => decide (dist z_ x1 ≤ 2 * (r : Int))) x)), As.one B1 (.cells #[.int .i64 x1.col, .int .i64 x1.row] 30 (0, 0)), BoxGo eCell g 22 B a1 c1 bst] := by
          intro a'_2 c'_2 hf_2
          subst hF
          refine .step (l := [0, 4, 6]) (by kernel_rfl) (by decide) ⟨.run rfl trivial ?_, .run rfl trivial ?_, .run rfl trivial ?_, trivial⟩
          · refine .y (.load rfl (.g hM) ag_100 sz_100 rfl) rfl rfl ?_
            exact .weak (.one rfl (.one rfl (.one rfl (.one rfl (.one rfl (.one rfl (.one rfl (.one rfl (.one rfl (.one rfl (.one rfl (.one rfl (.nil))))))))))))) (.refl _) (s2_15 a'_2 c'_2 hf_2)
          · refine .n (.lit #[.int .i64 0, .int .i64 0] lz_30_1 rfl sl_22 sz_30 zr_30 rfl rfl rfl) rfl rfl fun B_4 => ?_
            exact .weak (.one rfl (.one rfl (.one rfl (.one rfl (.one rfl (.one rfl (.one rfl (.one rfl (.one rfl (.one rfl (.one rfl (.nil)))))))))))) (.refl _) (s2_30 a'_2 c'_2 hf_2 B_4)
          · refine .y (.move rfl) rfl rfl ?_
            exact .weak (.one rfl (.one rfl (.one rfl (.one rfl (.one rfl (.one rfl (.one rfl (.one rfl (.one rfl (.one rfl (.one rfl (.nil)))))))))))) (.refl _) (s2_78 a'_2 c'_2 hf_2)
        have s2_70 : ∀ (a'_2 : Option Addr) (c'_2 : Nat) (hf_2 : SlOk a'_2 c'_2), F 5 #[false, true, true, false, false, false, true, false] [(0, .slice la l.length lc), (1, .slice fa left.length fc), (2, .pointer (some ⟨B, 0, none⟩)), (3, .pointer (some ⟨D, 0, none⟩)), (4, .pointer (some ⟨M, 0, none⟩)), (8, .pointer (some ⟨B1, 0, none⟩)), (16, .slice fa left.length fc), (17, .int .i64 (left.length : Int)), (18, .int .i64 (i : Int)), (42, .slice a'_2 l.length c'_2), (46, .slice a'1 (((left.drop (i + 1)).filter (fun x => !(fun z_ => decide (dist z_ x1 ≤ 2 * (r : Int))) x)).length) c'1)] [SlO eCell 30 a'_2 c'_2 l, SlO eCell 30 a'1 c'1 ((left.drop (i + 1)).filter (fun x => !(fun z_ => decide (dist z_ x1 ≤ 2 * (r : Int))) x)), As.one B1 (.cells #[.int .i64 x1.col, .int .i64 x1.row] 30 (0, 0)), BoxGo eCell g 22 B a1 c1 bst] := by
          intro a'_2 c'_2 hf_2
          subst hF
          refine .step (l := [0, 3]) (by kernel_rfl) (by decide) ⟨.run rfl trivial ?_, .run rfl trivial ?_, trivial⟩
          · refine .y (.load rfl (.g hM) ag_100 sz_100 rfl) rfl rfl ?_
            exact .weak (.one rfl (.one rfl (.one rfl (.one rfl (.one rfl (.one rfl (.one rfl (.one rfl (.one rfl (.one rfl (.one rfl (.one rfl (.nil))))))))))))) (.refl _) (s2_71 a'_2 c'_2 hf_2)
          · refine .y (.load rfl (.own 2 rfl) ag_30 sz_30 rfl) rfl rfl ?_
            exact .weak (.one rfl (.one rfl (.one rfl (.one rfl (.one rfl (.one rfl (.one rfl (.one rfl (.one rfl (.one rfl (.one rfl (.nil)))))))))))) (.refl _) (s2_78 a'_2 c'_2 hf_2)
        have s2_26 : ∀ (B_4 : Nat), F 5 #[false, true, false, true, true, false, false, false] [(0, .slice la l.length lc), (1, .slice fa left.length fc), (2, .pointer (some ⟨B, 0, none⟩)), (3, .pointer (some ⟨D, 0, none⟩)), (4, .pointer (some ⟨M, 0, none⟩)), (9, .slice a'1 (((left.drop (i + 1)).filter (fun x => !(fun z_ => decide (dist z_ x1 ≤ 2 * (r : Int))) x)).length) c'1), (16, .slice fa left.length fc), (17, .int .i64 (left.length : Int)), (18, .int .i64 (i : Int)), (41, .slice la l.length lc), (44, .slice (some ⟨B_4, 0, none⟩) 1 1)] [As.one B_4 (.cells #[.int .i64 x1.col, .int .i64 x1.row] 30 (0, 0)), SlO eCell 30 a'1 c'1 ((left.drop (i + 1)).filter (fun x => !(fun z_ => decide (dist z_ x1 ≤ 2 * (r : Int))) x)), As.one B1 (.cells #[.int .i64 x1.col, .int .i64 x1.row] 30 (0, 0)), BoxGo eCell g 22 B a1 c1 bst] := by
          intro B_4
          subst hF
          refine .step (l := [0, 2, 6]) (by kernel_rfl) (by decide) ⟨.run rfl trivial ?_, .run rfl trivial ?_, .run rfl trivial ?_, trivial⟩
          · refine .y (.load rfl (.g hM) ag_100 sz_100 rfl) rfl rfl ?_
            exact .weak (.one rfl (.one rfl (.one rfl (.one rfl (.one rfl (.one rfl (.one rfl (.one rfl (.one rfl (.one rfl (.one rfl (.one rfl (.nil))))))))))))) (.refl _) (s2_27 B_4)
          · refine .c (.call rfl rfl fn_60) rfl rfl (fun own ho hd => cloneeCell_ct _ (xs := l) (SlR.up hl) (by first | assumption | exact .nil | exact .some | exact .drop (by assumption)) (by first | omega | (simp; omega) | (simp [*]; omega))) ?_
            rintro _ _ ⟨a'_2, c'_2, rfl, rfl, hf_2⟩
            exact .weak (.one rfl (.one rfl (.one rfl (.one rfl (.one rfl (.one rfl (.one rfl (.one rfl (.one rfl (.one rfl (.one rfl (.nil)))))))))))) (.pick 1 rfl (.refl _)) (s2_30 a'_2 c'_2 hf_2 B_4)
          · refine .y (.move rfl) rfl rfl ?_
            exact .weak (.one rfl (.one rfl (.one rfl (.one rfl (.one rfl (.one rfl (.one rfl (.one rfl (.one rfl (.one rfl (.one rfl (.nil)))))))))))) (.refl _) (s2_90 B_4)
        have s2_74 : F 5 #[false, true, false, true, false, false, true, false] [(0, .slice la l.length lc), (1, .slice fa left.length fc), (2, .pointer (some ⟨B, 0, none⟩)), (3, .pointer (some ⟨D, 0, none⟩)), (4, .pointer (some ⟨M, 0, none⟩)), (16, .slice fa left.length fc), (17, .int .i64 (left.length : Int)), (18, .int .i64 (i : Int)), (41, .slice la l.length lc), (43, .agg #[.int .i64 x1.col, .int .i64 x1.row]), (46, .slice a'1 (((left.drop (i + 1)).filter (fun x => !(fun z_ => decide (dist z_ x1 ≤ 2 * (r : Int))) x)).length) c'1)] [SlO eCell 30 a'1 c'1 ((left.drop (i + 1)).filter (fun x => !(fun z_ => decide (dist z_ x1 ≤ 2 * (r : Int))) x)), As.one B1 (.cells #[.int .i64 x1.col, .int .i64 x1.row] 30 (0, 0)), BoxGo eCell g 22 B a1 c1 bst] := by
          subst hF
          refine .step (l := [0, 2, 4]) (by kernel_rfl) (by decide) ⟨.run rfl trivial ?_, .run rfl trivial ?_, .run rfl trivial ?_, trivial⟩
          · refine .y (.load rfl (.g hM) ag_100 sz_100 rfl) rfl rfl ?_
            exact .weak (.one rfl (.one rfl (.one rfl (.one rfl (.one rfl (.one rfl (.one rfl (.one rfl (.one rfl (.one rfl (.one rfl (.one rfl (.nil))))))))))))) (.refl _) (s2_75)
          · refine .c (.call rfl rfl fn_60) rfl rfl (fun own ho hd => cloneeCell_ct _ (xs := l) (SlR.up hl) (by first | assumption | exact .nil | exact .some | exact .drop (by assumption)) (by first | omega | (simp; omega) | (simp [*]; omega))) ?_
            rintro _ _ ⟨a'_2, c'_2, rfl, rfl, hf_2⟩
            exact .weak (.one rfl (.one rfl (.one rfl (.one rfl (.one rfl (.one rfl (.one rfl (.one rfl (.one rfl (.one rfl (.one rfl (.nil)))))))))))) (.refl _) (s2_78 a'_2 c'_2 hf_2)
          · refine .n (.lit #[.int .i64 0, .int .i64 0] lz_30_1 rfl sl_22 sz_30 zr_30 rfl rfl rfl) rfl rfl fun B_4 => ?_
            exact .weak (.one rfl (.one rfl (.one rfl (.one rfl (.one rfl (.one rfl (.one rfl (.one rfl (.one rfl (.one rfl (.one rfl (.nil)))))))))))) (.refl _) (s2_90 B_4)
        have s2_88 : ∀ (B_4 : Nat), F 5 #[false, false, false, true, true, false, true, false] [(0, .slice la l.length lc), (1, .slice fa left.length fc), (2, .pointer (some ⟨B, 0, none⟩)), (3, .pointer (some ⟨D, 0, none⟩)), (4, .pointer (some ⟨M, 0, none⟩)), (16, .slice fa left.length fc), (17, .int .i64 (left.length : Int)), (18, .int .i64 (i : Int)), (44, .slice (some ⟨B_4, 0, none⟩) 1 1), (46, .slice a'1 (((left.drop (i + 1)).filter (fun x => !(fun z_ => decide (dist z_ x1 ≤ 2 * (r : Int))) x)).length) c'1)] [As.one B_4 (.cells #[.int .i64 x1.col, .int .i64 x1.row] 30 (0, 0)), SlO eCell 30 a'1 c'1 ((left.drop (i + 1)).filter (fun x => !(fun z_ => decide (dist z_ x1 ≤ 2 * (r : Int))) x)), As.one B1 (.cells #[.int .i64 x1.col, .int .i64 x1.row] 30 (0, 0)), BoxGo eCell g 22 B a1 c1 bst] := by
          intro B_4
          subst hF
          refine .step (l := [0, 1]) (by kernel_rfl) (by decide) ⟨.run rfl trivial ?_, .run rfl trivial ?_, trivial⟩
          · refine .y (.load rfl (.g hM) ag_100 sz_100 rfl) rfl rfl ?_
            exact .weak (.one rfl (.one rfl (.one rfl (.one rfl (.one rfl (.one rfl (.one rfl (.one rfl (.one rfl (.one rfl (.one rfl (.nil)))))))))))) (.refl _) (s2_89 B_4)
          · refine .y (.move rfl) rfl rfl ?_
            exact .weak (.one rfl (.one rfl (.one rfl (.one rfl (.one rfl (.one rfl (.one rfl (.one rfl (.one rfl (.one rfl (.one rfl (.nil)))))))))))) (.refl _) (s2_90 B_4)
        have s2_3 : F 6 #[true, true, false, false, false, false, false, false] [(0, .slice la l.length lc), (1, .slice fa left.length fc), (2, .pointer (some ⟨B, 0, none⟩)), (3, .pointer (some ⟨D, 0, none⟩)), (4, .pointer (some ⟨M, 0, none⟩)), (8, .pointer (some ⟨B1, 0, none⟩)), (9, .slice a'1 (((left.drop (i + 1)).filter (fun x => !(fun z_ => decide (dist z_ x1 ≤ 2 * (r : Int))) x)).length) c'1), (16, .slice fa left.length fc), (17, .int .i64 (left.length : Int)), (18, .int .i64 (i : Int)), (40, .func (.func 58) #[] #[.pointer (some ⟨B, 0, none⟩), .pointer (some ⟨D, 0, none⟩), .pointer (some ⟨M, 0, none⟩)]), (41, .slice la l.length lc)] [SlO eCell 30 a'1 c'1 ((left.drop (i + 1)).filter (fun x => !(fun z_ => decide (dist z_ x1 ≤ 2 * (r : Int))) x)), As.one B1 (.cells #[.int .i64 x1.col, .int .i64 x1.row] 30 (0, 0)), BoxGo eCell g 22 B a1 c1 bst] := by
          subst hF
          refine .step (l := [2, 3, 6]) (by kernel_rfl) (by decide) ⟨.run rfl trivial ?_, .run rfl trivial ?_, .run rfl trivial ?_, trivial⟩
          · refine .c (.call rfl rfl fn_60) rfl rfl (fun own ho hd => cloneeCell_ct _ (xs := l) (SlR.up hl) (by first | assumption | exact .nil | exact .some | exact .drop (by assumption)) (by first | omega | (simp; omega) | (simp [*]; omega))) ?_
            rintro _ _ ⟨a'_2, c'_2, rfl, rfl, hf_2⟩
            exact .weak (.one rfl (.one rfl (.one rfl (.one rfl (.one rfl (.one rfl (.one rfl (.one rfl (.one rfl (.one rfl (.one rfl (.one rfl (.nil))))))))))))) (.refl _) (s2_7 a'_2 c'_2 hf_2)
          · refine .y (.load rfl (.own 1 rfl) ag_30 sz_30 rfl) rfl rfl ?_
            exact .weak (.one rfl (.one rfl (.one rfl (.one rfl (.one rfl (.one rfl (.one rfl (.one rfl (.one rfl (.one rfl (.one rfl (.one rfl (.nil))))))))))))) (.refl _) (s2_11)
          · refine .y (.move rfl) rfl rfl ?_
            exact .weak (.one rfl (.one rfl (.one rfl (.one rfl (.one rfl (.one rfl (.one rfl (.one rfl (.one rfl (.one rfl (.one rfl (.one rfl (.nil))))))))))))) (.refl _) (s2_67)
        have s2_9 : F 6 #[true, false, false, true, false, false, false, false] [(0, .slice la l.length lc), (1, .slice fa left.length fc), (2, .pointer (some ⟨B, 0, none⟩)), (3, .pointer (some ⟨D, 0, none⟩)), (4, .pointer (some ⟨M, 0, none⟩)), (9, .slice a'1 (((left.drop (i + 1)).filter (fun x => !(fun z_ => decide (dist z_ x1 ≤ 2 * (r : Int))) x)).length) c'1), (16, .slice fa left.length fc), (17, .int .i64 (left.length : Int)), (18, .int .i64 (i : Int)), (40, .func (.func 58) #[] #[.pointer (some ⟨B, 0, none⟩), .pointer (some ⟨D, 0, none⟩), .pointer (some ⟨M, 0, none⟩)]), (43, .agg #[.int .i64 x1.col, .int .i64 x1.row])] [SlO eCell 30 a'1 c'1 ((left.drop (i + 1)).filter (fun x => !(fun z_ => decide (dist z_ x1 ≤ 2 * (r : Int))) x)), As.one B1 (.cells #[.int .i64 x1.col, .int .i64 x1.row] 30 (0, 0)), BoxGo eCell g 22 B a1 c1 bst] := by
          subst hF
          refine .step (l := [1, 4, 6]) (by kernel_rfl) (by decide) ⟨.run rfl trivial ?_, .run rfl trivial ?_, .run rfl trivial ?_, trivial⟩
          · refine .y (.move rfl) rfl rfl ?_
            exact .weak (.one rfl (.one rfl (.one rfl (.one rfl (.one rfl (.one rfl (.one rfl (.one rfl (.one rfl (.one rfl (.one rfl (.one rfl (.nil))))))))))))) (.refl _) (s2_11)
          · refine .n (.lit #[.int .i64 0, .int .i64 0] lz_30_1 rfl sl_22 sz_30 zr_30 rfl rfl rfl) rfl rfl fun B_4 => ?_
            exact .weak (.one rfl (.one rfl (.one rfl (.one rfl (.one rfl (.one rfl (.one rfl (.one rfl (.one rfl (.one rfl (.one rfl (.nil)))))))))))) (.refl _) (s2_25 B_4)
          · refine .y (.move rfl) rfl rfl ?_
            exact .weak (.one rfl (.one rfl (.one rfl (.one rfl (.one rfl (.one rfl (.one rfl (.one rfl (.one rfl (.one rfl (.one rfl (.nil)))))))))))) (.refl _) (s2_73)
        have s2_65 : F 6 #[true, false, false, false, false, false, true, false] [(0, .slice la l.length lc), (1, .slice fa left.length fc), (2, .pointer (some ⟨B, 0, none⟩)), (3, .pointer (some ⟨D, 0, none⟩)), (4, .pointer (some ⟨M, 0, none⟩)), (8, .pointer (some ⟨B1, 0, none⟩)), (16, .slice fa left.length fc), (17, .int .i64 (left.length : Int)), (18, .int .i64 (i : Int)), (40, .func (.func 58) #[] #[.pointer (some ⟨B, 0, none⟩), .pointer (some ⟨D, 0, none⟩), .pointer (some ⟨M, 0, none⟩)]), (46, .slice a'1 (((left.drop (i + 1)).filter (fun x => !(fun z_ => decide (dist z_ x1 ≤ 2 * (r : Int))) x)).length) c'1)] [SlO eCell 30 a'1 c'1 ((left.drop (i + 1)).filter (fun x => !(fun z_ => decide (dist z_ x1 ≤ 2 * (r : Int))) x)), As.one B1 (.cells #[.int .i64 x1.col, .int .i64 x1.row] 30 (0, 0)), BoxGo eCell g 22 B a1 c1 bst] := by
          subst hF
          refine .step (l := [1, 3]) (by kernel_rfl) (by decide) ⟨.run rfl trivial ?_, .run rfl trivial ?_, trivial⟩
          · refine .y (.move rfl) rfl rfl ?_
            exact .weak (.one rfl (.one rfl (.one rfl (.one rfl (.one rfl (.one rfl (.one rfl (.one rfl (.one rfl (.one rfl (.one rfl (.one rfl (.nil))))))))))))) (.refl _) (s2_67)
          · refine .y (.load rfl (.own 1 rfl) ag_30 sz_30 rfl) rfl rfl ?_
            exact .weak (.one rfl (.one rfl (.one rfl (.one rfl (.one rfl (.one rfl (.one rfl (.one rfl (.one rfl (.one rfl (.one rfl (.nil)))))))))))) (.refl _) (s2_73)
        have s2_6 : ∀ (a'_2 : Option Addr) (c'_2 : Nat) (hf_2 : SlOk a'_2 c'_2), F 6 #[false, true, true, false, false, false, false, false] [(0, .slice la l.length lc), (1, .slice fa left.length fc), (2, .pointer (some ⟨B, 0, none⟩)), (3, .pointer (some ⟨D, 0, none⟩)), (4, .pointer (some ⟨M, 0, none⟩)), (8, .pointer (some ⟨B1, 0, none⟩)), (9, .slice a'1 (((left.drop (i + 1)).filter (fun x => !(fun z_ => decide (dist z_ x1 ≤ 2 * (r : Int))) x)).length) c'1), (16, .slice fa left.length fc), (17, .int .i64 (left.length : Int)), (18, .int .i64 (i : Int)), (42, .slice a'_2 l.length c'_2)] [SlO eCell 30 a'_2 c'_2 l, SlO eCell 30 a'1 c'1 ((left.drop (i + 1)).filter (fun x => !(fun z_ => decide (dist z_ x1 ≤ 2 * (r : Int))) x)), As.one B1 (.cells #[.int .i64 x1.col, .int .i64 x1.row] 30 (0, 0)), BoxGo eCell g 22 B a1 c1 bst] := by
          intro a'_2 c'_2 hf_2
          subst hF
          refine .step (l := [0, 3, 6]) (by kernel_rfl) (by decide) ⟨.run rfl trivial ?_, .run rfl trivial ?_, .run rfl trivial ?_, trivial⟩
          · refine .y (.load rfl (.g hM) ag_100 sz_100 rfl) rfl rfl ?_
            exact .weak (.one rfl (.one rfl (.one rfl (.one rfl (.one rfl (.one rfl (.one rfl (.one rfl (.one rfl (.one rfl (.one rfl (.one rfl (.nil))))))))))))) (.refl _) (s2_7 a'_2 c'_2 hf_2)
          · refine .y (.load rfl (.own 2 rfl) ag_30 sz_30 rfl) rfl rfl ?_
            exact .weak (.one rfl (.one rfl (.one rfl (.one rfl (.one rfl (.one rfl (.one rfl (.one rfl (.one rfl (.one rfl (.one rfl (.nil)))))))))))) (.refl _) (s2_14 a'_2 c'_2 hf_2)
          · refine .y (.move rfl) rfl rfl ?_
            exact .weak (.one rfl (.one rfl (.one rfl (.one rfl (.one rfl (.one rfl (.one rfl (.one rfl (.one rfl (.one rfl (.one rfl (.nil)))))))))))) (.refl _) (s2_70 a'_2 c'_2 hf_2)
        have s2_10 : F 6 #[false, true, false, true, false, false, false, false] [(0, .slice la l.length lc), (1, .slice fa left.length fc), (2, .pointer (some ⟨B, 0, none⟩)), (3, .pointer (some ⟨D, 0, none⟩)), (4, .pointer (some ⟨M, 0, none⟩)), (9, .slice a'1 (((left.drop (i + 1)).filter (fun x => !(fun z_ => decide (dist z_ x1 ≤ 2 * (r : Int))) x)).length) c'1), (16, .slice fa left.length fc), (17, .int .i64 (left.length : Int)), (18, .int .i64 (i : Int)), (41, .slice la l.length lc), (43, .agg #[.int .i64 x1.col, .int .i64 x1.row])] [SlO eCell 30 a'1 c'1 ((left.drop (i + 1)).filter (fun x => !(fun z_ => decide (dist z_ x1 ≤ 2 * (r : Int))) x)), As.one B1 (.cells #[.int .i64 x1.col, .int .i64 x1.row] 30 (0, 0)), BoxGo eCell g 22 B a1 c1 bst] := by
          subst hF
          refine .step (l := [0, 2, 4, 6]) (by kernel_rfl) (by decide) ⟨.run rfl trivial ?_, .run rfl trivial ?_, .run rfl trivial ?_, .run rfl trivial ?_, trivial⟩
          · refine .y (.load rfl (.g hM) ag_100 sz_100 rfl) rfl rfl ?_
            exact .weak (.one rfl (.one rfl (.one rfl (.one rfl (.one rfl (.one rfl (.one rfl (.one rfl (.one rfl (.one rfl (.one rfl (.one rfl (.nil))))))))))))) (.refl _) (s2_11)
          · refine .c (.call rfl rfl fn_60) rfl rfl (fun own ho hd => cloneeCell_ct _ (xs := l) (SlR.up hl) (by first | assumption | exact .nil | exact .some | exact .drop (by assumption)) (by first | omega | (simp; omega) | (simp [*]; omega))) ?_
            rintro _ _ ⟨a'_2, c'_2, rfl, rfl, hf_2⟩
            exact .weak (.one rfl (.one rfl (.one rfl (.one rfl (.one rfl (.one rfl (.one rfl (.one rfl (.one rfl (.one rfl (.one rfl (.nil)))))))))))) (.refl _) (s2_14 a'_2 c'_2 hf_2)
          · refine .n (.lit #[.int .i64 0, .int .i64 0] lz_30_1 rfl sl_22 sz_30 zr_30 rfl rfl rfl) rfl rfl fun B_4 => ?_
            exact .weak (.one rfl (.one rfl (.one rfl (.one rfl (.one rfl (.one rfl (.one rfl (.one rfl (.one rfl (.one rfl (.one rfl (.nil)))))))))))) (.refl _) (s2_26 B_4)
          · refine .y (.move rfl) rfl rfl ?_
            exact .weak (.one rfl (.one rfl (.one rfl (.one rfl (.one rfl (.one rfl (.one rfl (.one rfl (.one rfl (.one rfl (.one rfl (.nil)))))))))))) (.refl _) (s2_74)
        have s2_66 : F 6 #[false, true, false, false, false, false, true, false] [(0, .slice la l.length lc), (1, .slice fa left.length fc), (2, .pointer (some ⟨B, 0, none⟩)), (3, .pointer (some ⟨D, 0, none⟩)), (4, .pointer (some ⟨M, 0, none⟩)), (8, .pointer (some ⟨B1, 0, none⟩)), (16, .slice fa left.length fc), (17, .int .i64 (left.length : Int)), (18, .int .i64 (i : Int)), (41, .slice la l.length lc), (46, .slice a'1 (((left.drop (i + 1)).filter (fun x => !(fun z_ => decide (dist z_ x1 ≤ 2 * (r : Int))) x)).length) c'1)] [SlO eCell 30 a'1 c'1 ((left.drop (i + 1)).filter (fun x => !(fun z_ => decide (dist z_ x1 ≤ 2 * (r : Int))) x)), As.one B1 (.cells #[.int .i64 x1.col, .int .i64 x1.row] 30 (0, 0)), BoxGo eCell g 22 B a1 c1 bst] := by
          subst hF
          refine .step (l := [0, 2, 3]) (by kernel_rfl) (by decide) ⟨.run rfl trivial ?_, .run rfl trivial ?_, .run rfl trivial ?_, trivial⟩
          · refine .y (.load rfl (.g hM) ag_100 sz_100 rfl) rfl rfl ?_
            exact .weak (.one rfl (.one rfl (.one rfl (.one rfl (.one rfl (.one rfl (.one rfl (.one rfl (.one rfl (.one rfl (.one rfl (.one rfl (.nil))))))))))))) (.refl _) (s2_67)
          · refine .c (.call rfl rfl fn_60) rfl rfl (fun own ho hd => cloneeCell_ct _ (xs := l) (SlR.up hl) (by first | assumption | exact .nil | exact .some | exact .drop (by assumption)) (by first | omega | (simp; omega) | (simp [*]; omega))) ?_
            rintro _ _ ⟨a'_2, c'_2, rfl, rfl, hf_2⟩
            exact .weak (.one rfl (.one rfl (.one rfl (.one rfl (.one rfl (.one rfl (.one rfl (.one rfl (.one rfl (.one rfl (.one rfl (.nil)))))))))))) (.refl _) (s2_70 a'_2 c'_2 hf_2)
          · refine .y (.load rfl (.own 1 rfl) ag_30 sz_30 rfl) rfl rfl ?_
            exact .weak (.one rfl (.one rfl (.one rfl (.one rfl (.one rfl (.one rfl (.one rfl (.one rfl (.one rfl (.one rfl (.one rfl (.nil)))))))))))) (.refl _) (s2_74)
        have s2_24 : ∀ (B_4 : Nat), F 6 #[false, false, false, true, true, false, false, false] [(0, .slice la l.length lc), (1, .slice fa left.length fc), (2, .pointer (some ⟨B, 0, none⟩)), (3, .pointer (some ⟨D, 0, none⟩)), (4, .pointer (some ⟨M, 0, none⟩)), (9, .slice a'1 (((left.drop (i + 1)).filter (fun x => !(fun z_ => decide (dist z_ x1 ≤ 2 * (r : Int))) x)).length) c'1), (16, .slice fa left.length fc), (17, .int .i64 (left.length : Int)), (18, .int .i64 (i : Int)), (44, .slice (some ⟨B_4, 0, none⟩) 1 1)] [As.one B_4 (.cells #[.int .i64 x1.col, .int .i64 x1.row] 30 (0, 0)), SlO eCell 30 a'1 c'1 ((left.drop (i + 1)).filter (fun x => !(fun z_ => decide (dist z_ x1 ≤ 2 * (r : Int))) x)), As.one B1 (.cells #[.int .i64 x1.col, .int .i64 x1.row] 30 (0, 0)), BoxGo eCell g 22 B a1 c1 bst] := by
          intro B_4
          subst hF
          refine .step (l := [0, 1, 6]) (by kernel_rfl) (by decide) ⟨.run rfl trivial ?_, .run rfl trivial ?_, .run rfl trivial ?_, trivial⟩
          · refine .y (.load rfl (.g hM) ag_100 sz_100 rfl) rfl rfl ?_
            exact .weak (.one rfl (.one rfl (.one rfl (.one rfl (.one rfl (.one rfl (.one rfl (.one rfl (.one rfl (.one rfl (.one rfl (.nil)))))))))))) (.refl _) (s2_25 B_4)
          · refine .y (.move rfl) rfl rfl ?_
            exact .weak (.one rfl (.one rfl (.one rfl (.one rfl (.one rfl (.one rfl (.one rfl (.one rfl (.one rfl (.one rfl (.one rfl (.nil)))))))))))) (.refl _) (s2_26 B_4)
          · refine .y (.move rfl) rfl rfl ?_
            exact .weak (.one rfl (.one rfl (.one rfl (.one rfl (.one rfl (.one rfl (.one rfl (.one rfl (.one rfl (.one rfl (.nil))))))))))) (.refl _) (s2_88 B_4)
        have s2_72 : F 6 #[false, false, false, true, false, false, true, false] [(0, .slice la l.length lc), (1, .slice fa left.length fc), (2, .pointer (some ⟨B, 0, none⟩)), (3, .pointer (some ⟨D, 0, none⟩)), (4, .pointer (some ⟨M, 0, none⟩)), (16, .slice fa left.length fc), (17, .int .i64 (left.length : Int)), (18, .int .i64 (i : Int)), (43, .agg #[.int .i64 x1.col, .int .i64 x1.row]), (46, .slice a'1 (((left.drop (i + 1)).filter (fun x => !(fun z_ => decide (dist z_ x1 ≤ 2 * (r : Int))) x)).length) c'1)] [SlO eCell 30 a'1 c'1 ((left.drop (i + 1)).filter (fun x => !(fun z_ => decide (dist z_ x1 ≤ 2 * (r : Int))) x)), As.one B1 (.cells #[.int .i64 x1.col, .int .i64 x1.row] 30 (0, 0)), BoxGo eCell g 22 B a1 c1 bst] := by
          subst hF
          refine .step (l := [0, 1, 4]) (by kernel_rfl) (by decide) ⟨.run rfl trivial ?_, .run rfl trivial ?_, .run rfl trivial ?_, trivial⟩
          · refine .y (.load rfl (.g hM) ag_100 sz_100 rfl) rfl rfl ?_
            exact .weak (.one rfl (.one rfl (.one rfl (.one rfl (.one rfl (.one rfl (.one rfl (.one rfl (.one rfl (.one rfl (.one rfl (.nil)))))))))))) (.refl _) (s2_73)
          · refine .y (.move rfl) rfl rfl ?_
            exact .weak (.one rfl (.one rfl (.one rfl (.one rfl (.one rfl (.one rfl (.one rfl (.one rfl (.one rfl (.one rfl (.one rfl (.nil)))))))))))) (.refl _) (s2_74)
          · refine .n (.lit #[.int .i64 0, .int .i64 0] lz_30_1 rfl sl_22 sz_30 zr_30 rfl rfl rfl) rfl rfl fun B_4 => ?_
            exact .weak (.one rfl (.one rfl (.one rfl (.one rfl (.one rfl (.one rfl (.one rfl (.one rfl (.one rfl (.one rfl (.nil))))))))))) (.refl _) (s2_88 B_4)
        have s2_1 : F 7 #[true, false, false, false, false, false, false, false] [(0, .slice la l.length lc), (1, .slice fa left.length fc), (2, .pointer (some ⟨B, 0, none⟩)), (3, .pointer (some ⟨D, 0, none⟩)), (4, .pointer (some ⟨M, 0, none⟩)), (8, .pointer (some ⟨B1, 0, none⟩)), (9, .slice a'1 (((left.drop (i + 1)).filter (fun x => !(fun z_ => decide (dist z_ x1 ≤ 2 * (r : Int))) x)).length) c'1), (16, .slice fa left.length fc), (17, .int .i64 (left.length : Int)), (18, .int .i64 (i : Int)), (40, .func (.func 58) #[] #[.pointer (some ⟨B, 0, none⟩), .pointer (some ⟨D, 0, none⟩), .pointer (some ⟨M, 0, none⟩)])] [SlO eCell 30 a'1 c'1 ((left.drop (i + 1)).filter (fun x => !(fun z_ => decide (dist z_ x1 ≤ 2 * (r : Int))) x)), As.one B1 (.cells #[.int .i64 x1.col, .int .i64 x1.row] 30 (0, 0)), BoxGo eCell g 22 B a1 c1 bst] := by
          subst hF
          refine .step (l := [1, 3, 6]) (by kernel_rfl) (by decide) ⟨.run rfl trivial ?_, .run rfl trivial ?_, .run rfl trivial ?_, trivial⟩
          · refine .y (.move rfl) rfl rfl ?_
            exact .weak (.one rfl (.one rfl (.one rfl (.one rfl (.one rfl (.one rfl (.one rfl (.one rfl (.one rfl (.one rfl (.one rfl (.one rfl (.nil))))))))))))) (.refl _) (s2_3)
          · refine .y (.load rfl (.own 1 rfl) ag_30 sz_30 rfl) rfl rfl ?_
            exact .weak (.one rfl (.one rfl (.one rfl (.one rfl (.one rfl (.one rfl (.one rfl (.one rfl (.one rfl (.one rfl (.one rfl (.nil)))))))))))) (.refl _) (s2_9)
          · refine .y (.move rfl) rfl rfl ?_
            exact .weak (.one rfl (.one rfl (.one rfl (.one rfl (.one rfl (.one rfl (.one rfl (.one rfl (.one rfl (.one rfl (.one rfl (.nil)))))))))))) (.refl _) (s2_65)
        have s2_2 : F 7 #[false, true, false, false, false, false, false, false] [(0, .slice la l.length lc), (1, .slice fa left.length fc), (2, .pointer (some ⟨B, 0, none⟩)), (3, .pointer (some ⟨D, 0, none⟩)), (4, .pointer (some ⟨M, 0, none⟩)), (8, .pointer (some ⟨B1, 0, none⟩)), (9, .slice a'1 (((left.drop (i + 1)).filter (fun x => !(fun z_ => decide (dist z_ x1 ≤ 2 * (r : Int))) x)).length) c'1), (16, .slice fa left.length fc), (17, .int .i64 (left.length : Int)), (18, .int .i64 (i : Int)), (41, .slice la l.length lc)] [SlO eCell 30 a'1 c'1 ((left.drop (i + 1)).filter (fun x => !(fun z_ => decide (dist z_ x1 ≤ 2 * (r : Int))) x)), As.one B1 (.cells #[.int .i64 x1.col, .int .i64 x1.row] 30 (0, 0)), BoxGo eCell g 22 B a1 c1 bst] := by
          subst hF
          refine .step (l := [0, 2, 3, 6]) (by kernel_rfl) (by decide) ⟨.run rfl trivial ?_, .run rfl trivial ?_, .run rfl trivial ?_, .run rfl trivial ?_, trivial⟩
          · refine .y (.load rfl (.g hM) ag_100 sz_100 rfl) rfl rfl ?_
            exact .weak (.one rfl (.one rfl (.one rfl (.one rfl (.one rfl (.one rfl (.one rfl (.one rfl (.one rfl (.one rfl (.one rfl (.one rfl (.nil))))))))))))) (.refl _) (s2_3)
          · refine .c (.call rfl rfl fn_60) rfl rfl (fun own ho hd => cloneeCell_ct _ (xs := l) (SlR.up hl) (by first | assumption | exact .nil | exact .some | exact .drop (by assumption)) (by first | omega | (simp; omega) | (simp [*]; omega))) ?_
            rintro _ _ ⟨a'_2, c'_2, rfl, rfl, hf_2⟩
            exact .weak (.one rfl (.one rfl (.one rfl (.one rfl (.one rfl (.one rfl (.one rfl (.one rfl (.one rfl (.one rfl (.one rfl (.nil)))))))))))) (.refl _) (s2_6 a'_2 c'_2 hf_2)
          · refine .y (.load rfl (.own 1 rfl) ag_30 sz_30 rfl) rfl rfl ?_
            exact .weak (.one rfl (.one rfl (.one rfl (.one rfl (.one rfl (.one rfl (.one rfl (.one rfl (.one rfl (.one rfl (.one rfl (.nil)))))))))))) (.refl _) (s2_10)
          · refine .y (.move rfl) rfl rfl ?_
            exact .weak (.one rfl (.one rfl (.one rfl (.one rfl (.one rfl (.one rfl (.one rfl (.one rfl (.one rfl (.one rfl (.one rfl (.nil)))))))))))) (.refl _) (s2_66)
        have s2_8 : F 7 #[false, false, false, true, false, false, false, false] [(0, .slice la l.length lc), (1, .slice fa left.length fc), (2, .pointer (some ⟨B, 0, none⟩)), (3, .pointer (some ⟨D, 0, none⟩)), (4, .pointer (some ⟨M, 0, none⟩)), (9, .slice a'1 (((left.drop (i + 1)).filter (fun x => !(fun z_ => decide (dist z_ x1 ≤ 2 * (r : Int))) x)).length) c'1), (16, .slice fa left.length fc), (17, .int .i64 (left.length : Int)), (18, .int .i64 (i : Int)), (43, .agg #[.int .i64 x1.col, .int .i64 x1.row])] [SlO eCell 30 a'1 c'1 ((left.drop (i + 1)).filter (fun x => !(fun z_ => decide (dist z_ x1 ≤ 2 * (r : Int))) x)), As.one B1 (.cells #[.int .i64 x1.col, .int .i64 x1.row] 30 (0, 0)), BoxGo eCell g 22 B a1 c1 bst] := by
          subst hF
          refine .step (l := [0, 1, 4, 6]) (by kernel_rfl) (by decide) ⟨.run rfl trivial ?_, .run rfl trivial ?_, .run rfl trivial ?_, .run rfl trivial ?_, trivial⟩
          · refine .y (.load rfl (.g hM) ag_100 sz_100 rfl) rfl rfl ?_
            exact .weak (.one rfl (.one rfl (.one rfl (.one rfl (.one rfl (.one rfl (.one rfl (.one rfl (.one rfl (.one rfl (.one rfl (.nil)))))))))))) (.refl _) (s2_9)
          · refine .y (.move rfl) rfl rfl ?_
            exact .weak (.one rfl (.one rfl (.one rfl (.one rfl (.one rfl (.one rfl (.one rfl (.one rfl (.one rfl (.one rfl (.one rfl (.nil)))))))))))) (.refl _) (s2_10)
          · refine .n (.lit #[.int .i64 0, .int .i64 0] lz_30_1 rfl sl_22 sz_30 zr_30 rfl rfl rfl) rfl rfl fun B_4 => ?_
            exact .weak (.one rfl (.one rfl (.one rfl (.one rfl (.one rfl (.one rfl (.one rfl (.one rfl (.one rfl (.one rfl (.nil))))))))))) (.refl _) (s2_24 B_4)
          · refine .y (.move rfl) rfl rfl ?_
            exact .weak (.one rfl (.one rfl (.one rfl (.one rfl (.one rfl (.one rfl (.one rfl (.one rfl (.one rfl (.one rfl (.nil))))))))))) (.refl _) (s2_72)
        have s2_64 : F 7 #[false, false, false, false, false, false, true, false] [(0, .slice la l.length lc), (1, .slice fa left.length fc), (2, .pointer (some ⟨B, 0, none⟩)), (3, .pointer (some ⟨D, 0, none⟩)), (4, .pointer (some ⟨M, 0, none⟩)), (8, .pointer (some ⟨B1, 0, none⟩)), (16, .slice fa left.length fc), (17, .int .i64 (left.length : Int)), (18, .int .i64 (i : Int)), (46, .slice a'1 (((left.drop (i + 1)).filter (fun x => !(fun z_ => decide (dist z_ x1 ≤ 2 * (r : Int))) x)).length) c'1)] [SlO eCell 30 a'1 c'1 ((left.drop (i + 1)).filter (fun x => !(fun z_ => decide (dist z_ x1 ≤ 2 * (r : Int))) x)), As.one B1 (.cells #[.int .i64 x1.col, .int .i64 x1.row] 30 (0, 0)), BoxGo eCell g 22 B a1 c1 bst] := by
          subst hF
          refine .step (l := [0, 1, 3]) (by kernel_rfl) (by decide) ⟨.run rfl trivial ?_, .run rfl trivial ?_, .run rfl trivial ?_, trivial⟩
          · refine .y (.load rfl (.g hM) ag_100 sz_100 rfl) rfl rfl ?_
            exact .weak (.one rfl (.one rfl (.one rfl (.one rfl (.one rfl (.one rfl (.one rfl (.one rfl (.one rfl (.one rfl (.one rfl (.nil)))))))))))) (.refl _) (s2_65)
          · refine .y (.move rfl) rfl rfl ?_
            exact .weak (.one rfl (.one rfl (.one rfl (.one rfl (.one rfl (.one rfl (.one rfl (.one rfl (.one rfl (.one rfl (.one rfl (.nil)))))))))))) (.refl _) (s2_66)
          · refine .y (.load rfl (.own 1 rfl) ag_30 sz_30 rfl) rfl rfl ?_
            exact .weak (.one rfl (.one rfl (.one rfl (.one rfl (.one rfl (.one rfl (.one rfl (.one rfl (.one rfl (.one rfl (.nil))))))))))) (.refl _) (s2_72)
        have s2_0 : F 8 #[false, false, false, false, false, false, false, false] [(0, .slice la l.length lc), (1, .slice fa left.length fc), (2, .pointer (some ⟨B, 0, none⟩)), (3, .pointer (some ⟨D, 0, none⟩)), (4, .pointer (some ⟨M, 0, none⟩)), (8, .pointer (some ⟨B1, 0, none⟩)), (9, .slice a'1 (((left.drop (i + 1)).filter (fun x => !(fun z_ => decide (dist z_ x1 ≤ 2 * (r : Int))) x)).length) c'1), (16, .slice fa left.length fc), (17, .int .i64 (left.length : Int)), (18, .int .i64 (i : Int))] [SlO eCell 30 a'1 c'1 ((left.drop (i + 1)).filter (fun x => !(fun z_ => decide (dist z_ x1 ≤ 2 * (r : Int))) x)), As.one B1 (.cells #[.int .i64 x1.col, .int .i64 x1.row] 30 (0, 0)), BoxGo eCell g 22 B a1 c1 bst] := by
          subst hF
          refine .step (l := [0, 1, 3, 6]) (by kernel_rfl) (by decide) ⟨.run rfl trivial ?_, .run rfl trivial ?_, .run rfl trivial ?_, .run rfl trivial ?_, trivial⟩
          · refine .y (.load rfl (.g hM) ag_100 sz_100 rfl) rfl rfl ?_
            exact .weak (.one rfl (.one rfl (.one rfl (.one rfl (.one rfl (.one rfl (.one rfl (.one rfl (.one rfl (.one rfl (.one rfl (.nil)))))))))))) (.refl _) (s2_1)
          · refine .y (.move rfl) rfl rfl ?_
            exact .weak (.one rfl (.one rfl (.one rfl (.one rfl (.one rfl (.one rfl (.one rfl (.one rfl (.one rfl (.one rfl (.one rfl (.nil)))))))))))) (.refl _) (s2_2)
          · refine .y (.load rfl (.own 1 rfl) ag_30 sz_30 rfl) rfl rfl ?_
            exact .weak (.one rfl (.one rfl (.one rfl (.one rfl (.one rfl (.one rfl (.one rfl (.one rfl (.one rfl (.one rfl (.nil))))))))))) (.refl _) (s2_8)
          · refine .y (.move rfl) rfl rfl ?_
            exact .weak (.one rfl (.one rfl (.one rfl (.one rfl (.one rfl (.one rfl (.one rfl (.one rfl (.one rfl (.one rfl (.nil))))))))))) (.refl _) (s2_64)
        subst hF; exact .weak (.one rfl (.one rfl (.one rfl (.one rfl (.one rfl (.one rfl (.one rfl (.one rfl (.one rfl (.one rfl (.nil))))))))))) (.refl _) s2_0
    · refine .exit ?_
      refine inB_hit ?_
      refine ⟨.inl rfl, _, _, (.boxG (.pick 0 rfl (.nil _))), fun own' ho => .zero rfl, ?_⟩
      rw [scat_end hP0.2 (by omega)]; exact ⟨rfl, rfl⟩
theorem scat_ct (g : Hp) {r B D M : Nat} (hD : g D = some (.cells #[.int .i64 (r : Int)] 3 (0, 0))) (hM : g M = some (.cells #[.func (.func 58) #[] #[.pointer (some ⟨B, 0, none⟩), .pointer (some ⟨D, 0, none⟩), .pointer (some ⟨M, 0, none⟩)]] 100 (0, 0))) (hr : r ≤ 3) {n : Nat} {la fa : Option Addr} {lc fc : Nat} {l left best : List Cell} (hl : SlR eCell g la l) (hf : SlR eCell g fa left) (okl : SlOk la lc) (okf : SlOk fa fc) (hln : left.length ≤ n) (hfc : left.length ≤ fc) (hll : l.length + left.length ≤ 50) (hsm : ∀ x ∈ left, Sm x) (hlc : l.length ≤ lc) : Ct Tryz.prog 58 [.slice la l.length lc, .slice fa left.length fc, .pointer (some ⟨B, 0, none⟩), .pointer (some ⟨D, 0, none⟩), .pointer (some ⟨M, 0, none⟩)].toArray g [BoxG eCell g 22 B best] (fun v rs => v = .tuple #[] ∧ rs = [BoxG eCell g 22 B (scatF (r : Int) n l left best)]) := by
  have key : ∀ n, ∀ g', (∀ B x, g B = some x → g' B = some x) → ∀ (la : Option Addr) (lc : Nat) (l : List Cell) (fa : Option Addr) (fc : Nat) (left best : List Cell), SlR eCell g' la l → SlR eCell g' fa left → SlOk la lc → SlOk fa fc → left.length ≤ n → left.length ≤ fc → l.length + left.length ≤ 50 → (∀ x ∈ left, Sm x) → l.length ≤ lc → Ct Tryz.prog 58 [.slice la l.length lc, .slice fa left.length fc, .pointer (some ⟨B, 0, none⟩), .pointer (some ⟨D, 0, none⟩), .pointer (some ⟨M, 0, none⟩)].toArray g' [BoxG eCell g' 22 B best] (fun v rs => v = .tuple #[] ∧ rs = [BoxG eCell g' 22 B (scatF (r : Int) n l left best)]) := by
    intro n
    induction n using Nat.strongRecOn with
    | _ n ih =>
      intro g' hg la lc l fa fc left best hl hf okl okf hln hfc hll hsm hlc
      exact scat_step g' (hg _ _ hD) (hg _ _ hM) hr (fun m hm g2 hg2 la lc l fa fc left best h1 h2 h3 h4 h5 h6 h7 h8 h9 => ih m hm g2 (fun B x e => hg2 _ _ (hg _ _ e)) la lc l fa fc left best h1 h2 h3 h4 h5 h6 h7 h8 h9) hl hf okl okf hln hfc hll hsm hlc
  exact key n g (fun _ _ h => h) la lc l fa fc left best hl hf okl okf hln hfc hll hsm hlc
theorem Scattered_g (g : Hp) {C Rw r : Nat} (hc : 1 ≤ C ∧ C ≤ 5 ∧ 1 ≤ Rw ∧ Rw ≤ 5) (hre : r ≤ 3) : Ct Tryz.prog 10 [.int .i64 (C : Int), .int .i64 (Rw : Int), .int .i64 (r : Int)].toArray g [] (fun v rs => ∃ (a : Option Addr) (c : Nat), v = .tuple #[.slice a ((scatB C Rw (r : Int)).length) c, .int .i64 0] ∧ rs = [SlG eCell g a (scatB C Rw (r : Int))] ∧ (scatB C Rw (r : Int)).length ≤ c) := by
  have h25 : C * Rw ≤ 25 := Nat.mul_le_mul hc.2.1 hc.2.2.2
  have hsm0 : ∀ x ∈ allCells C (C * Rw), Sm x := fun x hx => by obtain ⟨i, hi, rfl⟩ := mapR_mem hx; exact cellAt_Sm hc.2.1 hc.2.2.2 hi
  refine Ct.of_body (N := 38) (l := [.int .i64 (C : Int), .int .i64 (Rw : Int), .int .i64 (r : Int)]) Tryz.func10 rfl rfl (Nat.le_of_ble_eq_true rfl) fun n0 => ?_
  refine .seq ?_
  refine .region ?_
  refine .n (.box rfl) trivial rfl rfl fun B1 => ?_
  refine .y (.assign rfl) trivial rfl rfl ?_
  refine .y (.assign rfl) trivial rfl rfl ?_
  refine .nil ?_
  refine .seq ?_
  refine .region ?_
  refine .y (.move rfl) trivial rfl rfl ?_
  refine .y (.move rfl) trivial rfl rfl ?_
  refine .y (.load rfl (.own 0 rfl) ag_3 sz_3 rfl) trivial rfl rfl ?_
  refine .c (.call rfl rfl fn_51) trivial rfl rfl (fun own ho hd => empty_ct _ hc (by omega)) ?_
  rintro _ _ ⟨rfl, rfl⟩
  refine .y (.move rfl) trivial rfl rfl ?_
  refine .y (.extract rfl rfl) trivial rfl rfl ?_
  refine .y (.extract rfl rfl) trivial rfl rfl ?_
  refine .n (.alloc zr_28) trivial rfl rfl fun B2 => ?_
  refine .cons trivial (.store 0 rfl rfl rfl sz_28 rfl rfl (Nat.le_of_ble_eq_true rfl) rfl ?_)
  refine .y (.assign rfl) trivial rfl rfl ?_
  refine .nil ?_
  refine .seq ?_
  refine .seq ?_
  refine .region ?_
  refine .y (.move rfl) trivial rfl rfl ?_
  refine .y (.to (.neq rfl rfl) (v' := .bool false) rfl) trivial rfl rfl ?_
  refine .nil ?_
  refine .cond_f rfl ?_
  refine .skip ?_
  refine .seq ?_
  refine .region ?_
  refine .n (.alloc zr_22) trivial rfl rfl fun B3 => ?_
  refine .nil ?_
  refine .seq ?_
  refine .seq ?_
  refine .region ?_
  refine .y (.load rfl (.own 1 rfl) ag_28 sz_28 rfl) trivial rfl rfl ?_
  refine .c (.call rfl rfl fn_52) trivial rfl rfl (fun own ho hd => cells_ct _ ) ?_
  rintro _ _ ⟨B4, rfl, rfl⟩
  refine .nil ?_
  refine .block ?_
  refine T.range (N := C * Rw) (enc := fun k1 => [.int .i64 (k1 : Int), .agg #[.int .i64 ((cellAt C k1).col), .int .i64 ((cellAt C k1).row)]]) (r := [As.one B4 (.cells #[.int .i64 (C : Int), .int .i64 (Rw : Int), .slice none 0 0] 28 (0, 0))]) (fun k1 => [BoxS eCell 22 30 B3 (allCells C k1), As.one B2 (.cells #[.int .i64 (C : Int), .int .i64 (Rw : Int), .slice none 0 0] 28 (0, 0)), As.one B1 (.cells #[.int .i64 (r : Int)] 3 (0, 0))]) (fun _ _ => False) rfl fn_123 (fun own ho hd => cells1_it _ (one_in 0 rfl ho hd) (by first | assumption | omega)) (.boxS (by first | assumption | exact .nil) (.pick 1 rfl (.nilSl (.pick 1 rfl (.pick 1 rfl (.pick 0 rfl (.refl _))))))) (fun _ => rfl) (fun p hp => by simp at hp; show p < 38; omega) (fun l1 k1 hk1 => ?_) ?_ ?_
  · have h25k1 : k1 < 25 := Nat.lt_of_lt_of_le hk1 (Nat.mul_le_mul hc.2.1 hc.2.2.2)
    refine .boxS fun a1 c1 oka1 => ?_
    refine .region ?_
    refine .n (.alloc zr_30) trivial rfl rfl fun B5 => ?_
    refine .cons trivial (.store 0 rfl rfl rfl sz_30 rfl rfl (Nat.le_of_ble_eq_true rfl) rfl ?_)
    refine .nil ?_
    refine ⟨rfl, ?_⟩
    refine .block ?_
    refine .region ?_
    refine .y (.load rfl (.own 1 rfl) ag_22 sz_22 rfl) trivial rfl rfl ?_
    refine .y (.load rfl (.own 0 rfl) ag_30 sz_30 rfl) trivial rfl rfl ?_
    refine .n (.lit #[.int .i64 0, .int .i64 0] lz_30_1 rfl sl_22 sz_30 zr_30 rfl rfl rfl) trivial rfl rfl fun B6 => ?_
    refine .cons trivial (.app (E := eCell) (ys := [(cellAt C k1)]) 3 el_22 rfl rfl rfl rfl rfl (.of_cells (.own 0 rfl)) (fun h => by cases h) (by simp [allCells]; omega) (by simp [allCells]; omega) rfl fun a2 c2 oka2 => ?_)
    refine .cons trivial (.store 2 rfl rfl rfl sz_22 rfl rfl (Nat.le_of_ble_eq_true rfl) rfl ?_)
    refine .nil ?_
    show RSub [BoxS eCell 22 30 B3 (allCells C (k1 + 1)), As.one B2 (.cells #[.int .i64 (C : Int), .int .i64 (Rw : Int), .slice none 0 0] 28 (0, 0)), As.one B1 (.cells #[.int .i64 (r : Int)] 3 (0, 0))] _
    rw [show allCells C (k1 + 1) = allCells C k1 ++ [cellAt C k1] from mapR_succ _ _]
    exact (.boxS (by first | assumption | exact .nil) (.pick 2 rfl (.pick 2 rfl (.pick 2 rfl (.pick 2 rfl (.nil _))))))
  · refine .boxS fun a3 c3 oka3 => ?_
    refine .seq ?_
    refine .region ?_
    refine .n (.alloc zr_22) trivial rfl rfl fun B7 => ?_
    refine .nil ?_
    refine .seq ?_
    refine .region ?_
    refine .n (.alloc zr_100) trivial rfl rfl fun B8 => ?_
    refine .nil ?_
    refine .seq ?_
    refine .region ?_
    refine .y (.makeFunc rfl rfl) trivial rfl rfl ?_
    refine .cons trivial (.store 0 rfl rfl rfl sz_100 rfl rfl (Nat.le_of_ble_eq_true rfl) rfl ?_)
    refine .nil ?_
    refine .seq ?_
    refine .region ?_
    refine .y (.load rfl (.own 0 rfl) ag_100 sz_100 rfl) trivial rfl rfl ?_
    refine .y (.load rfl (.own 2 rfl) ag_22 sz_22 rfl) trivial rfl rfl ?_
    refine .pure 3 rfl (fun h hh => SlO.len hh) (fun hcap => ?_)
    refine .cm (l := [BoxG eCell g 22 B7 ([] : List Cell), As.one B1 (.cells #[.int .i64 (r : Int)] 3 (0, 0)), As.one B8 (.cells #[.func (.func 58) #[] #[.pointer (some ⟨B7, 0, none⟩), .pointer (some ⟨B1, 0, none⟩), .pointer (some ⟨B8, 0, none⟩)]] 100 (0, 0)), SlO eCell 30 a3 c3 (allCells C (C * Rw))]) (.boxN 1 rfl (.pick 4 rfl (.pick 0 rfl (.pick 1 rfl (.refl _))))) (.call rfl rfl fn_58) trivial rfl rfl (fun own ho hd => Ct.absorb (fun o ho2 hd2 => scat_ct _ (r := r) (n := C * Rw) (l := []) (one_in (X := { P := Tryz.prog, g := g, ro := none, n0 := 0, N := 0 }) 0 rfl ho2 hd2) (one_in (X := { P := Tryz.prog, g := g, ro := none, n0 := 0, N := 0 }) 1 rfl ho2 hd2) hre (.nil _ _ _) (SlAt.in_own (X := { P := Tryz.prog, g := g, ro := none, n0 := 0, N := 0 }) 2 rfl ho2 hd2) .nil (by assumption) (by simp [allCells]) hcap (by simp [allCells]; omega) hsm0 (Nat.le_refl _))) ?_
    rintro _ _ ⟨rfl, rfl⟩
    refine .boxG fun a4 c4 => ?_
    refine .pure 0 rfl (fun h hh => hh.1) (fun hcapB => ?_)
    refine .nil ?_
    refine .seq ?_
    refine .region ?_
    refine .y (.load rfl (.boxG 0 rfl) ag_22 sz_22 rfl) trivial rfl rfl ?_
    refine .y (.assign rfl) trivial rfl rfl ?_
    refine .y (.assign rfl) trivial rfl rfl ?_
    refine .nil ?_
    refine .ret ?_
    refine ⟨.inr rfl, _, _, (.pickc 0 rfl (fun _ hh => BoxGo.slg hh) (.nil _)), fun own' ho => .two rfl rfl rfl, ?_⟩
    exact ⟨_, _, rfl, rfl, hcapB⟩
  · exact fun _ _ h => h.elim
theorem Scattered_ct (g : Hp) {C Rw r : Nat} (hc : 1 ≤ C ∧ C ≤ 5 ∧ 1 ≤ Rw ∧ Rw ≤ 5) (hre : r ≤ 3) : Ct Tryz.prog 10 [.int .i64 (C : Int), .int .i64 (Rw : Int), .int .i64 (r : Int)].toArray g [] (fun v rs => ∃ (a : Option Addr) (c : Nat), v = .tuple #[.slice a ((scatB C Rw (r : Int)).length) c, .int .i64 0] ∧ rs = [SlD eCell a (scatB C Rw (r : Int))] ∧ (scatB C Rw (r : Int)).length ≤ c) := by
  refine (Scattered_g Hp.emp (r := r) hc hre).weakg (fun B x e => by simp [Hp.emp] at e) |>.mono' ?_
  rintro v rs own ⟨a, c, rfl, rfl, hcap⟩ o
  obtain ⟨u, k, hu, hk, d, rfl⟩ := own_cons.1 o
  exact ⟨_, .cons hu.sld hk d, a, c, rfl, rfl, hcap⟩
end Go.Proofs.YtfcjmoolnadfbaaGreat
