/- Contracts of functions of package rod, printed by vgen: part RF6. -/
import Derived.Test.YtfcjmoolnadfbaaGreatProg
import Derived.Test.YtfcjmoolnadfbaaGreatRSpec
import Derived.Test.YtfcjmoolnadfbaaGreatRF1
import Derived.Test.YtfcjmoolnadfbaaGreatRF2
import Derived.Test.YtfcjmoolnadfbaaGreatRF3
import Derived.Test.YtfcjmoolnadfbaaGreatRF4
import Derived.Test.YtfcjmoolnadfbaaGreatVLate
import Derived.Test.YtfcjmoolnadfbaaGreatSSpec
import Derived.Test.YtfcjmoolnadfbaaGreatSort
import Derived.Test.YtfcjmoolnadfbaaGreatRF5
import Derived.KernelRfl
set_option linter.unusedVariables false
set_option linter.unusedSimpArgs false
namespace Go.Proofs.YtfcjmoolnadfbaaGreat
open Go.V
theorem ag_96 : agOf Tryz.prog 96 = some false := by kernel_rfl
theorem fn_51 : fnOk Tryz.prog 51 = true := by kernel_rfl
theorem fn_54 : fnOk Tryz.prog 54 = true := by kernel_rfl
theorem fn_56 : fnOk Tryz.prog 56 = true := by kernel_rfl
theorem sz_96 : szOf Tryz.prog 96 = some 1 := by kernel_rfl
theorem zr_39 : zeroOf Tryz.prog 39 = some (.slice none 0 0) := by kernel_rfl
theorem zr_96 : zeroOf Tryz.prog 96 = some (.nilFunc) := by kernel_rfl
theorem cover1_step (g : Hp) {whole wide W D R M : Nat} {re : List Nat} {ra : Option Addr} {rc : Nat} (hW : g W = some (.cells #[.int .i64 (whole : Int)] 3 (0, 0))) (hD : g D = some (.cells #[.int .i64 (wide : Int)] 3 (0, 0))) (hR : g R = some (.cells #[.slice ra (reI re).length rc] 39 (0, 0))) (hre : SlR eInt g ra (reI re)) (hM : g M = some (.cells #[.func (.func 54) #[] #[.pointer (some ⟨W, 0, none⟩), .pointer (some ⟨D, 0, none⟩), .pointer (some ⟨R, 0, none⟩), .pointer (some ⟨M, 0, none⟩)]] 96 (0, 0))) (hw : whole < 2 ^ 62) (hb : ∀ x ∈ re, x < 2 ^ 62) (hl : re.length ≤ 62) (hwd : wide ≤ 100) {n s : Nat} (IH : ∀ m, m < n → ∀ g', (∀ B x, g B = some x → g' B = some x) → ∀ s, s < 2 ^ 62 → Ct Tryz.prog 54 [.int .i64 (s : Int), .int .i64 (m : Int), .pointer (some ⟨W, 0, none⟩), .pointer (some ⟨D, 0, none⟩), .pointer (some ⟨R, 0, none⟩), .pointer (some ⟨M, 0, none⟩)].toArray g' [] (fun v rs => ∃ (a : Option Addr) (c : Nat), v = .tuple #[.slice a ((covR whole wide re m s).length) c, .bool (covS whole wide re m s)] ∧ rs = [SlO eInt 3 a c (covR whole wide re m s)] ∧ SlOk a c)) (hs : s < 2 ^ 62) (hn : n ≤ 62) : Ct Tryz.prog 54 [.int .i64 (s : Int), .int .i64 (n : Int), .pointer (some ⟨W, 0, none⟩), .pointer (some ⟨D, 0, none⟩), .pointer (some ⟨R, 0, none⟩), .pointer (some ⟨M, 0, none⟩)].toArray g [] (fun v rs => ∃ (a : Option Addr) (c : Nat), v = .tuple #[.slice a ((covR whole wide re n s).length) c, .bool (covS whole wide re n s)] ∧ rs = [SlO eInt 3 a c (covR whole wide re n s)] ∧ SlOk a c) := by
  refine Ct.of_body (N := 58) (l := [.int .i64 (s : Int), .int .i64 (n : Int), .pointer (some ⟨W, 0, none⟩), .pointer (some ⟨D, 0, none⟩), .pointer (some ⟨R, 0, none⟩), .pointer (some ⟨M, 0, none⟩)]) Tryz.func54 rfl rfl (Nat.le_of_ble_eq_true rfl) fun n0 => ?_
  refine .seq ?_
  refine .region ?_
  refine .y (.assign rfl) trivial rfl rfl ?_
  refine .y (.assign rfl) trivial rfl rfl ?_
  refine .nil ?_
  refine .seq ?_
  refine .region ?_
  refine .y (.load rfl (.g hW) ag_3 sz_3 rfl) trivial rfl rfl ?_
  refine .y (.move rfl) trivial rfl rfl ?_
  refine .y (.andNotN (a := whole) (b := s) rfl rfl ⟨by omega, by omega⟩) trivial rfl rfl ?_
  refine .c (.call rfl rfl fn_55) trivial rfl rfl (fun own ho hd => members_ct _ (s := andn whole s) (andn_lt hw)) ?_
  rintro _ _ ⟨a1, c1, rfl, rfl, hf1⟩
  refine .y (.assign rfl) trivial rfl rfl ?_
  refine .nil ?_
  refine .seq ?_
  refine .seq ?_
  refine .region ?_
  refine .y (.move rfl) trivial rfl rfl ?_
  refine .y (.len rfl sl_39) trivial rfl rfl ?_
  refine .y (.eql rfl rfl) trivial rfl rfl ?_
  refine .nil ?_
  refine .ite rfl (fun h1 => ?_) (fun h1 => ?_)
  · refine .seq ?_
    refine .region ?_
    refine .y (.assign rfl) trivial rfl rfl ?_
    refine .y (.assign rfl) trivial rfl rfl ?_
    refine .nil ?_
    refine .ret ?_
    refine ⟨.inr rfl, _, _, (.nilSl (E := eInt) (T := 3) (.nil _)), fun own' ho => .two rfl rfl rfl, ?_⟩
    have e := cov_empty (wide := wide) (re := re) (n := n) h1
    rw [e.1, e.2]; exact ⟨_, _, rfl, rfl, .nil⟩
  · refine .skip ?_
    refine .seq ?_
    refine .seq ?_
    refine .region ?_
    refine .y (.move rfl) trivial rfl rfl ?_
    refine .y (.len rfl sl_39) trivial rfl rfl ?_
    refine .y (.move rfl) trivial rfl rfl ?_
    refine .y (.load rfl (.g hD) ag_3 sz_3 rfl) trivial rfl rfl ?_
    refine .y (.mul rfl rfl (by have h8 : n * wide ≤ 62 * 100 := Nat.mul_le_mul hn hwd; have h9 : (n : Int) * (wide : Int) = ((n * wide : Nat) : Int) := (by push_cast; rfl); rw [h9]; omega)) trivial rfl rfl ?_
    refine .y (.gtr rfl rfl) trivial rfl rfl ?_
    refine .nil ?_
    refine .ite rfl (fun h2 => ?_) (fun h2 => ?_)
    · refine .seq ?_
      refine .region ?_
      refine .y (.assign rfl) trivial rfl rfl ?_
      refine .y (.assign rfl) trivial rfl rfl ?_
      refine .nil ?_
      refine .ret ?_
      refine ⟨.inr rfl, _, _, (.nilSl (E := eInt) (T := 3) (.nil _)), fun own' ho => .two rfl rfl rfl, ?_⟩
      have e := cov_few (re := re) h1 h2
      rw [e.1, e.2]; exact ⟨_, _, rfl, rfl, .nil⟩
    · have hn1 : 0 < n := cov_pos h1 h2
      obtain ⟨o, orest, ho⟩ := cov_cons h1
      have hlen0 : 0 < (membI (andn whole s)).length := by omega
      refine .skip ?_
      refine .seq ?_
      refine .seq ?_
      refine .region ?_
      refine .y (.load rfl (.g hR) ag_39 sz_39 rfl) trivial rfl rfl ?_
      refine .y (.len rfl sl_39) trivial rfl rfl ?_
      refine .y (.move rfl) trivial rfl rfl ?_
      refine .nil ?_
      refine .block ?_
      refine T.loop (ι := { zz : Nat // zz ≤ re.length ∧ coverF whole wide re n s = tryTip (coverP whole wide re n) s o (re.drop zz) zz }) (fun zz => ([(30, .int .i64 (zz.1 : Int)), (0, .int .i64 (s : Int)), (1, .int .i64 (n : Int)), (5, .pointer (some ⟨M, 0, none⟩)), (10, .slice a1 ((membI (andn whole s)).length) c1), (28, .slice ra ((reI re).length) rc), (29, .int .i64 ((reI re).length : Int))], [SlO eInt 3 a1 c1 (membI (andn whole s))])) (fun zz => re.length - zz.1) ⟨(0), ⟨Nat.zero_le _, cov_try ho h2⟩⟩ (.one rfl (.one rfl (.one rfl (.one rfl (.one rfl (.one rfl (.one rfl (.nil)))))))) (.refl _) ?_
      rintro ⟨i, hP0⟩
      show T _ [(30, .int .i64 (i : Int)), (0, .int .i64 (s : Int)), (1, .int .i64 (n : Int)), (5, .pointer (some ⟨M, 0, none⟩)), (10, .slice a1 ((membI (andn whole s)).length) c1), (28, .slice ra ((reI re).length) rc), (29, .int .i64 ((reI re).length : Int))] [SlO eInt 3 a1 c1 (membI (andn whole s))] _ _
      refine .seq ?_
      refine .region ?_
      refine .y (.lss rfl rfl) trivial rfl rfl ?_
      refine .nil ?_
      refine .seq ?_
      refine .ite rfl (fun h3 => ?_) (fun h3 => ?_)
      · refine .skip ?_
        refine .seq ?_
        refine .block ?_
        refine .seq ?_
        refine .region ?_
        refine .y (.move rfl) trivial rfl rfl ?_
        have hbhx1 : i < (reI re).length := (by exact_mod_cast h3)
        obtain ⟨x1, hx1⟩ : ∃ x1, (reI re)[i]? = some x1 := ⟨_, List.getElem?_eq_getElem hbhx1⟩
        obtain ⟨w_, hw_, rfl⟩ := reI_get hx1
        refine .y (.indexE (E := eInt) rfl rfl (.g hre) rfl sl_39 sz_3 (by omega)) trivial rfl rfl ?_
        refine .y (.loadE (E := eInt) rfl (.g hre) ag_3 sz_3 (by decide) (eInt.rd0 hx1 (by decide) (by decide) rfl)) trivial rfl rfl ?_
        refine .y (.assign rfl) trivial rfl rfl ?_
        refine .y (.assign rfl) trivial rfl rfl ?_
        refine .nil ?_
        refine .seq ?_
        refine .region ?_
        refine .y (.move rfl) trivial rfl rfl ?_
        refine .y (.move rfl) trivial rfl rfl ?_
        have hbhx2 : 0 < (membI (andn whole s)).length := by omega
        obtain ⟨x2, hx2⟩ : ∃ x2, (membI (andn whole s))[0]? = some x2 := ⟨_, List.getElem?_eq_getElem hbhx2⟩
        obtain rfl := cov_first ho hx2
        refine .y (.indexE (E := eInt) rfl rfl (.own 0 rfl) rfl sl_39 sz_3 (by omega)) trivial rfl rfl ?_
        refine .y (.loadE (E := eInt) rfl (.own 0 rfl) ag_3 sz_3 (by decide) (eInt.rd0 hx2 (by decide) (by decide) rfl)) trivial rfl rfl ?_
        refine .y (.shrN (a := w_) (b := o) rfl rfl (by have := hb _ (List.mem_of_getElem? hw_); omega)) trivial rfl rfl ?_
        refine .y (.andN (a := w_ >>> o) (b := 1) rfl rfl ⟨shr_lt (hb _ (List.mem_of_getElem? hw_)), by decide⟩) trivial rfl rfl ?_
        refine .y (.eql rfl rfl) trivial rfl rfl ?_
        refine .nil ?_
        refine .ite rfl (fun h4 => ?_) (fun h4 => ?_)
        · refine .seq ?_
          refine .region ?_
          refine .y (.load rfl (.g hM) ag_96 sz_96 rfl) trivial rfl rfl ?_
          refine .y (.move rfl) trivial rfl rfl ?_
          refine .y (.move rfl) trivial rfl rfl ?_
          refine .y (.orN (a := s) (b := w_) rfl rfl ⟨by omega, by have := hb _ (List.mem_of_getElem? hw_); omega⟩) trivial rfl rfl ?_
          refine .y (.move rfl) trivial rfl rfl ?_
          refine .y (.to (v' := .int .i64 (((n - 1) : Nat) : Int)) (.sub rfl rfl (by omega)) (congrArg _ (by omega))) trivial rfl rfl ?_
          refine .c (.call rfl rfl fn_54) trivial rfl rfl (fun own ho hd => IH _ (by omega) _ (fun B x h => Hp.up h) _ (Nat.or_lt_two_pow hs (hb _ (List.mem_of_getElem? (by assumption))))) ?_
          rintro _ _ ⟨a2, c2, rfl, rfl, hf2⟩
          refine .y (.move rfl) trivial rfl rfl ?_
          refine .y (.extract rfl rfl) trivial rfl rfl ?_
          refine .y (.extract rfl rfl) trivial rfl rfl ?_
          refine .y (.assign rfl) trivial rfl rfl ?_
          refine .y (.assign rfl) trivial rfl rfl ?_
          refine .nil ?_
          refine .seq ?_
          refine .region ?_
          refine .y (.move rfl) trivial rfl rfl ?_
          refine .nil ?_
          refine .cond rfl (fun h5 => ?_) (fun h5 => ?_)
          · refine .seq ?_
            refine .region ?_
            refine .y (.move rfl) trivial rfl rfl ?_
            refine .y (.move rfl) trivial rfl rfl ?_
            refine .n (.lit #[.int .i64 0] lz_3_1 rfl sl_39 sz_3 zr_3 rfl rfl rfl) trivial rfl rfl fun B1 => ?_
            refine .cons trivial (.app (E := eInt) (ys := [(i : Int)]) 1 el_39 rfl rfl rfl rfl rfl (.of_cells (.own 0 rfl)) (fun h => by cases h) (by have := covR_len (whole := whole) (wide := wide) (re := re) (n := n - 1) (set := s ||| w_); simp; omega) (by have := covR_len (whole := whole) (wide := wide) (re := re) (n := n - 1) (set := s ||| w_); simp; omega) rfl fun a3 c3 oka3 => ?_)
            refine .y (.assign rfl) trivial rfl rfl ?_
            refine .y (.assign rfl) trivial rfl rfl ?_
            refine .nil ?_
            refine .ret ?_
            refine ⟨.inr rfl, _, _, (.pick 1 rfl (.nil _)), fun own' ho => .two rfl rfl rfl, ?_⟩
            have e := tt_hit hn1 hP0.2 hw_ h4 h5
            have e1 : covR whole wide re n s = covR whole wide re (n - 1) (s ||| w_) ++ [(i : Int)] := by rw [covR, e]; rfl
            have e2 : covS whole wide re n s = true := by rw [covS, e]; rfl
            rw [e1, e2]; exact ⟨_, _, rfl, rfl, by assumption⟩
          · refine .skip ?_
            refine .region ?_
            refine .y (.add rfl rfl (by omega)) trivial rfl rfl ?_
            refine .y (.move rfl) trivial rfl rfl ?_
            refine .nil ?_
            refine ⟨⟨(i + 1), ?_⟩, ?_, (.one rfl (.one rfl (.one rfl (.one rfl (.one rfl (.one rfl (.one rfl (.nil)))))))), (.pick 1 rfl (.nil _))⟩
            · exact ⟨by simp only [reI_len] at h3; omega, by first | exact tt_skip hP0.2 hw_ h4 | exact tt_none hn1 hP0.2 hw_ h4 h5⟩
            · simp only [reI_len] at h3; show re.length - (i + 1) < re.length - i; omega
        · refine .skip ?_
          refine .region ?_
          refine .y (.add rfl rfl (by omega)) trivial rfl rfl ?_
          refine .y (.move rfl) trivial rfl rfl ?_
          refine .nil ?_
          refine ⟨⟨(i + 1), ?_⟩, ?_, (.one rfl (.one rfl (.one rfl (.one rfl (.one rfl (.one rfl (.one rfl (.nil)))))))), (.refl _)⟩
          · exact ⟨by simp only [reI_len] at h3; omega, by first | exact tt_skip hP0.2 hw_ h4 | exact tt_none hn1 hP0.2 hw_ h4 h5⟩
          · simp only [reI_len] at h3; show re.length - (i + 1) < re.length - i; omega
      · refine .exit ?_
        refine inB_hit ?_
        refine .seq ?_
        refine .region ?_
        refine .y (.assign rfl) trivial rfl rfl ?_
        refine .y (.assign rfl) trivial rfl rfl ?_
        refine .nil ?_
        refine .ret ?_
        refine ⟨.inr rfl, _, _, (.nilSl (E := eInt) (T := 3) (.nil _)), fun own' ho => .two rfl rfl rfl, ?_⟩
        have e := tt_end hP0.2 (by simp only [reI_len] at h3; omega)
        have e1 : covR whole wide re n s = [] := by rw [covR, e]; rfl
        have e2 : covS whole wide re n s = false := by rw [covS, e]; rfl
        rw [e1, e2]; exact ⟨_, _, rfl, rfl, .nil⟩
theorem cover1_ct (g : Hp) {whole wide W D R M : Nat} {re : List Nat} {ra : Option Addr} {rc : Nat} (hW : g W = some (.cells #[.int .i64 (whole : Int)] 3 (0, 0))) (hD : g D = some (.cells #[.int .i64 (wide : Int)] 3 (0, 0))) (hR : g R = some (.cells #[.slice ra (reI re).length rc] 39 (0, 0))) (hre : SlR eInt g ra (reI re)) (hM : g M = some (.cells #[.func (.func 54) #[] #[.pointer (some ⟨W, 0, none⟩), .pointer (some ⟨D, 0, none⟩), .pointer (some ⟨R, 0, none⟩), .pointer (some ⟨M, 0, none⟩)]] 96 (0, 0))) (hw : whole < 2 ^ 62) (hb : ∀ x ∈ re, x < 2 ^ 62) (hl : re.length ≤ 62) (hwd : wide ≤ 100) {n s : Nat} (hs : s < 2 ^ 62) (hn : n ≤ 62) : Ct Tryz.prog 54 [.int .i64 (s : Int), .int .i64 (n : Int), .pointer (some ⟨W, 0, none⟩), .pointer (some ⟨D, 0, none⟩), .pointer (some ⟨R, 0, none⟩), .pointer (some ⟨M, 0, none⟩)].toArray g [] (fun v rs => ∃ (a : Option Addr) (c : Nat), v = .tuple #[.slice a ((covR whole wide re n s).length) c, .bool (covS whole wide re n s)] ∧ rs = [SlO eInt 3 a c (covR whole wide re n s)] ∧ SlOk a c) := by
  have key : ∀ n, n ≤ 62 → ∀ g', (∀ B x, g B = some x → g' B = some x) → ∀ s, s < 2 ^ 62 → Ct Tryz.prog 54 [.int .i64 (s : Int), .int .i64 (n : Int), .pointer (some ⟨W, 0, none⟩), .pointer (some ⟨D, 0, none⟩), .pointer (some ⟨R, 0, none⟩), .pointer (some ⟨M, 0, none⟩)].toArray g' [] (fun v rs => ∃ (a : Option Addr) (c : Nat), v = .tuple #[.slice a ((covR whole wide re n s).length) c, .bool (covS whole wide re n s)] ∧ rs = [SlO eInt 3 a c (covR whole wide re n s)] ∧ SlOk a c) := by
    intro n
    induction n using Nat.strongRecOn with
    | _ n ih =>
      intro hn g' hg s hs
      exact cover1_step g' (hg _ _ hW) (hg _ _ hD) (hg _ _ hR) (hre.mono hg) (hg _ _ hM) hw hb hl hwd (fun m hm g2 hg2 s2 hs2 => ih m hm (by omega) g2 (fun B x e => hg2 _ _ (hg _ _ e)) s2 hs2) hs hn
  exact key n hn g (fun _ _ h => h) s hs
set_option maxHeartbeats 2000000 in
theorem Cover_ct (g : Hp) {C Rw r Tn : Nat} (hc : 1 ≤ C ∧ C ≤ 5 ∧ 1 ≤ Rw ∧ Rw ≤ 5) (hre : r ≤ 3) (hT : 1 ≤ Tn ∧ Tn ≤ 30) (hTt : covOk C Rw r Tn = true) (hTf : ∀ m, m < Tn → 1 ≤ m → covOk C Rw r m = false) (hTn : covL C Rw r Tn ≠ []) : Ct Tryz.prog 9 [.int .i64 (C : Int), .int .i64 (Rw : Int), .int .i64 (r : Int)].toArray g [] (fun v rs => ∃ (a : Option Addr) (c : Nat), v = .tuple #[.slice a ((filtC C (covP (covL C Rw r Tn)) (C * Rw)).length) c, .int .i64 0] ∧ rs = [SlO eCell 30 a c (filtC C (covP (covL C Rw r Tn)) (C * Rw))] ∧ SlOk a c) := by
  have h25 : C * Rw ≤ 25 := Nat.mul_le_mul hc.2.1 hc.2.2.2
  have hwn : wholeN C Rw < 2 ^ 62 := by unfold wholeN; have : 2 ^ (C * Rw) ≤ 2 ^ 25 := Nat.pow_le_pow_right (by decide) h25; omega
  have hwd : wideN r ≤ 100 := (by rcases (by omega : r = 0 ∨ r = 1 ∨ r = 2 ∨ r = 3) with e | e | e | e <;> subst e <;> decide)
  refine Ct.of_body (N := 97) (l := [.int .i64 (C : Int), .int .i64 (Rw : Int), .int .i64 (r : Int)]) Tryz.func9 rfl rfl (Nat.le_of_ble_eq_true rfl) fun n0 => ?_
  refine .seq ?_
  refine .region ?_
  refine .n (.box rfl) trivial rfl rfl fun B1 => ?_
  refine .y (.assign rfl) trivial rfl rfl ?_
  refine .y (.assign rfl) trivial rfl rfl ?_
  refine .nil ?_
  refine .seq ?_
  refine .region ?_
  refine .y (.move rfl) trivial rfl rfl ?_
  refine .y (.move rfl) trivial rfl rfl ?_
  refine .y (.load rfl (.own 0 rfl) ag_3 sz_3 rfl) trivial rfl rfl ?_
  refine .c (.call rfl rfl fn_51) trivial rfl rfl (fun own ho hd => empty_ct _ hc (by omega)) ?_
  rintro _ _ ⟨rfl, rfl⟩
  refine .y (.move rfl) trivial rfl rfl ?_
  refine .y (.extract rfl rfl) trivial rfl rfl ?_
  refine .y (.extract rfl rfl) trivial rfl rfl ?_
  refine .n (.alloc zr_28) trivial rfl rfl fun B2 => ?_
  refine .cons trivial (.store 0 rfl rfl rfl sz_28 rfl rfl (Nat.le_of_ble_eq_true rfl) rfl ?_)
  refine .y (.assign rfl) trivial rfl rfl ?_
  refine .nil ?_
  refine .seq ?_
  refine .seq ?_
  refine .region ?_
  refine .y (.move rfl) trivial rfl rfl ?_
  refine .y (.to (.neq rfl rfl) (v' := .bool false) rfl) trivial rfl rfl ?_
  refine .nil ?_
  refine .cond_f rfl ?_
  refine .skip ?_
  refine .seq ?_
  refine .region ?_
  refine .n (.alloc zr_39) trivial rfl rfl fun B3 => ?_
  refine .nil ?_
  refine .seq ?_
  refine .seq ?_
  refine .region ?_
  refine .y (.load rfl (.own 1 rfl) ag_28 sz_28 rfl) trivial rfl rfl ?_
  refine .c (.call rfl rfl fn_52) trivial rfl rfl (fun own ho hd => cells_ct _ ) ?_
  rintro _ _ ⟨B4, rfl, rfl⟩
  refine .nil ?_
  refine .block ?_
  refine T.range (N := C * Rw) (enc := fun k1 => [.int .i64 (k1 : Int), .agg #[.int .i64 ((cellAt C k1).col), .int .i64 ((cellAt C k1).row)]]) (r := [As.one B4 (.cells #[.int .i64 (C : Int), .int .i64 (Rw : Int), .slice none 0 0] 28 (0, 0))]) (fun k1 => [BoxS eInt 39 3 B3 (reI (reached C Rw (r : Int) k1)), As.one B2 (.cells #[.int .i64 (C : Int), .int .i64 (Rw : Int), .slice none 0 0] 28 (0, 0)), As.one B1 (.cells #[.int .i64 (r : Int)] 3 (0, 0))]) (fun _ _ => False) rfl fn_123 (fun own ho hd => cells1_it _ (one_in 0 rfl ho hd) (by first | assumption | omega)) (.boxS (by first | assumption | exact .nil) (.pick 1 rfl (.nilSl (.pick 1 rfl (.pick 1 rfl (.pick 0 rfl (.refl _))))))) (fun _ => rfl) (fun p hp => by simp at hp; show p < 97; omega) (fun l1 k1 hk1 => ?_) ?_ ?_
  · have h25k1 : k1 < 25 := Nat.lt_of_lt_of_le hk1 (Nat.mul_le_mul hc.2.1 hc.2.2.2)
    refine .boxS fun a1 c1 oka1 => ?_
    refine .region ?_
    refine .n (.alloc zr_30) trivial rfl rfl fun B5 => ?_
    refine .cons trivial (.store 0 rfl rfl rfl sz_30 rfl rfl (Nat.le_of_ble_eq_true rfl) rfl ?_)
    refine .nil ?_
    refine ⟨rfl, ?_⟩
    refine .block ?_
    refine .seq ?_
    refine .region ?_
    refine .n (.alloc zr_3) trivial rfl rfl fun B6 => ?_
    refine .cons trivial (.store 0 rfl rfl rfl sz_3 rfl rfl (Nat.le_of_ble_eq_true rfl) rfl ?_)
    refine .nil ?_
    refine .seq ?_
    refine .seq ?_
    refine .region ?_
    refine .y (.load rfl (.own 4 rfl) ag_28 sz_28 rfl) trivial rfl rfl ?_
    refine .c (.call rfl rfl fn_52) trivial rfl rfl (fun own ho hd => cells_ct _ ) ?_
    rintro _ _ ⟨B7, rfl, rfl⟩
    refine .nil ?_
    refine .block ?_
    refine T.range (N := C * Rw) (enc := fun k2 => [.int .i64 (k2 : Int), .agg #[.int .i64 ((cellAt C k2).col), .int .i64 ((cellAt C k2).row)]]) (r := [As.one B7 (.cells #[.int .i64 (C : Int), .int .i64 (Rw : Int), .slice none 0 0] 28 (0, 0))]) (fun k2 => [As.one B6 (.cells #[.int .i64 (((reachIn C (cellAt C k1) (r : Int) k2) : Nat) : Int)] 3 (0, 0)), As.one B5 (.cells #[.int .i64 ((cellAt C k1).col), .int .i64 ((cellAt C k1).row)] 30 (0, 0)), As.one B3 (.cells #[.slice a1 ((reI (reached C Rw (r : Int) k1)).length) c1] 39 (0, 0)), SlO eInt 3 a1 c1 (reI (reached C Rw (r : Int) k1)), As.one B2 (.cells #[.int .i64 (C : Int), .int .i64 (Rw : Int), .slice none 0 0] 28 (0, 0)), As.one B1 (.cells #[.int .i64 (r : Int)] 3 (0, 0))]) (fun _ _ => False) rfl fn_123 (fun own ho hd => cells1_it _ (one_in 0 rfl ho hd) (by first | assumption | omega)) (.pick 1 rfl (.pick 1 rfl (.pick 1 rfl (.pick 1 rfl (.pick 1 rfl (.pick 1 rfl (.refl _))))))) (fun _ => rfl) (fun p hp => by simp at hp; show p < 97; omega) (fun l2 k2 hk2 => ?_) ?_ ?_
    · have h25k2 : k2 < 25 := Nat.lt_of_lt_of_le hk2 (Nat.mul_le_mul hc.2.1 hc.2.2.2)
      refine .seq ?_
      refine .region ?_
      refine .y (.assign rfl) trivial rfl rfl ?_
      refine .nil ?_
      refine .region ?_
      refine .n (.alloc zr_30) trivial rfl rfl fun B8 => ?_
      refine .cons trivial (.store 0 rfl rfl rfl sz_30 rfl rfl (Nat.le_of_ble_eq_true rfl) rfl ?_)
      refine .nil ?_
      refine ⟨rfl, ?_⟩
      refine .block ?_
      refine .seq ?_
      refine T.dr (N := 97) [(2, (fun v rs => v = .int .i64 (dist (cellAt C k2) (cellAt C k1)) ∧ rs = []))] [0, 0, 3, 0, 15] 4 (by kernel_rfl) flw rfl (Nat.le_of_ble_eq_true rfl) ?_
      refine .y (.load rfl (.own 0 rfl) ag_30 sz_30 rfl) trivial ?_
      refine .y (.load rfl (.own 2 rfl) ag_30 sz_30 rfl) trivial ?_
      refine .c (.call rfl rfl fn_53) trivial (fun own ho hd => from_ct _ (by first | assumption | exact (show RodOk _ from (by assumption)).1 | exact (getRod hv (by assumption)).1 | exact cellAt_Sm hc.2.1 hc.2.2.2 (by assumption)) (by first | assumption | exact (show RodOk _ from (by assumption)).1 | exact (getRod hv (by assumption)).1 | exact cellAt_Sm hc.2.1 hc.2.2.2 (by assumption))) ?_
      rintro _ _ ⟨rfl, rfl⟩
      refine .y (.load rfl (.own 6 rfl) ag_3 sz_3 rfl) trivial ?_
      refine .nil ?_
      refine .y (.leq rfl rfl) trivial rfl rfl ?_
      refine .nil ?_
      refine .ite rfl (fun h1 => ?_) (fun h1 => ?_)
      · refine T.dr (N := 97) [] [0, 0, 2, 7, 15] 3 (by kernel_rfl) flw rfl (Nat.le_of_ble_eq_true rfl) ?_
        refine .y (.load rfl (.own 1 rfl) ag_3 sz_3 rfl) trivial ?_
        refine .y (.move rfl) trivial ?_
        refine .y (.shlN (b := k2) rfl rfl (by omega)) trivial ?_
        refine .nil ?_
        refine .y (.orN (a := (reachIn C (cellAt C k1) (r : Int) k2)) (b := 2 ^ k2) rfl rfl ⟨by have := reachIn_lt (C := C) (tip := cellAt C k1) (reach := (r : Int)) k2 62 (by omega); omega, Nat.pow_lt_pow_right (by decide) (by omega)⟩) trivial rfl rfl ?_
        refine .cons trivial (.store 1 rfl rfl rfl sz_3 rfl rfl (Nat.le_of_ble_eq_true rfl) rfl ?_)
        refine .nil ?_
        show RSub [As.one B6 (.cells #[.int .i64 (((reachIn C (cellAt C k1) (r : Int) (k2 + 1)) : Nat) : Int)] 3 (0, 0)), As.one B5 (.cells #[.int .i64 ((cellAt C k1).col), .int .i64 ((cellAt C k1).row)] 30 (0, 0)), As.one B3 (.cells #[.slice a1 ((reI (reached C Rw (r : Int) k1)).length) c1] 39 (0, 0)), SlO eInt 3 a1 c1 (reI (reached C Rw (r : Int) k1)), As.one B2 (.cells #[.int .i64 (C : Int), .int .i64 (Rw : Int), .slice none 0 0] 28 (0, 0)), As.one B1 (.cells #[.int .i64 (r : Int)] 3 (0, 0))] _
        rw [reachIn_in (by assumption)]
        exact (.pick 1 rfl (.pick 1 rfl (.pick 1 rfl (.pick 1 rfl (.pick 1 rfl (.pick 1 rfl (.nil _)))))))
      · refine .skip ?_
        show RSub [As.one B6 (.cells #[.int .i64 (((reachIn C (cellAt C k1) (r : Int) (k2 + 1)) : Nat) : Int)] 3 (0, 0)), As.one B5 (.cells #[.int .i64 ((cellAt C k1).col), .int .i64 ((cellAt C k1).row)] 30 (0, 0)), As.one B3 (.cells #[.slice a1 ((reI (reached C Rw (r : Int) k1)).length) c1] 39 (0, 0)), SlO eInt 3 a1 c1 (reI (reached C Rw (r : Int) k1)), As.one B2 (.cells #[.int .i64 (C : Int), .int .i64 (Rw : Int), .slice none 0 0] 28 (0, 0)), As.one B1 (.cells #[.int .i64 (r : Int)] 3 (0, 0))] _
        rw [reachIn_out (by assumption)]
        exact (.pick 1 rfl (.pick 1 rfl (.pick 1 rfl (.pick 1 rfl (.pick 1 rfl (.pick 1 rfl (.nil _)))))))
    · skip
      refine .region ?_
      refine .y (.load rfl (.own 2 rfl) ag_39 sz_39 rfl) trivial rfl rfl ?_
      refine .y (.load rfl (.own 0 rfl) ag_3 sz_3 rfl) trivial rfl rfl ?_
      refine .n (.lit #[.int .i64 0] lz_3_1 rfl sl_39 sz_3 zr_3 rfl rfl rfl) trivial rfl rfl fun B9 => ?_
      refine .cons trivial (.app (E := eInt) (ys := [(((reachIn C (cellAt C k1) (r : Int) (C * Rw)) : Nat) : Int)]) 4 el_39 rfl rfl rfl rfl rfl (.of_cells (.own 0 rfl)) (fun h => by cases h) (by simp only [reI_len, reached_len, List.length_singleton]; omega) (by simp only [reI_len, reached_len, List.length_singleton]; omega) rfl fun a2 c2 oka2 => ?_)
      refine .cons trivial (.store 3 rfl rfl rfl sz_39 rfl rfl (Nat.le_of_ble_eq_true rfl) rfl ?_)
      refine .nil ?_
      show RSub [BoxS eInt 39 3 B3 (reI (reached C Rw (r : Int) (k1 + 1))), As.one B2 (.cells #[.int .i64 (C : Int), .int .i64 (Rw : Int), .slice none 0 0] 28 (0, 0)), As.one B1 (.cells #[.int .i64 (r : Int)] 3 (0, 0))] _
      rw [reI_reached]
      exact (.boxS (by first | assumption | exact .nil) (.pick 3 rfl (.pick 3 rfl (.pick 3 rfl (.pick 3 rfl (.nil _))))))
    · exact fun _ _ h => h.elim
  · refine .boxS fun a3 c3 oka3 => ?_
    refine .seq ?_
    refine .region ?_
    refine .y (.load rfl (.own 0 rfl) ag_39 sz_39 rfl) trivial rfl rfl ?_
    refine .y (.len rfl sl_39) trivial rfl rfl ?_
    refine .y (.shlN (b := (reI (reached C Rw (r : Int) (C * Rw))).length) rfl rfl (by simp only [reI_len, reached_len]; omega)) trivial rfl rfl ?_
    refine .y (.to (v' := .int .i64 (((wholeN C Rw) : Nat) : Int)) (.sub rfl rfl (by simp only [reI_len, reached_len]; have : 2 ^ (C * Rw) ≤ 2 ^ 25 := Nat.pow_le_pow_right (by decide) h25; have h1 := Nat.two_pow_pos (C * Rw); omega)) (by have h1 := Nat.two_pow_pos (C * Rw); simp only [reI_len, reached_len, wholeN]; congr 1; omega)) trivial rfl rfl ?_
    refine .n (.alloc zr_3) trivial rfl rfl fun B10 => ?_
    refine .cons trivial (.store 0 rfl rfl rfl sz_3 rfl rfl (Nat.le_of_ble_eq_true rfl) rfl ?_)
    refine .nil ?_
    refine .seq ?_
    refine .region ?_
    refine .y (.load rfl (.own 4 rfl) ag_3 sz_3 rfl) trivial rfl rfl ?_
    refine .y (.mul rfl rfl (by rcases (by omega : r = 0 ∨ r = 1 ∨ r = 2 ∨ r = 3) with e | e | e | e <;> subst e <;> decide)) trivial rfl rfl ?_
    refine .y (.load rfl (.own 4 rfl) ag_3 sz_3 rfl) trivial rfl rfl ?_
    refine .y (.add rfl rfl (by omega)) trivial rfl rfl ?_
    refine .y (.mul rfl rfl (by rcases (by omega : r = 0 ∨ r = 1 ∨ r = 2 ∨ r = 3) with e | e | e | e <;> subst e <;> decide)) trivial rfl rfl ?_
    refine .y (.to (v' := .int .i64 (((wideN r) : Nat) : Int)) (.add rfl rfl (by rcases (by omega : r = 0 ∨ r = 1 ∨ r = 2 ∨ r = 3) with e | e | e | e <;> subst e <;> decide)) (by unfold wideN; push_cast; rfl)) trivial rfl rfl ?_
    refine .n (.alloc zr_3) trivial rfl rfl fun B11 => ?_
    refine .cons trivial (.store 0 rfl rfl rfl sz_3 rfl rfl (Nat.le_of_ble_eq_true rfl) rfl ?_)
    refine .nil ?_
    refine .seq ?_
    refine .region ?_
    refine .n (.alloc zr_96) trivial rfl rfl fun B12 => ?_
    refine .nil ?_
    refine .seq ?_
    refine .region ?_
    refine .y (.makeFunc rfl rfl) trivial rfl rfl ?_
    refine .cons trivial (.store 0 rfl rfl rfl sz_96 rfl rfl (Nat.le_of_ble_eq_true rfl) rfl ?_)
    refine .nil ?_
    refine .seq ?_
    refine .region ?_
    refine .y (.assign rfl) trivial rfl rfl ?_
    refine .nil ?_
    refine .seq ?_
    refine .region ?_
    refine .y (.load rfl (.own 0 rfl) ag_96 sz_96 rfl) trivial rfl rfl ?_
    refine .y (.move rfl) trivial rfl rfl ?_
    refine .c (.call rfl rfl fn_54) trivial rfl rfl (fun own ho hd => cover1_ct _ (one_in 2 rfl ho hd) (one_in 1 rfl ho hd) (one_in 3 rfl ho hd) (SlAt.in_own 4 rfl ho hd) (one_in 0 rfl ho hd) hwn (reached_lt (by omega)) (by rw [reached_len]; omega) hwd (n := 1) (s := 0) (by omega) (by omega)) ?_
    rintro _ _ ⟨a4, c4, rfl, rfl, hf1⟩
    refine .y (.move rfl) trivial rfl rfl ?_
    refine .y (.extract rfl rfl) trivial rfl rfl ?_
    refine .y (.extract rfl rfl) trivial rfl rfl ?_
    refine .n (.alloc zr_39) trivial rfl rfl fun B13 => ?_
    refine .cons trivial (.store 0 rfl rfl rfl sz_39 rfl rfl (Nat.le_of_ble_eq_true rfl) rfl ?_)
    refine .y (.assign rfl) trivial rfl rfl ?_
    refine .nil ?_
    refine .seq ?_
    refine .block ?_
    refine T.loop (ι := { zz : Nat × Option Addr × Nat // 1 ≤ zz.1 ∧ zz.1 ≤ Tn ∧ SlOk zz.2.1 zz.2.2 }) (fun zz => ([(19, .int .i64 (zz.1.1 : Int)), (21, .bool (covS (wholeN C Rw) (wideN r) (reached C Rw (r : Int) (C * Rw)) zz.1.1 0)), (8, .pointer (some ⟨B2, 0, none⟩)), (18, .pointer (some ⟨B12, 0, none⟩)), (20, .pointer (some ⟨B13, 0, none⟩))], [SlO eInt 3 zz.1.2.1 zz.1.2.2 (covR (wholeN C Rw) (wideN r) (reached C Rw (r : Int) (C * Rw)) zz.1.1 0), As.one B13 (.cells #[.slice zz.1.2.1 ((covR (wholeN C Rw) (wideN r) (reached C Rw (r : Int) (C * Rw)) zz.1.1 0).length) zz.1.2.2] 39 (0, 0)), As.one B12 (.cells #[.func (.func 54) #[] #[.pointer (some ⟨B10, 0, none⟩), .pointer (some ⟨B11, 0, none⟩), .pointer (some ⟨B3, 0, none⟩), .pointer (some ⟨B12, 0, none⟩)]] 96 (0, 0)), As.one B11 (.cells #[.int .i64 (((wideN r) : Nat) : Int)] 3 (0, 0)), As.one B10 (.cells #[.int .i64 (((wholeN C Rw) : Nat) : Int)] 3 (0, 0)), As.one B3 (.cells #[.slice a3 ((reI (reached C Rw (r : Int) (C * Rw))).length) c3] 39 (0, 0)), SlO eInt 3 a3 c3 (reI (reached C Rw (r : Int) (C * Rw))), As.one B2 (.cells #[.int .i64 (C : Int), .int .i64 (Rw : Int), .slice none 0 0] 28 (0, 0)), As.one B1 (.cells #[.int .i64 (r : Int)] 3 (0, 0)), As.one B4 (.cells #[.int .i64 (C : Int), .int .i64 (Rw : Int), .slice none 0 0] 28 (0, 0))])) (fun zz => Tn - zz.1.1) ⟨(1, a4, c4), ⟨by omega, by omega, by assumption⟩⟩ (.one rfl (.one rfl (.one rfl (.one rfl (.one rfl (.nil)))))) (.pick 1 rfl (.refl _)) ?_
    rintro ⟨⟨n, a, c⟩, hP4⟩
    dsimp only at hP4
    show T _ [(19, .int .i64 (n : Int)), (21, .bool (covS (wholeN C Rw) (wideN r) (reached C Rw (r : Int) (C * Rw)) n 0)), (8, .pointer (some ⟨B2, 0, none⟩)), (18, .pointer (some ⟨B12, 0, none⟩)), (20, .pointer (some ⟨B13, 0, none⟩))] [SlO eInt 3 a c (covR (wholeN C Rw) (wideN r) (reached C Rw (r : Int) (C * Rw)) n 0), As.one B13 (.cells #[.slice a ((covR (wholeN C Rw) (wideN r) (reached C Rw (r : Int) (C * Rw)) n 0).length) c] 39 (0, 0)), As.one B12 (.cells #[.func (.func 54) #[] #[.pointer (some ⟨B10, 0, none⟩), .pointer (some ⟨B11, 0, none⟩), .pointer (some ⟨B3, 0, none⟩), .pointer (some ⟨B12, 0, none⟩)]] 96 (0, 0)), As.one B11 (.cells #[.int .i64 (((wideN r) : Nat) : Int)] 3 (0, 0)), As.one B10 (.cells #[.int .i64 (((wholeN C Rw) : Nat) : Int)] 3 (0, 0)), As.one B3 (.cells #[.slice a3 ((reI (reached C Rw (r : Int) (C * Rw))).length) c3] 39 (0, 0)), SlO eInt 3 a3 c3 (reI (reached C Rw (r : Int) (C * Rw))), As.one B2 (.cells #[.int .i64 (C : Int), .int .i64 (Rw : Int), .slice none 0 0] 28 (0, 0)), As.one B1 (.cells #[.int .i64 (r : Int)] 3 (0, 0)), As.one B4 (.cells #[.int .i64 (C : Int), .int .i64 (Rw : Int), .slice none 0 0] 28 (0, 0))] _ _
    refine .seq ?_
    refine .seq ?_
    refine .region ?_
    refine .y (.move rfl) trivial rfl rfl ?_
    refine .y (.not rfl) trivial rfl rfl ?_
    refine .nil ?_
    refine .cond rfl (fun h2 => ?_) (fun h2 => ?_)
    · refine .skip ?_
      refine .block ?_
      refine .seq ?_
      refine .region ?_
      refine .y (.move rfl) trivial rfl rfl ?_
      refine .y (.to (v' := .int .i64 (((n + 1) : Nat) : Int)) (.add rfl rfl (by omega)) (congrArg _ (by omega))) trivial rfl rfl ?_
      refine .y (.assign rfl) trivial rfl rfl ?_
      refine .nil ?_
      refine .region ?_
      refine .y (.load rfl (.own 2 rfl) ag_96 sz_96 rfl) trivial rfl rfl ?_
      refine .y (.move rfl) trivial rfl rfl ?_
      refine .c (.call rfl rfl fn_54) trivial rfl rfl (fun own ho hd => cover1_ct _ (one_in 4 rfl ho hd) (one_in 3 rfl ho hd) (one_in 5 rfl ho hd) (SlAt.in_own 6 rfl ho hd) (one_in 2 rfl ho hd) hwn (reached_lt (by omega)) (by rw [reached_len]; omega) hwd (n := (n + 1)) (s := 0) (by omega) (by omega)) ?_
      rintro _ _ ⟨a5, c5, rfl, rfl, hf2⟩
      refine .y (.move rfl) trivial rfl rfl ?_
      refine .y (.extract rfl rfl) trivial rfl rfl ?_
      refine .y (.extract rfl rfl) trivial rfl rfl ?_
      refine .cons trivial (.store 2 rfl rfl rfl sz_39 rfl rfl (Nat.le_of_ble_eq_true rfl) rfl ?_)
      refine .y (.assign rfl) trivial rfl rfl ?_
      refine .nil ?_
      refine ⟨⟨(n + 1, a5, c5), ?_⟩, ?_, (.one rfl (.one rfl (.one rfl (.one rfl (.one rfl (.nil)))))), (.pick 0 rfl (.pick 1 rfl (.pick 1 rfl (.pick 1 rfl (.pick 1 rfl (.pick 1 rfl (.pick 1 rfl (.pick 1 rfl (.pick 1 rfl (.pick 1 rfl (.nil _)))))))))))⟩
      · have hne : n ≠ Tn := fun e => by subst e; rw [show covS (wholeN C Rw) (wideN r) (reached C Rw (r : Int) (C * Rw)) n 0 = true from hTt] at h2; cases h2
        exact ⟨by omega, by omega, by assumption⟩
      · have hne : n ≠ Tn := fun e => by subst e; rw [show covS (wholeN C Rw) (wideN r) (reached C Rw (r : Int) (C * Rw)) n 0 = true from hTt] at h2; cases h2
        show Tn - (n + 1) < Tn - n; omega
    · obtain rfl : n = Tn := by
        rcases Nat.lt_or_ge n Tn with e | e
        · have := hTf n e hP4.1; rw [show covS (wholeN C Rw) (wideN r) (reached C Rw (r : Int) (C * Rw)) n 0 = false from this] at h2; cases h2
        · omega
      refine .exit ?_
      refine inB_hit ?_
      refine .seq ?_
      refine .region ?_
      refine .y (.load rfl (.own 1 rfl) ag_39 sz_39 rfl) trivial rfl rfl ?_
      refine .cm (l := [SlO eInt 3 a c (covR (wholeN C Rw) (wideN r) (reached C Rw (r : Int) (C * Rw)) n 0)]) (.pick 0 rfl (.refl _)) (.call rfl rfl fn_56) trivial rfl rfl (fun own ho hd => sort_ct _ (xs := covR (wholeN C Rw) (wideN r) (reached C Rw (r : Int) (C * Rw)) n 0) hTn (Nat.le_trans covR_len (by omega))) ?_
      rintro _ _ ⟨rfl, rfl⟩
      refine .rsub (.pickc (A' := As.one B13 (.cells #[.slice a ((sortI (covR (wholeN C Rw) (wideN r) (reached C Rw (r : Int) (C * Rw)) n 0)).length) c] 39 (0, 0))) 1 rfl (fun h hh => by rw [sortI_len]; exact hh) (.refl _)) ?_
      refine .nil ?_
      refine .seq ?_
      refine .region ?_
      refine .n (.alloc zr_22) trivial rfl rfl fun B14 => ?_
      refine .nil ?_
      refine .seq ?_
      refine .seq ?_
      refine .region ?_
      refine .y (.load rfl (.own 8 rfl) ag_28 sz_28 rfl) trivial rfl rfl ?_
      refine .c (.call rfl rfl fn_52) trivial rfl rfl (fun own ho hd => cells_ct _ ) ?_
      rintro _ _ ⟨B15, rfl, rfl⟩
      refine .nil ?_
      refine .block ?_
      refine T.range (N := C * Rw) (enc := fun k3 => [.int .i64 (k3 : Int), .agg #[.int .i64 ((cellAt C k3).col), .int .i64 ((cellAt C k3).row)]]) (r := [As.one B15 (.cells #[.int .i64 (C : Int), .int .i64 (Rw : Int), .slice none 0 0] 28 (0, 0))]) (fun k3 => [BoxS eCell 22 30 B14 (filtC C (covP (covL C Rw r n)) k3), As.one B13 (.cells #[.slice a ((sortI (covR (wholeN C Rw) (wideN r) (reached C Rw (r : Int) (C * Rw)) n 0)).length) c] 39 (0, 0)), SlO eInt 3 a c (sortI (covR (wholeN C Rw) (wideN r) (reached C Rw (r : Int) (C * Rw)) n 0)), As.one B12 (.cells #[.func (.func 54) #[] #[.pointer (some ⟨B10, 0, none⟩), .pointer (some ⟨B11, 0, none⟩), .pointer (some ⟨B3, 0, none⟩), .pointer (some ⟨B12, 0, none⟩)]] 96 (0, 0)), As.one B11 (.cells #[.int .i64 (((wideN r) : Nat) : Int)] 3 (0, 0)), As.one B10 (.cells #[.int .i64 (((wholeN C Rw) : Nat) : Int)] 3 (0, 0)), As.one B3 (.cells #[.slice a3 ((reI (reached C Rw (r : Int) (C * Rw))).length) c3] 39 (0, 0)), SlO eInt 3 a3 c3 (reI (reached C Rw (r : Int) (C * Rw))), As.one B2 (.cells #[.int .i64 (C : Int), .int .i64 (Rw : Int), .slice none 0 0] 28 (0, 0)), As.one B1 (.cells #[.int .i64 (r : Int)] 3 (0, 0)), As.one B4 (.cells #[.int .i64 (C : Int), .int .i64 (Rw : Int), .slice none 0 0] 28 (0, 0))]) (fun _ _ => False) rfl fn_123 (fun own ho hd => cells1_it _ (one_in 0 rfl ho hd) (by first | assumption | omega)) (.boxS (by first | assumption | exact .nil) (.pick 1 rfl (.nilSl (.pick 1 rfl (.pick 1 rfl (.pick 1 rfl (.pick 1 rfl (.pick 1 rfl (.pick 1 rfl (.pick 1 rfl (.pick 1 rfl (.pick 1 rfl (.pick 1 rfl (.pick 0 rfl (.refl _))))))))))))))) (fun _ => rfl) (fun p hp => by simp at hp; show p < 97; omega) (fun l3 k3 hk3 => ?_) ?_ ?_
      · have h25k3 : k3 < 25 := Nat.lt_of_lt_of_le hk3 (Nat.mul_le_mul hc.2.1 hc.2.2.2)
        refine .boxS fun a6 c6 oka6 => ?_
        refine .seq ?_
        refine .region ?_
        refine .y (.assign rfl) trivial rfl rfl ?_
        refine .nil ?_
        refine .region ?_
        refine .n (.alloc zr_30) trivial rfl rfl fun B16 => ?_
        refine .cons trivial (.store 0 rfl rfl rfl sz_30 rfl rfl (Nat.le_of_ble_eq_true rfl) rfl ?_)
        refine .nil ?_
        refine ⟨rfl, ?_⟩
        refine .block ?_
        refine .seq ?_
        refine .region ?_
        refine .y (.load rfl (.own 3 rfl) ag_39 sz_39 rfl) trivial rfl rfl ?_
        refine .y (.move rfl) trivial rfl rfl ?_
        refine .c (.call rfl rfl fn_57) trivial rfl rfl (fun own ho hd => containseInt_ct _ (xs := sortI (covR (wholeN C Rw) (wideN r) (reached C Rw (r : Int) (C * Rw)) n 0)) (SlAt.in_own 4 rfl ho hd) (by rw [sortI_len]; exact Nat.le_trans covR_len (by omega))) ?_
        rintro _ _ ⟨rfl, rfl⟩
        refine .nil ?_
        refine .cond rfl (fun h3 => ?_) (fun h3 => ?_)
        · refine .region ?_
          refine .y (.load rfl (.own 1 rfl) ag_22 sz_22 rfl) trivial rfl rfl ?_
          refine .y (.load rfl (.own 0 rfl) ag_30 sz_30 rfl) trivial rfl rfl ?_
          refine .n (.lit #[.int .i64 0, .int .i64 0] lz_30_1 rfl sl_22 sz_30 zr_30 rfl rfl rfl) trivial rfl rfl fun B17 => ?_
          refine .cons trivial (.app (E := eCell) (ys := [(cellAt C k3)]) 3 el_22 rfl rfl rfl rfl rfl (.of_cells (.own 0 rfl)) (fun h => by cases h) (by have := filtC_len C (covP (covL C Rw r n)) k3; simp; omega) (by have := filtC_len C (covP (covL C Rw r n)) k3; simp; omega) rfl fun a7 c7 oka7 => ?_)
          refine .cons trivial (.store 2 rfl rfl rfl sz_22 rfl rfl (Nat.le_of_ble_eq_true rfl) rfl ?_)
          refine .nil ?_
          show RSub [BoxS eCell 22 30 B14 (filtC C (covP (covL C Rw r n)) (k3 + 1)), As.one B13 (.cells #[.slice a ((sortI (covR (wholeN C Rw) (wideN r) (reached C Rw (r : Int) (C * Rw)) n 0)).length) c] 39 (0, 0)), SlO eInt 3 a c (sortI (covR (wholeN C Rw) (wideN r) (reached C Rw (r : Int) (C * Rw)) n 0)), As.one B12 (.cells #[.func (.func 54) #[] #[.pointer (some ⟨B10, 0, none⟩), .pointer (some ⟨B11, 0, none⟩), .pointer (some ⟨B3, 0, none⟩), .pointer (some ⟨B12, 0, none⟩)]] 96 (0, 0)), As.one B11 (.cells #[.int .i64 (((wideN r) : Nat) : Int)] 3 (0, 0)), As.one B10 (.cells #[.int .i64 (((wholeN C Rw) : Nat) : Int)] 3 (0, 0)), As.one B3 (.cells #[.slice a3 ((reI (reached C Rw (r : Int) (C * Rw))).length) c3] 39 (0, 0)), SlO eInt 3 a3 c3 (reI (reached C Rw (r : Int) (C * Rw))), As.one B2 (.cells #[.int .i64 (C : Int), .int .i64 (Rw : Int), .slice none 0 0] 28 (0, 0)), As.one B1 (.cells #[.int .i64 (r : Int)] 3 (0, 0)), As.one B4 (.cells #[.int .i64 (C : Int), .int .i64 (Rw : Int), .slice none 0 0] 28 (0, 0))] _
          rw [filtC_in (by rw [covP, ← inL_sort]; assumption)]
          exact (.boxS (by first | assumption | exact .nil) (.pick 2 rfl (.pick 2 rfl (.pick 2 rfl (.pick 2 rfl (.pick 2 rfl (.pick 2 rfl (.pick 2 rfl (.pick 2 rfl (.pick 2 rfl (.pick 2 rfl (.pick 2 rfl (.pick 2 rfl (.nil _))))))))))))))
        · refine .skip ?_
          show RSub [BoxS eCell 22 30 B14 (filtC C (covP (covL C Rw r n)) (k3 + 1)), As.one B13 (.cells #[.slice a ((sortI (covR (wholeN C Rw) (wideN r) (reached C Rw (r : Int) (C * Rw)) n 0)).length) c] 39 (0, 0)), SlO eInt 3 a c (sortI (covR (wholeN C Rw) (wideN r) (reached C Rw (r : Int) (C * Rw)) n 0)), As.one B12 (.cells #[.func (.func 54) #[] #[.pointer (some ⟨B10, 0, none⟩), .pointer (some ⟨B11, 0, none⟩), .pointer (some ⟨B3, 0, none⟩), .pointer (some ⟨B12, 0, none⟩)]] 96 (0, 0)), As.one B11 (.cells #[.int .i64 (((wideN r) : Nat) : Int)] 3 (0, 0)), As.one B10 (.cells #[.int .i64 (((wholeN C Rw) : Nat) : Int)] 3 (0, 0)), As.one B3 (.cells #[.slice a3 ((reI (reached C Rw (r : Int) (C * Rw))).length) c3] 39 (0, 0)), SlO eInt 3 a3 c3 (reI (reached C Rw (r : Int) (C * Rw))), As.one B2 (.cells #[.int .i64 (C : Int), .int .i64 (Rw : Int), .slice none 0 0] 28 (0, 0)), As.one B1 (.cells #[.int .i64 (r : Int)] 3 (0, 0)), As.one B4 (.cells #[.int .i64 (C : Int), .int .i64 (Rw : Int), .slice none 0 0] 28 (0, 0))] _
          rw [filtC_out (notT (by rw [covP, ← inL_sort]; exact h3))]
          exact (.boxS (by first | assumption | exact .nil) (.pick 1 rfl (.pick 1 rfl (.pick 1 rfl (.pick 1 rfl (.pick 1 rfl (.pick 1 rfl (.pick 1 rfl (.pick 1 rfl (.pick 1 rfl (.pick 1 rfl (.pick 1 rfl (.pick 1 rfl (.nil _))))))))))))))
      · refine .boxS fun a8 c8 oka8 => ?_
        refine .seq ?_
        refine .region ?_
        refine .y (.load rfl (.own 0 rfl) ag_22 sz_22 rfl) trivial rfl rfl ?_
        refine .y (.assign rfl) trivial rfl rfl ?_
        refine .y (.assign rfl) trivial rfl rfl ?_
        refine .nil ?_
        refine .ret ?_
        refine ⟨.inr rfl, _, _, (.pick 1 rfl (.nil _)), fun own' ho => .two rfl rfl rfl, ?_⟩
        exact ⟨_, _, rfl, rfl, by assumption⟩
      · exact fun _ _ h => h.elim
  · exact fun _ _ h => h.elim
end Go.Proofs.YtfcjmoolnadfbaaGreat
