/- Contracts of functions of package rod, printed by vgen: part RF2. -/
import Derived.Test.YtfcjmoolnadfbaaGreatProg
import Derived.Test.YtfcjmoolnadfbaaGreatRSpec
import Derived.Test.YtfcjmoolnadfbaaGreatRF1
import Derived.KernelRfl
set_option linter.unusedVariables false
set_option linter.unusedSimpArgs false
namespace Go.Proofs.YtfcjmoolnadfbaaGreat
open Go.V
theorem ag_39 : agOf Tryz.prog 39 = some false := by kernel_rfl
theorem el_22 : ElOk Tryz.prog 22 30 2 16 (.agg #[.int .i64 0, .int .i64 0]) := ⟨by kernel_rfl, by kernel_rfl, rfl⟩
theorem fn_122 : fnOk Tryz.prog 122 = true := by kernel_rfl
theorem fn_22 : fnOk Tryz.prog 22 = true := by kernel_rfl
theorem fn_48 : fnOk Tryz.prog 48 = true := by kernel_rfl
theorem fn_57 : fnOk Tryz.prog 57 = true := by kernel_rfl
theorem fn_73 : fnOk Tryz.prog 73 = true := by kernel_rfl
theorem pl_28 : plOf Tryz.prog 28 = some [(0, 1), (1, 1), (2, 1)] := by kernel_rfl
theorem sz_39 : szOf Tryz.prog 39 = some 1 := by kernel_rfl
theorem zr_28 : zeroOf Tryz.prog 28 = some (.agg #[.int .i64 0, .int .i64 0, .slice none 0 0]) := by kernel_rfl
theorem cloneeInt_ct (g : Hp) {a : Option Addr} {c : Nat} {xs : List Int} (hs : SlR eInt g a xs) (ok : SlOk a c) (hl : xs.length ≤ 1000000) : Ct Tryz.prog 48 [.slice a xs.length c].toArray g [] (fun v rs => ∃ (a' : Option Addr) (c' : Nat), v = .slice a' xs.length c' ∧ rs = [SlO eInt 3 a' c' xs] ∧ SlOk a' c') := by
  refine Ct.of_body (N := 8) (l := [.slice a xs.length c]) Tryz.func48 rfl rfl (Nat.le_of_ble_eq_true rfl) fun n0 => ?_
  refine .seq ?_
  refine .region ?_
  refine .y (.assign rfl) trivial rfl rfl ?_
  refine .nil ?_
  refine .seq ?_
  refine .seq ?_
  refine .region ?_
  refine .y (.move rfl) trivial rfl rfl ?_
  refine .y (.nilSlice rfl rfl sl_39) trivial rfl rfl ?_
  refine .nil ?_
  refine .cond rfl (fun h1 => ?_) (fun h1 => ?_)
  · refine .seq ?_
    refine .region ?_
    refine .y (.assign rfl) trivial rfl rfl ?_
    refine .nil ?_
    refine .ret ?_
    refine ⟨.inr rfl, _, _, (.nilSl (E := eInt) (T := 3) (.nil _)), fun own' ho => .one rfl rfl, ?_⟩
    obtain rfl : a = none := by simpa using h1
    obtain rfl := hs.none
    exact ⟨_, _, rfl, rfl, .nil⟩
  · refine .skip ?_
    refine .seq ?_
    refine .region ?_
    refine .n (.lit0 sl_39 sz_3) trivial rfl rfl fun B1 => ?_
    refine .rsub (.cons (one_slo0 (E := eInt)) (.refl _)) ?_
    refine .y (.move rfl) trivial rfl rfl ?_
    refine .cons trivial (.app (E := eInt) (ys := xs) 0 el_39 rfl rfl rfl rfl rfl (.of_slice (.g hs) (SlOk.at (by first | assumption | exact .nil | exact .some))) (SlOk.cap (by first | assumption | exact .nil | exact .some)) (by first | omega | (simp; omega) | (simp [*]; omega)) (by first | omega | (simp; omega) | (simp [*]; omega)) rfl fun a1 c1 oka1 => ?_)
    refine .y (.assign rfl) trivial rfl rfl ?_
    refine .nil ?_
    refine .ret ?_
    refine ⟨.inr rfl, _, _, (.pick 0 rfl (.nil _)), fun own' ho => .one rfl rfl, ?_⟩
    exact ⟨_, _, rfl, rfl, by assumption⟩
theorem cloneeCell_ct (g : Hp) {a : Option Addr} {c : Nat} {xs : List Cell} (hs : SlR eCell g a xs) (ok : SlOk a c) (hl : xs.length ≤ 1000000) : Ct Tryz.prog 60 [.slice a xs.length c].toArray g [] (fun v rs => ∃ (a' : Option Addr) (c' : Nat), v = .slice a' xs.length c' ∧ rs = [SlO eCell 30 a' c' xs] ∧ SlOk a' c') := by
  refine Ct.of_body (N := 8) (l := [.slice a xs.length c]) Tryz.func60 rfl rfl (Nat.le_of_ble_eq_true rfl) fun n0 => ?_
  refine .seq ?_
  refine .region ?_
  refine .y (.assign rfl) trivial rfl rfl ?_
  refine .nil ?_
  refine .seq ?_
  refine .seq ?_
  refine .region ?_
  refine .y (.move rfl) trivial rfl rfl ?_
  refine .y (.nilSlice rfl rfl sl_22) trivial rfl rfl ?_
  refine .nil ?_
  refine .cond rfl (fun h1 => ?_) (fun h1 => ?_)
  · refine .seq ?_
    refine .region ?_
    refine .y (.assign rfl) trivial rfl rfl ?_
    refine .nil ?_
    refine .ret ?_
    refine ⟨.inr rfl, _, _, (.nilSl (E := eCell) (T := 30) (.nil _)), fun own' ho => .one rfl rfl, ?_⟩
    obtain rfl : a = none := by simpa using h1
    obtain rfl := hs.none
    exact ⟨_, _, rfl, rfl, .nil⟩
  · refine .skip ?_
    refine .seq ?_
    refine .region ?_
    refine .n (.lit0 sl_22 sz_30) trivial rfl rfl fun B1 => ?_
    refine .rsub (.cons (one_slo0 (E := eCell)) (.refl _)) ?_
    refine .y (.move rfl) trivial rfl rfl ?_
    refine .cons trivial (.app (E := eCell) (ys := xs) 0 el_22 rfl rfl rfl rfl rfl (.of_slice (.g hs) (SlOk.at (by first | assumption | exact .nil | exact .some))) (SlOk.cap (by first | assumption | exact .nil | exact .some)) (by first | omega | (simp; omega) | (simp [*]; omega)) (by first | omega | (simp; omega) | (simp [*]; omega)) rfl fun a1 c1 oka1 => ?_)
    refine .y (.assign rfl) trivial rfl rfl ?_
    refine .nil ?_
    refine .ret ?_
    refine ⟨.inr rfl, _, _, (.pick 0 rfl (.nil _)), fun own' ho => .one rfl rfl, ?_⟩
    exact ⟨_, _, rfl, rfl, by assumption⟩
theorem list_ct (g : Hp) {C Rw : Nat} {ra : Option Addr} {rn rc : Nat} {h : List Int} (hc : 1 ≤ C ∧ C ≤ 5 ∧ 1 ≤ Rw ∧ Rw ≤ 5) (hh : h.length = 25) : Ct Tryz.prog 76 [.agg #[.int .i64 (C : Int), .int .i64 (Rw : Int), .slice ra rn rc], .agg (h.map argI).toArray].toArray g [] (fun v rs => ∃ (a' : Option Addr) (c' : Nat), v = .slice a' ((h.take (C * Rw)).length) c' ∧ rs = [SlO eInt 3 a' c' (h.take (C * Rw))] ∧ SlOk a' c') := by
  have h25 : C * Rw ≤ 25 := Nat.mul_le_mul hc.2.1 hc.2.2.2
  have h25i : (C : Int) * (Rw : Int) = ((C * Rw : Nat) : Int) := by push_cast; rfl
  refine Ct.of_body (N := 12) (l := [.agg #[.int .i64 (C : Int), .int .i64 (Rw : Int), .slice ra rn rc], .agg (h.map argI).toArray]) Tryz.func76 rfl rfl (Nat.le_of_ble_eq_true rfl) fun n0 => ?_
  refine .seq ?_
  refine .region ?_
  refine .n (.box rfl) trivial rfl rfl fun B1 => ?_
  refine .n (.box rfl) trivial rfl rfl fun B2 => ?_
  refine .y (.assign rfl) trivial rfl rfl ?_
  refine .nil ?_
  refine .seq ?_
  refine .region ?_
  refine .y (.fieldAddr rfl fl_28_0) trivial rfl rfl ?_
  refine .y (.load rfl (.own 1 rfl) ag_3 sz_3 rfl) trivial rfl rfl ?_
  refine .y (.fieldAddr rfl fl_28_1) trivial rfl rfl ?_
  refine .y (.load rfl (.own 1 rfl) ag_3 sz_3 rfl) trivial rfl rfl ?_
  refine .y (.mul rfl rfl (by omega)) trivial rfl rfl ?_
  refine .y (.to (v' := .slice (some ⟨B2, 0, none⟩) ((h.take (C * Rw)).length) 25) (.sliceArr rfl rfl ar_121 sz_3 (by omega)) (by rw [h25i, Int.toNat_natCast, List.length_take, hh, Nat.min_eq_left h25])) trivial rfl rfl ?_
  refine .c (.call rfl rfl fn_48) trivial rfl rfl (fun own ho hd => cloneeInt_ct _ (xs := h.take (C * Rw)) (SlR.of_arr (one_in 0 rfl ho hd) (by first | omega | (simp; omega) | exact Nat.le_trans (membI_len _) (by decide) | (simp [*]; done) | (simp [*]; omega))) (by first | assumption | exact .nil | exact .some | exact .drop (by assumption)) (by first | omega | (simp; omega) | (simp [*]; omega))) ?_
  rintro _ _ ⟨a'1, c'1, rfl, rfl, hf1⟩
  refine .y (.assign rfl) trivial rfl rfl ?_
  refine .nil ?_
  refine .ret ?_
  refine ⟨.inr rfl, _, _, (.pick 0 rfl (.nil _)), fun own' ho => .one rfl rfl, ?_⟩
  exact ⟨_, _, rfl, rfl, by assumption⟩
theorem some1_ct (g : Hp) {a : Option Addr} {c : Nat} {xs : List Int} {B : Nat} {n : Int} (hB : g B = some (.cells #[.slice a xs.length c] 39 (0, 0))) (hs : SlR eInt g a xs) (hl : xs.length ≤ 1000000) : Ct Tryz.prog 145 [.int .i64 n, .pointer (some ⟨B, 0, none⟩)].toArray g [] (fun v rs => v = .bool (xs.any (fun x => decide (n = x))) ∧ rs = []) := by
  refine Ct.of_body (N := 7) (l := [.int .i64 n, .pointer (some ⟨B, 0, none⟩)]) Tryz.func145 rfl rfl (Nat.le_of_ble_eq_true rfl) fun n0 => ?_
  refine .seq ?_
  refine .region ?_
  refine .y (.assign rfl) trivial rfl rfl ?_
  refine .nil ?_
  refine .seq ?_
  refine .region ?_
  refine .y (.load rfl (.g hB) ag_39 sz_39 rfl) trivial rfl rfl ?_
  refine .y (.move rfl) trivial rfl rfl ?_
  refine .c (.call rfl rfl fn_57) trivial rfl rfl (fun own ho hd => containseInt_ct _ (xs := xs) (SlR.up hs) (by omega)) ?_
  rintro _ _ ⟨rfl, rfl⟩
  refine .y (.assign rfl) trivial rfl rfl ?_
  refine .nil ?_
  refine .ret ?_
  refine ⟨.inr rfl, _, _, (.nil _), fun own' ho => .one rfl rfl, ?_⟩
  first | exact ⟨rfl, rfl⟩ | (refine ⟨?_, rfl⟩; simp [*])
theorem some_ct (g : Hp) {a : Option Addr} {c : Nat} {xs : List Int} : Ct Tryz.prog 102 [.slice a xs.length c].toArray g [] (fun v rs => ∃ (B : Nat), v = .agg #[.func (.func 145) #[] #[.pointer (some ⟨B, 0, none⟩)]] ∧ rs = [As.one B (.cells #[.slice a xs.length c] 39 (0, 0))]) := by
  refine Ct.of_body (N := 5) (l := [.slice a xs.length c]) Tryz.func102 rfl rfl (Nat.le_of_ble_eq_true rfl) fun n0 => ?_
  refine .seq ?_
  refine .region ?_
  refine .n (.box rfl) trivial rfl rfl fun B1 => ?_
  refine .n (.alloc zr_131) trivial rfl rfl fun B2 => ?_
  refine .nil ?_
  refine .seq ?_
  refine .region ?_
  refine .y (.makeFunc rfl rfl) trivial rfl rfl ?_
  refine .y (.build rfl pl_131 zr_131 rfl) trivial rfl rfl ?_
  refine .cons trivial (.store 0 rfl rfl rfl sz_131 rfl rfl (Nat.le_of_ble_eq_true rfl) rfl ?_)
  refine .nil ?_
  refine .ret ?_
  refine ⟨.inr rfl, _, _, (.pick 1 rfl (.nil _)), fun own' ho => .one2 rfl (.c rfl (own_get 0 rfl ho) ag_131 sz_131 rfl), ?_⟩
  exact ⟨_, rfl, rfl⟩
theorem cell_ct (g : Hp) {cols rows : Int} {ra : Option Addr} {rn rc : Nat} {a : Cell} (hc : 1 ≤ cols ∧ cols ≤ 5 ∧ 1 ≤ rows ∧ rows ≤ 5) : Ct Tryz.prog 73 [.agg #[.int .i64 cols, .int .i64 rows, .slice ra rn rc], .agg #[.int .i64 a.col, .int .i64 a.row]].toArray g [] (fun v rs => v = .int .i64 (if hasC cols rows a = true then 0 else 1) ∧ rs = []) := by
  refine Ct.of_body (N := 12) (l := [.agg #[.int .i64 cols, .int .i64 rows, .slice ra rn rc], .agg #[.int .i64 a.col, .int .i64 a.row]]) Tryz.func73 rfl rfl (Nat.le_of_ble_eq_true rfl) fun n0 => ?_
  refine .seq ?_
  refine .region ?_
  refine .n (.box rfl) trivial rfl rfl fun B1 => ?_
  refine .n (.box rfl) trivial rfl rfl fun B2 => ?_
  refine .y (.assign rfl) trivial rfl rfl ?_
  refine .nil ?_
  refine .seq ?_
  refine .seq ?_
  refine .region ?_
  refine .y (.load rfl (.own 1 rfl) ag_28 sz_28 rfl) trivial rfl rfl ?_
  refine .y (.makeFunc rfl rfl) trivial rfl rfl ?_
  refine .y (.assign rfl) trivial rfl rfl ?_
  refine .nil ?_
  refine .seq ?_
  refine .region ?_
  refine .y (.move rfl) trivial rfl rfl ?_
  refine .y (.load rfl (.own 0 rfl) ag_30 sz_30 rfl) trivial rfl rfl ?_
  refine .c (.call rfl rfl fn_85) trivial rfl rfl (fun own ho hd => has_ct _ hc) ?_
  rintro _ _ ⟨rfl, rfl⟩
  refine .y (.not rfl) trivial rfl rfl ?_
  refine .nil ?_
  refine .cond rfl (fun h1 => ?_) (fun h1 => ?_)
  · refine .seq ?_
    refine .region ?_
    refine .y (.assign rfl) trivial rfl rfl ?_
    refine .nil ?_
    refine .ret ?_
    refine ⟨.inr rfl, _, _, (.nil _), fun own' ho => .one rfl rfl, ?_⟩
    refine ⟨?_, rfl⟩; simp at h1; simp [h1]
  · refine .skip ?_
    refine .seq ?_
    refine .region ?_
    refine .y (.assign rfl) trivial rfl rfl ?_
    refine .nil ?_
    refine .ret ?_
    refine ⟨.inr rfl, _, _, (.nil _), fun own' ho => .one rfl rfl, ?_⟩
    refine ⟨?_, rfl⟩; simp at h1; simp [h1]
theorem reach_ct (g : Hp) {cols rows : Int} {ra : Option Addr} {rn rc : Nat} {a : Cell} {reach : Int} (hc : 1 ≤ cols ∧ cols ≤ 5 ∧ 1 ≤ rows ∧ rows ≤ 5) : Ct Tryz.prog 122 [.agg #[.int .i64 cols, .int .i64 rows, .slice ra rn rc], .agg #[.int .i64 a.col, .int .i64 a.row], .int .i64 reach].toArray g [] (fun v rs => v = .int .i64 (reachE cols rows a reach) ∧ rs = []) := by
  refine Ct.of_body (N := 17) (l := [.agg #[.int .i64 cols, .int .i64 rows, .slice ra rn rc], .agg #[.int .i64 a.col, .int .i64 a.row], .int .i64 reach]) Tryz.func122 rfl rfl (Nat.le_of_ble_eq_true rfl) fun n0 => ?_
  refine .seq ?_
  refine .region ?_
  refine .n (.box rfl) trivial rfl rfl fun B1 => ?_
  refine .n (.box rfl) trivial rfl rfl fun B2 => ?_
  refine .y (.assign rfl) trivial rfl rfl ?_
  refine .nil ?_
  refine .seq ?_
  refine .seq ?_
  refine .region ?_
  refine .y (.load rfl (.own 1 rfl) ag_28 sz_28 rfl) trivial rfl rfl ?_
  refine .y (.load rfl (.own 0 rfl) ag_30 sz_30 rfl) trivial rfl rfl ?_
  refine .c (.call rfl rfl fn_73) trivial rfl rfl (fun own ho hd => cell_ct _ (by omega)) ?_
  rintro _ _ ⟨rfl, rfl⟩
  refine .y (.assign rfl) trivial rfl rfl ?_
  refine .nil ?_
  refine .seq ?_
  refine .region ?_
  refine .y (.move rfl) trivial rfl rfl ?_
  refine .y (.neq rfl rfl) trivial rfl rfl ?_
  refine .nil ?_
  refine .ite rfl (fun h1 => ?_) (fun h1 => ?_)
  · refine .seq ?_
    refine .region ?_
    refine .y (.move rfl) trivial rfl rfl ?_
    refine .y (.assign rfl) trivial rfl rfl ?_
    refine .nil ?_
    refine .ret ?_
    refine ⟨.inr rfl, _, _, (.nil _), fun own' ho => .one rfl rfl, ?_⟩
    refine ⟨?_, rfl⟩; have h1 := h1; simp only [reachE] at *; by_cases e : hasC cols rows a = true <;> simp [e] at h1 ⊢
  · refine .skip ?_
    refine .seq ?_
    refine .seq ?_
    refine .region ?_
    refine .y (.move rfl) trivial rfl rfl ?_
    refine .c (.call rfl rfl fn_83) trivial rfl rfl (fun own ho hd => in_ct _ ) ?_
    rintro _ _ ⟨rfl, rfl⟩
    refine .y (.not rfl) trivial rfl rfl ?_
    refine .nil ?_
    refine .cond rfl (fun h2 => ?_) (fun h2 => ?_)
    · refine .seq ?_
      refine .region ?_
      refine .y (.assign rfl) trivial rfl rfl ?_
      refine .nil ?_
      refine .ret ?_
      refine ⟨.inr rfl, _, _, (.nil _), fun own' ho => .one rfl rfl, ?_⟩
      refine ⟨?_, rfl⟩; have h1 := h1; by_cases e : hasC cols rows a = true <;> simp [e] at h1 h2 ⊢; simp [reachE, e]; omega
    · refine .skip ?_
      refine .seq ?_
      refine .region ?_
      refine .y (.assign rfl) trivial rfl rfl ?_
      refine .nil ?_
      refine .ret ?_
      refine ⟨.inr rfl, _, _, (.nil _), fun own' ho => .one rfl rfl, ?_⟩
      refine ⟨?_, rfl⟩; have h1 := h1; by_cases e : hasC cols rows a = true <;> simp [e] at h1 h2 ⊢; simp [reachE, e]; omega
theorem empty_ct (g : Hp) {C Rw : Nat} {reach : Int} (hc : 1 ≤ C ∧ C ≤ 5 ∧ 1 ≤ Rw ∧ Rw ≤ 5) (hre : 0 ≤ reach ∧ reach ≤ 3) : Ct Tryz.prog 51 [.int .i64 (C : Int), .int .i64 (Rw : Int), .int .i64 reach].toArray g [] (fun v rs => v = .tuple #[.agg #[.int .i64 (C : Int), .int .i64 (Rw : Int), .slice none 0 0], .int .i64 0] ∧ rs = []) := by
  refine Ct.of_body (N := 24) (l := [.int .i64 (C : Int), .int .i64 (Rw : Int), .int .i64 reach]) Tryz.func51 rfl rfl (Nat.le_of_ble_eq_true rfl) fun n0 => ?_
  refine .seq ?_
  refine .region ?_
  refine .n (.alloc zr_28) trivial rfl rfl fun B1 => ?_
  refine .y (.assign rfl) trivial rfl rfl ?_
  refine .nil ?_
  refine .seq ?_
  refine .region ?_
  refine .y (.move rfl) trivial rfl rfl ?_
  refine .y (.move rfl) trivial rfl rfl ?_
  refine .y (.build rfl pl_28 zr_28 rfl) trivial rfl rfl ?_
  refine .n (.alloc zr_28) trivial rfl rfl fun B2 => ?_
  refine .cons trivial (.store 0 rfl rfl rfl sz_28 rfl rfl (Nat.le_of_ble_eq_true rfl) rfl ?_)
  refine .nil ?_
  refine .seq ?_
  refine .seq ?_
  refine .region ?_
  refine .y (.load rfl (.own 0 rfl) ag_28 sz_28 rfl) trivial rfl rfl ?_
  refine .c (.call rfl rfl fn_22) trivial rfl rfl (fun own ho hd => Check_ct _ (rods := []) (.nil _ _ _) (by first | omega | simp)) ?_
  rintro _ _ ⟨rfl, rfl⟩
  refine .y (.assign rfl) trivial rfl rfl ?_
  refine .nil ?_
  refine .seq ?_
  refine .region ?_
  refine .y (.move rfl) trivial rfl rfl ?_
  refine .y (.neq rfl rfl) trivial rfl rfl ?_
  refine .nil ?_
  refine .ite rfl (fun h1 => ?_) (fun h1 => ?_)
  · exact absurd h1 (by simp [chkBin]; omega)
  · refine .skip ?_
    refine .seq ?_
    refine T.dr (N := 24) [(4, (fun v rs => v = .int .i64 (reachE (C : Int) (Rw : Int) (⟨0, 0⟩) reach) ∧ rs = []))] [0, 0, 0, 0, 14, 31, 63] 5 (by kernel_rfl) flw rfl (Nat.le_of_ble_eq_true rfl) ?_
    refine .y (.load rfl (.own 0 rfl) ag_28 sz_28 rfl) trivial ?_
    refine .y (.load rfl (.own 0 rfl) ag_28 sz_28 rfl) trivial ?_
    refine .y (.build rfl pl_30 zr_30 rfl) trivial ?_
    refine .y (.move rfl) trivial ?_
    refine .c (.call rfl rfl fn_122) trivial (fun own ho hd => reach_ct _ (by omega)) ?_
    rintro _ _ ⟨rfl, rfl⟩
    refine .nil ?_
    refine .cons trivial (.store 1 rfl rfl rfl sz_28 rfl rfl (Nat.le_of_ble_eq_true rfl) rfl ?_)
    refine .y (.assign rfl) trivial rfl rfl ?_
    refine .nil ?_
    refine .ret ?_
    refine ⟨.inr rfl, _, _, (.nil _), fun own' ho => .two2 rfl (.c rfl (own_get 1 rfl ho) ag_28 sz_28 rfl) (.t rfl), ?_⟩
    refine ⟨?_, rfl⟩; rw [reachE_ok (hasC_iff.2 (by simp only []; omega)) hre]; rfl
end Go.Proofs.YtfcjmoolnadfbaaGreat
