/- The library's sort of cells by a function, of at most twelve, at this program: laid out of the shelf; and its contract in the logic of triples. -/
import Derived.Shelf.SlSortCmp.SmallK
import Derived.Shelf.Small.Bits
import Derived.Test.YtfcjmoolnadfbaaGreatProg
import Derived.Test.YtfcjmoolnadfbaaGreatVTbl
import Derived.Test.YtfcjmoolnadfbaaGreatSort
import Derived.KernelRfl
set_option linter.unusedVariables false
namespace Go.Proofs
open Go.Shelf
def YtfcjmoolnadfbaaGreat.sortCell_ren : Go.Shelf.Ren := ⟨fun | 6 => 71 | 15 => 125 | 14 => 130 | 28 => 192 | 29 => 193 | 20 => 195 | 21 => 196 | 22 => 197 | 23 => 198 | 24 => 199 | 25 => 200 | 26 => 201 | 27 => 202 | 46 => 226 | 47 => 222 | 48 => 223 | 49 => 227 | 50 => 228 | 57 => 246 | n => n, fun | 22 => 22 | 24 => 30 | 25 => 34 | 3 => 3 | 39 => 180 | 0 => 0 | 53 => 112 | 55 => 241 | 4 => 4 | 46 => 232 | 45 => 231 | 50 => 237 | 5 => 5 | 9 => 9 | 66 => 258 | 70 => 87 | 76 => 274 | 77 => 275 | n => n, fun | n => n⟩
theorem YtfcjmoolnadfbaaGreat.sortCell : Go.Proofs.SlLaysF0.n6 Tryz.prog YtfcjmoolnadfbaaGreat.sortCell_ren := {
  mixed := by kernel_rfl
  f6 := ⟨Tryz.f71.name, by decide, Tryz.func71.trans (congrArg some (by kernel_rfl))⟩
  f14 := ⟨Tryz.f130.name, by decide, Tryz.func130.trans (congrArg some (by kernel_rfl))⟩
  f15 := Tryz.func125.trans (congrArg some (by kernel_rfl))
  f20 := ⟨Tryz.f195.name, by decide, Tryz.func195.trans (congrArg some (by kernel_rfl))⟩
  f21 := ⟨Tryz.f196.name, by decide, Tryz.func196.trans (congrArg some (by kernel_rfl))⟩
  f22 := ⟨Tryz.f197.name, by decide, Tryz.func197.trans (congrArg some (by kernel_rfl))⟩
  f23 := ⟨Tryz.f198.name, by decide, Tryz.func198.trans (congrArg some (by kernel_rfl))⟩
  f24 := ⟨Tryz.f199.name, by decide, Tryz.func199.trans (congrArg some (by kernel_rfl))⟩
  f25 := ⟨Tryz.f200.name, by decide, Tryz.func200.trans (congrArg some (by kernel_rfl))⟩
  f26 := ⟨Tryz.f201.name, by decide, Tryz.func201.trans (congrArg some (by kernel_rfl))⟩
  f27 := ⟨Tryz.f202.name, by decide, Tryz.func202.trans (congrArg some (by kernel_rfl))⟩
  f28 := Tryz.func192.trans (congrArg some (by kernel_rfl))
  f29 := Tryz.func193.trans (congrArg some (by kernel_rfl))
  f46 := ⟨Tryz.f226.name, by decide, Tryz.func226.trans (congrArg some (by kernel_rfl))⟩
  f47 := Tryz.func222.trans (congrArg some (by kernel_rfl))
  f48 := Tryz.func223.trans (congrArg some (by kernel_rfl))
  f49 := ⟨Tryz.f227.name, by decide, Tryz.func227.trans (congrArg some (by kernel_rfl))⟩
  f50 := ⟨Tryz.f228.name, by decide, Tryz.func228.trans (congrArg some (by kernel_rfl))⟩
  f57 := ⟨Tryz.f246.name, by decide, Tryz.func246.trans (congrArg some (by kernel_rfl))⟩
  t0 := Tryz.underlying0
  a0 := Tryz.isAgg0
  z0 := Tryz.sizeOf0
  v0 := Tryz.zeroValue0
  t3 := Tryz.underlying3
  a3 := Tryz.isAgg3
  z3 := Tryz.sizeOf3
  v3 := Tryz.zeroValue3
  t4 := Tryz.underlying4
  a4 := Tryz.isAgg4
  z4 := Tryz.sizeOf4
  v4 := Tryz.zeroValue4
  t5 := Tryz.underlying5
  a5 := Tryz.isAgg5
  z5 := Tryz.sizeOf5
  v5 := Tryz.zeroValue5
  t9 := Tryz.underlying9
  a9 := Tryz.isAgg9
  z9 := Tryz.sizeOf9
  v9 := Tryz.zeroValue9
  t22 := Tryz.underlying22
  a22 := Tryz.isAgg22
  z22 := Tryz.sizeOf22
  v22 := Tryz.zeroValue22
  t25 := Tryz.underlying34
  a25 := Tryz.isAgg34
  z25 := Tryz.sizeOf34
  v25 := Tryz.zeroValue34
  t39 := Tryz.underlying180
  a39 := Tryz.isAgg180
  z39 := Tryz.sizeOf180
  v39 := Tryz.zeroValue180
  t45 := Tryz.underlying231
  a45 := Tryz.isAgg231
  z45 := Tryz.sizeOf231
  v45 := Tryz.zeroValue231
  t46 := Tryz.underlying232
  a46 := Tryz.isAgg232
  z46 := Tryz.sizeOf232
  v46 := Tryz.zeroValue232
  t50 := Tryz.underlying237
  a50 := Tryz.isAgg237
  z50 := Tryz.sizeOf237
  v50 := Tryz.zeroValue237
  t53 := Tryz.underlying112
  a53 := Tryz.isAgg112
  z53 := Tryz.sizeOf112
  v53 := Tryz.zeroValue112
  t55 := Tryz.underlying241
  a55 := Tryz.isAgg241
  z55 := Tryz.sizeOf241
  v55 := Tryz.zeroValue241
  t66 := Tryz.underlying258
  a66 := Tryz.isAgg258
  z66 := Tryz.sizeOf258
  v66 := Tryz.zeroValue258
  t70 := Tryz.underlying87
  a70 := Tryz.isAgg87
  z70 := Tryz.sizeOf87
  v70 := Tryz.zeroValue87
  t76 := Tryz.underlying274
  a76 := Tryz.isAgg274
  z76 := Tryz.sizeOf274
  v76 := Tryz.zeroValue274
  t77 := Tryz.underlying275
  a77 := Tryz.isAgg275
  z77 := Tryz.sizeOf275
  v77 := Tryz.zeroValue275 }
def YtfcjmoolnadfbaaGreat.bitsLen2_ren : Go.Shelf.Ren := ⟨fun | 125 => 125 | 128 => 192 | 129 => 193 | n => n, fun | 46 => 180 | 3 => 3 | 51 => 112 | 53 => 241 | 4 => 4 | 5 => 5 | 9 => 9 | n => n, fun | n => n⟩
theorem YtfcjmoolnadfbaaGreat.bitsLen2 : Go.Proofs.Lays.n125 Tryz.prog YtfcjmoolnadfbaaGreat.bitsLen2_ren := {
  mixed := by kernel_rfl
  f125 := Tryz.func125.trans (congrArg some (by kernel_rfl))
  f128 := Tryz.func192.trans (congrArg some (by kernel_rfl))
  f129 := Tryz.func193.trans (congrArg some (by kernel_rfl))
  t3 := Tryz.underlying3
  a3 := Tryz.isAgg3
  z3 := Tryz.sizeOf3
  v3 := Tryz.zeroValue3
  t4 := Tryz.underlying4
  a4 := Tryz.isAgg4
  z4 := Tryz.sizeOf4
  v4 := Tryz.zeroValue4
  t5 := Tryz.underlying5
  a5 := Tryz.isAgg5
  z5 := Tryz.sizeOf5
  v5 := Tryz.zeroValue5
  t9 := Tryz.underlying9
  a9 := Tryz.isAgg9
  z9 := Tryz.sizeOf9
  v9 := Tryz.zeroValue9
  t46 := Tryz.underlying180
  a46 := Tryz.isAgg180
  z46 := Tryz.sizeOf180
  v46 := Tryz.zeroValue180
  t51 := Tryz.underlying112
  a51 := Tryz.isAgg112
  z51 := Tryz.sizeOf112
  v51 := Tryz.zeroValue112
  t53 := Tryz.underlying241
  a53 := Tryz.isAgg241
  z53 := Tryz.sizeOf241
  v53 := Tryz.zeroValue241 }
end Go.Proofs
namespace Go.Proofs.YtfcjmoolnadfbaaGreat
open Go.V Go.Sort Go.RowKit Go.Lib
abbrev SCell := {c : Cell // Sm c}
instance : Inhabited SCell := ⟨⟨⟨0, 0⟩, by unfold Sm; decide⟩⟩
def encS (x : SCell) : List Value := [.int .i64 x.1.col, .int .i64 x.1.row]
def keyS (x : SCell) : Int := x.1.row * 5 + x.1.col
def cfS (x y : SCell) : Int := (x.1.row - y.1.row) * 5 + x.1.col - y.1.col
theorem ltS (x y : SCell) : ltOf cfS x y = decide (keyS x < keyS y) := by
  unfold ltOf cfS keyS; rw [decide_eq_decide]; omega
theorem swoS : SWO (ltOf cfS) := ⟨fun x => by rw [ltS]; simp, fun x y z h1 h2 => by rw [ltS, decide_eq_true_eq] at *; omega, fun x y z h1 h2 => by rw [ltS, decide_eq_false_iff_not] at *; omega⟩
set_option maxHeartbeats 1000000 in
theorem closure72 (x y : SCell) (W : World) : Calls Tryz.prog 72 #[.agg #[.int .i64 x.1.col, .int .i64 x.1.row], .agg #[.int .i64 y.1.col, .int .i64 y.1.row]] W fun e w' => e = .returned (.int .i64 (cfS x y)) ∧ ∃ q os', w' = grow (W.drewN q) os' := by
  obtain ⟨⟨a, b⟩, hx⟩ := x
  obtain ⟨⟨c, d⟩, hy⟩ := y
  have hx' := hx
  have hy' := hy
  unfold Sm at hx' hy'
  obtain ⟨h1, h2, h3, h4⟩ := hx'
  obtain ⟨h5, h6, h7, h8⟩ := hy'
  simp only at h1 h2 h3 h4 h5 h6 h7 h8 ⊢
  have e : cfS ⟨⟨a, b⟩, hx⟩ ⟨⟨c, d⟩, hy⟩ = (b - d) * 5 + a - c := rfl
  rw [e]
  clear e
  go_enter Tryz.func72, Tryz.ntmps72
  go_wp2
  go_ret
  exact ⟨rfl, 0, _, by rw [alloc_eq_grow, alloc_eq_grow, grow_grow]; rfl⟩

theorem ct_quiet {P : Program} {K : FuncId} {args : Array Value} {g : Hp} {v : Value} (h : ∀ W, Calls P K args W fun e w' => e = .returned v ∧ w' = W) : Ct P K args g [] (fun v' rs => v' = v ∧ rs = []) := fun own W o hg ho d =>
  (h W).mono fun e w' ⟨he, hw⟩ => by
    subst hw
    exact ⟨v, [], own, he, o, ho, Frm.refl _ _, Grow.refl _ _, rfl, rfl⟩
theorem bitsLen_ct (g : Hp) : Ct Tryz.prog 125 [.int .u64 (IntKind.u64.wrap 0)].toArray g [] (fun v rs => v = .int .i64 (Lib.bitLen 0) ∧ rs = []) :=
  ct_quiet fun W => Any.bits_Len bitsLen2 0 W (by decide) (by decide)
theorem flatK_list (d : Array SCell) : (flatK encS 2 d).toList = (d.toList.map (·.1)).flatMap eCell.enc := by
  apply List.ext_getElem?
  intro t
  have hl : ((d.toList.map (·.1)).flatMap eCell.enc).length = d.size * 2 := by rw [eCell.flat_len]; simp [eCell]
  by_cases h : t < d.size * 2
  · have h1 := get_flatK encS 2 d t h
    have hs : t < (flatK encS 2 d).size := by simpa using h
    rw [Array.getElem?_toList, Array.getElem?_eq_getElem hs]
    rw [getElem!_pos (flatK encS 2 d) t hs] at h1
    rw [h1]
    have hk : t / 2 < d.size := by omega
    have hx : (d.toList.map (·.1))[t / 2]? = some (d[t / 2]).1 := by simp [hk]
    rw [getElem!_pos d _ hk]
    have hdrop : ((d.toList.map (·.1)).flatMap eCell.enc).drop (t / 2 * 2) = ((d.toList.map (·.1)).drop (t / 2)).flatMap eCell.enc := eCell.flat_drop _ _
    have ht : t = t / 2 * 2 + t % 2 := by omega
    conv => rhs; rw [ht, ← List.getElem?_drop, hdrop, drop_of hx, List.flatMap_cons]
    have hlen : (eCell.enc (d[t / 2]).1).length = 2 := rfl
    rw [List.getElem?_append_left (by rw [hlen]; omega)]
    have h2 : t % 2 = 0 ∨ t % 2 = 1 := by omega
    rcases h2 with e | e <;> rw [e] <;> rfl
  · rw [List.getElem?_eq_none (by simpa using Nat.le_of_not_lt h), List.getElem?_eq_none (by omega)]
theorem sortC_pos (g : Hp) {a : Option Addr} {c : Nat} {xs : List Cell} (hne : xs ≠ []) (hl : xs.length ≤ 12) (hsm : ∀ x ∈ xs, Sm x) : Ct Tryz.prog 71 [.slice a xs.length c, .func (.func 72) #[] #[]].toArray g [SlO eCell 30 a c xs] (fun v rs => ∃ ys, v = .tuple #[] ∧ ys.Perm xs ∧ rs = [SlO eCell 30 a c ys]) := fun own W o hg ho d => by
  obtain ⟨u, k, hu, hk, dk, rfl⟩ := own_cons.1 o
  obtain rfl := own_nil.1 hk
  rw [Hp.add_emp] at ho d ⊢
  rcases hu with ⟨_, _, rfl, _⟩ | ⟨B, cur, rfl, rfl, h3, h4, h5⟩
  · exact absurd rfl hne
  · have hb : W.heap[B]? = some (.cells cur 30 (0, 0)) := ho B _ (Hp.one_self _ _)
    have hB : B < W.heap.size := (Array.getElem?_eq_some_iff.1 hb).1
    let dd : Array SCell := (xs.attachWith Sm hsm).toArray
    have hdd : dd.toList.map (·.1) = xs := by simp [dd]
    have hds : dd.size = xs.length := by simp [dd]
    have hfl := flatK_list dd
    rw [hdd, ← h5] at hfl
    have hsz : (flatK encS 2 dd).size = xs.length * 2 := by rw [size_flatK, hds]
    have hc2 : cur.size = c * 2 := h3
    have hH : HoldsK encS 2 W B 0 dd := fun j hj => by
      rw [hsz] at hj
      have e1 : (flatK encS 2 dd)[j]? = cur[j]? := by
        rw [← Array.getElem?_toList, hfl, List.getElem?_take_of_lt (by show j < xs.length * 2; exact hj), Array.getElem?_toList]
      have hjc : j < cur.size := by omega
      have hjf : j < (flatK encS 2 dd).size := by omega
      rw [Array.getElem?_eq_getElem hjf, Array.getElem?_eq_getElem hjc] at e1
      have e2 : (flatK encS 2 dd)[j]! = cur[j] := by rw [getElem!_pos (flatK encS 2 dd) j hjf]; exact Option.some.inj e1
      refine ⟨?_, by simp [World.frozen?, hb]⟩
      rw [e2]; simp [World.cell?, hb, hjc]
    have eg : ∀ args w, (callFunc 72 args).run Tryz.prog w = .ok (.enter 72 args) w := enters_of Tryz.func72 (by kernel_rfl) rfl
    have hcmp : CmpLays Tryz.prog 72 #[] encS 2 cfS B 0 dd.size W := fun m os dk hs x y => closure72 x y _
    have hlen : ∀ (n : Nat) (W : World), n ≤ 12 → Calls Tryz.prog 125 #[.int .u64 n] W fun e w' => (∃ l : Int, e = .returned (.int .i64 l)) ∧ w' = W :=
      fun n W h => (Any.bits_Len bitsLen2 n W (by omega) (by omega)).mono fun _ _ ⟨he, hw⟩ => ⟨⟨_, he⟩, hw⟩
    have hcon := AnyQ.slices_SortFunc_small_sorted sortCell 2 Tryz.isAgg30 Tryz.sizeOf30 encS (fun _ => rfl) (fun x v hv => by simp [encS] at hv; rcases hv with rfl | rfl <;> rfl) cfS 72 #[] swoS B 0 c dd W eg hcmp hH hB (by omega) hlen
    rw [hds] at hcon
    refine Calls.mono (show Calls Tryz.prog 71 _ W _ from hcon) ?_
    rintro e W' ⟨rfl, d', n, os, hperm, hsrt, rfl⟩
    have hd's : d'.size = xs.length := by rw [hperm.1, hds]
    let ys := d'.toList.map (·.1)
    have hys : ys.length = xs.length := by simp [ys, hd's]
    have hp : ys.Perm xs := by
      have h6 := hperm.2.2
      have e1 : (d'.extract 0 xs.length).toList = d'.toList := by rw [← hd's]; simp
      have e2 : (dd.extract 0 xs.length).toList = dd.toList := by rw [← hds]; simp
      rw [e1, e2] at h6
      have := h6.map (·.1)
      rw [hdd] at this
      exact this
    have hfl' := flatK_list d'
    have hsz' : (flatK encS 2 d').size = xs.length * 2 := by rw [size_flatK, hd's]
    have hg2 : ∀ b, b < W.heap.size → (sortWorldK encS 2 W B 0 n d' os).heap[b]? = (putRow id (Go.Sort.ahead W n) B 0 (flatK encS 2 d')).heap[b]? := fun b hb => by
      show (_ ++ os)[b]? = _
      rw [Array.getElem?_append_left (by show b < (putRow id (Go.Sort.ahead W n) B 0 (flatK encS 2 d')).heap.size; rw [size_putRow]; exact hb)]
      rfl
    have hnew : (putRow id (Go.Sort.ahead W n) B 0 (flatK encS 2 d')).heap[B]? = some (.cells (putCells id 0 (flatK encS 2 d') cur) 30 (0, 0)) := by
      unfold putRow mapBlock
      simp only [Array.getElem?_modify, if_true]
      show Option.map _ (W.heap[B]?) = _
      rw [hb]; rfl
    refine ⟨_, _, Hp.one B (.cells (putCells id 0 (flatK encS 2 d') cur) 30 (0, 0)), rfl, own_one (A := SlO eCell 30 (some ⟨B, 0, none⟩) c ys) (.inr ⟨B, _, rfl, rfl, by simp [putCells, h3], by rw [hys]; exact h4, ?_⟩), Hp.inW_one ((hg2 B hB).trans hnew), ⟨?_, fun b hb2 hn => ?_, rfl, rfl⟩, fun b hb2 => ?_, ys, rfl, hp, rfl⟩
    · show (putCells id 0 (flatK encS 2 d') cur).toList.take (ys.length * 2) = ys.flatMap eCell.enc
      rw [hys]
      apply List.ext_getElem?
      intro j
      by_cases hj : j < xs.length * 2
      · have hjf : j < (flatK encS 2 d').size := by omega
        have hjc : j < cur.size := by omega
        rw [List.getElem?_take_of_lt hj, Array.getElem?_toList]
        simp only [putCells, Array.getElem?_mapIdx, Array.getElem?_eq_getElem hjc, Option.map_some, Nat.zero_le, Nat.zero_add, true_and, Nat.sub_zero, id]
        rw [if_pos hjf, getElem!_pos (flatK encS 2 d') j hjf]
        show _ = (ys.flatMap eCell.enc)[j]?
        rw [← hfl', Array.getElem?_toList, Array.getElem?_eq_getElem hjf]
      · rw [List.getElem?_eq_none (by rw [List.length_take]; omega), List.getElem?_eq_none (by rw [eCell.flat_len, hys]; exact Nat.le_of_not_lt hj)]
    · show W.heap.size ≤ (_ ++ os).size
      rw [Array.size_append]
      have : (putRowK encS 2 (Go.Sort.ahead W n) B 0 d').heap.size = W.heap.size := by show (putRow id _ _ _ _).heap.size = _; rw [size_putRow]; rfl
      omega
    · have hne2 : b ≠ B := fun e => by subst e; simp [Hp.one] at hn
      exact (hg2 b hb2).trans (putRow_other _ _ _ _ _ _ hne2)
    · by_cases e : b = B
      · subst e; exact .inl (by simp [Hp.one])
      · exact absurd (Hp.one_ne _ e) hb2
end Go.Proofs.YtfcjmoolnadfbaaGreat
