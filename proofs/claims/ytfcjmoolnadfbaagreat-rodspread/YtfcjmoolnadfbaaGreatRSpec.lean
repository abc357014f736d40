/- What the functions of package rod compute, in plain terms. -/
import Derived.Test.YtfcjmoolnadfbaaGreatVMap
import Derived.Test.YtfcjmoolnadfbaaGreatVAny
set_option linter.unusedVariables false
set_option linter.unusedSimpArgs false
namespace Go.V

theorem cellAt_Sm {C Rw k : Nat} (h1 : C ≤ 5) (h2 : Rw ≤ 5) (hk : k < C * Rw) : Sm (cellAt C k) := by
  have h25 : C * Rw ≤ 25 := Nat.mul_le_mul h1 h2
  have a1 : k % C ≤ 25 := Nat.le_trans (Nat.mod_le _ _) (by omega)
  have a2 : k / C ≤ 25 := Nat.le_trans (Nat.div_le_self _ _) (by omega)
  unfold Sm cellAt; simp only; generalize k % C = u at *; generalize k / C = v at *; omega
theorem dist_bd {a b : Cell} (ha : Sm a) (hb : Sm b) : 0 ≤ dist a b ∧ dist a b ≤ 400 := by
  unfold Sm at ha hb; unfold dist; omega
/-- a rod as it may be -/
def RodOk (r : Rod) : Prop := Sm r.tip ∧ 0 ≤ r.range ∧ r.range ≤ 3 ∧ 0 ≤ r.shows ∧ r.shows ≤ 9

/-- the error of a cell and a range -/
def reachE (cols rows : Int) (c : Cell) (reach : Int) : Int := if hasC cols rows c = false then 1 else if ¬ (0 ≤ reach ∧ reach ≤ 3) then 3 else 0

theorem hasC_iff {cols rows : Int} {c : Cell} : hasC cols rows c = true ↔ 0 ≤ c.col ∧ c.col ≤ cols - 1 ∧ 0 ≤ c.row ∧ c.row ≤ rows - 1 := by
  simp [hasC, and_assoc]
theorem reachE_ok {cols rows : Int} {c : Cell} {r : Int} (h : hasC cols rows c = true) (hr : 0 ≤ r ∧ r ≤ 3) : reachE cols rows c r = 0 := by
  simp [reachE, h, hr]

/-- what a rod feels in the first cells -/
def feelsTo (C : Nat) (h : List Int) (tip : Cell) (reach : Int) : Nat → Int
  | 0 => 0
  | k + 1 => if dist (cellAt C k) tip ≤ reach then greatestL [feelsTo C h tip reach k, h.getD k 0 - dist (cellAt C k) tip] else feelsTo C h tip reach k
theorem feels_in {C : Nat} {h : List Int} {tip : Cell} {reach x : Int} {k : Nat} (hx : h[k]? = some x) (hd : dist (cellAt C k) tip ≤ reach) : feelsTo C h tip reach (k + 1) = greatestL [feelsTo C h tip reach k, x - dist (cellAt C k) tip] := by
  rw [feelsTo, if_pos hd, List.getD_eq_getElem?_getD, hx]; rfl
theorem feels_out {C : Nat} {h : List Int} {tip : Cell} {reach : Int} {k : Nat} (hd : ¬ dist (cellAt C k) tip ≤ reach) : feelsTo C h tip reach (k + 1) = feelsTo C h tip reach k := by
  rw [feelsTo, if_neg hd]
theorem getBd {h : List Int} {k : Nat} {x : Int} (hb : ∀ x ∈ h, -1000 ≤ x ∧ x ≤ 1000) (hx : h[k]? = some x) : -1000 ≤ x ∧ x ≤ 1000 := hb x (List.mem_of_getElem? hx)
theorem getRod {rods : List Rod} {k : Nat} {r : Rod} (hb : ∀ r ∈ rods, RodOk r) (hx : rods[k]? = some r) : RodOk r := hb r (List.mem_of_getElem? hx)

/-- the greatest heat that the first rods that count let a cell have -/
def mostIn (C : Nat) (rods : List Rod) (p : Int → Bool) (i : Nat) : Nat → Int
  | 0 => 9
  | j + 1 => match rods[j]? with
    | none => mostIn C rods p i j
    | some r => if p j && decide (dist (cellAt C i) r.tip ≤ r.range) then min (mostIn C rods p i j) (r.shows + dist (cellAt C i) r.tip) else mostIn C rods p i j
theorem most_in {C : Nat} {rods : List Rod} {p : Int → Bool} {i j : Nat} {r : Rod} (hr : rods[j]? = some r) (hp : (p j && decide (dist (cellAt C i) r.tip ≤ r.range)) = true) : mostIn C rods p i (j + 1) = min (mostIn C rods p i j) (r.shows + dist (cellAt C i) r.tip) := by
  rw [mostIn, hr]; simp only; rw [if_pos hp]
theorem most_out {C : Nat} {rods : List Rod} {p : Int → Bool} {i j : Nat} {r : Rod} (hr : rods[j]? = some r) (hp : ¬ (p j && decide (dist (cellAt C i) r.tip ≤ r.range)) = true) : mostIn C rods p i (j + 1) = mostIn C rods p i j := by
  rw [mostIn, hr]; simp only; rw [if_neg hp]
def mostTo (C : Nat) (rods : List Rod) (p : Int → Bool) (k : Nat) : List Int := (List.range 25).map fun i => if i < k then mostIn C rods p i rods.length else 0
@[simp] theorem mostTo_len (C : Nat) (rods : List Rod) (p : Int → Bool) (k : Nat) : (mostTo C rods p k).length = 25 := by simp [mostTo]
theorem mostTo_zero (C : Nat) (rods : List Rod) (p : Int → Bool) : mostTo C rods p 0 = List.replicate 25 0 := by simp [mostTo]; rfl
theorem mostTo_step {C : Nat} {rods : List Rod} {p : Int → Bool} {k : Nat} (hk : k < 25) : (mostTo C rods p k).set k (mostIn C rods p k rods.length) = mostTo C rods p (k + 1) := by
  apply List.ext_getElem (by simp [mostTo])
  intro n h1 h2
  simp only [List.getElem_set, mostTo, List.getElem_map, List.getElem_range]
  by_cases e : k = n
  · subst e; simp
  · by_cases h : n < k
    · simp [e, h, Nat.lt_succ_of_lt h]
    · have : ¬ n < k + 1 := by omega
      simp [e, h, this]
theorem mostIn_bd {C : Nat} {rods : List Rod} {p : Int → Bool} {i : Nat} (hi : Sm (cellAt C i)) (hb : ∀ r ∈ rods, RodOk r) : ∀ j, 0 ≤ mostIn C rods p i j ∧ mostIn C rods p i j ≤ 9
  | 0 => by simp [mostIn]
  | j + 1 => by
    have ih := mostIn_bd (p := p) hi hb j
    rw [mostIn]
    split
    · exact ih
    · rename_i r hr
      have h1 := getRod hb hr
      have h2 := dist_bd hi h1.1
      unfold RodOk at h1
      split <;> omega
theorem mostTo_bd {C Rw : Nat} (h1 : C ≤ 5) (h2 : Rw ≤ 5) {rods : List Rod} {p : Int → Bool} {k : Nat} (hk : k ≤ C * Rw) (hb : ∀ r ∈ rods, RodOk r) : ∀ x ∈ mostTo C rods p k, 0 ≤ x ∧ x ≤ 9 := by
  intro x hx
  simp only [mostTo, List.mem_map, List.mem_range] at hx
  obtain ⟨i, hi, rfl⟩ := hx
  split
  · exact mostIn_bd (cellAt_Sm h1 h2 (by omega)) hb _
  · simp

/-- whether heats fit the rods that count -/
def fitAt (C Rw : Nat) (rods : List Rod) (h : List Int) (p : Int → Bool) (j : Nat) : Bool := match rods[j]? with
  | none => true
  | some r => !p j || decide (feelsTo C h r.tip r.range (C * Rw) = r.shows)
def fitsL (C Rw : Nat) (rods : List Rod) (h : List Int) (p : Int → Bool) : Bool := (List.range rods.length).all (fitAt C Rw rods h p)
theorem fits_no {C Rw : Nat} {rods : List Rod} {h : List Int} {p : Int → Bool} {j : Nat} {r : Rod} (hr : rods[j]? = some r) (hp : (p j) = true) (hn : feelsTo C h r.tip r.range (C * Rw) ≠ r.shows) : fitsL C Rw rods h p = false := by
  unfold fitsL
  rw [List.all_eq_false]
  exact ⟨j, List.mem_range.2 (List.getElem?_eq_some_iff.1 hr).1, by simp [fitAt, hr, hp, hn]⟩
theorem fits_yes {C Rw : Nat} {rods : List Rod} {h : List Int} {p : Int → Bool} {i : Nat} (hi : ∀ j, j < i → fitAt C Rw rods h p j = true) (hl : rods.length ≤ i) : fitsL C Rw rods h p = true := by
  unfold fitsL
  rw [List.all_eq_true]
  intro j hj; exact hi j (by have := List.mem_range.1 hj; omega)
theorem fits_step {C Rw : Nat} {rods : List Rod} {h : List Int} {p : Int → Bool} {i : Nat} {r : Rod} (hi : ∀ j, j < i → fitAt C Rw rods h p j = true) (hr : rods[i]? = some r) (hn : p i = true → feelsTo C h r.tip r.range (C * Rw) = r.shows) : ∀ j, j < i + 1 → fitAt C Rw rods h p j = true := by
  intro j hj
  by_cases e : j = i
  · subst e; simp only [fitAt, hr]; cases hp : p j
    · rfl
    · simp [hn hp]
  · exact hi j (by omega)
/-- the rods that show more than 0 -/
def shownTo (rods : List Rod) : Nat → Nat
  | 0 => 0
  | j + 1 => match rods[j]? with
    | none => shownTo rods j
    | some r => if 0 < r.shows then shownTo rods j ||| 2 ^ j else shownTo rods j
theorem shown_lt {rods : List Rod} : ∀ j n, j ≤ n → shownTo rods j < 2 ^ n
  | 0, n, _ => by simp [shownTo]; exact Nat.two_pow_pos n
  | j + 1, n, h => by
    rw [shownTo]
    have ih := shown_lt (rods := rods) j n (by omega)
    split
    · exact ih
    · split
      · exact Nat.or_lt_two_pow ih (Nat.pow_lt_pow_right (by decide) (by omega))
      · exact ih
theorem shown_in {rods : List Rod} {j : Nat} {r : Rod} (hr : rods[j]? = some r) (h : 0 < r.shows) : shownTo rods (j + 1) = shownTo rods j ||| 2 ^ j := by rw [shownTo, hr]; simp only; rw [if_pos h]
theorem shown_out {rods : List Rod} {j : Nat} {r : Rod} (hr : rods[j]? = some r) (h : ¬ 0 < r.shows) : shownTo rods (j + 1) = shownTo rods j := by rw [shownTo, hr]; simp only; rw [if_neg h]
/-- cells of which something holds, in their order -/
def filtC (C : Nat) (p : Nat → Bool) (k : Nat) : List Cell := ((List.range k).filter p).map (cellAt C)
theorem filtC_in {C : Nat} {p : Nat → Bool} {k : Nat} (h : p k = true) : filtC C p (k + 1) = filtC C p k ++ [cellAt C k] := by
  unfold filtC; rw [List.range_succ, List.filter_append]; simp [h]
theorem filtC_out {C : Nat} {p : Nat → Bool} {k : Nat} (h : ¬ p k = true) : filtC C p (k + 1) = filtC C p k := by
  unfold filtC; rw [List.range_succ, List.filter_append]; simp [h]
theorem filtC_len (C : Nat) (p : Nat → Bool) (k : Nat) : (filtC C p k).length ≤ k := by
  unfold filtC; rw [List.length_map]; exact Nat.le_trans (List.length_filter_le _ _) (by simp)
def blindP (C : Nat) (rods : List Rod) (k : Nat) : Bool := rods.all fun x => decide (x.range < dist (cellAt C k) x.tip)
/-- the order of lists -/
def cmpI (x y : Int) : Int := if x < y then -1 else if y < x then 1 else 0
def cmpL : List Int → List Int → Int
  | [], [] => 0
  | [], _ :: _ => -1
  | _ :: _, [] => 1
  | x :: xs, y :: ys => if cmpI x y ≠ 0 then cmpI x y else cmpL xs ys
theorem drop_of {α : Type} {xs : List α} {i : Nat} {x : α} (h : xs[i]? = some x) : xs.drop i = x :: xs.drop (i + 1) := by
  obtain ⟨h1, h2⟩ := List.getElem?_eq_some_iff.1 h
  rw [List.drop_eq_getElem_cons h1, h2]
theorem cmp_long {xs ys : List Int} {i : Nat} {x : Int} (h : cmpL xs ys = cmpL (xs.drop i) (ys.drop i)) (hx : xs[i]? = some x) (hy : ys.length ≤ i) : cmpL xs ys = 1 := by
  rw [h, drop_of hx, List.drop_eq_nil_of_le hy]; rfl
theorem cmp_ne {xs ys : List Int} {i : Nat} {x y : Int} (h : cmpL xs ys = cmpL (xs.drop i) (ys.drop i)) (hx : xs[i]? = some x) (hy : ys[i]? = some y) (hn : cmpI x y ≠ 0) : cmpL xs ys = cmpI x y := by
  rw [h, drop_of hx, drop_of hy, cmpL, if_pos hn]
theorem cmp_eq {xs ys : List Int} {i : Nat} {x y : Int} (h : cmpL xs ys = cmpL (xs.drop i) (ys.drop i)) (hx : xs[i]? = some x) (hy : ys[i]? = some y) (hn : ¬ cmpI x y ≠ 0) : cmpL xs ys = cmpL (xs.drop (i + 1)) (ys.drop (i + 1)) := by
  rw [h, drop_of hx, drop_of hy, cmpL, if_neg hn]
theorem cmp_end1 {xs ys : List Int} {i : Nat} (h : cmpL xs ys = cmpL (xs.drop i) (ys.drop i)) (hx : xs.length ≤ i) (hy : xs.length < ys.length) (hi : i ≤ xs.length) : cmpL xs ys = -1 := by
  have : i < ys.length := by omega
  rw [h, List.drop_eq_nil_of_le hx, List.drop_eq_getElem_cons this]; rfl
theorem cmp_end2 {xs ys : List Int} {i : Nat} (h : cmpL xs ys = cmpL (xs.drop i) (ys.drop i)) (hx : xs.length ≤ i) (hy : ¬ xs.length < ys.length) (hi : i ≤ xs.length) : cmpL xs ys = 0 := by
  rw [h, List.drop_eq_nil_of_le hx, List.drop_eq_nil_of_le (by omega)]; rfl
theorem take_eq_step {α : Type} {xs ys : List α} {i : Nat} {x : α} (h : xs.take i = ys.take i) (hx : xs[i]? = some x) (hy : ys[i]? = some x) : xs.take (i + 1) = ys.take (i + 1) := by
  rw [List.take_add_one, List.take_add_one, h, hx, hy]
theorem take_ne {α : Type} {xs ys : List α} {i : Nat} {x y : α} (hx : xs[i]? = some x) (hy : ys[i]? = some y) (hn : x ≠ y) : xs ≠ ys := fun e => by
  subst e; rw [hx] at hy; exact hn (Option.some.inj hy)
theorem take_all {α : Type} {xs ys : List α} {i : Nat} (h : xs.take i = ys.take i) (hx : xs.length ≤ i) (hy : ys.length ≤ i) : xs = ys := by
  rwa [List.take_of_length_le hx, List.take_of_length_le hy] at h

theorem getD_of {l : List Int} {k : Nat} {x : Int} (h : l[k]? = some x) : l.getD k 0 = x := by rw [List.getD_eq_getElem?_getD, h]; rfl
/-- the rods among the first that a cell explains -/
def exIn (C : Nat) (rods : List Rod) (top : List Int) (i : Nat) : Nat → Nat
  | 0 => 0
  | j + 1 => match rods[j]? with
    | none => exIn C rods top i j
    | some r => if dist (cellAt C i) r.tip ≤ r.range ∧ 0 < r.shows ∧ top.getD i 0 - dist (cellAt C i) r.tip = r.shows then exIn C rods top i j ||| 2 ^ j else exIn C rods top i j
theorem exIn_lt {C : Nat} {rods : List Rod} {top : List Int} {i : Nat} : ∀ j n, j ≤ n → exIn C rods top i j < 2 ^ n
  | 0, n, _ => by simp [exIn]; exact Nat.two_pow_pos n
  | j + 1, n, h => by
    rw [exIn]
    have ih := exIn_lt (C := C) (rods := rods) (top := top) (i := i) j n (by omega)
    split
    · exact ih
    · split
      · exact Nat.or_lt_two_pow ih (Nat.pow_lt_pow_right (by decide) (by omega))
      · exact ih
theorem cellAt_inj {C i k : Nat} (h : cellAt C i = cellAt C k) : i = k := by
  simp only [cellAt, Cell.mk.injEq] at h
  have h1 : i % C = k % C := by exact_mod_cast h.1
  have h2 : i / C = k / C := by exact_mod_cast h.2
  rw [← Nat.div_add_mod i C, ← Nat.div_add_mod k C, h1, h2]
/-- what the map holds when cells before k, and rods before j for k, have been gone through -/
structure ExpOk (C Rw : Nat) (rods : List Rod) (top : List Int) (k j : Nat) (ms : List (Cell × Nat)) : Prop where
  val : ∀ i, i < C * Rw → mlook 0 ms (cellAt C i) = if i < k then exIn C rods top i rods.length else if i = k then exIn C rods top k j else 0
  key : ∀ p ∈ ms, ∃ i, i < C * Rw ∧ p.1 = cellAt C i
  lt : ∀ p ∈ ms, p.2 < 2 ^ 62
theorem ExpOk.zero {C Rw : Nat} {rods : List Rod} {top : List Int} : ExpOk C Rw rods top 0 0 [] := ⟨fun i _ => by
  simp only [mlook, List.find?_nil, Option.map_none, Option.getD_none, Nat.not_lt_zero, if_false, exIn]; split <;> rfl, (fun p h => by cases h), fun p h => by cases h⟩
theorem ExpOk.next {C Rw : Nat} {rods : List Rod} {top : List Int} {k j : Nat} {ms : List (Cell × Nat)} (h : ExpOk C Rw rods top k j ms) (hj : rods.length ≤ j) (hj2 : j ≤ rods.length) : ExpOk C Rw rods top (k + 1) 0 ms := ⟨fun i hi => by
  rw [h.val i hi]
  have : j = rods.length := by omega
  subst this
  by_cases h1 : i < k
  · simp [h1, Nat.lt_succ_of_lt h1]
  · by_cases h2 : i = k
    · subst h2; simp
    · have h3 : ¬ i < k + 1 := by omega
      simp only [h1, h2, h3, if_false, exIn]; split <;> rfl, h.key, h.lt⟩
theorem ExpOk.out {C Rw : Nat} {rods : List Rod} {top : List Int} {k j : Nat} {ms : List (Cell × Nat)} {r : Rod} (h : ExpOk C Rw rods top k j ms) (hr : rods[j]? = some r) (hn : ¬ (dist (cellAt C k) r.tip ≤ r.range ∧ 0 < r.shows ∧ top.getD k 0 - dist (cellAt C k) r.tip = r.shows)) : ExpOk C Rw rods top k (j + 1) ms := ⟨fun i hi => by
  rw [h.val i hi, exIn, hr]; simp only [hn, if_false], h.key, h.lt⟩
theorem ExpOk.at {C Rw : Nat} {rods : List Rod} {top : List Int} {k j : Nat} {ms : List (Cell × Nat)} (h : ExpOk C Rw rods top k j ms) (hk : k < C * Rw) : mlook 0 ms (cellAt C k) = exIn C rods top k j := by
  rw [h.val k hk]; simp
theorem ExpOk.into {C Rw : Nat} {rods : List Rod} {top : List Int} {k j : Nat} {ms ms2 ms3 : List (Cell × Nat)} {r : Rod} (h : ExpOk C Rw rods top k j ms) (hk : k < C * Rw) (hr : rods[j]? = some r) (hn : dist (cellAt C k) r.tip ≤ r.range ∧ 0 < r.shows ∧ top.getD k 0 - dist (cellAt C k) r.tip = r.shows)
    (h1 : ∀ d, mlook 0 ms2 d = mlook 0 ms d) (h2 : ∀ p ∈ ms2, p = (cellAt C k, 0) ∨ p ∈ ms) (h3 : ∀ d, mlook 0 ms3 d = if d = cellAt C k then mlook 0 ms (cellAt C k) ||| 2 ^ j else mlook 0 ms2 d) (h4 : ∀ p ∈ ms3, p = (cellAt C k, mlook 0 ms (cellAt C k) ||| 2 ^ j) ∨ p ∈ ms2) (hj : j < 62) : ExpOk C Rw rods top k (j + 1) ms3 := ⟨fun i hi => by
  rw [h3]
  by_cases e : i = k
  · subst e; simp only [if_true, Nat.lt_irrefl, if_false]; rw [h.at hi, exIn, hr]; simp only [hn, true_and, and_self, if_true]
  · have e2 : cellAt C i ≠ cellAt C k := fun x => e (cellAt_inj x)
    rw [if_neg e2, h1, h.val i hi]
    simp [e], (fun p hp => by
  rcases h4 p hp with x | x
  · exact ⟨k, hk, by rw [x]⟩
  · rcases h2 p x with y | y
    · exact ⟨k, hk, by rw [y]⟩
    · exact h.key p y), fun p hp => by
  rcases h4 p hp with x | x
  · rw [x]; simp only; rw [h.at hk]; exact Nat.or_lt_two_pow (exIn_lt j 62 (by omega)) (Nat.pow_lt_pow_right (by decide) hj)
  · rcases h2 p x with y | y
    · rw [y]; exact Nat.two_pow_pos 62
    · exact h.lt p y⟩

/-- the sets of other cells that have been handed out, together -/
structure AlS (es : Array MapEntry) (ms : List (Cell × Nat)) (a : Cell) (seen : Array Nat) (o : Nat) : Prop where
  lt : o < 2 ^ 62
  bit : ∀ b, o.testBit b = true ↔ ∃ en ∈ es.toList, seen.contains en.born = true ∧ ∃ d n, (Value.tuple #[en.key, en.val]) = .tuple #[argC d, vN n] ∧ d ≠ a ∧ n.testBit b = true
theorem AlS.zero {es : Array MapEntry} {ms : List (Cell × Nat)} {a : Cell} : AlS es ms a #[] 0 := ⟨by decide, fun b => by simp⟩
theorem kv_inj {d d' : Cell} {n n' : Nat} (h : (Value.tuple #[argC d, vN n]) = .tuple #[argC d', vN n']) : d = d' ∧ n = n' := by
  simp only [Value.tuple.injEq, Array.mk.injEq, List.cons.injEq, and_true] at h
  refine ⟨argC_inj h.1, ?_⟩
  have := h.2
  simp only [vN, Value.int.injEq, true_and] at this
  exact_mod_cast this
theorem AlS.step {es : Array MapEntry} {ms : List (Cell × Nat)} {a d : Cell} {n o : Nat} {seen : Array Nat} {en : MapEntry} (s : AlS es ms a seen o) (hn : (es.toList.map (·.born)).Nodup) (he : en ∈ (leftOf es seen).toList) (hk : (Value.tuple #[en.key, en.val]) = .tuple #[argC d, vN n]) (o' : Nat) (hlt : o' < 2 ^ 62)
    (ho : ∀ b, o'.testBit b = true ↔ o.testBit b = true ∨ (d ≠ a ∧ n.testBit b = true)) : AlS es ms a (seen.push en.born) o' := ⟨hlt, fun b => by
  have hm := (mem_left he).1
  rw [ho b, s.bit b]
  constructor
  · rintro (⟨e1, h1, h2, h3⟩ | ⟨h1, h2⟩)
    · exact ⟨e1, h1, by rw [contains_push, h2]; rfl, h3⟩
    · exact ⟨en, hm, by rw [contains_push]; simp, d, n, hk, h1, h2⟩
  · rintro ⟨e1, h1, h2, d1, n1, h3, h4, h5⟩
    rw [contains_push, Bool.or_eq_true, beq_iff_eq] at h2
    rcases h2 with h2 | h2
    · exact .inl ⟨e1, h1, h2, d1, n1, h3, h4, h5⟩
    · have := born_inj hn h1 hm h2
      subst this
      obtain ⟨rfl, rfl⟩ := kv_inj (hk.symm.trans h3)
      exact .inr ⟨h4, h5⟩⟩
theorem AlS.done {es : Array MapEntry} {clk : Nat} {ms : List (Cell × Nat)} {a : Cell} {o : Nat} {seen : Array Nat} (s : AlS es ms a seen o) (ok : MapOk vN es clk ms) (h : (leftOf es seen).size = 0) : o = orOther ms a := by
  apply Nat.eq_of_testBit_eq
  intro b
  rw [Bool.eq_iff_iff, s.bit b, orOther_bit]
  constructor
  · rintro ⟨e1, h1, _, d, n, h3, h4, h5⟩
    have h2 : kv e1 ∈ kvs vN ms := by rw [← ok.same]; exact List.mem_map.2 ⟨e1, h1, rfl⟩
    obtain ⟨p, hp, e⟩ := List.mem_map.1 h2
    simp only [kv, Prod.mk.injEq] at e
    rw [← e.1, ← e.2] at h3
    obtain ⟨rfl, rfl⟩ := kv_inj h3
    exact ⟨p, hp, h4, h5⟩
  · rintro ⟨p, hp, h4, h5⟩
    have h2 : (argC p.1, vN p.2) ∈ es.toList.map kv := by rw [ok.same]; exact List.mem_map.2 ⟨p, hp, rfl⟩
    obtain ⟨e1, h1, e⟩ := List.mem_map.1 h2
    simp only [kv, Prod.mk.injEq] at e
    exact ⟨e1, h1, all_seen es seen h e1 h1, p.1, p.2, by rw [e.1, e.2], h4, h5⟩
theorem mlook_lt {ms : List (Cell × Nat)} {a : Cell} (h : ∀ p ∈ ms, p.2 < 2 ^ 62) : mlook 0 ms a < 2 ^ 62 := by
  unfold mlook
  cases hf : ms.find? (fun p => decide (a = p.1)) with
  | none => simp
  | some p => simpa using h p (List.mem_of_find?_eq_some hf)
/-- what other cells explain -/
def orCells (C : Nat) (rods : List Rod) (top : List Int) (i : Nat) : Nat → Nat
  | 0 => 0
  | n + 1 => if n = i then orCells C rods top i n else orCells C rods top i n ||| exIn C rods top n rods.length
theorem orCells_bit {C : Nat} {rods : List Rod} {top : List Int} {i b : Nat} : ∀ n, (orCells C rods top i n).testBit b = true ↔ ∃ k, k < n ∧ k ≠ i ∧ (exIn C rods top k rods.length).testBit b = true
  | 0 => by simp [orCells]
  | n + 1 => by
    have ih := orCells_bit (C := C) (rods := rods) (top := top) (i := i) (b := b) n
    unfold orCells
    split
    · rename_i e
      rw [ih]
      exact ⟨fun ⟨k, h1, h2, h3⟩ => ⟨k, by omega, h2, h3⟩, fun ⟨k, h1, h2, h3⟩ => ⟨k, by omega, h2, h3⟩⟩
    · rename_i e
      rw [Nat.testBit_or, Bool.or_eq_true, ih]
      constructor
      · rintro (⟨k, h1, h2, h3⟩ | h)
        · exact ⟨k, by omega, h2, h3⟩
        · exact ⟨n, by omega, e, h⟩
      · rintro ⟨k, h1, h2, h3⟩
        by_cases hk : k = n
        · subst hk; exact .inr h3
        · exact .inl ⟨k, by omega, h2, h3⟩
theorem mlook_mem {ms : List (Cell × Nat)} (hn : (ms.map Prod.fst).Nodup) {p : Cell × Nat} (hp : p ∈ ms) : mlook 0 ms p.1 = p.2 := by
  induction ms with
  | nil => cases hp
  | cons q r ih =>
    have hn' := List.nodup_cons.1 (by simpa using hn : (q.1 :: r.map Prod.fst).Nodup)
    rcases List.mem_cons.1 hp with rfl | h
    · simp [mlook]
    · have hne : p.1 ≠ q.1 := fun e => hn'.1 (e ▸ List.mem_map.2 ⟨p, h, rfl⟩)
      have := ih hn'.2 h
      unfold mlook at this ⊢
      simp only [List.find?_cons, hne, decide_false]; exact this
theorem ExpOk.fin {C Rw : Nat} {rods : List Rod} {top : List Int} {ms : List (Cell × Nat)} (h : ExpOk C Rw rods top (C * Rw) 0 ms) {i : Nat} (hi : i < C * Rw) : mlook 0 ms (cellAt C i) = exIn C rods top i rods.length := by
  rw [h.val i hi, if_pos hi]
theorem mlook_key {ms : List (Cell × Nat)} {c : Cell} {b : Nat} (h : (mlook 0 ms c).testBit b = true) : ∃ p ∈ ms, p.1 = c ∧ p.2 = mlook 0 ms c := by
  unfold mlook at h ⊢
  cases hf : ms.find? (fun p => decide (c = p.1)) with
  | none => rw [hf] at h; simp at h
  | some p =>
    have h1 := List.mem_of_find?_eq_some hf
    have h2 := List.find?_some hf
    exact ⟨p, h1, by simpa using (of_decide_eq_true h2).symm, by simp⟩
theorem ExpOk.other {C Rw : Nat} {rods : List Rod} {top : List Int} {ms : List (Cell × Nat)} (h : ExpOk C Rw rods top (C * Rw) 0 ms) (hn : (ms.map Prod.fst).Nodup) {i : Nat} (hi : i < C * Rw) : orOther ms (cellAt C i) = orCells C rods top i (C * Rw) := by
  apply Nat.eq_of_testBit_eq
  intro b
  rw [Bool.eq_iff_iff, orOther_bit, orCells_bit]
  constructor
  · rintro ⟨p, hp, h1, h2⟩
    obtain ⟨k, hk, e⟩ := h.key p hp
    refine ⟨k, hk, fun e2 => h1 (by rw [e, e2]), ?_⟩
    rw [← h.fin hk, ← e, mlook_mem hn hp]; exact h2
  · rintro ⟨k, hk, h1, h2⟩
    rw [← h.fin hk] at h2
    obtain ⟨p, hp, e1, e2⟩ := mlook_key h2
    exact ⟨p, hp, by rw [e1]; exact fun x => h1 (cellAt_inj x), by rw [e2]; exact h2⟩
/-- whether a cell alone explains some rod -/
def aloneB (C Rw : Nat) (rods : List Rod) (top : List Int) (i : Nat) : Bool := decide (((andn (exIn C rods top i rods.length) (orCells C rods top i (C * Rw)) : Nat) : Int) ≠ 0)
/-- the least heats -/
def leastTo (C Rw : Nat) (rods : List Rod) (top : List Int) (k : Nat) : List Int := (List.range 25).map fun i => if i < k ∧ aloneB C Rw rods top i = true then top.getD i 0 else 0
@[simp] theorem leastTo_len (C Rw : Nat) (rods : List Rod) (top : List Int) (k : Nat) : (leastTo C Rw rods top k).length = 25 := by simp [leastTo]
theorem leastTo_in {C Rw : Nat} {rods : List Rod} {top : List Int} {k : Nat} {x : Int} (hx : top[k]? = some x) (ha : aloneB C Rw rods top k = true) : (leastTo C Rw rods top k).set k x = leastTo C Rw rods top (k + 1) := by
  apply List.ext_getElem (by simp)
  intro n h1 h2
  simp only [List.getElem_set, leastTo, List.getElem_map, List.getElem_range]
  by_cases e : k = n
  · subst e; simp only [if_true, Nat.lt_succ_self, true_and, ha]; rw [getD_of hx]
  · have : (n < k + 1) = (n < k) := by apply propext; omega
    simp only [e, if_false, this]
theorem leastTo_out {C Rw : Nat} {rods : List Rod} {top : List Int} {k : Nat} (ha : aloneB C Rw rods top k = false) : leastTo C Rw rods top (k + 1) = leastTo C Rw rods top k := by
  apply List.ext_getElem (by simp)
  intro n h1 h2
  simp only [leastTo, List.getElem_map, List.getElem_range]
  by_cases e : n = k
  · subst e; simp [ha]
  · have : (n < k + 1) = (n < k) := by apply propext; omega
    simp only [this]
end Go.V
