/- What more functions of package rod compute, in plain terms: sets of rods, what a tip leaves, clashes, covers. -/
import Derived.Test.YtfcjmoolnadfbaaGreatRSpec
import Derived.Test.YtfcjmoolnadfbaaGreatVSl
set_option linter.unusedVariables false
set_option linter.unusedSimpArgs false
namespace Go.V

theorem notT {b : Bool} (h : b = false) : ¬ b = true := by rw [h]; decide
/-- whether a cell is open -/
def openB (C Rw : Nat) (rods : List Rod) (top : List Int) (k : Nat) : Bool := decide (0 < top.getD k 0) && !aloneB C Rw rods top k
theorem openB_t {C Rw : Nat} {rods : List Rod} {top : List Int} {k : Nat} {x : Int} (hx : top[k]? = some x) (h : 0 < x) (ha : aloneB C Rw rods top k = false) : openB C Rw rods top k = true := by
  rw [openB, getD_of hx, ha]; simpa using h
theorem openB_f {C Rw : Nat} {rods : List Rod} {top : List Int} {k : Nat} {x : Int} (hx : top[k]? = some x) (h : ¬ 0 < x ∨ aloneB C Rw rods top k = true) : ¬ openB C Rw rods top k = true := by
  rw [openB, getD_of hx]; rcases h with h | h <;> simp [h]
def mapR {α : Type} (e : Nat → α) (k : Nat) : List α := (List.range k).map e
@[simp] theorem mapR_len {α : Type} (e : Nat → α) (k : Nat) : (mapR e k).length = k := by simp [mapR]
theorem mapR_succ {α : Type} (e : Nat → α) (k : Nat) : mapR e (k + 1) = mapR e k ++ [e k] := by simp [mapR, List.range_succ]
theorem mapR_mem {α : Type} {e : Nat → α} {k : Nat} {x : α} (h : x ∈ mapR e k) : ∃ i, i < k ∧ x = e i := by
  obtain ⟨i, hi, rfl⟩ := List.mem_map.1 h; exact ⟨i, List.mem_range.1 hi, rfl⟩
/-- which rods each cell explains -/
def setsTo (C : Nat) (rods : List Rod) (top : List Int) (k : Nat) : List Nat := (List.range k).map fun i => exIn C rods top i rods.length
@[simp] theorem setsTo_len (C : Nat) (rods : List Rod) (top : List Int) (k : Nat) : (setsTo C rods top k).length = k := by simp [setsTo]

/-- the least number from some on of which something holds -/
def firstN (p : Nat → Bool) : Nat → Nat → Nat
  | 0, n => n
  | f + 1, n => if p n then n else firstN p f (n + 1)
theorem firstN_of {p : Nat → Bool} {n : Nat} (hp : p n = true) : ∀ f a, (∀ m, a ≤ m → m < n → p m = false) → a ≤ n → n ≤ a + f → firstN p f a = n
  | 0, a, _, h1, h2 => by simp [firstN]; omega
  | f + 1, a, h, h1, h2 => by
    rw [firstN]
    by_cases e : a = n
    · subst e; simp [hp]
    · rw [h a (Nat.le_refl _) (by omega), if_neg (by simp)]
      exact firstN_of hp f (a + 1) (fun m h3 h4 => h m (by omega) h4) (by omega) (by omega)

/-- the greatest heats with which a rod feels no more than a number -/
def lowTo (C : Nat) (top : List Int) (tip : Cell) (reach most : Int) (k : Nat) : List Int := (List.range 25).map fun i => if i < k ∧ dist (cellAt C i) tip ≤ reach then min (top.getD i 0) (most + dist (cellAt C i) tip) else top.getD i 0
@[simp] theorem lowTo_len (C : Nat) (top : List Int) (tip : Cell) (reach most : Int) (k : Nat) : (lowTo C top tip reach most k).length = 25 := by simp [lowTo]
theorem lowTo_zero {C : Nat} {top : List Int} {tip : Cell} {reach most : Int} (h : top.length = 25) : lowTo C top tip reach most 0 = top := by
  apply List.ext_getElem (by simp [h])
  intro n h1 h2
  simp [lowTo, List.getD_eq_getElem?_getD, h2]
theorem lowTo_in {C : Nat} {top : List Int} {tip : Cell} {reach most x : Int} {k : Nat} (hx : (lowTo C top tip reach most k)[k]? = some x) (hd : dist (cellAt C k) tip ≤ reach) : (lowTo C top tip reach most k).set k (min x (most + dist (cellAt C k) tip)) = lowTo C top tip reach most (k + 1) := by
  apply List.ext_getElem (by simp)
  intro n h1 h2
  simp only [List.length_set, lowTo_len] at h1
  obtain ⟨h3, h4⟩ := List.getElem?_eq_some_iff.1 hx
  simp only [lowTo, List.getElem_map, List.getElem_range, Nat.lt_irrefl, false_and, if_false] at h4
  simp only [List.getElem_set, lowTo, List.getElem_map, List.getElem_range]
  by_cases e : k = n
  · subst e; simp only [if_true, Nat.lt_succ_self, true_and, hd]; rw [h4]
  · have : (n < k + 1) = (n < k) := by apply propext; omega
    simp only [e, if_false, this]
theorem lowTo_out {C : Nat} {top : List Int} {tip : Cell} {reach most : Int} {k : Nat} (hd : ¬ dist (cellAt C k) tip ≤ reach) : lowTo C top tip reach most (k + 1) = lowTo C top tip reach most k := by
  apply List.ext_getElem (by simp)
  intro n h1 h2
  simp only [lowTo, List.getElem_map, List.getElem_range]
  by_cases e : n = k
  · subst e; simp [hd]
  · have : (n < k + 1) = (n < k) := by apply propext; omega
    simp only [this]
theorem lowTo_bd {C : Nat} {top : List Int} {tip : Cell} {reach most : Int} {k : Nat} (hc : ∀ i, i < k → Sm (cellAt C i)) (ht : Sm tip) (hm : 0 ≤ most ∧ most ≤ 100) (hb : ∀ x ∈ top, 0 ≤ x ∧ x ≤ 9) : ∀ x ∈ lowTo C top tip reach most k, 0 ≤ x ∧ x ≤ 9 := by
  intro x hx
  simp only [lowTo, List.mem_map, List.mem_range] at hx
  obtain ⟨i, hi, rfl⟩ := hx
  have h1 : 0 ≤ top.getD i 0 ∧ top.getD i 0 ≤ 9 := by
    rw [List.getD_eq_getElem?_getD]
    cases e : top[i]? with
    | none => simp
    | some y => simpa using hb y (List.mem_of_getElem? e)
  split
  · rename_i h
    have := dist_bd (hc i h.1) ht
    omega
  · exact h1
/-- from 9 on nothing is lowered -/
theorem lowTo_nine {C : Nat} {top : List Int} {tip : Cell} {reach most : Int} {k : Nat} (hc : ∀ i, i < k → Sm (cellAt C i)) (ht : Sm tip) (hm : 9 ≤ most) (hb : ∀ x ∈ top, 0 ≤ x ∧ x ≤ 9) (hl : top.length = 25) : lowTo C top tip reach most k = top := by
  apply List.ext_getElem (by simp [hl])
  intro n h1 h2
  simp only [lowTo, List.getElem_map, List.getElem_range, List.getD_eq_getElem?_getD, List.getElem?_eq_getElem h2, Option.getD_some]
  split
  · rename_i h
    have h3 := dist_bd (hc n h.1) ht
    have h4 := hb _ (List.getElem_mem h2)
    omega
  · rfl
def leastP (C Rw : Nat) (rods : List Rod) (top : List Int) (tip : Cell) (reach : Int) (n : Nat) : Bool := fitsL C Rw rods (lowTo C top tip reach n (C * Rw)) (fun _ => true)
def mostP (C Rw : Nat) (top : List Int) (tip : Cell) (reach : Int) (n : Nat) : Bool := decide (lowTo C top tip reach n (C * Rw) = top)
def leavesLo (C Rw : Nat) (rods : List Rod) (top : List Int) (tip : Cell) (reach : Int) : Nat := firstN (leastP C Rw rods top tip reach) 9 0
def leavesHi (C Rw : Nat) (rods : List Rod) (top : List Int) (tip : Cell) (reach : Int) : Nat := firstN (mostP C Rw top tip reach) 9 (leavesLo C Rw rods top tip reach)

theorem leastP_nine {C Rw : Nat} {rods : List Rod} {top : List Int} {tip : Cell} {reach : Int} (hc : 1 ≤ C ∧ C ≤ 5 ∧ 1 ≤ Rw ∧ Rw ≤ 5) (ht : Sm tip) (hb : ∀ x ∈ top, 0 ≤ x ∧ x ≤ 9) (hl : top.length = 25) (hfit : fitsL C Rw rods top (fun _ => true) = true) : leastP C Rw rods top tip reach 9 = true := by
  unfold leastP
  rw [lowTo_nine (fun i hi => cellAt_Sm hc.2.1 hc.2.2.2 hi) ht (by decide) hb hl, hfit]
theorem mostP_nine {C Rw : Nat} {top : List Int} {tip : Cell} {reach : Int} (hc : 1 ≤ C ∧ C ≤ 5 ∧ 1 ≤ Rw ∧ Rw ≤ 5) (ht : Sm tip) (hb : ∀ x ∈ top, 0 ≤ x ∧ x ≤ 9) (hl : top.length = 25) : mostP C Rw top tip reach 9 = true := by
  unfold mostP
  rw [lowTo_nine (fun i hi => cellAt_Sm hc.2.1 hc.2.2.2 hi) ht (by decide) hb hl]; simp
theorem first_step {p : Nat → Bool} {lo n : Nat} (h : lo ≤ n ∧ n ≤ 9 ∧ ∀ m, lo ≤ m → m < n → p m = false) (h9 : p 9 = true) (hn : p n = false) : lo ≤ n + 1 ∧ n + 1 ≤ 9 ∧ ∀ m, lo ≤ m → m < n + 1 → p m = false := by
  refine ⟨by omega, ?_, fun m h1 h2 => ?_⟩
  · have : n ≠ 9 := fun e => by subst e; rw [h9] at hn; cases hn
    omega
  · by_cases e : m = n
    · subst e; exact hn
    · exact h.2.2 m h1 (by omega)
theorem first_done {p : Nat → Bool} {lo n : Nat} (h : lo ≤ n ∧ n ≤ 9 ∧ ∀ m, lo ≤ m → m < n → p m = false) (hn : p n = true) : firstN p 9 lo = n :=
  firstN_of hn 9 lo (fun m h1 h2 => h.2.2 m h1 h2) h.1 (by omega)
theorem leavesLo_le {C Rw : Nat} {rods : List Rod} {top : List Int} {tip : Cell} {reach : Int} : leavesLo C Rw rods top tip reach ≤ 9 := by
  unfold leavesLo
  have : ∀ (p : Nat → Bool) f a, firstN p f a ≤ a + f := fun p f => by
    induction f with
    | zero => intro a; simp [firstN]
    | succ f ih => intro a; rw [firstN]; split
                   · omega
                   · have := ih (a + 1); omega
  exact Nat.le_trans (this _ _ _) (by omega)
theorem leavesHi_le {C Rw : Nat} {rods : List Rod} {top : List Int} {tip : Cell} {reach : Int} : leavesHi C Rw rods top tip reach ≤ 18 := by
  unfold leavesHi
  have : ∀ (p : Nat → Bool) f a, firstN p f a ≤ a + f := fun p f => by
    induction f with
    | zero => intro a; simp [firstN]
    | succ f ih => intro a; rw [firstN]; split
                   · omega
                   · have := ih (a + 1); omega
  have h := leavesLo_le (C := C) (Rw := Rw) (rods := rods) (top := top) (tip := tip) (reach := reach)
  exact Nat.le_trans (this _ _ _) (by omega)

/-- the tip that leaves the most, among the first cells -/
def nextTo (C Rw : Nat) (rods : List Rod) (top : List Int) (reach : Int) : Nat → Int × Cell
  | 0 => (0, ⟨0, 0⟩)
  | k + 1 =>
    let s := nextTo C Rw rods top reach k
    let d : Int := (leavesHi C Rw rods top (cellAt C k) reach : Int) - (leavesLo C Rw rods top (cellAt C k) reach : Int)
    if s.1 < d then (d, cellAt C k) else s

theorem nextTo_in {C Rw : Nat} {rods : List Rod} {top : List Int} {reach : Int} {k : Nat} (h : (nextTo C Rw rods top reach k).1 < (leavesHi C Rw rods top (cellAt C k) reach : Int) - (leavesLo C Rw rods top (cellAt C k) reach : Int)) : nextTo C Rw rods top reach (k + 1) = ((leavesHi C Rw rods top (cellAt C k) reach : Int) - (leavesLo C Rw rods top (cellAt C k) reach : Int), cellAt C k) := by
  rw [nextTo]; simp only [h, if_true]
theorem nextTo_out {C Rw : Nat} {rods : List Rod} {top : List Int} {reach : Int} {k : Nat} (h : ¬ (nextTo C Rw rods top reach k).1 < (leavesHi C Rw rods top (cellAt C k) reach : Int) - (leavesLo C Rw rods top (cellAt C k) reach : Int)) : nextTo C Rw rods top reach (k + 1) = nextTo C Rw rods top reach k := by
  rw [nextTo]; simp only [h, if_false]
def nextC (C Rw : Nat) (rods : List Rod) (top : List Int) (reach : Int) : Cell := if (nextTo C Rw rods top reach (C * Rw)).1 = 0 then ⟨0, 0⟩ else (nextTo C Rw rods top reach (C * Rw)).2
def nextE (C Rw : Nat) (rods : List Rod) (top : List Int) (reach : Int) : Int := if (nextTo C Rw rods top reach (C * Rw)).1 = 0 then 6 else 0
/-- the rods that a set names, as numbers -/
def setE (C : Nat) (rods : List Rod) (top : List Int) (k : Nat) : Int := ((exIn C rods top k rods.length : Nat) : Int)
def apP (set : Nat) (own : Int) : Bool := decide ((membI (own.toNat &&& set)).length < 2)
def apOk (C Rw : Nat) (rods : List Rod) (top : List Int) (set : Nat) : Bool := decide (((andn set (shownTo rods rods.length) : Nat) : Int) = 0) && (mapR (setE C rods top) (C * Rw)).all (apP set)
theorem setE_bd {C : Nat} {rods : List Rod} {top : List Int} {k : Nat} {x : Int} (hl : rods.length ≤ 8) (h : x ∈ mapR (setE C rods top) k) : 0 ≤ x ∧ x < 2 ^ 62 := by
  obtain ⟨i, _, rfl⟩ := mapR_mem h
  have := exIn_lt (C := C) (rods := rods) (top := top) (i := i) rods.length 62 (by omega)
  unfold setE; omega
theorem membI_len (s : Nat) : (membI s).length ≤ 62 := by unfold membI; rw [List.length_map]; exact memb_length s 62
def betterL (l out : List Int) : Bool := decide ((out.length : Int) < l.length) || (decide ((l.length : Int) = out.length) && decide (cmpL l out < 0))
theorem betterA {l out : List Int} (h : decide ((out.length : Int) < l.length) = true) : betterL l out = true := by rw [betterL, h]; rfl
theorem betterB {l out : List Int} (h2 : decide ((l.length : Int) = out.length) = true) (h3 : cmpL l out < 0) : betterL l out = true := by rw [betterL, h2, decide_eq_true h3]; simp
theorem betterC {l out : List Int} (h : decide ((out.length : Int) < l.length) = false) (h3 : ¬ cmpL l out < 0) : betterL l out = false := by rw [betterL, h, decide_eq_false h3]; simp
theorem betterD {l out : List Int} (h : decide ((out.length : Int) < l.length) = false) (h2 : decide ((l.length : Int) = out.length) = false) : betterL l out = false := by rw [betterL, h, h2]; rfl
theorem apOk_t {C Rw : Nat} {rods : List Rod} {top : List Int} {n : Nat} (h1 : decide (((andn n (shownTo rods rods.length) : Nat) : Int) ≠ 0) = false) (h2 : (!(mapR (setE C rods top) (C * Rw)).all (apP n)) = false) : apOk C Rw rods top n = true := by
  unfold apOk
  have e1 : decide (((andn n (shownTo rods rods.length) : Nat) : Int) = 0) = true := by
    rw [decide_not] at h1; simpa using h1
  rw [e1]; simpa using h2
theorem apOk_f1 {C Rw : Nat} {rods : List Rod} {top : List Int} {n : Nat} (h1 : decide (((andn n (shownTo rods rods.length) : Nat) : Int) ≠ 0) = true) : apOk C Rw rods top n = false := by
  unfold apOk
  have e1 : decide (((andn n (shownTo rods rods.length) : Nat) : Int) = 0) = false := by
    rw [decide_not] at h1; simpa using h1
  rw [e1]; rfl
theorem apOk_f2 {C Rw : Nat} {rods : List Rod} {top : List Int} {n : Nat} (h2 : (!(mapR (setE C rods top) (C * Rw)).all (apP n)) = true) : apOk C Rw rods top n = false := by
  unfold apOk
  have : (mapR (setE C rods top) (C * Rw)).all (apP n) = false := by simpa using h2
  rw [this]; simp
def apartTo (C Rw : Nat) (rods : List Rod) (top : List Int) : Nat → List Int
  | 0 => []
  | n + 1 => if apOk C Rw rods top n && betterL (membI n) (apartTo C Rw rods top n) then membI n else apartTo C Rw rods top n

theorem apart_in {C Rw : Nat} {rods : List Rod} {top : List Int} {n : Nat} (h : apOk C Rw rods top n = true) (h2 : betterL (membI n) (apartTo C Rw rods top n) = true) : apartTo C Rw rods top (n + 1) = membI n := by rw [apartTo, h, h2]; rfl
theorem apart_out {C Rw : Nat} {rods : List Rod} {top : List Int} {n : Nat} (h : apOk C Rw rods top n = true → betterL (membI n) (apartTo C Rw rods top n) = false) : apartTo C Rw rods top (n + 1) = apartTo C Rw rods top n := by
  rw [apartTo]; cases e : apOk C Rw rods top n
  · rfl
  · rw [h e]; rfl
/-- listed rods agree -/
def agreeL (C Rw : Nat) (rods : List Rod) (p : Int → Bool) : Bool := fitsL C Rw rods (mostTo C rods p (C * Rw)) p
def inL (l : List Int) (n : Int) : Bool := l.any fun x => decide (n = x)
/-- the first clash of so many rods, among the first sets -/
def clashB (C Rw : Nat) (rods : List Rod) (many n : Nat) (out : List Int) : Bool := decide (((membI n).length : Int) = (many : Int)) && (decide (out = []) || decide (cmpL (membI n) out < 0)) && !agreeL C Rw rods (inL (membI n))
def clashIn (C Rw : Nat) (rods : List Rod) (many : Nat) : Nat → List Int
  | 0 => []
  | n + 1 => if clashB C Rw rods many n (clashIn C Rw rods many n) then membI n else clashIn C Rw rods many n
def clashTo (C Rw : Nat) (rods : List Rod) : Nat → List Int
  | 0 => []
  | n + 1 => if clashTo C Rw rods n = [] then clashIn C Rw rods n (2 ^ rods.length) else clashTo C Rw rods n
theorem clash_in {C Rw : Nat} {rods : List Rod} {many n : Nat} (h : clashB C Rw rods many n (clashIn C Rw rods many n) = true) : clashIn C Rw rods many (n + 1) = membI n := by rw [clashIn, if_pos h]
theorem clash_out {C Rw : Nat} {rods : List Rod} {many n : Nat} (h : clashB C Rw rods many n (clashIn C Rw rods many n) = false) : clashIn C Rw rods many (n + 1) = clashIn C Rw rods many n := by rw [clashIn, if_neg (by simp [h])]
theorem clashB_t {C Rw : Nat} {rods : List Rod} {many n : Nat} {out : List Int} (h1 : decide (((membI n).length : Int) = (many : Int)) = true) (h2 : out = [] ∨ decide (cmpL (membI n) out < 0) = true) (h3 : (!agreeL C Rw rods (inL (membI n))) = true) : clashB C Rw rods many n out = true := by
  unfold clashB; rw [h1, h3]; rcases h2 with rfl | h2
  · rfl
  · rw [h2]; simp
theorem clashB_f1 {C Rw : Nat} {rods : List Rod} {many n : Nat} {out : List Int} (h1 : decide (((membI n).length : Int) = (many : Int)) = false) : clashB C Rw rods many n out = false := by unfold clashB; rw [h1]; rfl
theorem clashB_f2 {C Rw : Nat} {rods : List Rod} {many n : Nat} {out : List Int} (h : out ≠ []) (h2 : decide (cmpL (membI n) out < 0) = false) : clashB C Rw rods many n out = false := by
  unfold clashB; rw [h2, decide_eq_false h]; simp
theorem clashB_f3 {C Rw : Nat} {rods : List Rod} {many n : Nat} {out : List Int} (h3 : (!agreeL C Rw rods (inL (membI n))) = false) : clashB C Rw rods many n out = false := by unfold clashB; rw [h3]; simp
theorem agree_nil {C Rw : Nat} {rods : List Rod} : agreeL C Rw rods (inL []) = true := by
  unfold agreeL fitsL
  rw [List.all_eq_true]
  intro j _
  unfold fitAt
  split
  · rfl
  · simp [inL]
theorem clash_ne {C Rw : Nat} {rods : List Rod} {n : Nat} (h3 : (!agreeL C Rw rods (inL (membI n))) = true) : membI n ≠ [] := fun e => by
  rw [e, agree_nil] at h3; cases h3
theorem clashTo_next {C Rw : Nat} {rods : List Rod} {m : Nat} (h : clashTo C Rw rods m = []) : clashTo C Rw rods (m + 1) = clashIn C Rw rods m (2 ^ rods.length) := by rw [clashTo, if_pos h]
theorem clashTo_stop {C Rw : Nat} {rods : List Rod} {m : Nat} (h : clashTo C Rw rods m ≠ []) : ∀ j, m ≤ j → clashTo C Rw rods j = clashTo C Rw rods m
  | 0, hj => by obtain rfl : m = 0 := by omega
                rfl
  | j + 1, hj => by
    by_cases e : m = j + 1
    · rw [e]
    · have ih := clashTo_stop h j (by omega)
      rw [clashTo, ih, if_neg h]
/-- the rods of the examples -/
def threeAll : List Rod := [⟨⟨1, 1⟩, 2, 3⟩, ⟨⟨3, 0⟩, 1, 0⟩, ⟨⟨0, 2⟩, 1, 4⟩, ⟨⟨0, 2⟩, 0, 0⟩]
def threeAt (x : Int) : Rod := threeAll.getD x.toNat ⟨⟨0, 0⟩, 0, 0⟩
theorem threeAt_ok (x : Int) : RodOk (threeAt x) := by
  have h : ∀ r ∈ threeAll, RodOk r := by
    intro r hr
    simp only [threeAll, List.mem_cons, List.not_mem_nil, or_false] at hr
    rcases hr with rfl | rfl | rfl | rfl <;> (unfold RodOk Sm; decide)
  unfold threeAt
  rw [List.getD_eq_getElem?_getD]
  cases e : threeAll[x.toNat]? with
  | none => simp only [Option.getD_none]; unfold RodOk Sm; decide
  | some r => exact h r (List.mem_of_getElem? e)
theorem three_ok3 : ∀ r ∈ ([0, 1, 2].map threeAt), RodOk r := fun r hr => by obtain ⟨x, _, rfl⟩ := List.mem_map.1 hr; exact threeAt_ok x
theorem three_ok4 : ∀ r ∈ ([0, 1, 2, 3].map threeAt), RodOk r := fun r hr => by obtain ⟨x, _, rfl⟩ := List.mem_map.1 hr; exact threeAt_ok x
theorem three_step {xs : List Int} {i : Nat} {x : Int} {r : Rod} (hx : xs[i]? = some x) (hr : threeAll[x.toNat]? = some r) : (xs.take (i + 1)).map threeAt = (xs.take i).map threeAt ++ [r] := by
  rw [List.take_add_one, hx]; simp [threeAt, List.getD_eq_getElem?_getD, hr]

/-- the cells that a tip reaches, among the first ones, by bits -/
def reachIn (C : Nat) (tip : Cell) (reach : Int) : Nat → Nat
  | 0 => 0
  | k + 1 => if dist (cellAt C k) tip ≤ reach then reachIn C tip reach k ||| 2 ^ k else reachIn C tip reach k
theorem reachIn_in {C : Nat} {tip : Cell} {reach : Int} {k : Nat} (h : dist (cellAt C k) tip ≤ reach) : reachIn C tip reach (k + 1) = reachIn C tip reach k ||| 2 ^ k := by rw [reachIn, if_pos h]
theorem reachIn_out {C : Nat} {tip : Cell} {reach : Int} {k : Nat} (h : ¬ dist (cellAt C k) tip ≤ reach) : reachIn C tip reach (k + 1) = reachIn C tip reach k := by rw [reachIn, if_neg h]
theorem reachIn_lt {C : Nat} {tip : Cell} {reach : Int} : ∀ k n, k ≤ n → reachIn C tip reach k < 2 ^ n
  | 0, n, _ => by simp [reachIn]; exact Nat.two_pow_pos n
  | k + 1, n, h => by
    rw [reachIn]
    have ih := reachIn_lt (C := C) (tip := tip) (reach := reach) k n (by omega)
    split
    · exact Nat.or_lt_two_pow ih (Nat.pow_lt_pow_right (by decide) (by omega))
    · exact ih
def reached (C Rw : Nat) (reach : Int) (k : Nat) : List Nat := mapR (fun i => reachIn C (cellAt C i) reach (C * Rw)) k
@[simp] theorem reached_len (C Rw : Nat) (reach : Int) (k : Nat) : (reached C Rw reach k).length = k := by simp [reached]
theorem reached_lt {C Rw : Nat} {reach : Int} {k : Nat} (h : C * Rw ≤ 62) : ∀ x ∈ reached C Rw reach k, x < 2 ^ 62 := fun x hx => by
  obtain ⟨i, _, rfl⟩ := mapR_mem hx; exact reachIn_lt _ _ h
def reI (re : List Nat) : List Int := re.map fun (x : Nat) => (x : Int)
@[simp] theorem reI_len (re : List Nat) : (reI re).length = re.length := by simp [reI]
theorem reI_get {re : List Nat} {i : Nat} {x : Int} (h : (reI re)[i]? = some x) : ∃ w : Nat, re[i]? = some w ∧ (w : Int) = x := by
  unfold reI at h; rw [List.getElem?_map] at h
  cases e : re[i]? with
  | none => rw [e] at h; cases h
  | some w => rw [e] at h; exact ⟨w, rfl, by simpa using h⟩
theorem reI_reached {C Rw : Nat} {reach : Int} {k : Nat} : reI (reached C Rw reach (k + 1)) = reI (reached C Rw reach k) ++ [((reachIn C (cellAt C k) reach (C * Rw) : Nat) : Int)] := by
  unfold reI reached; rw [mapR_succ]; simp
/-- the first tip that goes on to a cover -/
def tryTip (F : Nat → Option (List Int)) (set open0 : Nat) : List Nat → Nat → Option (List Int)
  | [], _ => none
  | own :: r, tip => if (own >>> open0) &&& 1 = 1 then match F (set ||| own) with
      | some l => some (l ++ [(tip : Int)])
      | none => tryTip F set open0 r (tip + 1)
    else tryTip F set open0 r (tip + 1)
def coverS (whole wide : Nat) (re : List Nat) (F : Nat → Option (List Int)) (left set : Nat) : Option (List Int) := match memb (andn whole set) 62 with
  | [] => some []
  | o :: r => if left * wide < (o :: r).length then none else tryTip F set o re 0
def coverF (whole wide : Nat) (re : List Nat) : Nat → Nat → Option (List Int)
  | 0 => coverS whole wide re (fun _ => none) 0
  | n + 1 => coverS whole wide re (coverF whole wide re n) (n + 1)
def coverP (whole wide : Nat) (re : List Nat) : Nat → Nat → Option (List Int)
  | 0 => fun _ => none
  | n + 1 => coverF whole wide re n
theorem coverF_eq (whole wide : Nat) (re : List Nat) (n : Nat) : coverF whole wide re n = coverS whole wide re (coverP whole wide re n) n := by cases n <;> rfl
def covR (whole wide : Nat) (re : List Nat) (n set : Nat) : List Int := (coverF whole wide re n set).getD []
def covS (whole wide : Nat) (re : List Nat) (n set : Nat) : Bool := (coverF whole wide re n set).isSome
section cover
variable {whole wide n set o i w : Nat} {re r : List Nat}
theorem membI_nil {s : Nat} (h : ((membI s).length : Int) = 0) : memb s 62 = [] := by
  unfold membI at h; rw [List.length_map] at h; exact List.length_eq_zero_iff.1 (by exact_mod_cast h)
theorem cov_empty (h : ((membI (andn whole set)).length : Int) = 0) : covR whole wide re n set = [] ∧ covS whole wide re n set = true := by
  unfold covR covS; rw [coverF_eq, coverS, membI_nil h]; exact ⟨rfl, rfl⟩
theorem cov_cons {s : Nat} (h : ¬ ((membI s).length : Int) = 0) : ∃ o r, memb s 62 = o :: r := by
  cases e : memb s 62 with
  | nil => exact absurd (by unfold membI; rw [e]; rfl) h
  | cons o r => exact ⟨o, r, rfl⟩
theorem cov_lenc {s : Nat} {o : Nat} {r : List Nat} (h : memb s 62 = o :: r) : (membI s).length = (o :: r).length := by unfold membI; rw [h, List.length_map]
theorem cov_few (h : ¬ ((membI (andn whole set)).length : Int) = 0) (h2 : (n : Int) * (wide : Int) < ((membI (andn whole set)).length : Int)) : covR whole wide re n set = [] ∧ covS whole wide re n set = false := by
  obtain ⟨o, r, e⟩ := cov_cons h
  rw [cov_lenc e] at h2
  have h3 : n * wide < (o :: r).length := by exact_mod_cast h2
  unfold covR covS; rw [coverF_eq, coverS, e]; simp only [if_pos h3]; exact ⟨rfl, rfl⟩
theorem cov_pos (h : ¬ ((membI (andn whole set)).length : Int) = 0) (h2 : ¬ (n : Int) * (wide : Int) < ((membI (andn whole set)).length : Int)) : 0 < n := by
  rcases Nat.eq_zero_or_pos n with e | e
  · subst e; rw [show ((0 : Nat) : Int) = 0 from rfl, Int.zero_mul] at h2; omega
  · exact e
theorem cov_try (h : memb (andn whole set) 62 = o :: r) (h2 : ¬ (n : Int) * (wide : Int) < ((membI (andn whole set)).length : Int)) : coverF whole wide re n set = tryTip (coverP whole wide re n) set o re 0 := by
  rw [cov_lenc h] at h2
  have h3 : ¬ n * wide < (o :: r).length := by exact_mod_cast h2
  rw [coverF_eq, coverS, h]; simp only [if_neg h3]
theorem cov_first {x : Int} (h : memb (andn whole set) 62 = o :: r) (hx : (membI (andn whole set))[0]? = some x) : (o : Int) = x := by
  rw [membI, h] at hx; simpa using hx
theorem drop_cons {α : Type} {l : List α} {i : Nat} {x : α} (h : l[i]? = some x) : l.drop i = x :: l.drop (i + 1) := drop_of h
theorem tt_skip {F : Nat → Option (List Int)} {T0 : Option (List Int)} (hP : T0 = tryTip F set o (re.drop i) i) (hw : re[i]? = some w) (hb : ¬ (((w >>> o) &&& 1 : Nat) : Int) = 1) : T0 = tryTip F set o (re.drop (i + 1)) (i + 1) := by
  have hb' : ¬ (w >>> o) &&& 1 = 1 := by exact_mod_cast hb
  rw [hP, drop_cons hw, tryTip, if_neg hb']
theorem coverP_pos (hn : 0 < n) : coverP whole wide re n = coverF whole wide re (n - 1) := by
  cases n with
  | zero => omega
  | succ n => rfl
theorem tt_none {T0 : Option (List Int)} (hn : 0 < n) (hP : T0 = tryTip (coverP whole wide re n) set o (re.drop i) i) (hw : re[i]? = some w) (hb : (((w >>> o) &&& 1 : Nat) : Int) = 1) (hs : covS whole wide re (n - 1) (set ||| w) = false) : T0 = tryTip (coverP whole wide re n) set o (re.drop (i + 1)) (i + 1) := by
  have hb' : (w >>> o) &&& 1 = 1 := by exact_mod_cast hb
  rw [hP, drop_cons hw, tryTip, if_pos hb', coverP_pos hn]
  unfold covS at hs
  cases e : coverF whole wide re (n - 1) (set ||| w) with
  | none => rfl
  | some l => rw [e] at hs; cases hs
theorem tt_hit {T0 : Option (List Int)} (hn : 0 < n) (hP : T0 = tryTip (coverP whole wide re n) set o (re.drop i) i) (hw : re[i]? = some w) (hb : (((w >>> o) &&& 1 : Nat) : Int) = 1) (hs : covS whole wide re (n - 1) (set ||| w) = true) : T0 = some (covR whole wide re (n - 1) (set ||| w) ++ [(i : Int)]) := by
  have hb' : (w >>> o) &&& 1 = 1 := by exact_mod_cast hb
  rw [hP, drop_cons hw, tryTip, if_pos hb', coverP_pos hn]
  unfold covS at hs
  unfold covR
  cases e : coverF whole wide re (n - 1) (set ||| w) with
  | none => rw [e] at hs; cases hs
  | some l => rfl
theorem tt_end {F : Nat → Option (List Int)} {T0 : Option (List Int)} (hP : T0 = tryTip F set o (re.drop i) i) (hi : re.length ≤ i) : T0 = none := by
  rw [hP, List.drop_eq_nil_of_le hi]; rfl
theorem tryTip_len {F : Nat → Option (List Int)} {m : Nat} (hF : ∀ s l, F s = some l → l.length ≤ m) : ∀ (l : List Nat) (t : Nat) (x : List Int), tryTip F set o l t = some x → x.length ≤ m + 1
  | [], _, _, h => by cases h
  | w :: l, t, x, h => by
    rw [tryTip] at h
    split at h
    · split at h
      · rename_i y hy; simp only [Option.some.injEq] at h; subst h; simp; exact hF _ _ hy
      · exact tryTip_len hF l _ x h
    · exact tryTip_len hF l _ x h
theorem coverS_len {F : Nat → Option (List Int)} {m : Nat} (hF : ∀ s l, F s = some l → l.length ≤ m) {l : List Int} (h : coverS whole wide re F n set = some l) : l.length ≤ m + 1 := by
  unfold coverS at h
  split at h
  · simp only [Option.some.injEq] at h; subst h; simp
  · split at h
    · cases h
    · exact tryTip_len hF _ _ _ h
theorem coverF_len : ∀ n set l, coverF whole wide re n set = some l → l.length ≤ n + 1
  | 0, _, _, h => coverS_len (m := 0) (fun _ _ h => by cases h) h
  | n + 1, _, _, h => coverS_len (m := n + 1) (fun s l h => coverF_len n s l h) h
theorem covR_len : (covR whole wide re n set).length ≤ n + 1 := by
  unfold covR
  cases e : coverF whole wide re n set with
  | none => simp
  | some l => exact coverF_len n set l e
end cover

/-- elements are struck out of a slice, in place -/
theorem fidx_filt {α : Type} {p : α → Bool} {xs : List α} (h : fidx p xs = -1) : xs.filter (fun x => !p x) = xs := by
  unfold fidx at h
  cases e : xs.findIdx? p with
  | some i => rw [e] at h; simp at h
  | none =>
    rw [List.findIdx?_eq_none_iff] at e
    rw [List.filter_eq_self]
    intro x hx; simp [e x hx]
theorem fidx_get {α : Type} {p : α → Bool} {xs : List α} (h : ¬ fidx p xs = -1) : ∃ k : Nat, fidx p xs = (k : Int) ∧ k < xs.length ∧ (xs.take (k + 1)).filter (fun x => !p x) = xs.take k := by
  unfold fidx at h ⊢
  cases e : xs.findIdx? p with
  | none => rw [e] at h; exact absurd rfl h
  | some k =>
    rw [List.findIdx?_eq_some_iff_getElem] at e
    obtain ⟨h1, h2, h3⟩ := e
    refine ⟨k, rfl, h1, ?_⟩
    rw [List.take_succ_eq_append_getElem h1, List.filter_append]
    have e1 : (xs.take k).filter (fun x => !p x) = xs.take k := by
      rw [List.filter_eq_self]
      intro x hx
      obtain ⟨j, hj, rfl⟩ := List.getElem_of_mem hx
      simp only [List.length_take] at hj
      rw [List.getElem_take]
      have := h3 j (by omega)
      simpa using this
    rw [e1]; simp [h2]
section dels
variable {α : Type} {p : α → Bool} {xs ys : List α} {i j : Nat} {x : α}
def DelOk (p : α → Bool) (xs ys : List α) (i j : Nat) : Prop := i < j ∧ j ≤ xs.length ∧ ys.length = xs.length ∧ ys.take i = (xs.take j).filter (fun x => !p x) ∧ ys.drop j = xs.drop j
theorem DelOk.zero {k : Nat} (h1 : k < xs.length) (h2 : (xs.take (k + 1)).filter (fun x => !p x) = xs.take k) : DelOk p xs xs k (k + 1) := ⟨by omega, by omega, rfl, h2.symm, rfl⟩
theorem DelOk.get (h : DelOk p xs ys i j) (hx : ys[j]? = some x) : xs[j]? = some x := by
  have e := congrArg (fun l => l[0]?) h.2.2.2.2
  simpa [List.getElem?_drop, hx] using e.symm
theorem DelOk.mem (h : DelOk p xs ys i j) (hx : ys[j]? = some x) : x ∈ xs := List.mem_of_getElem? (h.get hx)
theorem take_filt {n : Nat} (hx : xs[n]? = some x) : (xs.take (n + 1)).filter (fun x => !p x) = (xs.take n).filter (fun x => !p x) ++ (if p x then [] else [x]) := by
  rw [List.take_add_one, hx, List.filter_append]; cases hp : p x <;> simp [hp]
theorem drop_next {ys xs : List α} {n : Nat} (h : ys.drop n = xs.drop n) : ys.drop (n + 1) = xs.drop (n + 1) := by
  rw [← List.drop_drop, ← List.drop_drop, h]
theorem DelOk.out (h : DelOk p xs ys i j) (hx : ys[j]? = some x) (hp : p x = true) : DelOk p xs ys i (j + 1) := by
  have hx2 := h.get hx
  have hj := (List.getElem?_eq_some_iff.1 hx2).1
  obtain ⟨h1, h2, h3, h4, h5⟩ := h
  exact ⟨by omega, by omega, h3, by rw [take_filt hx2, hp, if_pos rfl, List.append_nil, h4], drop_next h5⟩
theorem DelOk.keep (h : DelOk p xs ys i j) (hx : ys[j]? = some x) (hp : p x = false) : DelOk p xs (ys.set i x) (i + 1) (j + 1) := by
  have hx2 := h.get hx
  have hj := (List.getElem?_eq_some_iff.1 hx2).1
  obtain ⟨h1, h2, h3, h4, h5⟩ := h
  refine ⟨by omega, by omega, by rw [List.length_set, h3], ?_, ?_⟩
  · rw [take_filt hx2, hp, ← h4, List.take_add_one, List.getElem?_set_self (by omega), List.take_set_of_le (by omega)]; simp
  · rw [List.drop_set_of_lt (by omega)]; exact drop_next h5
theorem DelOk.fin (h : DelOk p xs ys i j) (hj : xs.length ≤ j) : ys.take i = xs.filter (fun x => !p x) := by
  rw [h.2.2.2.1, List.take_of_length_le hj]
end dels

/-- cells that are scattered: l is chosen, left can be chosen yet -/
def scatL (F : List Cell → List Cell → List Cell → List Cell) (reach : Int) (l : List Cell) : List Cell → List Cell → List Cell
  | [], best => best
  | c :: r, best => if l.length + (r.length + 1) ≤ best.length then best else scatL F reach l r (F (l ++ [c]) (r.filter fun x => !decide (dist x c ≤ 2 * reach)) best)
def updB (l best : List Cell) : List Cell := if best.length < l.length then l else best
def scatF (reach : Int) : Nat → List Cell → List Cell → List Cell → List Cell
  | 0, l, left, best => scatL (fun _ _ b => b) reach l left (updB l best)
  | n + 1, l, left, best => scatL (scatF reach n) reach l left (updB l best)
def scatP (reach : Int) : Nat → List Cell → List Cell → List Cell → List Cell
  | 0 => fun _ _ b => b
  | n + 1 => scatF reach n
theorem scatF_eq (reach : Int) (n : Nat) (l left best : List Cell) : scatF reach n l left best = scatL (scatP reach n) reach l left (updB l best) := by cases n <;> rfl
def allCells (C k : Nat) : List Cell := mapR (cellAt C) k
section scatter
variable {reach : Int} {n i : Nat} {l left best bst : List Cell} {c : Cell} {T0 : List Cell}
theorem scat_stop {F : List Cell → List Cell → List Cell → List Cell} (hP : T0 = scatL F reach l (left.drop i) bst) (hc : left[i]? = some c) (h : (l.length : Int) + left.length - i ≤ bst.length) : T0 = bst := by
  have hlt := (List.getElem?_eq_some_iff.1 hc).1
  rw [hP, drop_cons hc, scatL, if_pos (by rw [List.length_drop]; omega)]
theorem scatP_pos (hn : 0 < n) : scatP reach n = scatF reach (n - 1) := by
  cases n with
  | zero => omega
  | succ n => rfl
theorem scat_go (hn : 0 < n) (hP : T0 = scatL (scatP reach n) reach l (left.drop i) bst) (hc : left[i]? = some c) (h : ¬ (l.length : Int) + left.length - i ≤ bst.length) :
    T0 = scatL (scatP reach n) reach l (left.drop (i + 1)) (scatF reach (n - 1) (l ++ [c]) ((left.drop (i + 1)).filter fun x => !decide (dist x c ≤ 2 * reach)) bst) := by
  have hlt := (List.getElem?_eq_some_iff.1 hc).1
  rw [hP, drop_cons hc, scatL, if_neg (by rw [List.length_drop]; omega), scatP_pos hn]
theorem scat_end {F : List Cell → List Cell → List Cell → List Cell} (hP : T0 = scatL F reach l (left.drop i) bst) (h : left.length ≤ i) : T0 = bst := by
  rw [hP, List.drop_eq_nil_of_le h]; rfl
end scatter
def scatB (C Rw : Nat) (reach : Int) : List Cell := scatF reach (C * Rw) [] (allCells C (C * Rw)) []
/-- the least number of tips, and their cover -/
def wholeN (C Rw : Nat) : Nat := 2 ^ (C * Rw) - 1
def wideN (r : Nat) : Nat := 2 * r * (r + 1) + 1
def covL (C Rw r T : Nat) : List Int := covR (wholeN C Rw) (wideN r) (reached C Rw (r : Int) (C * Rw)) T 0
def covOk (C Rw r T : Nat) : Bool := covS (wholeN C Rw) (wideN r) (reached C Rw (r : Int) (C * Rw)) T 0
def covP (L : List Int) (k : Nat) : Bool := inL L (k : Int)
/-- a list's numbers in their order -/
def sortI (l : List Int) : List Int := l.mergeSort fun x y => decide (x ≤ y)
@[simp] theorem sortI_len (l : List Int) : (sortI l).length = l.length := List.length_mergeSort l
theorem inL_sort (l : List Int) (n : Int) : inL (sortI l) n = inL l n := by
  rw [Bool.eq_iff_iff]
  unfold inL
  simp only [List.any_eq_true, decide_eq_true_eq]
  constructor
  · rintro ⟨x, h1, h2⟩; exact ⟨x, (List.mergeSort_perm l _).subset h1, h2⟩
  · rintro ⟨x, h1, h2⟩; exact ⟨x, (List.mergeSort_perm l _).symm.subset h1, h2⟩
end Go.V
