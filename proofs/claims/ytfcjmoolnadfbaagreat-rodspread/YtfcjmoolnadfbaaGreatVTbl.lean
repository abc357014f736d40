/- The logic of triples: a table of slices. And the fewest cells that explain all rods, in plain terms. -/
import Derived.Test.YtfcjmoolnadfbaaGreatSSpec
set_option linter.unusedVariables false
set_option linter.unusedSimpArgs false
namespace Go.V

structure Hdr where
  a : Option Addr
  n : Nat
  c : Nat
def eHdr : En Hdr := ⟨1, fun h => [.slice h.a h.n h.c], fun _ => rfl, by decide, fun _ => rfl⟩
def entA (hd : Hdr) (xs : List Cell) : As := SlO eCell 30 hd.a hd.c xs
def Ents (hs : List Hdr) (tbl : List (List Cell)) : As := fun h => Own (List.zipWith entA hs tbl) h
structure TblOk (hs : List Hdr) (tbl : List (List Cell)) : Prop where
  len : hs.length = tbl.length
  ent : ∀ (i : Nat) (hd : Hdr) (xs : List Cell), hs[i]? = some hd → tbl[i]? = some xs → hd.n = xs.length ∧ SlOk hd.a hd.c ∧ (xs = [] → hd.a = none)
theorem TblOk.get {hs : List Hdr} {tbl : List (List Cell)} (ok : TblOk hs tbl) {i : Nat} {hd : Hdr} (h : hs[i]? = some hd) : ∃ a c xs, hd = ⟨a, xs.length, c⟩ ∧ tbl[i]? = some xs ∧ SlOk a c ∧ (xs = [] → a = none) := by
  have hlt := (List.getElem?_eq_some_iff.1 h).1
  have hlt2 : i < tbl.length := ok.len ▸ hlt
  have hx : tbl[i]? = some tbl[i] := List.getElem?_eq_getElem hlt2
  obtain ⟨h1, h2, h3⟩ := ok.ent i hd _ h hx
  obtain ⟨a, n, c⟩ := hd
  exact ⟨a, c, _, by rw [← h1], hx, h2, h3⟩
theorem TblOk.set {hs : List Hdr} {tbl : List (List Cell)} (ok : TblOk hs tbl) {j : Nat} {a : Option Addr} {c : Nat} {xs : List Cell} (h1 : SlOk a c) (h2 : xs = [] → a = none) : TblOk (hs.set j ⟨a, xs.length, c⟩) (tbl.set j xs) := ⟨by simp [ok.len], fun i hd ys hi hy => by
  rw [List.getElem?_set] at hi hy
  split at hi
  · rename_i e
    subst e
    rw [if_pos rfl] at hy
    split at hi
    · split at hy
      · simp only [Option.some.injEq] at hi hy
        subst hi; subst hy; exact ⟨rfl, h1, h2⟩
      · cases hy
    · cases hi
  · rename_i e
    rw [if_neg e] at hy
    exact ok.ent i hd ys hi hy⟩
theorem TblOk.zero (n : Nat) : TblOk (List.replicate n ⟨none, 0, 0⟩) (List.replicate n []) := ⟨by simp, fun i hd xs h1 h2 => by
  rw [List.getElem?_replicate] at h1 h2
  split at h1
  · rename_i e; rw [if_pos e] at h2; cases h1; cases h2; exact ⟨rfl, .nil, fun _ => rfl⟩
  · cases h1⟩
theorem zip_get {hs : List Hdr} {tbl : List (List Cell)} {j : Nat} {hd : Hdr} {xs : List Cell} (h1 : hs[j]? = some hd) (h2 : tbl[j]? = some xs) : (List.zipWith entA hs tbl)[j]? = some (entA hd xs) := by
  rw [List.getElem?_zipWith, h1, h2]
theorem zip_set {hs : List Hdr} {tbl : List (List Cell)} {j : Nat} {hd : Hdr} {xs : List Cell} (hl : hs.length = tbl.length) : (List.zipWith entA hs tbl).set j (entA hd xs) = List.zipWith entA (hs.set j hd) (tbl.set j xs) := by
  apply List.ext_getElem (by simp [hl])
  intro i h1 h2
  simp only [List.getElem_set, List.getElem_zipWith]
  split <;> rfl
section
variable {X : Cx} {tm : Tl} {L rs : List As} {hs : List Hdr} {tb : List (List Cell)} {j : Nat}
theorem Ents.in_own {a : Option Addr} {c : Nat} {xs : List Cell} (i : Nat) (h : L[i]? = some (Ents hs tb)) (h1 : hs[j]? = some ⟨a, xs.length, c⟩) (h2 : tb[j]? = some xs) {own : Hp} (o : Own L own) (d : X.g.disj own) : SlR eCell (X.g.add own) a xs := by
  obtain ⟨hh, hA, hsub⟩ := own_sub o h
  obtain ⟨u, hu, hs2⟩ := own_sub hA (zip_get h1 h2)
  exact (SlO.slr hu).mono fun B x e => by
    have h1 := hsub B x (hs2 B x e)
    have : X.g B = Option.none := (d B).resolve_right (by simp [h1])
    simp [Hp.add, this, h1]
theorem Ents.none {h : Hp} (e : Ents hs tb h) : ∀ (i : Nat) (hd : Hdr) (xs : List Cell), hs[i]? = some hd → tb[i]? = some xs → hd.a = Option.none → xs = [] := fun i hd xs h1 h2 h3 => by
  obtain ⟨u, hu, _⟩ := own_sub e (zip_get h1 h2)
  exact SlO.none hu h3
theorem Ents.pure {p : Prop} {a : Option Addr} {c : Nat} {xs : List Cell} (h1 : hs[j]? = some ⟨a, xs.length, c⟩) (h2 : tb[j]? = some xs) (hp : ∀ h, SlO eCell 30 a c xs h → p) : ∀ h, Ents hs tb h → p := fun h e => by
  obtain ⟨u, hu, _⟩ := own_sub e (zip_get h1 h2)
  exact hp u hu
/-- an entry is replaced -/
theorem RSub.entSet {a : Option Addr} {c : Nat} {ys : List Cell} {rs' r : List As} (hl : hs.length = tb.length) (hj : j < hs.length) (h : RSub rs' r) : RSub (Ents (hs.set j ⟨a, ys.length, c⟩) (tb.set j ys) :: rs') (Ents hs tb :: SlO eCell 30 a c ys :: r) := fun own o => by
  obtain ⟨e, k, he, hk, d, rfl⟩ := own_cons.1 o
  obtain ⟨s, q, hs', hq, d2, rfl⟩ := own_cons.1 hk
  obtain ⟨de, dq⟩ := Hp.disj_add.1 d
  have hx : hs[j]? = some hs[j] := List.getElem?_eq_getElem hj
  have ht : tb[j]? = some tb[j] := List.getElem?_eq_getElem (hl ▸ hj)
  obtain ⟨u, v, hu, hv, duv, rfl, hset⟩ := own_take he (zip_get hx ht)
  obtain ⟨d3, d4⟩ := Hp.add_disj.1 de
  obtain ⟨d5, d6⟩ := Hp.add_disj.1 dq
  have hnew := hset (entA ⟨a, ys.length, c⟩ ys) s hs' (Hp.disj_symm d4)
  rw [zip_set hl] at hnew
  obtain ⟨q', oq, sq⟩ := h q hq
  have hsub2 : ∀ B, q B = Option.none → q' B = Option.none := fun B e => RSub.none sq e
  refine ⟨(s.add v).add q', .cons hnew oq (Hp.add_disj.2 ⟨fun B => (d2 B).imp id (hsub2 B), fun B => (d6 B).imp id (hsub2 B)⟩), fun B x hx => ?_⟩
  simp only [Hp.add] at hx ⊢
  cases es : s B with
  | some z =>
    rw [es] at hx
    have h1 : u B = Option.none := (d3 B).resolve_right (by simp [es])
    have h2 : v B = Option.none := (d4 B).resolve_right (by simp [es])
    simp [h1, h2]; simpa using hx
  | none =>
    rw [es] at hx
    simp only [Option.none_or] at hx
    cases ev : v B with
    | some z =>
      rw [ev] at hx
      have h1 : u B = Option.none := (duv B).resolve_right (by simp [ev])
      simp [h1]; simpa using hx
    | none =>
      rw [ev] at hx; simp only [Option.none_or] at hx
      have h3 := sq B x hx
      have h1 : u B = Option.none := (d5 B).resolve_right (by simp [h3])
      simp [h1, h3]
/-- one entry alone -/
theorem RSub.ent {a : Option Addr} {c : Nat} {xs : List Cell} {rs' r : List As} (h1 : hs[j]? = some ⟨a, xs.length, c⟩) (h2 : tb[j]? = some xs) (h : RSub rs' r) : RSub (SlO eCell 30 a c xs :: rs') (Ents hs tb :: r) := fun own o => by
  obtain ⟨e, k, he, hk, d, rfl⟩ := own_cons.1 o
  obtain ⟨u, v, hu, hv, duv, rfl, _⟩ := own_take he (zip_get h1 h2)
  obtain ⟨q', oq, sq⟩ := h k hk
  obtain ⟨d1, d2⟩ := Hp.add_disj.1 d
  refine ⟨u.add q', .cons hu oq (fun B => (d1 B).imp id (fun e => RSub.none sq e)), fun B x hx => ?_⟩
  simp only [Hp.add] at hx ⊢
  cases eu : u B with
  | some z => rw [eu] at hx; simpa using hx
  | none =>
    rw [eu] at hx; simp only [Option.none_or] at hx
    have h3 := sq B x hx
    have : v B = Option.none := (d2 B).resolve_right (by simp [h3])
    simp [this, h3]
theorem TblOk.zero1 {n : Nat} (e : tb = List.replicate n []) : TblOk (List.replicate n ⟨Option.none, 0, 0⟩) tb := e ▸ .zero n
def Tbl (B N : Nat) (tb : List (List Cell)) : As := fun h => ∃ hs, TblOk hs tb ∧ Own [SlO eHdr 22 (some ⟨B, 0, none⟩) N hs, Ents hs tb] h
theorem T.tbl {B N : Nat} {code : Code} {Q : Exit → Tl → List As → Prop} (h : ∀ hs, TblOk hs tb → T X tm (SlO eHdr 22 (some ⟨B, 0, none⟩) N hs :: Ents hs tb :: rs) code Q) : T X tm (Tbl B N tb :: rs) code Q := fun own ac W o s => by
  obtain ⟨u, k, ⟨hs, ok, hu⟩, hk, d, rfl⟩ := own_cons.1 o
  exact h hs ok _ ac W (own_append.2 ⟨u, k, hu, hk, d, rfl⟩) s
theorem RSub.tbl {B N : Nat} {rs' rs : List As} (ok : TblOk hs tb) (h : RSub (SlO eHdr 22 (Option.some ⟨B, 0, Option.none⟩) N hs :: Ents hs tb :: rs') rs) : RSub (Tbl B N tb :: rs') rs := fun own o => by
  obtain ⟨o', ho', s⟩ := h own o
  obtain ⟨u, k, hu, hk, d, rfl⟩ := (own_append (l := [SlO eHdr 22 (Option.some ⟨B, 0, Option.none⟩) N hs, Ents hs tb]) (r := rs')).1 ho'
  exact ⟨_, .cons ⟨hs, ok, hu⟩ hk d, s⟩
/-- entries that are all nil -/
theorem own_nils : ∀ n, Own (List.zipWith entA (List.replicate n ⟨Option.none, 0, 0⟩) (List.replicate n [])) Hp.emp
  | 0 => .nil
  | n + 1 => by
    have := Own.cons (A := entA ⟨Option.none, 0, 0⟩ []) (h := Hp.emp) (.inl ⟨rfl, rfl, rfl, rfl⟩) (own_nils n) (Hp.emp_disj _)
    rw [Hp.emp_add] at this
    simpa [List.replicate_succ] using this
theorem RSub.ents0 {n : Nat} {rs' rs : List As} (h : RSub rs' rs) : RSub (Ents (List.replicate n ⟨Option.none, 0, 0⟩) (List.replicate n []) :: rs') rs := fun own o => by
  obtain ⟨o', ho', s⟩ := h own o
  have := Own.cons (A := Ents (List.replicate n ⟨Option.none, 0, 0⟩) (List.replicate n [])) (own_nils n) ho' (Hp.emp_disj _)
  rw [Hp.emp_add] at this
  exact ⟨o', this, s⟩
theorem RSub.ents1 {n : Nat} {rs' rs : List As} (e : tb = List.replicate n []) (h : RSub rs' rs) : RSub (Ents (List.replicate n ⟨Option.none, 0, 0⟩) tb :: rs') rs := e ▸ .ents0 h
end

/-! ### The fewest cells that explain all rods -/
def fewStep (C : Nat) (rods : List Rod) (top : List Int) (set k : Nat) (tbl : List (List Cell)) : List (List Cell) :=
  if exIn C rods top k rods.length &&& set = 0 then tbl
  else if tbl.getD set [] = [] ∨ (tbl.getD (andn set (exIn C rods top k rods.length &&& set)) []).length + 1 < (tbl.getD set []).length then tbl.set set (tbl.getD (andn set (exIn C rods top k rods.length &&& set)) [] ++ [cellAt C k]) else tbl
def fewIn (C : Nat) (rods : List Rod) (top : List Int) (set : Nat) (tbl : List (List Cell)) : Nat → List (List Cell)
  | 0 => tbl
  | k + 1 => fewStep C rods top set k (fewIn C rods top set tbl k)
def fewTo (C Rw : Nat) (rods : List Rod) (top : List Int) : Nat → List (List Cell)
  | 0 => List.replicate (2 ^ rods.length) []
  | s + 1 => if s = 0 ∨ andn s (shownTo rods rods.length) ≠ 0 then fewTo C Rw rods top s else fewIn C rods top s (fewTo C Rw rods top s) (C * Rw)
def fewL (C Rw : Nat) (rods : List Rod) (top : List Int) : List Cell := (fewTo C Rw rods top (2 ^ rods.length)).getD (shownTo rods rods.length) []
section
variable {C Rw : Nat} {rods : List Rod} {top : List Int} {set k : Nat} {tbl : List (List Cell)}
@[simp] theorem fewStep_len : (fewStep C rods top set k tbl).length = tbl.length := by unfold fewStep; split <;> (try split) <;> simp
@[simp] theorem fewIn_len : ∀ k, (fewIn C rods top set tbl k).length = tbl.length
  | 0 => rfl
  | k + 1 => by rw [fewIn, fewStep_len, fewIn_len k]
@[simp] theorem fewTo_len : ∀ s, (fewTo C Rw rods top s).length = 2 ^ rods.length
  | 0 => by simp [fewTo]
  | s + 1 => by rw [fewTo]; split <;> simp [fewTo_len s]
def card (s : Nat) : Nat := (memb s 62).length
theorem filt_lt {p q r : Nat → Bool} (h1 : ∀ x, p x = true → q x = true → False) (h2 : ∀ x, p x = true ∨ q x = true → r x = true) : ∀ l : List Nat, (l.filter p).length + (l.filter q).length ≤ (l.filter r).length
  | [] => by simp
  | x :: l => by
    have ih := filt_lt h1 h2 l
    cases hp : p x <;> cases hq : q x <;> cases hr : r x <;> simp [List.filter_cons, hp, hq, hr]
    · omega
    · omega
    · exact absurd (h2 x (.inr hq)) (by simp [hr])
    · omega
    · exact absurd (h2 x (.inl hp)) (by simp [hr])
    · omega
    · exact (h1 x hp hq).elim
    · exact (h1 x hp hq).elim
theorem card_andn {s o : Nat} (hs : s < 2 ^ 62) (ho : o &&& s ≠ 0) : card (andn s (o &&& s)) + 1 ≤ card s := by
  unfold card memb
  have h := filt_lt (p := fun i => (andn s (o &&& s)).testBit i) (q := fun i => (o &&& s).testBit i) (r := fun i => s.testBit i) (fun x h1 h2 => by rw [andn_testBit, h2] at h1; simp at h1) (fun x h1 => by
    rcases h1 with h1 | h1
    · rw [andn_testBit] at h1; exact (Bool.and_eq_true_iff.1 h1).1
    · rw [Nat.testBit_and] at h1; exact (Bool.and_eq_true_iff.1 h1).2) (List.range 62)
  have h2 : 0 < ((List.range 62).filter fun i => (o &&& s).testBit i).length := by
    obtain ⟨i, hi⟩ : ∃ i, (o &&& s).testBit i = true := by
      apply Classical.byContradiction
      intro hn
      exact ho (Nat.eq_of_testBit_eq fun i => by
        rw [Nat.zero_testBit]
        cases e : (o &&& s).testBit i with
        | false => rfl
        | true => exact absurd ⟨i, e⟩ hn)
    have hlt : i < 62 := by
      apply Classical.byContradiction
      intro hn
      have : (o &&& s).testBit i = false := Nat.testBit_lt_two_pow (Nat.lt_of_lt_of_le (Nat.lt_of_le_of_lt Nat.and_le_right hs) (Nat.pow_le_pow_right (by decide) (by omega)))
      rw [this] at hi; cases hi
    exact List.length_pos_of_mem (List.mem_filter.2 ⟨List.mem_range.2 hlt, hi⟩)
  show ((List.range 62).filter fun i => (andn s (o &&& s)).testBit i).length + 1 ≤ _
  have : ((List.range 62).filter fun i => s.testBit i).length = ((List.range 62).filter (s.testBit ·)).length := rfl
  omega
def Small (tbl : List (List Cell)) : Prop := ∀ (i : Nat) (xs : List Cell), tbl[i]? = some xs → xs.length ≤ card i
theorem getD_small (h : Small tbl) (i : Nat) : (tbl.getD i []).length ≤ card i := by
  rw [List.getD_eq_getElem?_getD]
  cases e : tbl[i]? with
  | none => simp
  | some xs => simpa using h i xs e
theorem Small.step (h : Small tbl) (hs : set < 2 ^ 62) : Small (fewStep C rods top set k tbl) := by
  unfold fewStep
  split
  · exact h
  · rename_i ho
    split
    · intro i xs hx
      rw [List.getElem?_set] at hx
      split at hx
      · rename_i e; subst e
        split at hx
        · simp only [Option.some.injEq] at hx
          subst hx
          have h1 := getD_small h (andn set (exIn C rods top k rods.length &&& set))
          have h2 := card_andn hs ho
          rw [List.length_append, List.length_singleton]; omega
        · cases hx
      · exact h i xs hx
    · exact h
theorem Small.in (h : Small tbl) (hs : set < 2 ^ 62) : ∀ k, Small (fewIn C rods top set tbl k)
  | 0 => h
  | k + 1 => (Small.in h hs k).step hs
theorem Small.to : ∀ s, s ≤ 2 ^ 62 → Small (fewTo C Rw rods top s)
  | 0, _ => fun i xs h => by
    rw [fewTo, List.getElem?_replicate] at h
    split at h
    · cases h; simp
    · cases h
  | s + 1, hs => by
    rw [fewTo]; split
    · exact Small.to s (by omega)
    · exact (Small.to s (by omega)).in (by omega) _
theorem card_le {s : Nat} (h : s < 2 ^ 8) : card s ≤ 8 := by
  unfold card
  have : s >>> 8 = 0 := by rw [Nat.shiftRight_eq_div_pow]; exact Nat.div_eq_of_lt h
  rw [memb_le this 62 (by omega)]
  exact memb_length s 8
theorem andn_le (a b : Nat) : andn a b ≤ a := by
  have h : andn a b = a &&& (andn a b) := by
    apply Nat.eq_of_testBit_eq
    intro i
    rw [Nat.testBit_and, andn_testBit]; cases a.testBit i <;> rfl
  rw [h]; exact Nat.and_le_left
theorem card62 (s : Nat) : card s ≤ 62 := memb_length s 62
theorem getD_at {tbl : List (List Cell)} {i : Nat} {x : List Cell} (h : tbl[i]? = some x) : tbl.getD i [] = x := by rw [List.getD_eq_getElem?_getD, h]; rfl
theorem few_zero (h : ((exIn C rods top k rods.length &&& set : Nat) : Int) = 0) : fewIn C rods top set tbl (k + 1) = fewIn C rods top set tbl k := by
  rw [fewIn, fewStep, if_pos (by exact_mod_cast h)]
theorem few_put {r x : List Cell} (h : ¬ ((exIn C rods top k rods.length &&& set : Nat) : Int) = 0) (hr : (fewIn C rods top set tbl k)[andn set (exIn C rods top k rods.length &&& set)]? = some r) (hx : (fewIn C rods top set tbl k)[set]? = some x) (hc : x = [] ∨ (r.length : Int) + 1 < (x.length : Int)) :
    fewIn C rods top set tbl (k + 1) = (fewIn C rods top set tbl k).set set (r ++ [cellAt C k]) := by
  rw [fewIn, fewStep, if_neg (by exact_mod_cast h), getD_at hr, getD_at hx, if_pos (hc.imp id (by intro h; omega))]
theorem few_keep {r x : List Cell} (h : ¬ ((exIn C rods top k rods.length &&& set : Nat) : Int) = 0) (hr : (fewIn C rods top set tbl k)[andn set (exIn C rods top k rods.length &&& set)]? = some r) (hx : (fewIn C rods top set tbl k)[set]? = some x) (hc : x ≠ []) (hc2 : ¬ (r.length : Int) + 1 < (x.length : Int)) :
    fewIn C rods top set tbl (k + 1) = fewIn C rods top set tbl k := by
  rw [fewIn, fewStep, if_neg (by exact_mod_cast h), getD_at hr, getD_at hx, if_neg (by rintro (h | h); exact hc h; omega)]
theorem few_skip {n : Nat} (h : ((andn n (shownTo rods rods.length) : Nat) : Int) ≠ 0) : fewTo C Rw rods top (n + 1) = fewTo C Rw rods top n := by
  rw [fewTo, if_pos (.inr (by exact_mod_cast h))]
theorem few_go {n : Nat} (h1 : 1 ≤ n) (h : ¬ ((andn n (shownTo rods rods.length) : Nat) : Int) ≠ 0) : fewTo C Rw rods top (n + 1) = fewIn C rods top n (fewTo C Rw rods top n) (C * Rw) := by
  rw [fewTo, if_neg (by rintro (e | e); omega; exact h (by exact_mod_cast e))]
theorem few_one : fewTo C Rw rods top 1 = List.replicate (2 ^ rods.length) [] := by rw [fewTo, if_pos (.inl rfl), fewTo]
/-- the table holds cells of the bin -/
def InBin (C N : Nat) (tbl : List (List Cell)) : Prop := ∀ (i : Nat) (xs : List Cell), tbl[i]? = some xs → ∀ x ∈ xs, ∃ k, k < N ∧ x = cellAt C k
theorem InBin.step {N : Nat} (h : InBin C N tbl) (hk : k < N) : InBin C N (fewStep C rods top set k tbl) := by
  unfold fewStep
  split
  · exact h
  · split
    · intro i xs hx x hm
      rw [List.getElem?_set] at hx
      split at hx
      · split at hx
        · simp only [Option.some.injEq] at hx
          subst hx
          rcases List.mem_append.1 hm with e | e
          · rw [List.getD_eq_getElem?_getD] at e
            cases e2 : tbl[andn set (exIn C rods top k rods.length &&& set)]? with
            | none => rw [e2] at e; cases e
            | some ys => rw [e2] at e; exact h _ ys e2 x e
          · exact ⟨k, hk, by simpa using e⟩
        · cases hx
      · exact h i xs hx x hm
    · exact h
theorem InBin.in {N : Nat} (h : InBin C N tbl) : ∀ k, k ≤ N → InBin C N (fewIn C rods top set tbl k)
  | 0, _ => h
  | k + 1, hk => (InBin.in h k (by omega)).step (by omega)
theorem InBin.to : ∀ s, InBin C (C * Rw) (fewTo C Rw rods top s)
  | 0 => fun i xs h x hm => by
    rw [fewTo, List.getElem?_replicate] at h
    split at h
    · cases h; cases hm
    · cases h
  | s + 1 => by
    rw [fewTo]; split
    · exact InBin.to s
    · exact (InBin.to s).in _ (Nat.le_refl _)
end
end Go.V
