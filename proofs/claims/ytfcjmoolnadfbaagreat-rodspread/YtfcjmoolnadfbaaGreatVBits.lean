/- The logic of triples: sets by bits, arrays of ints. -/
import Derived.Test.YtfcjmoolnadfbaaGreatVMore
import Derived.Laws.BitsLemmas
set_option linter.unusedVariables false
set_option linter.unusedSimpArgs false
namespace Go.V

/-! ### Sets by bits -/
def andn (a b : Nat) : Nat := a ^^^ (a &&& b)
theorem andn_testBit (a b i : Nat) : (andn a b).testBit i = (a.testBit i && !b.testBit i) := by
  unfold andn; rw [Nat.testBit_xor, Nat.testBit_and]; cases a.testBit i <;> cases b.testBit i <;> rfl
theorem andn_lt {a b n : Nat} (h : a < 2 ^ n) : andn a b < 2 ^ n := Nat.xor_lt_two_pow h (Nat.lt_of_le_of_lt Nat.and_le_left h)
theorem wraps_i64 (n : Int) (h₀ : 0 ≤ n) (h₁ : n < 2 ^ 63) : IntKind.i64.wrap n = n := by rw [IntKind.wrap_i64]; omega
theorem wrapN {n : Nat} (h : n < 2 ^ 63) : IntKind.i64.wrap (n : Int) = (n : Int) := wraps_i64 _ (by omega) (by exact_mod_cast h)
theorem andNot_nat {a b : Nat} (ha : a < 2 ^ 63) (hb : b < 2 ^ 63) : bits .andNot .i64 a b = ((andn a b : Nat) : Int) := by
  have ha' : a % 2 ^ 64 = a := Nat.mod_eq_of_lt (by omega)
  have hb' : b % 2 ^ 64 = b := Nat.mod_eq_of_lt (by omega)
  have e : (BitVec.ofNat 64 a &&& ~~~BitVec.ofNat 64 b).toNat = andn a b := by
    apply Nat.eq_of_testBit_eq
    intro i
    rw [andn_testBit, ← BitVec.getLsbD, BitVec.getLsbD_and, BitVec.getLsbD_not, BitVec.getLsbD_ofNat, BitVec.getLsbD_ofNat]
    by_cases h : i < 64
    · simp [h]
    · have h1 : a.testBit i = false := Nat.testBit_lt_two_pow (Nat.lt_of_lt_of_le ha (Nat.pow_le_pow_right (by decide) (by omega)))
      simp [h, h1]
  show IntKind.i64.wrap ((BitVec.ofInt 64 (a : Int) &&& ~~~BitVec.ofInt 64 (b : Int)).toNat : Int) = _
  rw [BitVec.ofInt_natCast, BitVec.ofInt_natCast, e]
  exact wrapN (andn_lt ha)

section
variable {X : Cx} {tm : Tl} {L rs : List As} {d : Option Tmp} {ty : TypeId} {pos : String} {af : Array Edge} {gu : Option (Nat × Bool)} {t t' : TypeId} {x y : Operand} {a b : Nat}
theorem AY.andN (hx : evo tm x = some (.int .i64 (a : Int))) (hy : evo tm y = some (.int .i64 (b : Int))) (h : a < 2 ^ 63 ∧ b < 2 ^ 63) : AY X L tm ⟨d, .binOp .and t x y t', ty, pos, af, gu⟩ (.int .i64 ((a &&& b : Nat) : Int)) :=
  .bits hx hy (fun P W => by rw [intBits_and, (bits_nat .i64 63 (by decide) wraps_i64 a b h.1 h.2).1]; rfl) (.inl rfl)
theorem AY.orN (hx : evo tm x = some (.int .i64 (a : Int))) (hy : evo tm y = some (.int .i64 (b : Int))) (h : a < 2 ^ 63 ∧ b < 2 ^ 63) : AY X L tm ⟨d, .binOp .or t x y t', ty, pos, af, gu⟩ (.int .i64 ((a ||| b : Nat) : Int)) :=
  .bits hx hy (fun P W => by rw [intBits_or, (bits_nat .i64 63 (by decide) wraps_i64 a b h.1 h.2).2]; rfl) (.inr (.inl rfl))
theorem AY.andNotN (hx : evo tm x = some (.int .i64 (a : Int))) (hy : evo tm y = some (.int .i64 (b : Int))) (h : a < 2 ^ 63 ∧ b < 2 ^ 63) : AY X L tm ⟨d, .binOp .andNot t x y t', ty, pos, af, gu⟩ (.int .i64 ((andn a b : Nat) : Int)) :=
  .bits hx hy (fun P W => by rw [intBits_andNot, andNot_nat h.1 h.2]; rfl) (.inr (.inr (.inr rfl)))
/-- 1 << k -/
theorem AY.shlN {k2 : IntKind} (hx : evo tm x = some (.int .i64 1)) (hy : evo tm y = some (.int k2 (b : Int))) (h : b < 63) : AY X L tm ⟨d, .binOp .shl t x y t', ty, pos, af, gu⟩ (.int .i64 ((2 ^ b : Nat) : Int)) :=
  .to (.shl hx hy (by omega)) (by
    have e : min (b : Int).toNat (IntKind.i64.bits) = b := by show min (b : Int).toNat 64 = b; simp; omega
    rw [e, Int.one_mul]
    have : ((2 : Int) ^ b) = ((2 ^ b : Nat) : Int) := by norm_cast
    rw [this, wrapN (Nat.pow_lt_pow_right (by decide) h)])
theorem AY.shrN {k2 : IntKind} (hx : evo tm x = some (.int .i64 (a : Int))) (hy : evo tm y = some (.int k2 (b : Int))) (h : a < 2 ^ 63) : AY X L tm ⟨d, .binOp .shr t x y t', ty, pos, af, gu⟩ (.int .i64 ((a >>> b : Nat) : Int)) :=
  .to (.shr hx hy (by omega)) (by
    have e : (a : Int).fdiv (2 ^ (min (b : Int).toNat (IntKind.i64.bits))) = ((a / 2 ^ (min b 64) : Nat) : Int) := by
      show (a : Int).fdiv (2 ^ (min (b : Int).toNat 64)) = _
      rw [Int.toNat_natCast]
      have : ((2 : Int) ^ (min b 64)) = ((2 ^ (min b 64) : Nat) : Int) := by norm_cast
      rw [this, ← Int.ofNat_fdiv]
    rw [e, Nat.shiftRight_eq_div_pow]
    congr 2
    by_cases hb : b ≤ 64
    · rw [Nat.min_eq_left hb]
    · rw [Nat.min_eq_right (by omega), Nat.div_eq_of_lt (by omega), Nat.div_eq_of_lt (Nat.lt_of_lt_of_le h (Nat.pow_le_pow_right (by decide) (by omega)))])

/-! ### Arrays of ints -/
theorem rdArr {xs : List Int} {n : Nat} (h : xs.length = n) : rdL true n (xs.map argI) 0 = some (.agg (xs.map argI).toArray) := by
  simp only [rdL, List.length_map, List.drop_zero]
  rw [if_pos (by omega), List.take_of_length_le (by simp; omega)]
theorem rdAt {xs : List Int} {i : Nat} {v : Int} (h : xs[i]? = some v) (s : Nat) : rdL false s (xs.map argI) i = some (.int .i64 v) := by
  simp [rdL, h, argI]
theorem AY.loadA {t : TypeId} {B off : Nat} {xs : List Int} {i sz : Nat} {v : Int} (hx : evo tm x = some (.pointer (some ⟨B, off, none⟩))) (ca : CellsAt X L B (xs.map argI)) (ht : agOf X.P t = some false) (hs : szOf X.P t = some sz) (hi : off = i) (hv : xs[i]? = some v) : AY X L tm ⟨d, .load t x, ty, pos, af, gu⟩ (.int .i64 v) :=
  .load hx ca ht hs (by rw [hi]; exact rdAt hv _)
theorem O1.storeA {T : TypeId} {B off : Nat} {xs : List Int} {k : Nat} {v : Int} {K : Tl → List As → Prop} (i : Nat)
    (hx : evo tm x = some (.pointer (some ⟨B, off, none⟩))) (hy : evo tm y = some (.int .i64 v)) (hi : rs[i]? = some (As.one B (.cells (xs.map argI).toArray T (0, 0)))) (hs : szOf X.P t = some 1) (ho : off = k) (hl : k < xs.length) (hd : dOk X d = true)
    (h : K (tput d undef tm) (rs.set i (As.one B (.cells ((xs.set k v).map argI).toArray T (0, 0))))) : O1 X tm rs ⟨d, .store t x y, ty, pos, af, gu⟩ K := by
  subst ho
  refine .store i hx hy hi hs rfl rfl (by simp; omega) hd ?_
  have : wrL (xs.map argI) off (Value.int .i64 v).cells.toList = (xs.set off v).map argI := by
    show (xs.map argI).set off (argI v) = _
    rw [List.map_set]
  rw [this]; exact h
theorem getSet {ys : List Int} {k : Nat} {v : Int} (h : k < ys.length) : (ys.set k v)[k]? = some v := by simp [h]
theorem O1.storeAS {T : TypeId} {B off : Nat} {ys : List Int} {k : Nat} {u v : Int} {K : Tl → List As → Prop} (i : Nat)
    (hx : evo tm x = some (.pointer (some ⟨B, off, none⟩))) (hy : evo tm y = some (.int .i64 v)) (hi : rs[i]? = some (As.one B (.cells ((ys.set k u).map argI).toArray T (0, 0)))) (hs : szOf X.P t = some 1) (ho : off = k) (hl : k < ys.length) (hd : dOk X d = true)
    (h : K (tput d undef tm) (rs.set i (As.one B (.cells ((ys.set k v).map argI).toArray T (0, 0))))) : O1 X tm rs ⟨d, .store t x y, ty, pos, af, gu⟩ K :=
  .storeA i hx hy hi hs ho (by simpa using hl) hd (by rw [List.set_set]; exact h)
theorem O1.storeAll {T : TypeId} {B n : Nat} {xs ys : List Int} {K : Tl → List As → Prop} (i : Nat)
    (hx : evo tm x = some (.pointer (some ⟨B, 0, none⟩))) (hy : evo tm y = some (.agg (ys.map argI).toArray)) (hi : rs[i]? = some (As.one B (.cells (xs.map argI).toArray T (0, 0)))) (hs : szOf X.P t = some n) (h1 : xs.length = n) (h2 : ys.length = n) (hd : dOk X d = true)
    (h : K (tput d undef tm) (rs.set i (As.one B (.cells (ys.map argI).toArray T (0, 0))))) : O1 X tm rs ⟨d, .store t x y, ty, pos, af, gu⟩ K := by
  have e1 : (Value.agg (ys.map argI).toArray).cells = (ys.map argI).toArray := rfl
  refine .store i hx hy hi hs (by rw [e1]; simp [h2]) (by rw [e1]; simp [argI, plainV]) (by simp [h1]) hd ?_
  have key : ∀ (vs cs : List Value) (off : Nat), off + vs.length = cs.length → wrL cs off vs = cs.take off ++ vs := by
    intro vs
    induction vs with
    | nil => intro cs off h; simp [wrL] at h ⊢; rw [List.take_of_length_le (by omega)]
    | cons v r ih =>
      intro cs off h
      simp only [List.length_cons] at h
      rw [wrL, ih _ _ (by simp; omega)]
      rw [List.take_set, List.take_add_one, List.getElem?_eq_getElem (by omega)]
      simp only [Option.toList_some]
      rw [List.set_append_right _ _ (by simp; omega)]
      simp [Nat.min_eq_left (by omega : off ≤ cs.length)]
  have : wrL (xs.map argI) 0 (Value.agg (ys.map argI).toArray).cells.toList = ys.map argI := by
    rw [e1, key _ _ _ (by simp [h1, h2])]; simp
  rw [this]; exact h

/-- a literal -/
theorem AN.lit {t e : TypeId} {len sz : Nat} {z : Value} {ps : List (Nat × Operand)} {vs : List (Nat × Value)} {cells : Array Value} (zs : Array Value) (hzs : ((Array.range (len * sz)).map (z.cells[· % z.cells.size]!)) = zs) (hv : evp tm ps = some vs) (ht : sliOf X.P t = some e) (hs : szOf X.P e = some sz) (hz : zeroOf X.P e = some z) (hl : Nat.ble (len * sz) (2 ^ 24) = true) (hp : Nat.blt 0 (len * sz) = true)
    (hf : Instr.fill (fun i => some (i * sz, sz)) zs vs = some cells) :
    AN X L tm ⟨d, .buildSlice t len ps.toArray, ty, pos, af, gu⟩ (fun B => .slice (some ⟨B, 0, none⟩) len len) (.cells cells e (0, 0)) := .buildSlice hv ht hs hz hl hp (by rw [hzs]; exact hf)

/-- a literal without elements -/
theorem AN.lit0 {t e : TypeId} {sz : Nat} (ht : sliOf X.P t = some e) (hs : szOf X.P e = some sz) :
    AN X L tm ⟨d, .buildSlice t 0 [].toArray, ty, pos, af, gu⟩ (fun B => .slice (some ⟨B, 0, none⟩) 0 0) (.cells #[] e (0, 0)) := fun own ac W o s => by
  have hr : (Array.range (0 : Nat)) = #[] := rfl
  have hm : ∀ f : Nat → Value, Array.map f (Array.range 0) = #[] := fun f => by rw [hr]; simp
  simp [execOp, Instr.buildSlice, run_underlying (sliOf_spec ht), run_sizeOf hs, Result.andThen, Instr.fill, newRow, hm]
theorem one_slo0 {α : Type} {E : En α} {B : Nat} {T : TypeId} : ∀ h, As.one B (.cells #[] T (0, 0)) h → SlO E T (some ⟨B, 0, none⟩) 0 ([] : List α) h := fun h e =>
  .inr ⟨B, #[], rfl, e, by simp, by simp, by simp⟩
theorem SlR.none {α : Type} {E : En α} {h : Hp} {xs : List α} (s : SlR E h Option.none xs) : xs = [] := by
  rcases s with h | ⟨_, _, _, h, _⟩
  · exact h
  · cases h
theorem SlR.of_arr {h : Hp} {B : Nat} {xs : List Int} {T : TypeId} {fr : Nat × Nat} {k : Nat} (hb : h B = some (.cells (xs.map argI).toArray T fr)) (hk : k ≤ xs.length) : SlR eInt h (some ⟨B, 0, Option.none⟩) (xs.take k) := by
  refine .inr ⟨_, T, fr, rfl, hb, ?_⟩
  have e : ∀ l : List Int, l.flatMap eInt.enc = l.map argI := fun l => by induction l with
    | nil => rfl
    | cons x r ih => rw [List.flatMap_cons, ih]; rfl
  rw [e, List.map_take]
  simp only [ofs, List.drop_zero, List.length_take]
  congr 1
  show min k xs.length * 1 = k
  omega

/-! ### Slices that grow -/
theorem RSub.nilSl {α : Type} {E : En α} {T : TypeId} {rs' rs : List As} (h : RSub rs' rs) : RSub (SlO E T Option.none 0 ([] : List α) :: rs') rs := fun own o => by
  obtain ⟨o', ho', s⟩ := h own o
  have := Own.cons (A := SlO E T Option.none 0 ([] : List α)) (h := Hp.emp) (.inl ⟨rfl, rfl, rfl, rfl⟩) ho' (Hp.emp_disj _)
  rw [Hp.emp_add] at this
  exact ⟨o', this, s⟩
theorem O1.app {α : Type} {E : En α} {a : Option Addr} {c : Nat} {xs ys : List α} {t e : TypeId} {b n m : Nat} {z : Value} {a2 : Option Addr} {c2 : Nat} {K : Tl → List As → Prop} (i : Nat) (el : ElOk X.P t e E.sz b z) (hx : evo tm x = some (.slice a n c)) (hn : n = xs.length) (hi : rs[i]? = some (SlO E e a c xs)) (hy : evo tm y = some (.slice a2 m c2)) (hm : m = ys.length)
    (hsrc : Src X rs a2 m (ys.flatMap E.enc)) (hc2 : a2 = none → c2 = 0) (h63 : xs.length + m ≤ 9223372036854775807) (hby : (xs.length + m) * b ≤ 140737488355328) (hd : dOk X d = true)
    (k : ∀ a' c', SlOk a' c' → K (tput d (.slice a' (xs ++ ys).length c') tm) (rs.set i (SlO E e a' c' (xs ++ ys)))) : O1 X tm rs ⟨d, .call ⟨.builtin .append, #[x, y], #[t, t]⟩, ty, pos, af, gu⟩ K :=
  .append i el hx hn hi hy hm hsrc hc2 h63 hby hd fun a' c' ok => by have := k a' c' ok; rwa [List.length_append, ← hm] at this
theorem O1.app0 {α : Type} {E : En α} {ys : List α} {t e : TypeId} {b m : Nat} {z : Value} {a2 : Option Addr} {c2 : Nat} {K : Tl → List As → Prop} (el : ElOk X.P t e E.sz b z) (hx : evo tm x = some (.slice none 0 0)) (hy : evo tm y = some (.slice a2 m c2)) (hm : m = ys.length)
    (hsrc : Src X rs a2 m (ys.flatMap E.enc)) (hc2 : a2 = none → c2 = 0) (h63 : m ≤ 9223372036854775807) (hby : m * b ≤ 140737488355328) (hd : dOk X d = true)
    (k : ∀ a' c', SlOk a' c' → K (tput d (.slice a' ys.length c') tm) (SlO E e a' c' ys :: rs)) : O1 X tm rs ⟨d, .call ⟨.builtin .append, #[x, y], #[t, t]⟩, ty, pos, af, gu⟩ K :=
  .append0 el hx hy hm hsrc hc2 h63 hby hd fun a' c' ok => by have := k a' c' ok; rwa [← hm] at this
end
section
variable {X : Cx} {tm : Tl}
/-! ### Variables that hold a slice that grows -/
def BoxS {α : Type} (E : En α) (Tb Te : TypeId) (B : Nat) (xs : List α) : As := fun h =>
  ∃ a c, SlOk a c ∧ As.sep (As.one B (.cells #[.slice a xs.length c] Tb (0, 0))) (SlO E Te a c xs) h
theorem own_boxS {α : Type} {E : En α} {Tb Te : TypeId} {B : Nat} {xs : List α} {rs : List As} {own : Hp} (o : Own (BoxS E Tb Te B xs :: rs) own) : ∃ a c, SlOk a c ∧ Own (As.one B (.cells #[.slice a xs.length c] Tb (0, 0)) :: SlO E Te a c xs :: rs) own := by
  obtain ⟨h, k, ⟨a, c, ok, u, v, hu, hv, d1, rfl⟩, hk, d, rfl⟩ := own_cons.1 o
  have d' := Hp.add_disj.1 d
  refine ⟨a, c, ok, ?_⟩
  rw [Hp.add_assoc]
  exact .cons hu (.cons hv hk d'.2) (Hp.disj_add.2 ⟨d1, d'.1⟩)
theorem T.boxS {α : Type} {E : En α} {Tb Te : TypeId} {B : Nat} {xs : List α} {rs : List As} {code : Code} {Q : Exit → Tl → List As → Prop} (h : ∀ a c, SlOk a c → T X tm (As.one B (.cells #[.slice a xs.length c] Tb (0, 0)) :: SlO E Te a c xs :: rs) code Q) : T X tm (BoxS E Tb Te B xs :: rs) code Q := fun own ac W o s => by
  obtain ⟨a, c, ok, o'⟩ := own_boxS o
  exact h a c ok own ac W o' s
theorem RSub.boxS {α : Type} {E : En α} {Tb Te : TypeId} {B : Nat} {xs : List α} {rs' rs : List As} {a : Option Addr} {c : Nat} (ok : SlOk a c) (h : RSub (As.one B (.cells #[.slice a xs.length c] Tb (0, 0)) :: SlO E Te a c xs :: rs') rs) : RSub (BoxS E Tb Te B xs :: rs') rs := fun own o => by
  obtain ⟨o', ho', s⟩ := h own o
  refine ⟨o', ?_, s⟩
  obtain ⟨u, k, hu, hk, d, rfl⟩ := own_cons.1 ho'
  obtain ⟨v, k2, hv, hk2, d2, rfl⟩ := own_cons.1 hk
  have d' := Hp.disj_add.1 d
  rw [← Hp.add_assoc]
  exact .cons ⟨a, c, ok, u, v, hu, hv, d'.1, rfl⟩ hk2 (Hp.add_disj.2 ⟨d'.2, d2⟩)

end
/-! ### What the rod package computes -/
def greatestL (xs : List Int) : Int := xs.foldl max 0
/-- the numbers of a set that are less than n -/
def memb (s n : Nat) : List Nat := (List.range n).filter (s.testBit ·)
theorem memb_step (s i : Nat) : memb s (i + 1) = memb s i ++ (if s.testBit i then [i] else []) := by
  unfold memb; rw [List.range_succ, List.filter_append]; congr 1; by_cases h : s.testBit i <;> simp [h]
theorem memb_le {s i : Nat} (h : s >>> i = 0) : ∀ n, i ≤ n → memb s n = memb s i := by
  intro n hn
  induction n with
  | zero => have : i = 0 := by omega
            rw [this]
  | succ n ih =>
    by_cases e : i = n + 1
    · rw [e]
    · rw [memb_step, ih (by omega)]
      have : s.testBit n = false := by
        have h1 : (s >>> i).testBit (n - i) = s.testBit n := by rw [Nat.testBit_shiftRight]; congr 1; omega
        rw [← h1, h]; simp
      simp [this]
theorem memb_length (s n : Nat) : (memb s n).length ≤ n := by
  have := List.length_filter_le (s.testBit ·) (List.range n)
  simpa [memb] using this
theorem bit_and_one (s i : Nat) : (s >>> i) &&& 1 = if s.testBit i then 1 else 0 := by
  rw [Nat.and_one_is_mod]
  have h := Nat.testBit_shiftRight (i := i) (j := 0) s
  rw [Nat.testBit_zero] at h
  simp only [Nat.add_zero] at h
  rw [← h]
  by_cases e : s >>> i % 2 = 1 <;> simp [e] <;> omega
theorem foldl_take {α β : Type} {f : β → α → β} {b : β} {xs : List α} {i : Nat} {x : α} (hx : xs[i]? = some x) : (xs.take (i + 1)).foldl f b = f ((xs.take i).foldl f b) x := by
  rw [List.take_add_one, hx]; simp
/-- the numbers of a set -/
def membI (s : Nat) : List Int := (memb s 62).map (fun (x : Nat) => (x : Int))
theorem shr_pos_lt {s i : Nat} (hs : s < 2 ^ 62) (h : (0 : Int) < ((s >>> i : Nat) : Int)) : i < 62 := by
  refine Nat.lt_of_not_le fun hi => ?_
  have : s >>> i = 0 := by
    rw [Nat.shiftRight_eq_div_pow]
    exact Nat.div_eq_of_lt (Nat.lt_of_lt_of_le hs (Nat.pow_le_pow_right (by decide) hi))
  omega
theorem shr_lt {s i : Nat} (hs : s < 2 ^ 62) : s >>> i < 2 ^ 63 := by
  have := Nat.shiftRight_le s i
  omega
theorem bit_iff {s i : Nat} : (((s >>> i) &&& 1 : Nat) : Int) = 1 ↔ s.testBit i = true := by
  rw [bit_and_one]; by_cases h : s.testBit i <;> simp [h]
theorem memI_in {s i : Nat} {out : List Int} (h : out = (memb s i).map (fun (x : Nat) => (x : Int))) (hb : (((s >>> i) &&& 1 : Nat) : Int) = 1) : out ++ [(i : Int)] = (memb s (i + 1)).map (fun (x : Nat) => (x : Int)) := by
  rw [memb_step, if_pos (bit_iff.1 hb), h]; simp
theorem memI_out {s i : Nat} {out : List Int} (h : out = (memb s i).map (fun (x : Nat) => (x : Int))) (hb : ¬ (((s >>> i) &&& 1 : Nat) : Int) = 1) : out = (memb s (i + 1)).map (fun (x : Nat) => (x : Int)) := by
  rw [memb_step, if_neg (fun e => hb (bit_iff.2 e)), h]; simp
theorem memI_end {s i : Nat} {out : List Int} (hs : s < 2 ^ 62) (hi : i ≤ 62) (h : out = (memb s i).map (fun (x : Nat) => (x : Int))) (hb : ¬ (0 : Int) < ((s >>> i : Nat) : Int)) : out = membI s := by
  have hz : s >>> i = 0 := by generalize s >>> i = w at hb; omega
  rw [h, membI, memb_le hz 62 hi]
end Go.V
