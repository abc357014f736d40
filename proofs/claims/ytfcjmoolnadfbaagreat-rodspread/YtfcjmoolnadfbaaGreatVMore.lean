/- The logic of triples: elements that the rod package uses (numbers, cells, rods), and what else its code needs. -/
import Derived.Test.YtfcjmoolnadfbaaGreatVData
import Derived.Test.YtfcjmoolnadfbaaGreatVRange
import Derived.Laws.StructEq
set_option linter.unusedVariables false
set_option linter.unusedSimpArgs false
namespace Go.V

structure Cell where
  col : Int
  row : Int
  deriving DecidableEq, Inhabited
structure Rod where
  tip : Cell
  range : Int
  shows : Int
  deriving DecidableEq, Inhabited

def eInt : En Int := ⟨1, fun i => [.int .i64 i], fun _ => rfl, by decide, fun _ => rfl⟩
def eU8 : En Int := ⟨1, fun i => [.int .u8 i], fun _ => rfl, by decide, fun _ => rfl⟩
def eCell : En Cell := ⟨2, fun c => [.int .i64 c.col, .int .i64 c.row], fun _ => rfl, by decide, fun _ => rfl⟩
def eRod : En Rod := ⟨4, fun r => [.int .i64 r.tip.col, .int .i64 r.tip.row, .int .i64 r.range, .int .i64 r.shows], fun _ => rfl, by decide, fun _ => rfl⟩

/-- a cell near the origin -/
def Sm (c : Cell) : Prop := -100 ≤ c.col ∧ c.col ≤ 100 ∧ -100 ≤ c.row ∧ c.row ≤ 100
/-- how far two cells are apart -/
def dist (a b : Cell) : Int := max (a.col - b.col) (-(a.col - b.col)) + max (a.row - b.row) (-(a.row - b.row))

def hasC (cols rows : Int) (c : Cell) : Bool := (decide (0 ≤ c.col) && decide (c.col ≤ cols - 1)) && (decide (0 ≤ c.row) && decide (c.row ≤ rows - 1))

def rngR (x : Rod) : Bool := (decide (0 ≤ x.range) && decide (x.range ≤ 3)) && (decide (0 ≤ x.shows) && decide (x.shows ≤ 9))
/-- the error of a bin -/
def chkBin (cols rows : Int) (rods : List Rod) : Int :=
  if ¬ (1 ≤ cols ∧ cols ≤ 5 ∧ 1 ≤ rows ∧ rows ≤ 5 ∧ rods.length ≤ 8) then 2
  else if rods.all (fun x => hasC cols rows x.tip) = false then 1
  else if rods.all rngR = false then 3 else 0

/-- the cells of a bin, by their numbers -/
def cellAt (C k : Nat) : Cell := ⟨((k % C : Nat) : Int), ((k / C : Nat) : Int)⟩
theorem cell_lt {C Rw r c : Nat} (hr : r < Rw) (hc : c < C) : C * r + c < C * Rw :=
  Nat.lt_of_lt_of_le (by omega : C * r + c < C * r + C) (Nat.mul_le_mul_left C hr)
theorem cellAt_of {C r c : Nat} (hc : c < C) : cellAt C (C * r + c) = ⟨(c : Int), (r : Int)⟩ := by
  have h1 : (C * r + c) % C = c := by rw [Nat.mul_add_mod]; exact Nat.mod_eq_of_lt hc
  have h2 : (C * r + c) / C = r := by rw [Nat.mul_add_div (by omega), Nat.div_eq_of_lt hc]; rfl
  simp only [cellAt, h1, h2]
theorem mulN {C r : Nat} (h1 : C ≤ 100) (h2 : r ≤ 100) : C * r ≤ 10000 := Nat.mul_le_mul h1 h2

theorem mulB {a b : Int} (ha : -100 ≤ a ∧ a ≤ 100) (hb : 0 ≤ b ∧ b ≤ 100) : -10000 ≤ a * b ∧ a * b ≤ 10000 := by
  have h1 := Int.mul_le_mul_of_nonneg_right ha.1 hb.1
  have h2 := Int.mul_le_mul_of_nonneg_right ha.2 hb.1
  omega

theorem Hp.up {g own : Hp} {B : Nat} {o : Obj} (h : g B = some o) : (g.add own) B = some o := by simp [Hp.add, h]
theorem SlR.of_one {α : Type} {E : En α} {h : Hp} {B : Nat} {cs : Array Value} {T : TypeId} {fr : Nat × Nat} {xs : List α} (hb : h B = some (.cells cs T fr)) (e : cs.toList = xs.flatMap E.enc) : SlR E h (some ⟨B, 0, none⟩) xs :=
  .inr ⟨cs, T, fr, rfl, hb, by simp only [ofs, List.drop_zero]; rw [e, ← E.flat_len, List.take_length]⟩
theorem TSub.one {i : Nat} {v : Value} {r tm : Tl} (h : tget tm i = some v) (k : TSub r tm) : TSub ((i, v) :: r) tm := ⟨h, k⟩
theorem TSub.nil {tm : Tl} : TSub [] tm := trivial

/-! ### Structs of two ints -/
def argI (i : Int) : Value := .int .i64 i
def argC (c : Cell) : Value := .agg #[.int .i64 c.col, .int .i64 c.row]
def argR (r : Rod) : Value := .agg #[.int .i64 r.tip.col, .int .i64 r.tip.row, .int .i64 r.range, .int .i64 r.shows]
def twoI (P : Program) (t : TypeId) : Bool :=
  (match P.underlying t with | some (.struct _) => true | _ => false) && !P.stoodInHeld t && !P.eqGuardType P.depth t &&
  (match (P.fieldsOf t).toList with
   | [f, g] => f.name != "_" && g.name != "_" && f.offset == 0 && g.offset == 1 && agOf P f.type == some false && agOf P g.type == some false && (match P.underlying f.type with | some (.int _) => true | _ => false) && (match P.underlying g.type with | some (.int _) => true | _ => false)
   | _ => false)
theorem run_equal_twoI {P : Program} {t : TypeId} (h : twoI P t = true) (a b c d : Int) (k : IntKind) (W : World) : (Op.equalIn 10000 t (.agg #[.int k a, .int k b]) (.agg #[.int k c, .int k d])).run P W = .ok (decide (a = c) && decide (b = d)) W ∧ P.eqGuardType P.depth t = false := by
  unfold twoI at h
  simp only [Bool.and_eq_true, Bool.not_eq_true'] at h
  obtain ⟨⟨⟨h1, h2⟩, h3⟩, h4⟩ := h
  refine ⟨?_, h3⟩
  have ht : P.underlying t = some (.struct (P.fieldsOf t)) := by
    unfold Program.fieldsOf; split at h1 <;> simp_all
  have := run_equalIn_struct (P := P) W 9999 t #[.int k a, .int k b] #[.int k c, .int k d] ht h2
  rw [this]
  split at h4
  · rename_i f g hfg
    simp only [Bool.and_eq_true, bne_iff_ne, ne_eq, beq_iff_eq] at h4
    obtain ⟨⟨⟨⟨⟨⟨⟨n1, n2⟩, o1⟩, o2⟩, a1⟩, a2⟩, i1⟩, i2⟩ := h4
    obtain ⟨k1, hk1⟩ : ∃ k1, P.underlying f.type = some (.int k1) := by split at i1 <;> simp_all
    obtain ⟨k2, hk2⟩ : ∃ k2, P.underlying g.type = some (.int k2) := by split at i2 <;> simp_all
    have e1 : ∀ (xs : Array Value) (v : Value) (o : Nat) (ty : TypeId) (hag : agOf P ty = some false) (hv : xs[o]? = some v), (part ty xs o).run P W = .ok v W := fun xs v o ty hag hv => by
      simp [part, run_isAgg hag, hv, Result.andThen]
    rw [hfg]
    simp only [Op.eqFields, n1, n2, bne_iff_ne, ne_eq, not_false_eq_true, if_true, Sem.run_bind, Result.andThen, o1, o2,
      e1 #[.int k a, .int k b] (.int k a) 0 f.type a1 rfl, e1 #[.int k c, .int k d] (.int k c) 0 f.type a1 rfl, run_equalIn_int W 9998 f.type k k1 a c hk1]
    by_cases hac : a = c
    · subst hac
      simp [e1 #[.int k a, .int k b] (.int k b) 1 g.type a2 rfl, e1 #[.int k a, .int k d] (.int k d) 1 g.type a2 rfl, run_equalIn_int W 9998 g.type k k2 b d hk2]
      by_cases hbd : b = d <;> simp [hbd]
    · simp [hac]
  · cases h4
section
variable {X : Cx} {tm : Tl} {L : List As} {d : Option Tmp} {ty : TypeId} {pos : String} {af : Array Edge} {gu : Option (Nat × Bool)}
theorem AY.eqC {t t' : TypeId} {x y : Operand} {a b : Cell} (hx : evo tm x = some (argC a)) (hy : evo tm y = some (argC b)) (h : twoI X.P t = true) : AY X L tm ⟨d, .binOp .eql t x y t', ty, pos, af, gu⟩ (.bool (decide (a = b))) := fun own ac W o s => by
  obtain ⟨h1, h2⟩ := run_equal_twoI h a.col a.row b.col b.row .i64 W
  have h3 := run_eqGuard_agg (P := X.P) W .eql t x y #[.int .i64 a.col, .int .i64 a.row] #[.int .i64 b.col, .int .i64 b.row] h2
  have e : (decide (a.col = b.col) && decide (a.row = b.row)) = decide (a = b) := by
    obtain ⟨_, _⟩ := a; obtain ⟨_, _⟩ := b; simp only [Cell.mk.injEq]; rw [Bool.decide_and]
  simp only [execOp, s.eval hx, s.eval hy, argC, Sem.run_bind, h3, Result.andThen, run_eql_struct, h1, e, Sem.run_pure]
theorem AY.neC {t t' : TypeId} {x y : Operand} {a b : Cell} (hx : evo tm x = some (argC a)) (hy : evo tm y = some (argC b)) (h : twoI X.P t = true) : AY X L tm ⟨d, .binOp .neq t x y t', ty, pos, af, gu⟩ (.bool (decide (a ≠ b))) := fun own ac W o s => by
  obtain ⟨h1, h2⟩ := run_equal_twoI h a.col a.row b.col b.row .i64 W
  have h3 := run_eqGuard_agg (P := X.P) W .neq t x y #[.int .i64 a.col, .int .i64 a.row] #[.int .i64 b.col, .int .i64 b.row] h2
  have e : (!(decide (a.col = b.col) && decide (a.row = b.row))) = decide (a ≠ b) := by
    obtain ⟨_, _⟩ := a; obtain ⟨_, _⟩ := b; simp only [Cell.mk.injEq, ne_eq]; rw [← Bool.decide_and, decide_not]
  simp only [execOp, s.eval hx, s.eval hy, argC, Sem.run_bind, h3, Result.andThen, run_neq_struct, h1, e, Sem.run_pure]
end

/-! ### Functions that are handed over, that tell of each element the same, whenever they are called -/
def PureB {α : Type} (P : Program) (g : Hp) (f : FuncId) (q : List Value) (arg : α → Value) (ok : α → Prop) (p : α → Bool) : Prop :=
  ∀ g', (∀ B x, g B = some x → g' B = some x) → ∀ x, ok x → Ct P f (arg x :: q).toArray g' [] (fun v rs => v = .bool (p x) ∧ rs = [])
theorem PureB.up {α : Type} {P : Program} {g own : Hp} {f : FuncId} {q : List Value} {arg : α → Value} {ok : α → Prop} {p : α → Bool} (h : PureB P g f q arg ok p) : PureB P (g.add own) f q arg ok p :=
  fun g' hg x hx => h g' (fun B y e => hg B y (Hp.up e)) x hx
theorem PureB.of {α : Type} {P : Program} {g g1 : Hp} {f : FuncId} {q : List Value} {arg : α → Value} {ok ok' : α → Prop} {p : α → Bool} (h : PureB P g f q arg ok p) (hs : ∀ B x, g B = some x → g1 B = some x) (hk : ∀ x, ok' x → ok x) : PureB P g1 f q arg ok' p :=
  fun g' hg x hx => h g' (fun B y e => hg B y (hs B y e)) x (hk x hx)

/-- the first place with something, or -1 -/
def fidx {α : Type} (p : α → Bool) (xs : List α) : Int := match xs.findIdx? p with | some i => i | none => -1
theorem fidx_hit {α : Type} {p : α → Bool} {xs : List α} {i : Nat} {x : α} (h : ∀ x ∈ xs.take i, p x = false) (hx : xs[i]? = some x) (hp : p x = true) : fidx p xs = i := by
  unfold fidx
  obtain ⟨hlt, he⟩ := List.getElem?_eq_some_iff.1 hx
  have : xs.findIdx? p = some i := by
    rw [List.findIdx?_eq_some_iff_getElem]
    refine ⟨hlt, by rw [he]; exact hp, fun j hj => ?_⟩
    have := h xs[j] (List.mem_take_iff_getElem.2 ⟨j, by omega, rfl⟩)
    simp [this]
  rw [this]
theorem fidx_none {α : Type} {p : α → Bool} {xs : List α} {i : Nat} (h : ∀ x ∈ xs.take i, p x = false) (hi : xs.length ≤ i) : fidx p xs = -1 := by
  unfold fidx
  rw [List.take_of_length_le hi] at h
  have : xs.findIdx? p = none := by rw [List.findIdx?_eq_none_iff]; exact h
  rw [this]
theorem take_step {α : Type} {q : α → Prop} {xs : List α} {i : Nat} {x : α} (h : ∀ x ∈ xs.take i, q x) (hx : xs[i]? = some x) (hp : q x) : ∀ y ∈ xs.take (i + 1), q y := by
  intro y hy
  rw [List.take_add_one, hx] at hy
  simp only [Option.toList_some, List.mem_append, List.mem_singleton] at hy
  rcases hy with hy | rfl
  · exact h y hy
  · exact hp
theorem fidx_any {α : Type} (p : α → Bool) (xs : List α) : decide (0 ≤ fidx p xs) = xs.any p := by
  unfold fidx
  cases h : xs.findIdx? p with
  | none =>
    rw [List.findIdx?_eq_none_iff] at h
    have : xs.any p = false := by rw [List.any_eq_false]; intro x hx; simp [h x hx]
    simp [this]
  | some i =>
    rw [List.findIdx?_eq_some_iff_getElem] at h
    obtain ⟨h1, h2, _⟩ := h
    have : xs.any p = true := List.any_eq_true.2 ⟨xs[i], List.getElem_mem h1, h2⟩
    simp [this]

/-! ### Results that are variables -/
theorem own_get {L : List As} {B : Nat} {obj : Obj} (i : Nat) (h : L[i]? = some (As.one B obj)) {own : Hp} (o : Own L own) : own B = some obj := by
  obtain ⟨hh, hA, hs⟩ := own_sub o h
  rw [show hh = Hp.one B _ from hA] at hs
  exact hs B _ (Hp.one_self _ _)
def rvSem (tmps : Array Value) : ResultVar → Sem Value
  | .tmp t => pure (tmps.getD t undef)
  | .cell a t => do loadVar t (← asAddr (tmps.getD a undef))
def RV (P : Program) (tm : Tl) (own : Hp) (r : ResultVar) (v : Value) : Prop :=
  ∀ (a : Act) (W : World), Tm tm a → own.inW W → (rvSem a.tmps r).run P W = .ok v W
theorem RV.t {P : Program} {tm : Tl} {own : Hp} {t : Nat} {v : Value} (h : tget tm t = some v) : RV P tm own (.tmp t) v := fun a W ht _ => by
  simp [rvSem, Array.getD_eq_getD_getElem?, ht t v h]
theorem RV.c {P : Program} {tm : Tl} {own : Hp} {t B sz : Nat} {ty T : TypeId} {fr : Nat × Nat} {cs : List Value} {ag : Bool} {v : Value} (ht : tget tm t = some (.pointer (some ⟨B, 0, none⟩))) (hb : own B = some (.cells cs.toArray T fr)) (ha : agOf P ty = some ag) (hs : szOf P ty = some sz) (hv : rdL ag sz cs 0 = some v) : RV P tm own (.cell t ty) v := fun a W htm io => by
  simp [rvSem, htm t _ ht, Array.getD_eq_getD_getElem?, asAddr, run_loadVar ha hs (io _ _ hb) hv]
theorem results_eq (fn : Func) (tmps : Array Value) : results fn tmps = (do let vs ← fn.results.mapM (rvSem tmps); pure (if h : vs.size = 1 then vs[0] else .tuple vs)) := rfl
theorem ResOk.one2 {P : Program} {fn : Func} {tm : Tl} {own g : Hp} {r : ResultVar} {v : Value} (hr : fn.results = #[r]) (h : RV P tm own r v) : ResOk P fn tm own g v := fun a W ht io _ => by
  have h1 := h a W ht io
  simp [results_eq, hr, h1]
theorem ResOk.two2 {P : Program} {fn : Func} {tm : Tl} {own g : Hp} {r1 r2 : ResultVar} {v w : Value} (hr : fn.results = #[r1, r2]) (h : RV P tm own r1 v) (k : RV P tm own r2 w) : ResOk P fn tm own g (.tuple #[v, w]) := fun a W ht io _ => by
  have h1 := h a W ht io
  have k1 := k a W ht io
  simp [results_eq, hr, h1, k1]

end Go.V
