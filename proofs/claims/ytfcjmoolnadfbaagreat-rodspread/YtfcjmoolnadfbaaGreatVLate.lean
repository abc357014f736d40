/- The logic of triples: arrays of numbers compared; boxes whose content lies wherever it can be read; tables of slices. -/
import Derived.Test.YtfcjmoolnadfbaaGreatVMap
import Derived.Test.YtfcjmoolnadfbaaGreatVAny
import Derived.ChangeKeysEq
set_option linter.unusedVariables false
set_option linter.unusedSimpArgs false
namespace Go.V
section
variable {X : Cx} {tm : Tl} {L : List As} {d : Option Tmp} {ty : TypeId} {pos : String} {af : Array Edge} {gu : Option (Nat × Bool)}
/-- arrays of n ints -/
def arrI (P : Program) (t : TypeId) (n : Nat) : Bool :=
  match P.underlying t with
  | some (.array m e) => m == n && agOf P e == some false && szOf P e == some 1 && (match P.underlying e with | some (.int _) => true | _ => false) && !P.eqGuardType P.depth t
  | _ => false
theorem run_eqItems_I {P : Program} {e : TypeId} {k : IntKind} (ha : agOf P e = some false) (he : P.underlying e = some (.int k)) (dd : Nat) (W : World) (xs ys : List Int) : ∀ (is : List Nat), (∀ i ∈ is, i < xs.length ∧ i < ys.length) →
    (Op.eqItems (dd + 1) e 1 (xs.map argI).toArray (ys.map argI).toArray is).run P W = .ok (decide (∀ i ∈ is, xs[i]? = ys[i]?)) W
  | [], _ => by simp [Op.eqItems]
  | i :: is, h => by
    have ih := run_eqItems_I ha he dd W xs ys is (fun j hj => h j (List.mem_cons_of_mem _ hj))
    obtain ⟨h1, h2⟩ := h i List.mem_cons_self
    have p1 : (part e (xs.map argI).toArray (i * 1)).run P W = .ok (argI xs[i]) W := by simp [part, run_isAgg ha, h1, Result.andThen]
    have p2 : (part e (ys.map argI).toArray (i * 1)).run P W = .ok (argI ys[i]) W := by simp [part, run_isAgg ha, h2, Result.andThen]
    have p3 : (Op.equalIn (dd + 1) e (argI xs[i]) (argI ys[i])).run P W = .ok (xs[i] == ys[i]) W := run_equalIn_int W dd e .i64 k _ _ he
    simp only [Op.eqItems, Sem.run_bind, p1, p2, p3, Result.andThen_ok]
    by_cases hxy : xs[i] = ys[i]
    · simp only [hxy, beq_self_eq_true, Bool.not_true, Bool.false_eq_true, if_false, ih]
      congr 1
      rw [decide_eq_decide]
      simp only [List.mem_cons, forall_eq_or_imp]
      rw [List.getElem?_eq_getElem h1, List.getElem?_eq_getElem h2, hxy]; simp
    · have : (xs[i] == ys[i]) = false := by simpa using hxy
      simp only [this, Bool.not_false, if_true, Sem.run_pure]
      congr 1
      symm
      rw [decide_eq_false_iff_not]
      intro hall
      have := hall i List.mem_cons_self
      rw [List.getElem?_eq_getElem h1, List.getElem?_eq_getElem h2] at this
      exact hxy (by simpa using this)
theorem run_equal_arrI {P : Program} {t : TypeId} {n : Nat} (h : arrI P t n = true) (xs ys : List Int) (hx : xs.length = n) (hy : ys.length = n) (W : World) :
    (Op.equalIn 10000 t (.agg (xs.map argI).toArray) (.agg (ys.map argI).toArray)).run P W = .ok (decide (xs = ys)) W ∧ P.eqGuardType P.depth t = false := by
  unfold arrI at h
  split at h
  · rename_i m e hu
    simp only [Bool.and_eq_true, Bool.not_eq_true', beq_iff_eq] at h
    obtain ⟨⟨⟨⟨h1, h2⟩, h3⟩, h4⟩, h5⟩ := h
    subst h1
    refine ⟨?_, h5⟩
    obtain ⟨k, hk⟩ : ∃ k, P.underlying e = some (.int k) := by split at h4 <;> simp_all
    obtain ⟨i, hi, hsz⟩ : ∃ i, P.info? e = some i ∧ i.size = 1 := by
      unfold szOf at h3
      cases hi : P.info? e with
      | none => simp [hi] at h3
      | some i => exact ⟨i, rfl, by simpa [hi] using h3⟩
    have hc : P.cellsOf e = 1 := by simp [Program.cellsOf, hi, hsz]
    rw [run_equalIn_array W 9999 _ _ hu hi, hc, run_eqItems_I h2 hk 9998 W xs ys (List.range m) (fun i hi => by have := List.mem_range.1 hi; omega)]
    congr 1
    rw [decide_eq_decide]
    constructor
    · intro hall
      apply List.ext_getElem? 
      intro i
      by_cases hi : i < m
      · exact hall i (List.mem_range.2 hi)
      · rw [List.getElem?_eq_none (by omega), List.getElem?_eq_none (by omega)]
    · intro e _ _; rw [e]
  · cases h
theorem AY.neA {t t' : TypeId} {x y : Operand} {xs ys : List Int} {n : Nat} (hx : evo tm x = some (.agg (xs.map argI).toArray)) (hy : evo tm y = some (.agg (ys.map argI).toArray)) (h : arrI X.P t n = true) (lx : xs.length = n) (ly : ys.length = n) : AY X L tm ⟨d, .binOp .neq t x y t', ty, pos, af, gu⟩ (.bool (decide (xs ≠ ys))) := fun own ac W o s => by
  obtain ⟨h1, h2⟩ := run_equal_arrI h xs ys lx ly W
  have h3 := run_eqGuard_agg (P := X.P) W .neq t x y (xs.map argI).toArray (ys.map argI).toArray h2
  have e : (!decide (xs = ys)) = decide (xs ≠ ys) := by rw [decide_not]
  simp only [execOp, s.eval hx, s.eval hy, Sem.run_bind, h3, Result.andThen, run_neq_struct, h1, e, Sem.run_pure]
end
/-! ### An iterator that is handed over -/
def ItB (P : Program) (g : Hp) (f : FuncId) (q : List Value) (N : Nat) (e : Nat → List Value) : Prop :=
  ∀ g', (∀ B x, g B = some x → g' B = some x) → It P f q.toArray g' N (fun k => (e k).toArray)
theorem ItB.up {P : Program} {g own : Hp} {f : FuncId} {q : List Value} {N : Nat} {e : Nat → List Value} (h : ItB P g f q N e) : ItB P (g.add own) f q N e :=
  fun g' hg => h g' (fun B y e => hg B y (Hp.up e))
theorem ItB.it {P : Program} {g own : Hp} {f : FuncId} {q : List Value} {N : Nat} {e : Nat → List Value} (h : ItB P g f q N e) : It P f q.toArray (g.add own) N (fun k => (e k).toArray) :=
  h _ (fun B y e => Hp.up e)
theorem RSub.app {l rs : List As} (h : RSub l rs) (r : List As) : RSub l (rs ++ r) := fun own o => by
  obtain ⟨a, k, ha, hk, d, e⟩ := own_append.1 o
  obtain ⟨o', ho', s⟩ := h a ha
  exact ⟨o', ho', fun B x hx => by rw [e]; simp [Hp.add, s B x hx]⟩
/-- what is owned tells of a slice: with no address it is empty -/
theorem SlO.none {α : Type} {E : En α} {T : TypeId} {a : Option Addr} {c : Nat} {xs : List α} {h : Hp} (s : SlO E T a c xs h) : a = Option.none → xs = [] := fun e => by
  rcases s with ⟨_, _, h3, _⟩ | s
  · exact h3
  · obtain ⟨B, o, h1, _⟩ := s
    rw [e] at h1; cases h1
theorem T.pure {X : Cx} {tm : Tl} {rs : List As} {c : Code} {Q : Exit → Tl → List As → Prop} {p : Prop} (i : Nat) {A : As} (hi : rs[i]? = some A) (hp : ∀ h, A h → p) (k : p → T X tm rs c Q) : T X tm rs c Q := fun own a W o s => by
  obtain ⟨h, hA, _⟩ := own_sub o hi
  exact k (hp h hA) own a W o s
/-- a literal's cells read as a slice -/
theorem SlAt.lit {X : Cx} {L : List As} {α : Type} {E : En α} {B : Nat} {cs : Array Value} {T : TypeId} {xs : List α} (i : Nat) (h : L[i]? = some (As.one B (.cells cs T (0, 0)))) (e : cs.toList = xs.flatMap E.enc) : SlAt X L E (some ⟨B, 0, none⟩) xs := fun own W o io _ => by
  obtain ⟨hh, hA, hs⟩ := own_sub o h
  rw [show hh = Hp.one B _ from hA] at hs
  exact SlR.of_one (io _ _ (hs B _ (Hp.one_self _ _))) e

/-! ### A scope from which nobody jumps -/
theorem stepR_scope {P : Program} {b : Frame} {a : Act} {k : List Item} {cs : List Frame} {w : World} {c : Code} : step P (lone (b.atR a (.code (.scope c) :: k)) cs w) = .next (lone (b.atR a (.code c :: .inScope c :: k)) cs w) :=
  step_lone_go (by simp [stepG, stepG.exec, Frame.atR])
theorem stepR_inScope {P : Program} {b : Frame} {a : Act} {k : List Item} {cs : List Frame} {w : World} {c : Code} : step P (lone (b.atR a (.inScope c :: k)) cs w) = .next (lone (b.atR a k) cs w) :=
  step_lone_go (by simp [stepG, stepG.exec, Frame.atR])
def noGo (Q : Exit → Act → World → Prop) : Exit → Act → World → Prop
  | .goto _, _, _ => False
  | e, a, w => Q e a w
theorem wpIn_scope {F : Fence} {n : Nat} {P : Program} {Q : Exit → Act → World → Prop} {a : Act} {w : World} {c : Code} (h : c.wpIn F n P (noGo Q) a w) : (Code.scope c).wpIn F n P Q a w := by
  intro b k cs hro hb hr
  have h0 : (lone (b.atR a (.code (.scope c) :: k)) cs w).fenced P F := fenced_calm hb hr rfl
  obtain ⟨e, a₁, w₁, hq, harr⟩ := h b (.inScope c :: k) cs hro hb hr
  cases e with
  | normal => exact ⟨.normal, a₁, w₁, hq, .head h0 stepR_scope (StepsIn.trans harr (.one (fenced_calm hb hr rfl) stepR_inScope))⟩
  | exit id' =>
    have hx : exitTo id' (.inScope c :: k) = exitTo id' k := by simp [exitTo]
    exact ⟨.exit id', a₁, w₁, hq, fun k' hk => .head h0 stepR_scope (harr.1 k' (by rw [hx]; exact hk)),
      fun hr' hk => let ⟨k₁, h1, h2⟩ := harr.2 hr' (by rw [hx]; exact hk); ⟨k₁, h1, .head h0 stepR_scope h2⟩⟩
  | goto l => exact hq.elim
  | ret => exact ⟨_, a₁, w₁, hq, .of_steps (.one h0 stepR_scope) harr⟩
  | panic ch => exact ⟨_, a₁, w₁, hq, .of_steps (.one h0 stepR_scope) harr⟩
  | outgrown => exact ⟨_, a₁, w₁, hq, .of_steps (.one h0 stepR_scope) harr⟩
@[reducible] def noGoQ (Q : Exit → Tl → List As → Prop) : Exit → Tl → List As → Prop
  | .goto _ => fun _ _ => False
  | e => Q e
end Go.V
open Go.V
theorem Go.V.T.scope {X : Cx} {tm : Tl} {rs : List As} {c : Code} {Q : Exit → Tl → List As → Prop} (h : T X tm rs c (noGoQ Q)) : T X tm rs (.scope c) Q := fun own a W o s =>
  wpIn_scope (wpIn_mono (h own a W o s) fun e a' W' p => by
    obtain ⟨tm', rs', own', o', s', f, g, q⟩ := p
    cases e with
    | goto l => exact q.elim
    | normal => exact ⟨tm', rs', own', o', s', f, g, q⟩
    | exit id => exact ⟨tm', rs', own', o', s', f, g, q⟩
    | ret => exact ⟨tm', rs', own', o', s', f, g, q⟩
    | panic ch => exact ⟨tm', rs', own', o', s', f, g, q⟩
    | outgrown => exact ⟨tm', rs', own', o', s', f, g, q⟩)
namespace Go.V
end Go.V
