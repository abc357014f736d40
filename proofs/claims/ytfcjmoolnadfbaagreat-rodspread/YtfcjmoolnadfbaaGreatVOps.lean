/- The logic of triples: what single operations do: those that leave the world alone, those that lay a new block, those that enter a function; and the rules that take them one by one. -/
import Derived.Test.YtfcjmoolnadfbaaGreatVCore
import Derived.IntWalk
import Derived.Laws.Small
import Derived.Laws.Slices
import Derived.Laws.Cells
set_option linter.unusedVariables false
namespace Go.V

/-! ### Facts on types -/
def agOf (P : Program) (t : TypeId) : Option Bool :=
  match P.underlying t with
  | some (.struct _) | some (.array _ _) => some true
  | some _ => some false
  | none => none
def szOf (P : Program) (t : TypeId) : Option Nat := (P.info? t).map (·.size)
def byOf (P : Program) (t : TypeId) : Option Nat := (P.info? t).map (·.bytes)
def zeroOf (P : Program) (t : TypeId) : Option Value := (P.info? t).bind (·.zero)
/-- a field's offset, of a size that is not 0 -/
def fldOf (P : Program) (s : TypeId) (f : Nat) : Option Nat :=
  match P.underlying s with
  | some (.struct fs) => (fs[f]?).bind fun x => match szOf P x.type with | some 0 => none | some _ => some x.offset | none => none
  | _ => none
def sliOf (P : Program) (t : TypeId) : Option TypeId := match P.underlying t with | some (.slice e) => some e | _ => none
def arrOf (P : Program) (t : TypeId) : Option (Nat × TypeId) := match P.underlying t with | some (.array n e) => some (n, e) | _ => none
def mapOf (P : Program) (t : TypeId) : Option (TypeId × TypeId) := match P.underlying t with | some (.map k e) => some (k, e) | _ => none

variable {X : Cx} {tm : Tl} {L rs : List As}

theorem sliOf_spec {P : Program} {t e : TypeId} (h : sliOf P t = some e) : P.underlying t = some (.slice e) := by
  unfold sliOf at h; split at h <;> simp_all
theorem arrOf_spec {P : Program} {t e : TypeId} {n : Nat} (h : arrOf P t = some (n, e)) : P.underlying t = some (.array n e) := by
  unfold arrOf at h; split at h <;> simp_all
theorem mapOf_spec {P : Program} {t k e : TypeId} (h : mapOf P t = some (k, e)) : P.underlying t = some (.map k e) := by
  unfold mapOf at h; split at h <;> simp_all
theorem run_isAgg {P : Program} {t : TypeId} {b : Bool} (h : agOf P t = some b) (w : World) : (isAgg t).run P w = .ok b w := by
  unfold agOf at h
  unfold isAgg
  split at h <;> simp_all [run_underlying]
  all_goals (rename_i d hd h1 h2; split <;> simp_all)
theorem run_sizeOf {P : Program} {t : TypeId} {n : Nat} (h : szOf P t = some n) (w : World) : (sizeOf t).run P w = .ok n w := by
  unfold szOf at h
  cases hi : P.info? t with
  | none => simp [hi] at h
  | some i => simp [hi] at h; simp [sizeOf, typeInfo, hi, h]
theorem run_typeInfo {P : Program} {t : TypeId} {n : Nat} (h : byOf P t = some n) (w : World) : ∃ i, (typeInfo t).run P w = .ok i w ∧ i.bytes = n := by
  unfold byOf at h
  cases hi : P.info? t with
  | none => simp [hi] at h
  | some i => simp [hi] at h; exact ⟨i, by simp [typeInfo, hi], h⟩
theorem run_zeroValue {P : Program} {t : TypeId} {v : Value} (h : zeroOf P t = some v) (w : World) : (zeroValue t).run P w = .ok v w := by
  unfold zeroOf at h
  cases hi : P.info? t with
  | none => simp [hi] at h
  | some i => simp [hi] at h; simp [zeroValue, typeInfo, hi, h]

/-! ### The three makes -/
/-- it yields v, the world stays -/
def AY (X : Cx) (L : List As) (tm : Tl) (o : Oper) (v : Value) : Prop :=
  ∀ own a W, Own L own → Sat X tm own a W → (execOp a.eval o).run X.P W = .ok (.value v) W
/-- a new block -/
def AN (X : Cx) (L : List As) (tm : Tl) (o : Oper) (f : Nat → Value) (obj : Obj) : Prop :=
  ∀ own a W, Own L own → Sat X tm own a W → (execOp a.eval o).run X.P W = .ok (.value (f W.heap.size)) { W with heap := W.heap.push obj }
/-- a function is entered -/
def AC (X : Cx) (L : List As) (tm : Tl) (o : Oper) (K : FuncId) (args : Array Value) : Prop :=
  ∀ own a W, Own L own → Sat X tm own a W → (execOp a.eval o).run X.P W = .ok (.enter K args) W

variable {d : Option Tmp} {ty : TypeId} {pos : String} {af : Array Edge} {gu : Option (Nat × Bool)}

theorem AY.move {x : Operand} {v : Value} (h : evo tm x = some v) : AY X L tm ⟨d, .move x, ty, pos, af, gu⟩ v := fun _ a W _ s => by
  simp [execOp, s.eval h]
theorem AY.assign {x : Operand} {v : Value} (h : evo tm x = some v) : AY X L tm ⟨d, .assign x, ty, pos, af, gu⟩ v := fun _ a W _ s => by
  simp [execOp, s.eval h]
theorem AY.pick {c x y : Operand} {b : Bool} {v : Value} (hc : evo tm c = some (.bool b)) (h : (if b then evo tm x else evo tm y) = some v) : AY X L tm ⟨d, .pick c x y, ty, pos, af, gu⟩ v := fun _ a W _ s => by
  cases b
  · simp only [Bool.false_eq_true, if_false] at h; simp [execOp, s.eval hc, s.eval h, asBool]
  · simp only [if_true] at h; simp [execOp, s.eval hc, s.eval h, asBool]
theorem AY.pick_t {c x y : Operand} {v : Value} (hc : evo tm c = some (.bool true)) (h : evo tm x = some v) : AY X L tm ⟨d, .pick c x y, ty, pos, af, gu⟩ v := .pick hc (by simpa using h)
theorem AY.pick_f {c x y : Operand} {v : Value} (hc : evo tm c = some (.bool false)) (h : evo tm y = some v) : AY X L tm ⟨d, .pick c x y, ty, pos, af, gu⟩ v := .pick hc (by simpa using h)

section ints
variable {t t' : TypeId} {x y : Operand} {k : IntKind} {a b : Int}
theorem AY.intop {op : BinOp} {v : Value} (hx : evo tm x = some (.int k a)) (hy : evo tm y = some (.int k b)) (h : ∀ P W, (Go.binOp op t (.int k a) (.int k b)).run P W = .ok v W) : AY X L tm ⟨d, .binOp op t x y t', ty, pos, af, gu⟩ v := fun _ ac W _ s => by
  have h2 : (eqGuard op t x y (.int k a) (.int k b)).run X.P W = .ok () W := by unfold eqGuard; split <;> simp
  simp [execOp, s.eval hx, s.eval hy, h2, h, Result.andThen]
/-- sums of ints that fit -/
theorem AY.add (hx : evo tm x = some (.int .i64 a)) (hy : evo tm y = some (.int .i64 b)) (h : -9223372036854775808 ≤ a + b ∧ a + b ≤ 9223372036854775807) : AY X L tm ⟨d, .binOp .add t x y t', ty, pos, af, gu⟩ (.int .i64 (a + b)) :=
  .intop hx hy fun P W => by simp [Go.binOp, Op.intArith, IntWalk.i64_in _ h]
theorem AY.sub (hx : evo tm x = some (.int .i64 a)) (hy : evo tm y = some (.int .i64 b)) (h : -9223372036854775808 ≤ a - b ∧ a - b ≤ 9223372036854775807) : AY X L tm ⟨d, .binOp .sub t x y t', ty, pos, af, gu⟩ (.int .i64 (a - b)) :=
  .intop hx hy fun P W => by simp [Go.binOp, Op.intArith, IntWalk.i64_in _ h]
theorem AY.mul (hx : evo tm x = some (.int .i64 a)) (hy : evo tm y = some (.int .i64 b)) (h : -9223372036854775808 ≤ a * b ∧ a * b ≤ 9223372036854775807) : AY X L tm ⟨d, .binOp .mul t x y t', ty, pos, af, gu⟩ (.int .i64 (a * b)) :=
  .intop hx hy fun P W => by simp [Go.binOp, Op.intArith, IntWalk.i64_in _ h]
/-- ints that wrap -/
theorem AY.addw (hx : evo tm x = some (.int k a)) (hy : evo tm y = some (.int k b)) : AY X L tm ⟨d, .binOp .add t x y t', ty, pos, af, gu⟩ (.int k (k.wrap (a + b))) :=
  .intop hx hy fun P W => by simp [Go.binOp, Op.intArith]
theorem AY.subw (hx : evo tm x = some (.int k a)) (hy : evo tm y = some (.int k b)) : AY X L tm ⟨d, .binOp .sub t x y t', ty, pos, af, gu⟩ (.int k (k.wrap (a - b))) :=
  .intop hx hy fun P W => by simp [Go.binOp, Op.intArith]
theorem AY.mulw (hx : evo tm x = some (.int k a)) (hy : evo tm y = some (.int k b)) : AY X L tm ⟨d, .binOp .mul t x y t', ty, pos, af, gu⟩ (.int k (k.wrap (a * b))) :=
  .intop hx hy fun P W => by simp [Go.binOp, Op.intArith]
theorem AY.lss (hx : evo tm x = some (.int k a)) (hy : evo tm y = some (.int k b)) : AY X L tm ⟨d, .binOp .lss t x y t', ty, pos, af, gu⟩ (.bool (decide (a < b))) :=
  .intop hx hy fun P W => by simp [Go.binOp, Op.intCmp]
theorem AY.leq (hx : evo tm x = some (.int k a)) (hy : evo tm y = some (.int k b)) : AY X L tm ⟨d, .binOp .leq t x y t', ty, pos, af, gu⟩ (.bool (decide (a ≤ b))) :=
  .intop hx hy fun P W => by simp [Go.binOp, Op.intCmp]
theorem AY.gtr (hx : evo tm x = some (.int k a)) (hy : evo tm y = some (.int k b)) : AY X L tm ⟨d, .binOp .gtr t x y t', ty, pos, af, gu⟩ (.bool (decide (b < a))) :=
  .intop hx hy fun P W => by simp [Go.binOp, Op.intCmp]
theorem AY.geq (hx : evo tm x = some (.int k a)) (hy : evo tm y = some (.int k b)) : AY X L tm ⟨d, .binOp .geq t x y t', ty, pos, af, gu⟩ (.bool (decide (b ≤ a))) :=
  .intop hx hy fun P W => by simp [Go.binOp, Op.intCmp]
theorem AY.eql (hx : evo tm x = some (.int k a)) (hy : evo tm y = some (.int k b)) : AY X L tm ⟨d, .binOp .eql t x y t', ty, pos, af, gu⟩ (.bool (decide (a = b))) :=
  .intop hx hy fun P W => by simp [Go.binOp, Op.intCmp]; rfl
theorem AY.neq (hx : evo tm x = some (.int k a)) (hy : evo tm y = some (.int k b)) : AY X L tm ⟨d, .binOp .neq t x y t', ty, pos, af, gu⟩ (.bool (decide (a ≠ b))) :=
  .intop hx hy fun P W => by
    simp only [Go.binOp, Op.intCmp, ne_eq, not_true_eq_false, if_false]
    by_cases e : a = b <;> simp [e]
theorem AY.rem (hx : evo tm x = some (.int k a)) (hy : evo tm y = some (.int k b)) (h : 0 ≤ a ∧ 0 < b) : AY X L tm ⟨d, .binOp .rem t x y t', ty, pos, af, gu⟩ (.int k (a % b)) :=
  .intop hx hy fun P W => by
    have hb : b ≠ 0 := by omega
    simp [Go.binOp, Op.intDiv, hb, Int.tmod_eq_emod_of_nonneg h.1]
theorem AY.remt (hx : evo tm x = some (.int k a)) (hy : evo tm y = some (.int k b)) (h : b ≠ 0) : AY X L tm ⟨d, .binOp .rem t x y t', ty, pos, af, gu⟩ (.int k (a.tmod b)) :=
  .intop hx hy fun P W => by simp [Go.binOp, Op.intDiv, h]
theorem AY.quo (hx : evo tm x = some (.int .i64 a)) (hy : evo tm y = some (.int .i64 b)) (h : 0 ≤ a ∧ a ≤ 9223372036854775807 ∧ 1 ≤ b) : AY X L tm ⟨d, .binOp .quo t x y t', ty, pos, af, gu⟩ (.int .i64 (a / b)) :=
  .intop hx hy fun P W => by
    have hb : b ≠ 0 := by omega
    simp [Go.binOp, Op.intDiv, hb, IntWalk.i64_quo _ _ h]
/-- bits of ints that are not negative -/
theorem AY.bits {op : BinOp} (hx : evo tm x = some (.int k a)) (hy : evo tm y = some (.int k b)) {v : Value} (h : ∀ P W, (Op.intBits op k a b).run P W = .ok v W) (ho : op = .and ∨ op = .or ∨ op = .xor ∨ op = .andNot) : AY X L tm ⟨d, .binOp op t x y t', ty, pos, af, gu⟩ v :=
  .intop hx hy fun P W => by rcases ho with rfl | rfl | rfl | rfl <;> simp [Go.binOp, h]
theorem AY.shl {k2 : IntKind} (hx : evo tm x = some (.int k a)) (hy : evo tm y = some (.int k2 b)) (h : 0 ≤ b) : AY X L tm ⟨d, .binOp .shl t x y t', ty, pos, af, gu⟩ (.int k (k.wrap (a * 2 ^ (min b.toNat k.bits)))) := fun _ ac W _ s => by
  have h2 : (eqGuard .shl t x y (.int k a) (.int k2 b)).run X.P W = .ok () W := by simp [eqGuard]
  have hb : ¬ b < 0 := by omega
  simp [execOp, s.eval hx, s.eval hy, h2, Go.binOp, Op.shift, hb, Result.andThen]
theorem AY.shr {k2 : IntKind} (hx : evo tm x = some (.int k a)) (hy : evo tm y = some (.int k2 b)) (h : 0 ≤ b) : AY X L tm ⟨d, .binOp .shr t x y t', ty, pos, af, gu⟩ (.int k (a.fdiv (2 ^ (min b.toNat k.bits)))) := fun _ ac W _ s => by
  have h2 : (eqGuard .shr t x y (.int k a) (.int k2 b)).run X.P W = .ok () W := by simp [eqGuard]
  have hb : ¬ b < 0 := by omega
  simp [execOp, s.eval hx, s.eval hy, h2, Go.binOp, Op.shift, hb, Result.andThen]
theorem AY.neg (hx : evo tm x = some (.int .i64 a)) (h : -9223372036854775808 ≤ -a ∧ -a ≤ 9223372036854775807) : AY X L tm ⟨d, .unOp .neg t x, ty, pos, af, gu⟩ (.int .i64 (-a)) := fun _ ac W _ s => by
  have : (0 : Int) - a = -a := by omega
  simp [execOp, s.eval hx, Op.unary, Op.intArith, this, IntWalk.i64_in _ h]
theorem AY.not {b : Bool} (hx : evo tm x = some (.bool b)) : AY X L tm ⟨d, .unOp .not t x, ty, pos, af, gu⟩ (.bool (!b)) := fun _ ac W _ s => by
  simp [execOp, s.eval hx, Op.unary]
theorem AY.conv {src dst : TypeId} {k' : IntKind} (hx : evo tm x = some (.int k a)) (hs : (X.P.underlying src).isSome = true) (hd : X.P.underlying dst = some (.int k')) : AY X L tm ⟨d, .convert src dst x, ty, pos, af, gu⟩ (.int k' (k'.wrap a)) := fun _ ac W _ s => by
  obtain ⟨e, he⟩ := Option.isSome_iff_exists.mp hs
  simp [execOp, s.eval hx, convert, run_underlying he, run_underlying hd, Conv.intToInt]
theorem AY.convu {src dst : TypeId} {k' : IntKind} {m : Int} (hx : evo tm x = some (.int k a)) (hs : (X.P.underlying src).isSome = true) (hd : X.P.underlying dst = some (.int k')) (h : k'.wrap a = m) : AY X L tm ⟨d, .convert src dst x, ty, pos, af, gu⟩ (.int k' m) := h ▸ .conv hx hs hd
end ints

theorem run_equal_bool {P : Program} {t : TypeId} (ht : P.underlying t = some .bool) (a b : Bool) (W : World) : (Op.equal t (.bool a) (.bool b)).run P W = .ok (a == b) W := by
  show (Op.equalIn (9999 + 1) t (.bool a) (.bool b)).run P W = _
  unfold Op.equalIn
  simp [run_underlying ht, Result.andThen]
theorem AY.eqb {t t' : TypeId} {x y : Operand} {a b : Bool} (hx : evo tm x = some (.bool a)) (hy : evo tm y = some (.bool b)) (ht : X.P.underlying t = some .bool) : AY X L tm ⟨d, .binOp .eql t x y t', ty, pos, af, gu⟩ (.bool (a == b)) := fun _ ac W _ s => by
  have h2 : (eqGuard .eql t x y (.bool a) (.bool b)).run X.P W = .ok () W := by simp [eqGuard]
  simp only [execOp, s.eval hx, s.eval hy, Sem.run_bind, h2, Result.andThen, Go.binOp, run_equal_bool ht, Sem.run_pure]
theorem AY.neqb {t t' : TypeId} {x y : Operand} {a b : Bool} (hx : evo tm x = some (.bool a)) (hy : evo tm y = some (.bool b)) (ht : X.P.underlying t = some .bool) : AY X L tm ⟨d, .binOp .neq t x y t', ty, pos, af, gu⟩ (.bool (a != b)) := fun _ ac W _ s => by
  have h2 : (eqGuard .neq t x y (.bool a) (.bool b)).run X.P W = .ok () W := by simp [eqGuard]
  simp only [execOp, s.eval hx, s.eval hy, Sem.run_bind, h2, Result.andThen, Go.binOp, run_equal_bool ht, Sem.run_pure]
  rfl

theorem AY.maxi {ats : Array TypeId} {x y : Operand} {k : IntKind} {a b : Int} (hx : evo tm x = some (.int k a)) (hy : evo tm y = some (.int k b)) : AY X L tm ⟨d, .call ⟨.builtin .max, #[x, y], ats⟩, ty, pos, af, gu⟩ (.int k (max a b)) := fun _ ac W _ s => by
  have e : (if b > a then b else a) = max a b := by omega
  have := run_max_int2 (P := X.P) W ats ty k k a b
  rw [e] at this
  simp [execOp, resolve, s.eval hx, s.eval hy, invoke, Go.builtin, this]
theorem AY.mini {ats : Array TypeId} {x y : Operand} {k : IntKind} {a b : Int} (hx : evo tm x = some (.int k a)) (hy : evo tm y = some (.int k b)) : AY X L tm ⟨d, .call ⟨.builtin .min, #[x, y], ats⟩, ty, pos, af, gu⟩ (.int k (min a b)) := fun _ ac W _ s => by
  have e : (if b < a then b else a) = min a b := by omega
  have := run_min_int2 (P := X.P) W ats ty k k a b
  rw [e] at this
  simp [execOp, resolve, s.eval hx, s.eval hy, invoke, Go.builtin, this]
theorem AY.len {t : TypeId} {x : Operand} {a : Option Addr} {n c : Nat} {e : TypeId} (hx : evo tm x = some (.slice a n c)) (ht : sliOf X.P t = some e) : AY X L tm ⟨d, .call ⟨.builtin .len, #[x], #[t]⟩, ty, pos, af, gu⟩ (.int .i64 n) := fun _ ac W _ s => by
  simp [execOp, resolve, s.eval hx, invoke, Go.builtin, Builtin.len_, run_underlying (sliOf_spec ht), goInt]
theorem AY.cap {t : TypeId} {x : Operand} {a : Option Addr} {n c : Nat} {e : TypeId} (hx : evo tm x = some (.slice a n c)) (ht : sliOf X.P t = some e) : AY X L tm ⟨d, .call ⟨.builtin .cap, #[x], #[t]⟩, ty, pos, af, gu⟩ (.int .i64 c) := fun _ ac W _ s => by
  simp [execOp, resolve, s.eval hx, invoke, Go.builtin, Builtin.cap_, run_underlying (sliOf_spec ht), goInt]
theorem AY.nilCheck {x : Operand} {a : Addr} (hx : evo tm x = some (.pointer (some a))) : AY X L tm ⟨d, .nilCheck x, ty, pos, af, gu⟩ (.pointer (some a)) := fun _ ac W _ s => by
  simp [execOp, s.eval hx]
theorem AY.nilCheckF {x : Operand} {f : FuncId} {p q : Array Value} (hx : evo tm x = some (.func (.func f) p q)) : AY X L tm ⟨d, .nilCheck x, ty, pos, af, gu⟩ (.func (.func f) p q) := fun _ ac W _ s => by
  simp [execOp, s.eval hx]
theorem AY.extract {x : Operand} {vs : Array Value} {i : Nat} {v : Value} (hx : evo tm x = some (.tuple vs)) (hv : vs[i]? = some v) : AY X L tm ⟨d, .extract x i, ty, pos, af, gu⟩ v := fun _ ac W _ s => by
  simp [execOp, s.eval hx, Instr.extract, hv]
/-- a function value with what it captures -/
def evs (tm : Tl) : List Operand → Option (List Value)
  | [] => some []
  | x :: r => match evo tm x, evs tm r with | some v, some l => some (v :: l) | _, _ => none
theorem Sat.evals {own : Hp} {a : Act} {W : World} (s : Sat X tm own a W) : ∀ {xs : List Operand} {vs : List Value}, evs tm xs = some vs → xs.map a.eval = vs
  | [], vs, h => by simp only [evs, Option.some.injEq] at h; simp [← h]
  | x :: r, vs, h => by
    simp only [evs] at h
    split at h
    · rename_i v l h1 h2; simp only [Option.some.injEq] at h; simp [← h, s.eval h1, s.evals h2]
    · cases h
theorem AY.makeFunc {f : Go.Fn} {p q : List Operand} {vp vq : List Value} (hp : evs tm p = some vp) (hq : evs tm q = some vq) : AY X L tm ⟨d, .makeFunc f p.toArray q.toArray, ty, pos, af, gu⟩ (.func f vp.toArray vq.toArray) := fun _ ac W _ s => by
  simp [execOp, Instr.makeFunc, s.evals hp, s.evals hq]

/-! ### Addresses -/
theorem addr_add (B off n : Nat) : Addr.add ⟨B, off, none⟩ n = ⟨B, off + n, none⟩ := by
  unfold Addr.add; split <;> simp_all
theorem AY.fieldAddr {st : TypeId} {x : Operand} {f B off n : Nat} (hx : evo tm x = some (.pointer (some ⟨B, off, none⟩))) (hf : fldOf X.P st f = some n) : AY X L tm ⟨d, .fieldAddr st x f, ty, pos, af, gu⟩ (.pointer (some ⟨B, off + n, none⟩)) := fun _ ac W _ s => by
  unfold fldOf at hf
  split at hf
  · rename_i fs hu
    cases hg : fs[f]? with
    | none => simp [hg] at hf
    | some fd =>
      simp only [hg, Option.bind_some] at hf
      cases hz : szOf X.P fd.type with
      | none => simp [hz] at hf
      | some z =>
        cases z with
        | zero => simp [hz] at hf
        | succ z =>
          simp [hz] at hf
          simp [execOp, s.eval hx, Instr.fieldAt, run_underlying hu, hg, Instr.sureAddr, fieldPlace, run_sizeOf hz, addr_add, hf, Result.andThen]
  · cases hf
theorem AY.indexAddr {t e : TypeId} {x y : Operand} {B off n c sz : Nat} {k : IntKind} {i : Int} (hx : evo tm x = some (.slice (some ⟨B, off, none⟩) n c)) (hy : evo tm y = some (.int k i)) (ht : sliOf X.P t = some e) (hs : szOf X.P e = some sz) (hi : 0 ≤ i ∧ i < n) :
    AY X L tm ⟨d, .indexAddr t x y, ty, pos, af, gu⟩ (.pointer (some ⟨B, off + i.toNat * sz, none⟩)) := fun _ ac W _ s => by
  simp [execOp, s.eval hx, s.eval hy, Instr.indexAt, asIntOf, run_underlying (sliOf_spec ht), hi, run_sizeOf hs, addr_add, Result.andThen]
theorem AY.indexAddrA {t e : TypeId} {x y : Operand} {B off n sz : Nat} {k : IntKind} {i : Int} (hx : evo tm x = some (.pointer (some ⟨B, off, none⟩))) (hy : evo tm y = some (.int k i)) (ht : arrOf X.P t = some (n, e)) (hs : szOf X.P e = some sz) (hi : 0 ≤ i ∧ i < n) :
    AY X L tm ⟨d, .indexAddr t x y, ty, pos, af, gu⟩ (.pointer (some ⟨B, off + i.toNat * sz, none⟩)) := fun _ ac W _ s => by
  simp [execOp, s.eval hx, s.eval hy, Instr.indexAt, asIntOf, run_underlying (arrOf_spec ht), hi, run_sizeOf hs, addr_add, Instr.sureAddr, Result.andThen]

/-! ### Reading memory -/
/-- a block of cells is known -/
def CellsAt (X : Cx) (L : List As) (B : Nat) (cs : List Value) : Prop :=
  ∀ own W, Own L own → own.inW W → X.g.inW W → ∃ T fr, W.heap[B]? = some (.cells cs.toArray T fr)
theorem CellsAt.own {B : Nat} {cs : List Value} {T : TypeId} {fr : Nat × Nat} (i : Nat) (h : L[i]? = some (As.one B (.cells cs.toArray T fr))) : CellsAt X L B cs := fun own W o io _ => by
  obtain ⟨hh, hA, hs⟩ := own_sub o h
  rw [show hh = Hp.one B _ from hA] at hs
  exact ⟨T, fr, io _ _ (hs B _ (Hp.one_self _ _))⟩
theorem CellsAt.g {B : Nat} {cs : List Value} {T : TypeId} {fr : Nat × Nat} (h : X.g B = some (.cells cs.toArray T fr)) : CellsAt X L B cs := fun _ _ _ _ ig => ⟨T, fr, ig _ _ h⟩
def rdL (ag : Bool) (sz : Nat) (cs : List Value) (off : Nat) : Option Value :=
  match ag with
  | true => if off + sz ≤ cs.length then some (.agg ((cs.drop off).take sz).toArray) else none
  | false => cs[off]?
theorem run_loadVar {P : Program} {W : World} {t : TypeId} {ag : Bool} {sz B off : Nat} {cs : List Value} {T : TypeId} {fr : Nat × Nat} {v : Value} (ht : agOf P t = some ag) (hs : szOf P t = some sz) (hb : W.heap[B]? = some (.cells cs.toArray T fr)) (hv : rdL ag sz cs off = some v) :
    (loadVar t ⟨B, off, none⟩).run P W = .ok v W := by
  have hc : ∀ i, W.cell? ⟨B, i, none⟩ = cs[i]? := fun i => by simp [World.cell?, hb]
  cases ag with
  | false =>
    have hv' : cs[off]? = some v := hv
    simp [loadVar, run_isAgg ht, hc, hv', Result.andThen]
  | true =>
    simp only [rdL] at hv
    split at hv
    · rename_i hle
      cases hv
      have hlen : ((cs.drop off).take sz).length = sz := by simp; omega
      have := run_loadCells_list (P := P) W ⟨B, off, none⟩ ((cs.drop off).take sz) (fun j u hj => by
        rw [addr_add, hc, ← hj]
        have hlt : j < ((cs.drop off).take sz).length := (List.getElem?_eq_some_iff.1 hj).1
        rw [List.getElem?_take_of_lt (by rw [hlen] at hlt; exact hlt), List.getElem?_drop])
      rw [hlen] at this
      simp [loadVar, run_isAgg ht, run_sizeOf hs, this, Result.andThen]
    · cases hv
theorem AY.load {t : TypeId} {x : Operand} {B off sz : Nat} {ag : Bool} {cs : List Value} {v : Value} (hx : evo tm x = some (.pointer (some ⟨B, off, none⟩))) (ca : CellsAt X L B cs) (ht : agOf X.P t = some ag) (hs : szOf X.P t = some sz) (hv : rdL ag sz cs off = some v) :
    AY X L tm ⟨d, .load t x, ty, pos, af, gu⟩ v := fun own ac W o s => by
  obtain ⟨T, fr, hb⟩ := ca own W o s.ow s.rd
  simp [execOp, s.eval hx, Instr.loadAt, Instr.sureAddr, run_loadVar ht hs hb hv]
/-- a field of a struct that is a value -/
theorem AY.field {st t : TypeId} {x : Operand} {f n sz : Nat} {ag : Bool} {cs : List Value} {v : Value} {fs : Array Field} {fd : Field} (hx : evo tm x = some (.agg cs.toArray)) (hu : X.P.underlying st = some (.struct fs)) (hf : fs[f]? = some fd) (hn : fd.offset = n) (htt : fd.type = t) (ht : agOf X.P t = some ag) (hs : szOf X.P t = some sz) (hv : rdL ag sz cs n = some v) :
    AY X L tm ⟨d, .field st x f, ty, pos, af, gu⟩ v := fun own ac W o s => by
  subst hn htt
  have : (part fd.type cs.toArray fd.offset).run X.P W = .ok v W := by
    cases ag with
    | false =>
      have hv' : cs[fd.offset]? = some v := hv
      simp [part, run_isAgg ht, hv', Result.andThen]
    | true =>
      simp only [rdL] at hv
      split at hv
      · cases hv
        simp [part, run_isAgg ht, run_sizeOf hs, Result.andThen]
      · cases hv
  simp [execOp, s.eval hx, Instr.field, run_underlying hu, hf, asAgg, this]
/-- an element of an array that is a value -/
theorem AY.index {t e : TypeId} {x y : Operand} {n sz : Nat} {ag : Bool} {cs : List Value} {v : Value} {k : IntKind} {i : Int} (hx : evo tm x = some (.agg cs.toArray)) (hy : evo tm y = some (.int k i)) (ht : arrOf X.P t = some (n, e)) (hi : 0 ≤ i ∧ i < n) (ha : agOf X.P e = some ag) (hs : szOf X.P e = some sz) (hv : rdL ag sz cs (i.toNat * sz) = some v) :
    AY X L tm ⟨d, .index t x y, ty, pos, af, gu⟩ v := fun own ac W o s => by
  have : (part e cs.toArray (i.toNat * sz)).run X.P W = .ok v W := by
    cases ag with
    | false =>
      have hv' : cs[i.toNat * sz]? = some v := hv
      simp [part, run_isAgg ha, hv', Result.andThen]
    | true =>
      simp only [rdL] at hv
      split at hv
      · cases hv
        simp [part, run_isAgg ha, run_sizeOf hs, Result.andThen]
      · cases hv
  simp [execOp, s.eval hx, s.eval hy, Instr.index, asIntOf, run_underlying (arrOf_spec ht), hi, run_sizeOf hs, this, Result.andThen]

/-! ### New blocks -/
theorem AN.alloc {t : TypeId} {z : Value} (hz : zeroOf X.P t = some z) : AN X L tm ⟨d, .alloc t, ty, pos, af, gu⟩ (fun B => .pointer (some ⟨B, 0, none⟩)) (.cells z.cells t (0, 0)) := fun _ ac W _ s => by
  simp [execOp, Instr.alloc, run_zeroValue hz, newVar, newRow, Result.andThen]
theorem AN.box {t : TypeId} {x : Operand} {v : Value} (hx : evo tm x = some v) : AN X L tm ⟨d, .box t x, ty, pos, af, gu⟩ (fun B => .pointer (some ⟨B, 0, none⟩)) (.cells v.cells t (0, 0)) := fun _ ac W _ s => by
  simp [execOp, s.eval hx, Instr.box, newVar, newRow, Result.andThen]
theorem AN.makeMap {t : TypeId} : AN X L tm ⟨d, .makeMap t none, ty, pos, af, gu⟩ (fun B => .map (some B)) (.map #[] 0) := fun _ ac W _ s => by
  simp [execOp, Instr.makeMap, Result.andThen]

end Go.V
