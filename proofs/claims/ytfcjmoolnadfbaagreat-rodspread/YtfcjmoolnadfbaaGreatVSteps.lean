/- The logic of triples: a region's operations, one by one, in the order of the text; stores; calls of functions by their contracts. -/
import Derived.Test.YtfcjmoolnadfbaaGreatVOps
set_option linter.unusedVariables false
namespace Go.V

variable {X : Cx} {tm : Tl} {rs : List As}

def tput (d : Option Tmp) (v : Value) (tm : Tl) : Tl := match d with | some i => (i, v) :: tm | none => tm
def dOk (X : Cx) (d : Option Tmp) : Bool := match d with | some i => Nat.blt i X.N | none => true

theorem Sat.put {own : Hp} {a : Act} {W : World} (s : Sat X tm own a W) {d : Option Tmp} (hd : dOk X d = true) (v : Value) : Sat X (tput d v tm) own (a.put d v) W := by
  cases d with
  | none => exact s
  | some i =>
    have hi : i < X.N := by simpa [dOk] using hd
    exact { tmp := fun j u e => by
              simp only [tput, tget] at e
              split at e
              · rename_i h; subst h; cases e; simp [Act.put, s.size, hi]
              · rename_i h; simp [Act.put, Array.getElem?_setIfInBounds_ne (Ne.symm h), s.tmp j u e]
            size := by simp [Act.put, s.size], rd := s.rd, ow := s.ow, dis := s.dis, n0 := s.n0, marks := s.marks, round := s.round }

theorem LetsOut_mono {Q Q' : Exit → Act → World → Prop} (hq : ∀ e a w, Q e a w → Q' e a w) (h : LetsOut Q) : LetsOut Q' := let ⟨a, w, x⟩ := h; ⟨a, w, hq _ _ _ x⟩
/-- the state goes over to another world -/
theorem Sat.world {own own' : Hp} {a : Act} {W W' : World} (s : Sat X tm own a W) (f : Frm own W W') (g : Grow own own' W) (io : own'.inW W') : Sat X tm own' a W' where
  tmp := s.tmp
  size := s.size
  rd := f.inW s.dis s.rd
  ow := io
  dis := g.disj s.dis s.rd
  n0 := Nat.le_trans s.n0 f.size
  marks := let ⟨hm, h1, h2, h3⟩ := s.marks; ⟨hm, h1, g.disj h2 h3, f.inW h2 h3⟩
  round := fun l hl => by
    obtain ⟨⟨r, hr⟩, hn⟩ := s.round l hl
    have hlt := (Array.getElem?_eq_some_iff.1 hr).1
    refine ⟨⟨r, by rw [f.same l hlt hn]; exact hr⟩, ?_⟩
    cases e : own' l with
    | none => rfl
    | some x => rcases g l (by simp [e]) with y | y
                · exact absurd hn y
                · omega

theorem Frm.push (own : Hp) (W : World) (o : Obj) : Frm own W { W with heap := W.heap.push o } := ⟨by simp, fun B hB _ => by simp [Array.getElem?_push, Nat.ne_of_lt hB], rfl, rfl⟩

/-- a new block is owned -/
theorem own_new {own : Hp} {W : World} {obj : Obj} (o : Own rs own) (io : own.inW W) : Own (As.one W.heap.size obj :: rs) ((Hp.one W.heap.size obj).add own) ∧ ((Hp.one W.heap.size obj).add own).inW { W with heap := W.heap.push obj } ∧ Grow own ((Hp.one W.heap.size obj).add own) W := by
  have hn : own W.heap.size = none := by
    cases e : own W.heap.size with
    | none => rfl
    | some x => have := Hp.inW_lt io (B := W.heap.size) (by simp [e]); omega
  refine ⟨.cons rfl o (Hp.one_disj.2 hn), Hp.inW_add (Hp.inW_one (by simp)) (fun B x e => ?_), fun B hB => ?_⟩
  · have hlt := Hp.inW_lt io (B := B) (by simp [e])
    simp [Array.getElem?_push, Nat.ne_of_lt hlt, io B x e]
  · by_cases e : B = W.heap.size
    · exact .inr (by omega)
    · exact .inl fun h => hB (Hp.add_none.2 ⟨Hp.one_ne _ e, h⟩)

/-! ### One operation -/
/-- what an operation does, guards apart -/
def O1 (X : Cx) (tm : Tl) (rs : List As) (o : Oper) (K : Tl → List As → Prop) : Prop :=
  ∀ own a W, Own rs own → Sat X tm own a W → o.wpIn X.F 0 X.P a W (fun a' W' => ∃ tm' rs' own', Own rs' own' ∧ Sat X tm' own' a' W' ∧ Frm own W W' ∧ Grow own own' W ∧ K tm' rs') (fun _ _ _ => False)

def noDefer : Oper → Bool
  | { op := .defer _, .. } => false
  | _ => true
theorem wpIn_of_run {X : Cx} {o : Oper} {a : Act} {W : World} {K : Act → World → Prop} {Q : Exit → Act → World → Prop} (hn : noDefer o = true)
    (h : (o.uponIn X.F 0 X.P a K Q) ((execOp a.eval o).run X.P W)) : o.wpIn X.F 0 X.P a W K Q := by
  refine ⟨fun _ _ => trivial, ?_⟩
  rw [Oper.semAt_eq _ _ _ (fun c hc => by unfold noDefer at hn; obtain ⟨_, op, _, _, _, _⟩ := o; simp only at hc; subst hc; cases hn)]
  exact h

section
variable {o : Oper} {K : Tl → List As → Prop}
theorem O1.y {v : Value} (h : AY X rs tm o v) (hn : noDefer o = true) (hd : dOk X o.dst = true) (k : K (tput o.dst v tm) rs) : O1 X tm rs o K := fun own a W ho s => by
  refine wpIn_of_run hn ?_
  rw [h own a W ho s]
  exact ⟨_, _, own, ho, s.put hd v, Frm.refl _ _, Grow.refl _ _, k⟩
theorem O1.n {f : Nat → Value} {obj : Obj} (h : AN X rs tm o f obj) (hn : noDefer o = true) (hd : dOk X o.dst = true) (k : ∀ B, K (tput o.dst (f B) tm) (As.one B obj :: rs)) : O1 X tm rs o K := fun own a W ho s => by
  refine wpIn_of_run hn ?_
  rw [h own a W ho s]
  obtain ⟨o1, i1, g1⟩ := own_new (obj := obj) ho s.ow
  exact ⟨_, _, _, o1, (s.world (Frm.push own W obj) g1 i1).put hd _, Frm.push own W obj, g1, k _⟩
/-- a call: the callee is handed all that is owned here as something to read -/
theorem O1.c {f : FuncId} {args : Array Value} {Q : Value → List As → Prop} (h : AC X rs tm o f args) (hn : noDefer o = true) (hd : dOk X o.dst = true) (hc : ∀ own, Own rs own → X.g.disj own → Ct X.P f args (X.g.add own) [] Q)
    (k : ∀ v rs', Q v rs' → K (tput o.dst v tm) (rs' ++ rs)) : O1 X tm rs o K := fun own a W ho s => by
  refine wpIn_of_run hn ?_
  rw [h own a W ho s]
  refine ⟨fun hdep => (by cases hdep), ?_⟩
  have hcall := hc own ho s.dis Hp.emp W .nil (Hp.inW_add s.rd s.ow) (Hp.inW_emp _) (Hp.disj_emp _)
  have : CallsIn Fence.wide 0 X.P f args W _ := callsIn_wide.2 hcall
  refine CallsIn.mono (this : CallsIn X.F (0 - 1) X.P f args W _) ?_
  rintro e W' ⟨v, rs', own', rfl, o', i', fr, gr, q⟩
  have hdis : own'.disj own := fun B => by
    cases e : own' B with
    | none => exact .inl rfl
    | some x =>
      rcases gr B (by simp [e]) with y | y
      · exact absurd rfl y
      · refine .inr ?_
        cases e2 : own B with
        | none => rfl
        | some z => have := Hp.inW_lt s.ow (B := B) (by simp [e2]); omega
  have hf : Frm own W W' := fr.mono fun B _ => rfl
  have io : own.inW W' := fr.inW (Hp.disj_emp _) s.ow
  have hg : Grow own (own'.add own) W := fun B hB => by
    cases e : own B with
    | some x => exact .inl (by simp)
    | none =>
      refine .inr ?_
      have : own' B ≠ none := fun e' => hB (Hp.add_none.2 ⟨e', e⟩)
      rcases gr B this with y | y
      · exact absurd rfl y
      · exact y
  exact ⟨_, _, own'.add own, own_append.2 ⟨own', own, o', ho, hdis, rfl⟩, (s.world hf hg (Hp.inW_add i' io)).put hd v, hf, hg, k v rs' q⟩
/-- a call that is handed the first n of what is owned, to turn it -/
theorem O1.cm {f : FuncId} {args : Array Value} {l r : List As} {Q : Value → List As → Prop} (h : AC X (l ++ r) tm o f args) (hn : noDefer o = true) (hd : dOk X o.dst = true) (hc : ∀ own, Own r own → X.g.disj own → Ct X.P f args (X.g.add own) l Q)
    (k : ∀ v rs', Q v rs' → K (tput o.dst v tm) (rs' ++ r)) : O1 X tm (l ++ r) o K := fun own a W ho s => by
  refine wpIn_of_run hn ?_
  rw [h own a W ho s]
  refine ⟨fun hdep => (by cases hdep), ?_⟩
  obtain ⟨ol, or, hl, hr, hd2, e⟩ := own_append.1 ho
  subst e
  have dl := (Hp.disj_add.1 s.dis).1
  have dr := (Hp.disj_add.1 s.dis).2
  have il : ol.inW W := Hp.inW_left s.ow
  have ir : or.inW W := Hp.inW_right hd2 s.ow
  have hcall := hc or hr dr ol W hl (Hp.inW_add s.rd ir) il (Hp.add_disj.2 ⟨dl, Hp.disj_symm hd2⟩)
  have : CallsIn Fence.wide 0 X.P f args W _ := callsIn_wide.2 hcall
  refine CallsIn.mono (this : CallsIn X.F (0 - 1) X.P f args W _) ?_
  rintro e W' ⟨v, rs', own', rfl, o', i', fr, gr, q⟩
  have hdis : own'.disj or := Hp.disj_symm (gr.disj (Hp.disj_symm hd2) ir)
  have hf : Frm (ol.add or) W W' := fr.mono fun B hB => (Hp.add_none.1 hB).1
  have io : or.inW W' := fr.inW (Hp.disj_symm hd2) ir
  have hg : Grow (ol.add or) (own'.add or) W := fun B hB => by
    cases e : or B with
    | some x => exact .inl fun h => by have := (Hp.add_none.1 h).2; rw [e] at this; cases this
    | none =>
      have : own' B ≠ none := fun e' => hB (Hp.add_none.2 ⟨e', e⟩)
      rcases gr B this with y | y
      · exact .inl fun h => y (Hp.add_none.1 h).1
      · exact .inr y
  exact ⟨_, _, own'.add or, own_append.2 ⟨own', or, o', hr, hdis, rfl⟩, (s.world hf hg (Hp.inW_add i' io)).put hd v, hf, hg, k v rs' q⟩
end

/-! ### A call's function -/
def fnOk (P : Program) (f : FuncId) : Bool := match P.funcs[f]? with | some fn => fn.body.isSome && !(fn.name == "runtime.NumGoroutine") | none => false
theorem run_callFunc_ok {P : Program} {f : FuncId} (h : fnOk P f = true) (args : Array Value) (W : World) : (callFunc f args).run P W = .ok (.enter f args) W := by
  unfold fnOk at h
  split at h
  · rename_i fn hf
    simp only [Bool.and_eq_true, Bool.not_eq_true'] at h
    have hb : fn.body.isNone = false := by cases e : fn.body <;> simp_all
    simp only [callFunc, Sem.run_bind, run_program, Result.andThen, hf, h.2, hb, Bool.false_eq_true, if_false, Sem.run_pure]
  · cases h
theorem AC.call {d : Option Tmp} {ty : TypeId} {pos : String} {af : Array Edge} {gu : Option (Nat × Bool)} {c : Operand} {xs : List Operand} {ats : Array TypeId} {f : FuncId} {p q vs : List Value} {L : List As}
    (hc : evo tm c = some (.func (.func f) p.toArray q.toArray)) (hx : evs tm xs = some vs) (hf : fnOk X.P f = true) : AC X L tm ⟨d, .call ⟨.value c, xs.toArray, ats⟩, ty, pos, af, gu⟩ f (p ++ vs ++ q).toArray := fun own a W _ s => by
  simp [execOp, resolve, s.eval hc, s.evals hx, Deferred.ofValue, invoke, run_callFunc_ok hf]
/-- the value is said in another way -/
theorem AY.to {L : List As} {o : Oper} {v v' : Value} (h : AY X L tm o v) (e : v = v') : AY X L tm o v' := e ▸ h

/-! ### Stores -/
/-- what lies in a row of cells behind a store at off -/
def wrL (cs : List Value) (off : Nat) : List Value → List Value
  | [] => cs
  | v :: r => wrL (cs.set off v) (off + 1) r
theorem wrL_length (cs : List Value) (off : Nat) (vs : List Value) : (wrL cs off vs).length = cs.length := by
  induction vs generalizing cs off with
  | nil => rfl
  | cons v r ih => simp [wrL, ih]
def plainV : Value → Bool
  | .agg _ | .tuple _ => false
  | _ => true
theorem run_storeCells {P : Program} {T : TypeId} (B : Nat) : ∀ (vs : List Value) (off i : Nat) (cs : List Value) (W : World), W.heap[B]? = some (.cells cs.toArray T (0, 0)) → vs.all plainV = true → off + i + vs.length ≤ cs.length →
    ∃ W', (storeCells ⟨B, off, none⟩ vs i).run P W = .ok () W' ∧ W'.heap[B]? = some (.cells (wrL cs (off + i) vs).toArray T (0, 0)) ∧ W'.heap.size = W.heap.size ∧ (∀ b, b ≠ B → W'.heap[b]? = W.heap[b]?) ∧ IoEq W W'
  | [], off, i, cs, W, hb, _, _ => ⟨W, by simp [storeCells], by simpa [wrL] using hb, rfl, fun _ _ => rfl, IoEq.refl W⟩
  | v :: r, off, i, cs, W, hb, hv, hl => by
    simp only [List.all_cons, Bool.and_eq_true, List.length_cons] at hv hl
    have hlt : off + i < cs.length := by omega
    have hc : W.cell? ⟨B, off + i, none⟩ = some cs[off + i] := by simp [World.cell?, hb, hlt]
    have hfz : W.frozen? ⟨B, off + i, none⟩ = false := by simp [World.frozen?, hb]
    have hone : v.oneCell' = true := by cases v <;> simp_all [plainV, Value.oneCell']
    have hB : B < W.heap.size := (Array.getElem?_eq_some_iff.1 hb).1
    have hget : W.heap[B] = .cells cs.toArray T (0, 0) := (Array.getElem?_eq_some_iff.1 hb).2
    have hb' : (W.setCell ⟨B, off + i, none⟩ v).heap[B]? = some (.cells (cs.set (off + i) v).toArray T (0, 0)) := by
      simp only [World.setCell]
      rw [Array.getElem?_eq_getElem (by simpa using hB), Array.getElem_modify_self, hget]
      simp
    obtain ⟨W', h1, h2, h3, h4, h5⟩ := run_storeCells B r off (i + 1) (cs.set (off + i) v) _ hb' hv.2 (by simp; omega)
    refine ⟨W', ?_, ?_, ?_, ?_, IoEq.trans (show IoEq W (W.setCell ⟨B, off + i, none⟩ v) from ⟨rfl, rfl⟩) h5⟩
    · simp only [storeCells, Sem.run_bind, addr_add, run_store P W _ v _ hone, hc, hfz, Result.andThen]
      exact h1
    · simpa [wrL, Nat.add_assoc] using h2
    · rw [h3]; simp [World.setCell]
    · intro b hb2
      rw [h4 b hb2]
      simp only [World.setCell]
      rw [Array.getElem?_modify]
      simp [Ne.symm hb2]
theorem O1.store {d : Option Tmp} {ty : TypeId} {pos : String} {af : Array Edge} {gu : Option (Nat × Bool)} {t T : TypeId} {x y : Operand} {B off sz : Nat} {cs : List Value} {v : Value} {K : Tl → List As → Prop} (i : Nat)
    (hx : evo tm x = some (.pointer (some ⟨B, off, none⟩))) (hy : evo tm y = some v) (hi : rs[i]? = some (As.one B (.cells cs.toArray T (0, 0)))) (hs : szOf X.P t = some sz) (hz : v.cells.size = sz) (hp : v.cells.toList.all plainV = true) (hl : off + sz ≤ cs.length) (hd : dOk X d = true)
    (k : K (tput d undef tm) (rs.set i (As.one B (.cells (wrL cs off v.cells.toList).toArray T (0, 0))))) : O1 X tm rs ⟨d, .store t x y, ty, pos, af, gu⟩ K := fun own a W ho s => by
  refine wpIn_of_run rfl ?_
  obtain ⟨h1, k1, hA, hk, hd1, e, hset⟩ := own_take ho hi
  obtain rfl : h1 = Hp.one B _ := hA
  have hb : W.heap[B]? = some (.cells cs.toArray T (0, 0)) := s.ow B _ (by rw [e]; simp [Hp.add, Hp.one])
  obtain ⟨W', r1, r2, r3, r4, r5⟩ := run_storeCells (P := X.P) B v.cells.toList off 0 cs W hb hp (by simp [hz]; omega)
  have hrun : (execOp a.eval ⟨d, .store t x y, ty, pos, af, gu⟩).run X.P W = .ok .skip W' := by
    simp [execOp, s.eval hx, s.eval hy, Instr.storeAt, Instr.sureAddr, storeVar, run_sizeOf hs, hz, Result.andThen, r1]
  rw [hrun]
  have hf : Frm own W W' := ⟨by rw [r3]; exact Nat.le_refl _, fun b _ hn => r4 b fun e' => by
    subst e'; rw [e] at hn; simp [Hp.add, Hp.one] at hn, r5⟩
  have hkB : k1 B = none := (hd1 B).resolve_left (by simp [Hp.one])
  have hg : Grow own ((Hp.one B (.cells (wrL cs off v.cells.toList).toArray T (0, 0))).add k1) W := fun b hb2 => by
    refine .inl fun e' => hb2 ?_
    rw [e] at e'
    obtain ⟨e1, e2⟩ := Hp.add_none.1 e'
    refine Hp.add_none.2 ⟨Hp.one_ne _ fun e3 => ?_, e2⟩
    subst e3; simp [Hp.one] at e1
  have hi' : ((Hp.one B (.cells (wrL cs off v.cells.toList).toArray T (0, 0))).add k1).inW W' := Hp.inW_add (Hp.inW_one (by simpa using r2)) fun b o' e' => by
    rw [r4 b fun e3 => by subst e3; rw [hkB] at e'; cases e']
    exact s.ow b o' (by rw [e]; rw [Hp.add_comm hd1]; simp [Hp.add, e'])
  exact ⟨_, _, _, hset (As.one B _) _ rfl (Hp.one_disj.2 hkB), (s.world hf hg hi').put hd _, hf, hg, k⟩

/-! ### A region's operations in the order of the text -/
def Wanted (ops : Array Oper) (tm : Tl) : Option (Nat × Bool) → Prop
  | none => True
  | some (j, b) => ∃ dj, ((ops[j]?).bind (·.dst)) = some dj ∧ tget tm dj = some (.bool b)
/-- a guard's slot holds the other answer, or nothing -/
def unwB (b : Bool) : Option Value → Bool
  | some (.bool c) => c == !b
  | some (.tuple _) => true
  | _ => false
def Unwanted (ops : Array Oper) (tm : Tl) : Option (Nat × Bool) → Prop
  | none => False
  | some (j, b) => ∃ dj, ((ops[j]?).bind (·.dst)) = some dj ∧ unwB b (tget tm dj) = true

def TO (X : Cx) (ops : Array Oper) (i : Nat) (rest : List Oper) (tm : Tl) (rs : List As) (K : Tl → List As → Prop) : Prop :=
  ops.toList.drop i = rest → ∀ own a W, Own rs own → Sat X tm own a W →
    wpOpsIn X.F 0 X.P ops (fun e a' W' => e = .normal ∧ ∃ tm' rs' own', Own rs' own' ∧ Sat X tm' own' a' W' ∧ Frm own W W' ∧ Grow own own' W ∧ K tm' rs') (List.range' i rest.length) a W

section
variable {ops : Array Oper} {i : Nat} {o : Oper} {rest : List Oper} {K : Tl → List As → Prop}
theorem TO.nil (k : K tm rs) : TO X ops i [] tm rs K := fun _ own _ _ ho s => ⟨rfl, tm, rs, own, ho, s, Frm.refl _ _, Grow.refl _ _, k⟩

theorem wanted_of {own : Hp} {a : Act} {W : World} (s : Sat X tm own a W) (h : Wanted ops tm o.guard) : Region.wanted o (yielded ops a.tmps) = true := by
  unfold Region.wanted
  cases hg : o.guard with
  | none => rfl
  | some p =>
    obtain ⟨j, b⟩ := p
    rw [hg] at h
    obtain ⟨dj, h1, h2⟩ := h
    simp [yielded, h1, s.tmp dj _ h2]
theorem unwanted_of {own : Hp} {a : Act} {W : World} (s : Sat X tm own a W) (h : Unwanted ops tm o.guard) : Region.wanted o (yielded ops a.tmps) = false := by
  unfold Region.wanted
  cases hg : o.guard with
  | none => rw [hg] at h; exact h.elim
  | some p =>
    obtain ⟨j, b⟩ := p
    rw [hg] at h
    obtain ⟨dj, h1, h2⟩ := h
    unfold unwB at h2
    split at h2
    · rename_i c hc
      have := s.tmp dj _ hc
      have e : c = !b := by simpa using h2
      subst e
      simp [yielded, h1, this]
    · rename_i hc
      simp [yielded, h1, s.tmp dj _ hc]
    · cases h2

theorem wpOpsIn_mono {F : Fence} {n : Nat} {P : Program} {Q Q' : Exit → Act → World → Prop} (hq : ∀ e a w, Q e a w → Q' e a w) : ∀ (l : List Nat) (a : Act) (w : World), wpOpsIn F n P ops Q l a w → wpOpsIn F n P ops Q' l a w
  | [], a, w, h => hq _ _ _ h
  | i :: r, a, w, h => by
    simp only [wpOpsIn] at h ⊢
    cases ho : ops[i]? with
    | none => rw [ho] at h; exact wpOpsIn_mono hq r a w h
    | some o =>
      rw [ho] at h
      simp only at h ⊢
      split
      · rename_i hw; rw [if_pos hw] at h
        refine ⟨h.1, ?_⟩
        have h2 := h.2
        revert h2
        generalize (o.semAt F.round a.eval).run P w = res
        intro h2
        cases res with
        | ok nx w' =>
          cases nx with
          | value v => exact wpOpsIn_mono hq r _ _ h2
          | skip => exact wpOpsIn_mono hq r _ _ h2
          | defer dd => exact wpOpsIn_mono hq r _ _ h2
          | enter f args => exact ⟨h2.1, h2.2.mono fun e w'' he => by cases e with | returned v => exact wpOpsIn_mono hq r _ _ he | panicked ch => exact hq _ _ _ he | outgrown => exact LetsOut_mono hq he⟩
          | row rw' args => exact ⟨h2.1, h2.2.mono fun v w'' he => wpOpsIn_mono hq r _ _ he⟩
          | round l f tmps as bd => exact ⟨h2.1, h2.2.mono fun e w'' he => by cases e with | returned v => exact wpOpsIn_mono hq r _ _ he | panicked ch => exact hq _ _ _ he | outgrown => exact LetsOut_mono hq he⟩
          | _ => exact h2
        | halt hh w' => cases hh with
          | panic v => exact hq _ _ _ h2
          | _ => exact h2
      · rename_i hw; rw [if_neg hw] at h
        exact ⟨h.1, wpOpsIn_mono hq r _ _ h.2⟩

theorem TO.cons (hw : Wanted ops tm o.guard) (h : O1 X tm rs o (fun tm' rs' => TO X ops (i + 1) rest tm' rs' K)) : TO X ops i (o :: rest) tm rs K := fun hdrop own a W ho s => by
  have hio : ops[i]? = some o := by
    have : (ops.toList.drop i)[0]? = some o := by rw [hdrop]; rfl
    rw [List.getElem?_drop] at this
    simpa using this
  have hdrop' : ops.toList.drop (i + 1) = rest := by
    have : (ops.toList.drop i).drop 1 = rest := by rw [hdrop]; rfl
    rwa [List.drop_drop] at this
  show wpOpsIn _ _ _ _ _ (i :: List.range' (i + 1) rest.length) a W
  simp only [wpOpsIn, hio]
  rw [if_pos (wanted_of s hw)]
  have h1 := h own a W ho s
  refine ⟨h1.1, ?_⟩
  have h2 := h1.2
  revert h2
  generalize (o.semAt X.F.round a.eval).run X.P W = res
  have key : ∀ a' W', (∃ tm' rs' own', Own rs' own' ∧ Sat X tm' own' a' W' ∧ Frm own W W' ∧ Grow own own' W ∧ TO X ops (i + 1) rest tm' rs' K) →
      wpOpsIn X.F 0 X.P ops (fun e a' W' => e = .normal ∧ ∃ tm' rs' own', Own rs' own' ∧ Sat X tm' own' a' W' ∧ Frm own W W' ∧ Grow own own' W ∧ K tm' rs') (List.range' (i + 1) rest.length) a' W' := by
    rintro a' W' ⟨tm', rs', own', o', s', f, g, hto⟩
    refine wpOpsIn_mono ?_ _ _ _ (hto hdrop' own' a' W' o' s')
    rintro e a2 W2 ⟨he, tm2, rs2, own2, o2, s2, f2, g2, k2⟩
    exact ⟨he, tm2, rs2, own2, o2, s2, f.trans g f2, g.trans f.size g2, k2⟩
  intro h2
  cases res with
  | ok nx w' =>
    cases nx with
    | value v => exact key _ _ h2
    | skip => exact key _ _ h2
    | defer dd => exact key _ _ h2
    | enter f args => exact ⟨h2.1, h2.2.mono fun e w'' he => by cases e with | returned v => exact key _ _ he | panicked ch => exact he.elim | outgrown => exact LetsOut_mono (fun _ _ _ h => h.elim) he⟩
    | row rw' args => exact ⟨h2.1, h2.2.mono fun v w'' he => key _ _ he⟩
    | round l f tmps as bd => exact ⟨h2.1, h2.2.mono fun e w'' he => by cases e with | returned v => exact key _ _ he | panicked ch => exact he.elim | outgrown => exact LetsOut_mono (fun _ _ _ h => h.elim) he⟩
    | _ => exact h2
  | halt hh w' => cases hh with
    | panic v => exact h2.elim
    | _ => exact h2
theorem TO.skip (hw : Unwanted ops tm o.guard) (hd : dOk X o.dst = true) (h : TO X ops (i + 1) rest (tput o.dst undef tm) rs K) : TO X ops i (o :: rest) tm rs K := fun hdrop own a W ho s => by
  have hio : ops[i]? = some o := by
    have : (ops.toList.drop i)[0]? = some o := by rw [hdrop]; rfl
    rw [List.getElem?_drop] at this
    simpa using this
  have hdrop' : ops.toList.drop (i + 1) = rest := by
    have : (ops.toList.drop i).drop 1 = rest := by rw [hdrop]; rfl
    rwa [List.drop_drop] at this
  show wpOpsIn _ _ _ _ _ (i :: List.range' (i + 1) rest.length) a W
  simp only [wpOpsIn, hio]
  rw [if_neg (by rw [unwanted_of s hw]; simp)]
  exact ⟨fun _ _ => trivial, h hdrop' own _ W ho (s.put hd undef)⟩
/-- the same states, another end -/
theorem TO.mono {K' : Tl → List As → Prop} (h : TO X ops i rest tm rs K) (hk : ∀ tm rs, K tm rs → K' tm rs) : TO X ops i rest tm rs K' := fun hdrop own a W ho s =>
  wpOpsIn_mono (fun _ _ _ ⟨he, tm2, rs2, own2, o2, s2, f2, g2, k2⟩ => ⟨he, tm2, rs2, own2, o2, s2, f2, g2, hk _ _ k2⟩) _ _ _ (h hdrop own a W ho s)
/-- on what a slot holds the way parts -/
theorem TO.split (t : Nat) {b : Bool} (hb : tget tm t = some (.bool b)) (h1 : b = true → TO X ops i rest ((t, .bool true) :: tm) rs K) (h2 : b = false → TO X ops i rest ((t, .bool false) :: tm) rs K) : TO X ops i rest tm rs K := fun hdrop own a W ho s => by
  have hs : ∀ c, b = c → Sat X ((t, .bool c) :: tm) own a W := fun c e => s.tmps fun j u e' => by
    unfold tget at e'
    split at e'
    · rename_i hj; subst hj; subst e; cases e'; exact s.tmp _ _ hb
    · exact s.tmp _ _ e'
  cases b with
  | true => exact h1 rfl hdrop own a W ho (hs true rfl)
  | false => exact h2 rfl hdrop own a W ho (hs false rfl)
theorem TO.weak {tm' : Tl} {rs' : List As} (ht : TSub tm' tm) (hr : RSub rs' rs) (h : TO X ops i rest tm' rs' K) : TO X ops i rest tm rs K := fun hdrop own a W ho s => by
  obtain ⟨own', o', hs⟩ := hr own ho
  refine wpOpsIn_mono ?_ _ _ _ (h hdrop own' a W o' (s.weak ht hs))
  rintro e a2 W2 ⟨he, tm2, rs2, own2, o2, s2, f2, g2, k2⟩
  exact ⟨he, tm2, rs2, own2, o2, s2, f2.mono (fun B hB => RSub.none hs hB), fun B hB => (g2 B hB).imp (fun y e => y (RSub.none hs e)) id, k2⟩
theorem TO.ex {α : Type} {A : α → As} (h : ∀ x, TO X ops i rest tm (A x :: rs) K) : TO X ops i rest tm (As.ex A :: rs) K := fun hdrop own a W o s => by
  obtain ⟨b, k, ⟨x, hx⟩, hk, d, e⟩ := own_cons.1 o
  subst e
  exact h x hdrop _ a W (.cons hx hk d) s
/-! short forms -/
theorem TO.y {v : Value} (h : AY X rs tm o v) (hw : Wanted ops tm o.guard) (hn : noDefer o = true) (hd : dOk X o.dst = true) (k : TO X ops (i + 1) rest (tput o.dst v tm) rs K) : TO X ops i (o :: rest) tm rs K := .cons hw (.y h hn hd k)
theorem TO.n {f : Nat → Value} {obj : Obj} (h : AN X rs tm o f obj) (hw : Wanted ops tm o.guard) (hn : noDefer o = true) (hd : dOk X o.dst = true) (k : ∀ B, TO X ops (i + 1) rest (tput o.dst (f B) tm) (As.one B obj :: rs) K) : TO X ops i (o :: rest) tm rs K := .cons hw (.n h hn hd k)
theorem TO.c {f : FuncId} {args : Array Value} {Q : Value → List As → Prop} (h : AC X rs tm o f args) (hw : Wanted ops tm o.guard) (hn : noDefer o = true) (hd : dOk X o.dst = true) (hc : ∀ own, Own rs own → X.g.disj own → Ct X.P f args (X.g.add own) [] Q)
    (k : ∀ v rs', Q v rs' → TO X ops (i + 1) rest (tput o.dst v tm) (rs' ++ rs) K) : TO X ops i (o :: rest) tm rs K := .cons hw (.c h hn hd hc k)
theorem TO.rsub {rs' : List As} (hr : RSub rs' rs) (h : TO X ops i rest tm rs' K) : TO X ops i rest tm rs K := fun hdrop own a W ho s => by
  obtain ⟨own', o', hs⟩ := hr own ho
  refine wpOpsIn_mono ?_ _ _ _ (h hdrop own' a W o' (s.less hs))
  rintro e a2 W2 ⟨he, tm2, rs2, own2, o2, s2, f2, g2, k2⟩
  exact ⟨he, tm2, rs2, own2, o2, s2, f2.mono (fun B hB => RSub.none hs hB), fun B hB => (g2 B hB).imp (fun y e => y (RSub.none hs e)) id, k2⟩
/-- a call that is handed a part of what is owned, to turn it -/
theorem TO.cm {f : FuncId} {args : Array Value} {l r : List As} {Q : Value → List As → Prop} (hr : RSub (l ++ r) rs) (h : AC X (l ++ r) tm o f args) (hw : Wanted ops tm o.guard) (hn : noDefer o = true) (hd : dOk X o.dst = true) (hc : ∀ own, Own r own → X.g.disj own → Ct X.P f args (X.g.add own) l Q)
    (k : ∀ v rs', Q v rs' → TO X ops (i + 1) rest (tput o.dst v tm) (rs' ++ r) K) : TO X ops i (o :: rest) tm rs K := .rsub hr (.cons hw (.cm h hn hd hc k))
end

theorem wpIn_region_text {F : Fence} {n : Nat} {P : Program} {ops : Array Oper} {id : Nat} {Q : Exit → Act → World → Prop} {a : Act} {w : World} (h : wpOpsIn F n P ops Q (List.range ops.size) a w) : (Code.region id ops false).wpIn F n P Q a w := by
  intro b k cs hro hb hr
  obtain ⟨e, a', w', hq, harr⟩ := wp_opsIn _ a w h b k cs hro hb hr
  exact ⟨e, a', w', hq, .of_steps (.one (fenced_calm hb hr rfl) stepR_region) harr⟩

/-- **A region in the order of the text.** -/
theorem T.region {id : Nat} {l : List Oper} {Q : Exit → Tl → List As → Prop} (h : TO X l.toArray 0 l tm rs (fun tm' rs' => Q .normal tm' rs')) : T X tm rs (.region id l.toArray false) Q := fun own a W ho s => by
  refine wpIn_region_text ?_
  have h1 := h (by simp) own a W ho s
  have e : List.range l.toArray.size = List.range' 0 l.length := by simp [List.range_eq_range']
  rw [e]
  refine wpOpsIn_mono ?_ _ _ _ h1
  rintro e a' W' ⟨rfl, tm2, rs2, own2, o2, s2, f2, g2, k2⟩
  exact ⟨tm2, rs2, own2, o2, s2, f2, g2, k2⟩

/-! ### Results -/
theorem ResOk.one {P : Program} {fn : Func} {own g : Hp} {t : Nat} {v : Value} (hr : fn.results = #[.tmp t]) (hv : tget tm t = some v) : ResOk P fn tm own g v := fun a W ht _ _ => by
  simp [results, hr, ht t v hv, Array.getD_eq_getD_getElem?]
theorem ResOk.two {P : Program} {fn : Func} {own g : Hp} {t u : Nat} {v w : Value} (hr : fn.results = #[.tmp t, .tmp u]) (hv : tget tm t = some v) (hw : tget tm u = some w) : ResOk P fn tm own g (.tuple #[v, w]) := fun a W ht _ _ => by
  simp [results, hr, ht t v hv, ht u w hw, Array.getD_eq_getD_getElem?]
theorem ResOk.zero {P : Program} {fn : Func} {own g : Hp} (hr : fn.results = #[]) : ResOk P fn tm own g (.tuple #[]) := fun a W _ _ _ => by
  simp [results, hr]
theorem ResOk.cell {P : Program} {fn : Func} {own g : Hp} {t B sz : Nat} {ty T : TypeId} {fr : Nat × Nat} {cs : List Value} {ag : Bool} {v : Value} (hr : fn.results = #[.cell t ty]) (ht : tget tm t = some (.pointer (some ⟨B, 0, none⟩))) (hb : own B = some (.cells cs.toArray T fr)) (ha : agOf P ty = some ag) (hs : szOf P ty = some sz) (hv : rdL ag sz cs 0 = some v) :
    ResOk P fn tm own g v := fun a W htm io _ => by
  simp [results, hr, htm t _ ht, Array.getD_eq_getD_getElem?, asAddr, run_loadVar ha hs (io _ _ hb) hv]

end Go.V
