/- The logic of triples: a region whose order Go leaves open: if its operations, taken in the order of the text, each need no more than what the operations before them that bind them leave, then every order that the model may draw comes to the same state. -/
import Derived.Test.YtfcjmoolnadfbaaGreatVSteps
import Derived.OrdersIn
set_option linter.unusedVariables false
namespace Go.V

/-! ### What is asked of the operations' edges, by a closed check -/
def bitOf (pb : List Nat) (i j : Nat) : Bool := (pb.getD i 0).testBit j

/-- pb: for each operation the operations that surely come before it, by bits; from the m-th on all is forced. -/
def chk (ops : Array Oper) (pb : List Nat) (m N : Nat) : Bool :=
  (List.range ops.size).all fun i =>
    match ops[i]? with
    | none => false
    | some o =>
      noDefer o && (match o.op with | .select .. => false | _ => true) && (match o.dst with | some d => Nat.blt d N | none => true) &&
      (o.after.all fun e => !Region.binds .any e || Nat.blt e.on i) &&
      ((List.range ops.size).all fun j =>
        (!bitOf pb i j || (Nat.blt j i && o.after.any fun e => Region.binds .any e && (e.on == j || (Nat.blt e.on i && bitOf pb e.on j)))) &&
        (match ops[j]? with
         | none => false
         | some oj => i == j || ((match oj.dst with | some t => !(o.looksAt ops).contains t || bitOf pb i j || bitOf pb j i | none => true) && (match o.dst, oj.dst with | some t, some u => !(t == u) | _, _ => true))) &&
        (!(Nat.ble m i && Nat.blt j i) || bitOf pb i j))

structure Chk (ops : Array Oper) (pb : List Nat) (m N : Nat) : Prop where
  nodef : ∀ (i : Nat) (o : Oper), ops[i]? = some o → noDefer o = true
  nosel : ∀ (i : Nat) (o : Oper) cs b, ops[i]? = some o → o.op ≠ .select cs b
  dst : ∀ (i : Nat) (o : Oper) d, ops[i]? = some o → o.dst = some d → d < N
  edge : ∀ (i : Nat) (o : Oper) e, ops[i]? = some o → e ∈ o.after → Region.binds .any e = true → e.on < i
  pre : ∀ (i : Nat) (o : Oper) (j : Nat), ops[i]? = some o → j < ops.size → bitOf pb i j = true → j < i ∧ ∃ e ∈ o.after, Region.binds .any e = true ∧ (e.on = j ∨ (e.on < i ∧ bitOf pb e.on j = true))
  rd : ∀ (i j : Nat) (oi oj : Oper) (t : Tmp), ops[i]? = some oi → ops[j]? = some oj → i ≠ j → oj.dst = some t → t ∈ oi.looksAt ops → bitOf pb i j = true ∨ bitOf pb j i = true
  wr : ∀ (i j : Nat) (oi oj : Oper) (t : Tmp), ops[i]? = some oi → ops[j]? = some oj → i ≠ j → oi.dst = some t → oj.dst ≠ some t
  tail : ∀ i j, m ≤ i → i < ops.size → j < i → bitOf pb i j = true

theorem chk_spec {ops : Array Oper} {pb : List Nat} {m N : Nat} (h : chk ops pb m N = true) : Chk ops pb m N := by
  unfold chk at h
  rw [List.all_eq_true] at h
  have lt : ∀ {i : Nat} {o : Oper}, ops[i]? = some o → i < ops.size := fun h => (Array.getElem?_eq_some_iff.1 h).1
  have key : ∀ i o, ops[i]? = some o →
      noDefer o = true ∧ (match o.op with | .select .. => false | _ => true) = true ∧ (match o.dst with | some d => Nat.blt d N | none => true) = true ∧
      (∀ e ∈ o.after, Region.binds .any e = true → e.on < i) ∧
      (∀ j, j < ops.size → (bitOf pb i j = true → j < i ∧ ∃ e ∈ o.after, Region.binds .any e = true ∧ (e.on = j ∨ (e.on < i ∧ bitOf pb e.on j = true))) ∧
        (∀ oj, ops[j]? = some oj → i ≠ j → (∀ t, oj.dst = some t → t ∈ o.looksAt ops → bitOf pb i j = true ∨ bitOf pb j i = true) ∧ (∀ t, o.dst = some t → oj.dst ≠ some t)) ∧
        (m ≤ i → j < i → bitOf pb i j = true)) := by
    intro i o hi
    have h1 := h i (List.mem_range.2 (lt hi))
    rw [hi] at h1
    simp only [Bool.and_eq_true] at h1
    obtain ⟨⟨⟨⟨a1, a2⟩, a3⟩, a4⟩, a5⟩ := h1
    refine ⟨a1, a2, a3, fun e he hb => ?_, fun j hj => ?_⟩
    · rw [Array.all_eq_true'] at a4
      have := a4 e he
      simp only [hb, Bool.not_true, Bool.false_or] at this
      simpa using this
    · rw [List.all_eq_true] at a5
      have h2 := a5 j (List.mem_range.2 hj)
      simp only [Bool.and_eq_true] at h2
      obtain ⟨⟨b1, b2⟩, b3⟩ := h2
      refine ⟨fun hb => ?_, fun oj hoj hne => ?_, fun hm hji => ?_⟩
      · simp only [hb, Bool.not_true, Bool.false_or, Bool.and_eq_true] at b1
        obtain ⟨c1, c2⟩ := b1
        rw [Array.any_eq_true'] at c2
        obtain ⟨e, he, hp⟩ := c2
        simp only [Bool.and_eq_true, Bool.or_eq_true, beq_iff_eq] at hp
        exact ⟨by simpa using c1, e, he, hp.1, hp.2.imp id fun x => ⟨by simpa using x.1, x.2⟩⟩
      · rw [hoj] at b2
        have hne' : (i == j) = false := by simpa using hne
        simp only [hne', Bool.false_or, Bool.and_eq_true] at b2
        refine ⟨fun t ht hl => ?_, fun t ht hc => ?_⟩
        · rw [ht] at b2
          have := b2.1
          simp only [Bool.or_eq_true, Bool.not_eq_true', List.contains_eq_mem, decide_eq_false_iff_not] at this
          rcases this with (x | x) | x
          · exact absurd hl x
          · exact .inl x
          · exact .inr x
        · rw [ht, hc] at b2
          simp at b2
      · have e1 : Nat.ble m i = true := by simpa using hm
        have e2 : Nat.blt j i = true := by simpa using hji
        simpa only [e1, e2, Bool.and_self, Bool.not_true, Bool.false_or] using b3
  refine ⟨fun i o hi => (key i o hi).1, fun i o cs b hi hs => ?_, fun i o d hi hd => ?_, fun i o e hi he hb => (key i o hi).2.2.2.1 e he hb, fun i o j hi hj hb => ((key i o hi).2.2.2.2 j hj).1 hb,
    fun i j oi oj t hi hj hne ht hl => (((key i oi hi).2.2.2.2 j (lt hj)).2.1 oj hj hne).1 t ht hl, fun i j oi oj t hi hj hne ht => (((key i oi hi).2.2.2.2 j (lt hj)).2.1 oj hj hne).2 t ht,
    fun i j hm hi hji => ?_⟩
  · have := (key i o hi).2.1; rw [hs] at this; cases this
  · have := (key i o hi).2.2.1; rw [hd] at this; simpa using this
  · have hi' : ops[i]? = some ops[i] := Array.getElem?_eq_getElem hi
    exact ((key i _ hi').2.2.2.2 j (by omega)).2.2 hm hji

/-! ### Operations in the order of the text, each from what binds it -/
/-- what the operations that bind the i-th have left (fr: the last one first) -/
def avl (bi : Nat) : List (List As) → List As
  | [] => []
  | r :: fr => if bi.testBit fr.length then r ++ avl bi fr else avl bi fr

def A1 (X : Cx) (CS : Nat → Array Value → Value → List As → Prop) (i : Nat) (o : Oper) (tm : Tl) (L : List As) (KK : Value → List As → Prop) : Prop :=
  ∀ own a W, Own L own → Sat X tm own a W →
    (∃ v, (execOp a.eval o).run X.P W = .ok (.value v) W ∧ KK v []) ∨
    (∃ v obj, (execOp a.eval o).run X.P W = .ok (.value v) { W with heap := W.heap.push obj } ∧ KK v [As.one W.heap.size obj]) ∨
    (∃ f args, (execOp a.eval o).run X.P W = .ok (.enter f args) W ∧ Ct X.P f args (X.g.add own) [] (CS i args) ∧ ∀ v rs', CS i args v rs' → KK v rs')

def TD (X : Cx) (CS : Nat → Array Value → Value → List As → Prop) (ops : Array Oper) (pb : List Nat) (rs : List As) (K : Tl → List As → Prop) : Nat → List Oper → Tl → List (List As) → Prop
  | _, [], tm, fr => K tm (fr.flatten ++ rs)
  | i, o :: rest, tm, fr =>
    (Wanted ops tm o.guard ∧ A1 X CS i o tm (avl (pb.getD i 0) fr ++ rs) (fun v rs' => TD X CS ops pb rs K (i + 1) rest (tput o.dst v tm) (rs' :: fr))) ∨
    (Unwanted ops tm o.guard ∧ TD X CS ops pb rs K (i + 1) rest (tput o.dst undef tm) ([] :: fr))

section sound
variable {X : Cx} {CS : Nat → Array Value → Value → List As → Prop} {ops : Array Oper} {pb : List Nat} {m : Nat} {rs : List As} {K : Tl → List As → Prop} {tm0 : Tl} {own0 : Hp} {a0 : Act} {W0 : World}

/-- what each operation came to -/
structure Outs where
  v : Nat → Value
  r : Nat → List As
  h : Nat → Hp

def aT (ops : Array Oper) (a0 : Act) (u : Outs) : Nat → Act
  | 0 => a0
  | i + 1 => (aT ops a0 u i).put ((ops[i]?).bind (·.dst)) (u.v i)
def tT (ops : Array Oper) (tm0 : Tl) (u : Outs) : Nat → Tl
  | 0 => tm0
  | i + 1 => tput ((ops[i]?).bind (·.dst)) (u.v i) (tT ops tm0 u i)
def fT (u : Outs) : Nat → List (List As)
  | 0 => []
  | i + 1 => u.r i :: fT u i
theorem fT_length (u : Outs) : ∀ i, (fT u i).length = i
  | 0 => rfl
  | i + 1 => by simp [fT, fT_length u i]

theorem aT_size (u : Outs) : ∀ i, (aT ops a0 u i).tmps.size = a0.tmps.size
  | 0 => rfl
  | i + 1 => by
    simp only [aT]
    cases (ops[i]?).bind (·.dst) <;> simp [Act.put, aT_size u i]
theorem aT_defers (u : Outs) : ∀ i, (aT ops a0 u i).defers = a0.defers
  | 0 => rfl
  | i + 1 => by
    simp only [aT]
    cases (ops[i]?).bind (·.dst) <;> simp [Act.put, aT_defers u i]
/-- a slot on the way: its writer's, or as it was -/
theorem aT_hit (C : Chk ops pb m X.N) (hs : a0.tmps.size = X.N) (u : Outs) : ∀ i j o t, j < i → i ≤ ops.size → ops[j]? = some o → o.dst = some t → (aT ops a0 u i).tmps[t]? = some (u.v j)
  | 0, _, _, _, h, _, _, _ => by omega
  | i + 1, j, o, t, h, hi, ho, ht => by
    simp only [aT]
    by_cases e : j = i
    · subst e
      simp only [ho, Option.bind_some, ht, Act.put]
      have := C.dst _ _ _ ho ht
      simp [aT_size, hs, this]
    · have ih := aT_hit C hs u i j o t (by omega) (by omega) ho ht
      have hio : ops[i]? = some ops[i] := Array.getElem?_eq_getElem (by omega)
      rw [hio]; simp only [Option.bind_some]
      cases hd : ops[i].dst with
      | none => exact ih
      | some d =>
        have hne : d ≠ t := fun e' => C.wr j i o _ t ho hio e ht (by rw [hd, e'])
        simp [Act.put, Array.getElem?_setIfInBounds_ne hne, ih]
theorem aT_miss (u : Outs) : ∀ i t, i ≤ ops.size → (∀ j o, j < i → ops[j]? = some o → o.dst ≠ some t) → (aT ops a0 u i).tmps[t]? = a0.tmps[t]?
  | 0, _, _, _ => rfl
  | i + 1, t, hi, h => by
    simp only [aT]
    have ih := aT_miss u i t (by omega) fun j o hj => h j o (by omega)
    have hio : ops[i]? = some ops[i] := Array.getElem?_eq_getElem (by omega)
    rw [hio]; simp only [Option.bind_some]
    cases hd : ops[i].dst with
    | none => exact ih
    | some d =>
      have hne : d ≠ t := fun e' => h i _ (by omega) hio (by rw [hd, e'])
      simp [Act.put, Array.getElem?_setIfInBounds_ne hne, ih]
theorem sat_T (C : Chk ops pb m X.N) (u : Outs) {own : Hp} {W : World} (s : Sat X tm0 own a0 W) : ∀ i, i ≤ ops.size → Sat X (tT ops tm0 u i) own (aT ops a0 u i) W
  | 0, _ => s
  | i + 1, hi => by
    refine (sat_T C u s i (by omega)).put ?_ _
    have hio : ops[i]? = some ops[i] := Array.getElem?_eq_getElem (by omega)
    rw [hio]; simp only [Option.bind_some]
    cases hd : ops[i].dst with
    | none => rfl
    | some d => simpa [dOk] using C.dst _ _ _ hio hd

/-- two outcomes that agree on what binds i -/
def Agr (pb : List Nat) (i : Nat) (u u' : Outs) : Prop := ∀ j, j < i → bitOf pb i j = true → u.v j = u'.v j ∧ u.r j = u'.r j ∧ u.h j = u'.h j

theorem bit_lt (C : Chk ops pb m X.N) {i j : Nat} (hi : i < ops.size) (hj : j < ops.size) (h : bitOf pb i j = true) : j < i :=
  (C.pre i _ j (Array.getElem?_eq_getElem hi) hj h).1

theorem look_eq (C : Chk ops pb m X.N) (hs : a0.tmps.size = X.N) {u u' : Outs} {i : Nat} {o : Oper} (hi : ops[i]? = some o) (h : Agr pb i u u') {t : Tmp} (ht : t ∈ o.looksAt ops) : (aT ops a0 u i).tmps[t]? = (aT ops a0 u' i).tmps[t]? := by
  have hlt := (Array.getElem?_eq_some_iff.1 hi).1
  by_cases hw : ∃ j oj, j < i ∧ ops[j]? = some oj ∧ oj.dst = some t
  · obtain ⟨j, oj, hj, hoj, hd⟩ := hw
    rw [aT_hit C hs u i j oj t hj (by omega) hoj hd, aT_hit C hs u' i j oj t hj (by omega) hoj hd]
    rcases C.rd i j o oj t hi hoj (by omega) hd ht with x | x
    · rw [(h j hj x).1]
    · have := bit_lt C (by omega) hlt x; omega
  · have hm : ∀ j oj, j < i → ops[j]? = some oj → oj.dst ≠ some t := fun j oj hj hoj hd => hw ⟨j, oj, hj, hoj, hd⟩
    rw [aT_miss u i t (by omega) hm, aT_miss u' i t (by omega) hm]
theorem eval_of_look {o : Oper} {a a' : Act} (h : ∀ t ∈ o.looksAt ops, a.tmps[t]? = a'.tmps[t]?) : ∀ x ∈ o.op.operands, a.eval x = a'.eval x := fun x hx => by
  cases x with
  | tmp t =>
    have : t ∈ o.looksAt ops := List.mem_append_left _ (List.mem_filterMap.2 ⟨.tmp t, by simpa using hx, rfl⟩)
    simp [Act.eval, h t this]
  | _ => rfl
theorem wanted_of_look {o : Oper} {a a' : Act} (h : ∀ t ∈ o.looksAt ops, a.tmps[t]? = a'.tmps[t]?) : Region.wanted o (yielded ops a.tmps) = Region.wanted o (yielded ops a'.tmps) := by
  unfold Region.wanted
  cases hg : o.guard with
  | none => rfl
  | some p =>
    obtain ⟨j, b⟩ := p
    have : yielded ops a.tmps j = yielded ops a'.tmps j := by
      unfold yielded
      cases hd : (ops[j]?).bind (·.dst) with
      | none => rfl
      | some t =>
        have hm : t ∈ o.looksAt ops := List.mem_append_right _ (by simp [hg, hd])
        simp only [Option.bind_some, h t hm]
    simp only [this]
theorem exec_of_look (C : Chk ops pb m X.N) {i : Nat} {o : Oper} (hi : ops[i]? = some o) {a a' : Act} (h : ∀ t ∈ o.looksAt ops, a.tmps[t]? = a'.tmps[t]?) : execOp a.eval o = execOp a'.eval o :=
  execOp_congr o (fun cs b => C.nosel i o cs b hi) (eval_of_look h)

theorem avl_eq {u u' : Outs} {i : Nat} (h : Agr pb i u u') : ∀ k, k ≤ i → avl (pb.getD i 0) (fT u k) = avl (pb.getD i 0) (fT u' k)
  | 0, _ => rfl
  | k + 1, hk => by
    simp only [fT, avl, fT_length, avl_eq h k (by omega)]
    split
    · rename_i hb; rw [(h k (by omega) hb).2.1]
    · rfl

/-- the i-th operation has been carried out in some world, and came to what u says -/
def Rec (X : Cx) (CS : Nat → Array Value → Value → List As → Prop) (ops : Array Oper) (pb : List Nat) (rs : List As) (tm0 : Tl) (a0 : Act) (u : Outs) (i : Nat) : Prop :=
  ∃ o, ops[i]? = some o ∧
    ((Region.wanted o (yielded ops (aT ops a0 u i).tmps) = false ∧ u.v i = undef ∧ u.r i = []) ∨
     (Region.wanted o (yielded ops (aT ops a0 u i).tmps) = true ∧ ∃ W own, Own (avl (pb.getD i 0) (fT u i) ++ rs) own ∧ Sat X tm0 own a0 W ∧
      (((execOp (aT ops a0 u i).eval o).run X.P W = .ok (.value (u.v i)) W ∧ u.r i = []) ∨
       (∃ obj, (execOp (aT ops a0 u i).eval o).run X.P W = .ok (.value (u.v i)) { W with heap := W.heap.push obj } ∧ u.r i = [As.one W.heap.size obj]) ∨
       (∃ f args, (execOp (aT ops a0 u i).eval o).run X.P W = .ok (.enter f args) W ∧ CS i args (u.v i) (u.r i)))))

theorem Rec.congr (C : Chk ops pb m X.N) (hs : a0.tmps.size = X.N) {u u' : Outs} {i : Nat} (h : Agr pb i u u') (hv : u.v i = u'.v i) (hr : u.r i = u'.r i) (r : Rec X CS ops pb rs tm0 a0 u i) : Rec X CS ops pb rs tm0 a0 u' i := by
  obtain ⟨o, ho, r⟩ := r
  have hl := fun t (ht : t ∈ o.looksAt ops) => look_eq (a0 := a0) C hs ho h ht
  have hw := wanted_of_look hl
  have he := exec_of_look C ho hl
  refine ⟨o, ho, ?_⟩
  rw [← hw, ← he, ← hv, ← hr, ← avl_eq h i (Nat.le_refl _)]
  exact r

theorem push_ne {W : World} {obj : Obj} (h : W = { W with heap := W.heap.push obj }) : False := by
  have := congrArg (fun w : World => w.heap.size) h
  simp at this
theorem push_inj {W : World} {o o' : Obj} (h : ({ W with heap := W.heap.push o } : World) = { W with heap := W.heap.push o' }) : o = o' := by
  have := congrArg (fun w : World => w.heap[W.heap.size]?) h
  simpa using this

/-- one step of the text's order, by the record -/
theorem TD.replay (C : Chk ops pb m X.N) {u : Outs} {i : Nat} {o : Oper} {rest : List Oper} (hi : ops[i]? = some o) (h : TD X CS ops pb rs K i (o :: rest) (tT ops tm0 u i) (fT u i)) (r : Rec X CS ops pb rs tm0 a0 u i)
    (hsat : ∃ own W, Sat X tm0 own a0 W) : TD X CS ops pb rs K (i + 1) rest (tT ops tm0 u (i + 1)) (fT u (i + 1)) := by
  have hlt := (Array.getElem?_eq_some_iff.1 hi).1
  obtain ⟨o', ho', r⟩ := r
  rw [hi] at ho'; cases ho'
  obtain ⟨own1, W1, s1⟩ := hsat
  have s1' := sat_T C u s1 i (by omega)
  have e1 : tT ops tm0 u (i + 1) = tput o.dst (u.v i) (tT ops tm0 u i) := by simp [tT, hi]
  have e2 : fT u (i + 1) = u.r i :: fT u i := rfl
  rw [e1, e2]
  rcases h with ⟨hw, h⟩ | ⟨hw, h⟩
  · have hwt := wanted_of (o := o) s1' hw
    rcases r with ⟨hf, _⟩ | ⟨_, W, own, ho, s, r⟩
    · rw [hwt] at hf; cases hf
    · rcases h own (aT ops a0 u i) W ho (sat_T C u s i (by omega)) with ⟨v, hrun, hk⟩ | ⟨v, obj, hrun, hk⟩ | ⟨f, args, hrun, _, hk⟩
      · rcases r with ⟨r1, r2⟩ | ⟨obj, r1, r2⟩ | ⟨f, args, r1, r2⟩
        · rw [hrun] at r1; injection r1 with r3 _; injection r3 with r3; rw [r2, ← r3]; exact hk
        · rw [hrun] at r1; injection r1 with _ r4; exact (push_ne r4).elim
        · rw [hrun] at r1; injection r1 with r3 _; cases r3
      · rcases r with ⟨r1, r2⟩ | ⟨obj', r1, r2⟩ | ⟨f, args, r1, r2⟩
        · rw [hrun] at r1; injection r1 with _ r4; exact (push_ne r4.symm).elim
        · rw [hrun] at r1; injection r1 with r3 r4; injection r3 with r3; have r5 := push_inj r4; subst r5; rw [r2, ← r3]; exact hk
        · rw [hrun] at r1; injection r1 with r3 _; cases r3
      · rcases r with ⟨r1, r2⟩ | ⟨obj', r1, r2⟩ | ⟨f', args', r1, r2⟩
        · rw [hrun] at r1; injection r1 with r3 _; cases r3
        · rw [hrun] at r1; injection r1 with r3 _; cases r3
        · rw [hrun] at r1; injection r1 with r3 _; injection r3 with r3 r4; subst r3; subst r4; exact hk _ _ r2
  · have hwf := unwanted_of (o := o) s1' hw
    rcases r with ⟨_, hv, hr⟩ | ⟨ht, _⟩
    · rw [hv, hr]; exact h
    · rw [hwf] at ht; cases ht

theorem TD.path (C : Chk ops pb m X.N) {u : Outs} (hsat : ∃ own W, Sat X tm0 own a0 W) {l : List Oper} (hl : ∀ j, l[j]? = if j < m then ops[j]? else none) (hm : m ≤ ops.size) (h : TD X CS ops pb rs K 0 l tm0 []) : ∀ i, i ≤ m → (∀ j, j < i → Rec X CS ops pb rs tm0 a0 u j) → TD X CS ops pb rs K i (l.drop i) (tT ops tm0 u i) (fT u i)
  | 0, _, _ => by rw [List.drop_zero]; exact h
  | i + 1, hi, hr => by
    have ih := TD.path C hsat hl hm h i (by omega) fun j hj => hr j (by omega)
    have hio : ops[i]? = some ops[i] := Array.getElem?_eq_getElem (by omega)
    have hli : l[i]? = some ops[i] := by rw [hl i, if_pos (by omega), hio]
    have hlt : i < l.length := (List.getElem?_eq_some_iff.1 hli).1
    have : l.drop i = ops[i] :: l.drop (i + 1) := by
      rw [List.drop_eq_getElem_cons hlt]
      congr 1
      have := (List.getElem?_eq_some_iff.1 hli).2
      exact this
    rw [this] at ih
    exact TD.replay C hio ih (hr i (by omega)) hsat

/-! ### What has been done, in whatever order -/
structure At (X : Cx) (CS : Nat → Array Value → Value → List As → Prop) (ops : Array Oper) (pb : List Nat) (rs : List As) (tm0 : Tl) (own0 : Hp) (a0 : Act) (W0 : World) (D : Nat → Prop) (u : Outs) (a : Act) (W : World) : Prop where
  lt : ∀ i, D i → i < ops.size
  closed : ∀ i j, D i → j < ops.size → bitOf pb i j = true → D j
  recs : ∀ i, D i → Rec X CS ops pb rs tm0 a0 u i
  defers : a.defers = a0.defers
  size : a.tmps.size = a0.tmps.size
  hit : ∀ j o t, D j → ops[j]? = some o → o.dst = some t → a.tmps[t]? = some (u.v j)
  miss : ∀ t, (∀ j o, D j → ops[j]? = some o → o.dst ≠ some t) → a.tmps[t]? = a0.tmps[t]?
  sat : Sat X tm0 own0 a0 W
  own : ∀ i, D i → Own (u.r i) (u.h i) ∧ (u.h i).inW W ∧ ∀ B, u.h i B ≠ none → W0.heap.size ≤ B
  dis : ∀ i j, D i → D j → i ≠ j → (u.h i).disj (u.h j)
  frm : Frm Hp.emp W0 W

theorem At.look (C : Chk ops pb m X.N) {D : Nat → Prop} {u : Outs} {a : Act} {W : World} (t : At X CS ops pb rs tm0 own0 a0 W0 D u a W) {i : Nat} {o : Oper} (hi : ops[i]? = some o) (hn : ¬ D i) (hb : ∀ j, j < ops.size → bitOf pb i j = true → D j) {x : Tmp} (hx : x ∈ o.looksAt ops) : a.tmps[x]? = (aT ops a0 u i).tmps[x]? := by
  have hlt := (Array.getElem?_eq_some_iff.1 hi).1
  have hs : a0.tmps.size = X.N := t.sat.size
  by_cases hw : ∃ j oj, j < i ∧ ops[j]? = some oj ∧ oj.dst = some x
  · obtain ⟨j, oj, hj, hoj, hd⟩ := hw
    rw [aT_hit C hs u i j oj x hj (by omega) hoj hd]
    rcases C.rd i j o oj x hi hoj (by omega) hd hx with y | y
    · exact t.hit j oj x (hb j (by omega) y) hoj hd
    · have := bit_lt C (by omega) hlt y; omega
  · rw [aT_miss u i x (by omega) fun j oj hj hoj hd => hw ⟨j, oj, hj, hoj, hd⟩]
    refine t.miss x fun j oj hj hoj hd => ?_
    have hjl := t.lt j hj
    have hne : i ≠ j := fun e => hn (e ▸ hj)
    rcases C.rd i j o oj x hi hoj hne hd hx with y | y
    · exact hw ⟨j, oj, bit_lt C hlt hjl y, hoj, hd⟩
    · exact hn (t.closed j i hj hlt y)

/-- what is at hand for the i-th -/
theorem At.avail {D : Nat → Prop} {u : Outs} {a : Act} {W : World} (t : At X CS ops pb rs tm0 own0 a0 W0 D u a W) (ho : Own rs own0) (h0 : own0.inW W0) {i : Nat} : ∀ k, (∀ j, j < k → bitOf pb i j = true → D j) →
    ∃ h, Own (avl (pb.getD i 0) (fT u k)) h ∧ ∀ b x, h b = some x → ∃ j, j < k ∧ bitOf pb i j = true ∧ u.h j b = some x
  | 0, _ => ⟨Hp.emp, .nil, fun _ _ e => by simp [Hp.emp] at e⟩
  | k + 1, hb => by
    obtain ⟨h, oh, hh⟩ := At.avail t ho h0 k fun j hj => hb j (by omega)
    simp only [fT, avl, fT_length]
    split
    · rename_i hbit
      have hk := hb k (by omega) hbit
      obtain ⟨o1, i1, g1⟩ := t.own k hk
      refine ⟨(u.h k).add h, own_append.2 ⟨_, _, o1, oh, fun b => ?_, rfl⟩, fun b x e => ?_⟩
      · cases e : h b with
        | none => exact .inr rfl
        | some x =>
          obtain ⟨j, hj, hjb, hx⟩ := hh b x e
          have := t.dis k j hk (hb j (by omega) hjb) (by omega) b
          exact .inl (this.resolve_right (by simp [hx]))
      · unfold Hp.add at e
        cases e' : u.h k b with
        | some y => rw [e'] at e; simp at e; subst e; exact ⟨k, by omega, hbit, e'⟩
        | none => rw [e'] at e; simp at e; obtain ⟨j, hj, r⟩ := hh b x e; exact ⟨j, by omega, r⟩
    · exact ⟨h, oh, fun b x e => let ⟨j, hj, r⟩ := hh b x e; ⟨j, by omega, r⟩⟩
theorem At.availSat {D : Nat → Prop} {u : Outs} {a : Act} {W : World} (t : At X CS ops pb rs tm0 own0 a0 W0 D u a W) (ho : Own rs own0) (s0 : Sat X tm0 own0 a0 W0) {i : Nat} (hb : ∀ j, j < i → bitOf pb i j = true → D j) :
    ∃ own, Own (avl (pb.getD i 0) (fT u i) ++ rs) own ∧ Sat X tm0 own a0 W := by
  obtain ⟨h, oh, hh⟩ := t.avail ho s0.ow i hb
  have hge : ∀ b, h b ≠ none → W0.heap.size ≤ b := fun b e => by
    cases e' : h b with
    | none => exact absurd e' e
    | some x => obtain ⟨j, hj, hjb, hx⟩ := hh b x e'; exact (t.own j (hb j hj hjb)).2.2 b (by simp [hx])
  have hd : ∀ {k : Hp}, k.inW W0 → k.disj h := fun {k} ik b => by
    cases e : k b with
    | none => exact .inl rfl
    | some x =>
      refine .inr ?_
      cases e' : h b with
      | none => rfl
      | some y => have h1 := hge b (by simp [e']); have h2 := Hp.inW_lt ik (B := b) (by simp [e]); omega
  have hin : h.inW W := fun b x e => by obtain ⟨j, hj, hjb, hx⟩ := hh b x e; exact (t.own j (hb j hj hjb)).2.1 b x hx
  refine ⟨h.add own0, own_append.2 ⟨h, own0, oh, ho, Hp.disj_symm (hd s0.ow), rfl⟩, ?_⟩
  obtain ⟨hm, m1, m2, m3⟩ := s0.marks
  exact {
    tmp := t.sat.tmp, size := t.sat.size, rd := t.sat.rd, ow := Hp.inW_add hin t.sat.ow
    dis := Hp.disj_add.2 ⟨hd s0.rd, t.sat.dis⟩, n0 := t.sat.n0
    marks := ⟨hm, m1, Hp.disj_add.2 ⟨hd m3, m2⟩, t.frm.inW (Hp.disj_emp _) m3⟩
    round := fun l hl => ⟨(t.sat.round l hl).1, Hp.add_none.2 ⟨by
      obtain ⟨⟨r, hr⟩, _⟩ := s0.round l hl
      cases e' : h l with
      | none => rfl
      | some y => have h1 := hge l (by simp [e']); have h2 := (Array.getElem?_eq_some_iff.1 hr).1; omega, (t.sat.round l hl).2⟩⟩ }

def Outs.upd (u : Outs) (i : Nat) (v : Value) (r : List As) (h : Hp) : Outs := ⟨fun j => if j = i then v else u.v j, fun j => if j = i then r else u.r j, fun j => if j = i then h else u.h j⟩
theorem Outs.upd_agr (u : Outs) {i : Nat} (v : Value) (r : List As) (h : Hp) {j : Nat} (hb : bitOf pb j i = false) : Agr pb j u (u.upd i v r h) := fun k _ hk => by
  have : k ≠ i := fun e => by subst e; rw [hb] at hk; cases hk
  simp [Outs.upd, this]
theorem Agr.self_upd (C : Chk ops pb m X.N) (u : Outs) {i : Nat} (hi : i < ops.size) (v : Value) (r : List As) (h : Hp) : Agr pb i u (u.upd i v r h) :=
  Outs.upd_agr u v r h (by cases e : bitOf pb i i with
    | false => rfl
    | true => have := bit_lt C hi hi e; omega)

/-- one operation more -/
theorem At.add (C : Chk ops pb m X.N) {D : Nat → Prop} {u : Outs} {a : Act} {W W' : World} {i : Nat} {o : Oper} {v : Value} {r : List As} {h : Hp} (t : At X CS ops pb rs tm0 own0 a0 W0 D u a W) (hi : ops[i]? = some o) (hn : ¬ D i) (hb : ∀ j, j < ops.size → bitOf pb i j = true → D j)
    (hrec : Rec X CS ops pb rs tm0 a0 (u.upd i v r h) i) (oh : Own r h) (ih : h.inW W') (gh : ∀ B, h B ≠ none → W.heap.size ≤ B) (f : Frm Hp.emp W W') :
    At X CS ops pb rs tm0 own0 a0 W0 (fun j => D j ∨ j = i) (u.upd i v r h) (a.put o.dst v) W' := by
  have hlt := (Array.getElem?_eq_some_iff.1 hi).1
  have hs : a0.tmps.size = X.N := t.sat.size
  have hne : ∀ j, D j → j ≠ i := fun j hj e => hn (e ▸ hj)
  have same : ∀ {k : Hp}, k.inW W → k.inW W' := fun ik => f.inW (Hp.disj_emp _) ik
  refine {
    lt := fun j hj => hj.elim (t.lt j) fun e => e ▸ hlt
    closed := fun j k hj hk hbit => by
      rcases hj with hj | rfl
      · exact .inl (t.closed j k hj hk hbit)
      · exact .inl (hb k hk hbit)
    recs := fun j hj => by
      rcases hj with hj | rfl
      · refine Rec.congr C hs (Outs.upd_agr u v r h ?_) (by simp [Outs.upd, hne j hj]) (by simp [Outs.upd, hne j hj]) (t.recs j hj)
        cases e : bitOf pb j i with
        | false => rfl
        | true => exact absurd (t.closed j i hj hlt e) hn
      · exact hrec
    defers := by cases hd : o.dst <;> simp [Act.put, t.defers]
    size := by cases hd : o.dst <;> simp [Act.put, t.size]
    hit := fun j oj x hj hoj hd => by
      rcases hj with hj | rfl
      · have : (u.upd i v r h).v j = u.v j := by simp [Outs.upd, hne j hj]
        rw [this]
        cases hdi : o.dst with
        | none => exact t.hit j oj x hj hoj hd
        | some d =>
          have hdx : d ≠ x := fun e => C.wr i j o oj d hi hoj (hne j hj).symm hdi (by rw [hd, e])
          simp [Act.put, Array.getElem?_setIfInBounds_ne hdx, t.hit j oj x hj hoj hd]
      · rw [hi] at hoj; cases hoj
        have := C.dst _ _ _ hi hd
        simp [Act.put, hd, Outs.upd, t.size, hs, this]
    miss := fun x hx => by
      rw [← t.miss x fun j oj hj hoj => hx j oj (.inl hj) hoj]
      cases hdi : o.dst with
      | none => rfl
      | some d =>
        have hdx : d ≠ x := fun e => hx i o (.inr rfl) hi (by rw [hdi, e])
        simp [Act.put, Array.getElem?_setIfInBounds_ne hdx]
    sat := t.sat.world (f.mono fun B _ => rfl) (Grow.refl _ _) (same t.sat.ow)
    own := fun j hj => by
      rcases hj with hj | rfl
      · have e1 : (u.upd i v r h).r j = u.r j := by simp [Outs.upd, hne j hj]
        have e2 : (u.upd i v r h).h j = u.h j := by simp [Outs.upd, hne j hj]
        rw [e1, e2]
        obtain ⟨x1, x2, x3⟩ := t.own j hj
        exact ⟨x1, same x2, x3⟩
      · simp only [Outs.upd, if_true]
        exact ⟨oh, ih, fun B hB => Nat.le_trans t.frm.size (gh B hB)⟩
    dis := fun j k hj hk hjk => ?_
    frm := t.frm.trans (Grow.refl _ _) f }
  have far : ∀ k, D k → (u.h k).disj h := fun k hk b => by
    cases e : u.h k b with
    | none => exact .inl rfl
    | some x =>
      refine .inr ?_
      cases e' : h b with
      | none => rfl
      | some y => have h1 := gh b (by simp [e']); have h2 := Hp.inW_lt (t.own k hk).2.1 (B := b) (by simp [e]); omega
  rcases hj with hj | rfl
  · rcases hk with hk | rfl
    · simp only [Outs.upd, hne j hj, hne k hk, if_false]; exact t.dis j k hj hk hjk
    · simp only [Outs.upd, hne j hj, if_false, if_true]; exact far j hj
  · rcases hk with hk | rfl
    · simp only [Outs.upd, hne k hk, if_false, if_true]; exact Hp.disj_symm (far k hk)
    · exact absurd rfl hjk

/-- what the walk of the text's order says of the i-th, at outcomes that are recorded for all before it -/
def Tx (X : Cx) (CS : Nat → Array Value → Value → List As → Prop) (ops : Array Oper) (pb : List Nat) (rs : List As) (tm0 : Tl) (u : Outs) (i : Nat) (o : Oper) : Prop :=
  (Wanted ops (tT ops tm0 u i) o.guard ∧ A1 X CS i o (tT ops tm0 u i) (avl (pb.getD i 0) (fT u i) ++ rs) (fun _ _ => True)) ∨ Unwanted ops (tT ops tm0 u i) o.guard

theorem A1.true {i : Nat} {o : Oper} {tm : Tl} {L : List As} {KK : Value → List As → Prop} (h : A1 X CS i o tm L KK) : A1 X CS i o tm L (fun _ _ => True) := fun own a W ho s => by
  rcases h own a W ho s with ⟨v, h1, _⟩ | ⟨v, obj, h1, _⟩ | ⟨f, args, h1, h2, _⟩
  · exact .inl ⟨v, h1, trivial⟩
  · exact .inr (.inl ⟨v, obj, h1, trivial⟩)
  · exact .inr (.inr ⟨f, args, h1, h2, fun _ _ _ => trivial⟩)

/-- **One operation is carried out**, when all that binds it has been. -/
theorem At.exec (C : Chk ops pb m X.N) {D : Nat → Prop} {u u' : Outs} {a : Act} {W : World} {i : Nat} {o : Oper} (t : At X CS ops pb rs tm0 own0 a0 W0 D u a W) (ho : Own rs own0) (s0 : Sat X tm0 own0 a0 W0) (hi : ops[i]? = some o) (hn : ¬ D i) (hb : ∀ j, j < ops.size → bitOf pb i j = true → D j)
    (hag : ∀ j, j < ops.size → D j → u.v j = u'.v j ∧ u.r j = u'.r j ∧ u.h j = u'.h j) (hx : Tx X CS ops pb rs tm0 u' i o) {Q : Exit → Act → World → Prop} :
    wpOpIn X.F 0 X.P ops Q i (fun a' W' => ∃ v r h, At X CS ops pb rs tm0 own0 a0 W0 (fun j => D j ∨ j = i) (u.upd i v r h) a' W') a W ∧
    ∃ a' W' v r h, At X CS ops pb rs tm0 own0 a0 W0 (fun j => D j ∨ j = i) (u.upd i v r h) a' W' := by
  have hlt := (Array.getElem?_eq_some_iff.1 hi).1
  have hs : a0.tmps.size = X.N := s0.size
  have hag' : Agr pb i u u' := fun j hj hbit => hag j (by omega) (hb j (by omega) hbit)
  have l1 : ∀ x ∈ o.looksAt ops, a.tmps[x]? = (aT ops a0 u i).tmps[x]? := fun x hx => t.look C hi hn hb hx
  have l2 : ∀ x ∈ o.looksAt ops, (aT ops a0 u i).tmps[x]? = (aT ops a0 u' i).tmps[x]? := fun x hx => look_eq C hs hi hag' hx
  have l3 : ∀ x ∈ o.looksAt ops, a.tmps[x]? = (aT ops a0 u' i).tmps[x]? := fun x hx => (l1 x hx).trans (l2 x hx)
  have lu : ∀ v r h, ∀ x ∈ o.looksAt ops, (aT ops a0 (u.upd i v r h) i).tmps[x]? = (aT ops a0 u' i).tmps[x]? := fun v r h x hx => (look_eq C hs hi (Agr.self_upd C u hlt v r h) hx).symm.trans (l2 x hx)
  have sT : ∀ {own : Hp}, Sat X tm0 own a0 W → Sat X (tT ops tm0 u' i) own (aT ops a0 u' i) W := fun s => sat_T C u' s i (by omega)
  have e0 : execOp a.eval o = execOp (aT ops a0 u' i).eval o := exec_of_look C hi l3
  have eu : ∀ v r h, execOp (aT ops a0 (u.upd i v r h) i).eval o = execOp (aT ops a0 u' i).eval o := fun v r h => exec_of_look C hi (lu v r h)
  have uv : ∀ v r h, (u.upd i v r h).v i = v ∧ (u.upd i v r h).r i = r := fun v r h => by simp [Outs.upd]
  rcases hx with ⟨hw, hA⟩ | hw
  · have hwt : Region.wanted o (yielded ops (aT ops a0 u' i).tmps) = true := wanted_of (sT t.sat) hw
    have hwa : Region.wanted o (yielded ops a.tmps) = true := by rw [wanted_of_look l3]; exact hwt
    have hwu : ∀ v r h, Region.wanted o (yielded ops (aT ops a0 (u.upd i v r h) i).tmps) = true := fun v r h => by rw [wanted_of_look (lu v r h)]; exact hwt
    obtain ⟨own, oo, so⟩ := t.availSat ho s0 (i := i) fun j hj hbit => hb j (by omega) hbit
    have oo' : Own (avl (pb.getD i 0) (fT u' i) ++ rs) own := by rw [← avl_eq hag' i (Nat.le_refl _)]; exact oo
    have ou : ∀ v r h, Own (avl (pb.getD i 0) (fT (u.upd i v r h) i) ++ rs) own := fun v r h => by rw [← avl_eq (Agr.self_upd C u hlt v r h) i (Nat.le_refl _)]; exact oo
    have hop : ∀ K : Act → World → Prop, (o.uponIn X.F 0 X.P a K Q) ((execOp (aT ops a0 u' i).eval o).run X.P W) → wpOpIn X.F 0 X.P ops Q i K a W := fun K h => by
      simp only [wpOpIn, hi]
      rw [if_pos hwa]
      exact wpIn_of_run (C.nodef i o hi) (by rw [e0]; exact h)
    rcases hA own _ W oo' (sT so) with ⟨v, hrun, _⟩ | ⟨v, obj, hrun, _⟩ | ⟨f, args, hrun, hct, _⟩
    · have hat : At X CS ops pb rs tm0 own0 a0 W0 (fun j => D j ∨ j = i) (u.upd i v [] Hp.emp) (a.put o.dst v) W := by
        refine t.add C hi hn hb ⟨o, hi, .inr ⟨hwu _ _ _, W, own, ou _ _ _, so, .inl ⟨?_, (uv _ _ _).2⟩⟩⟩ .nil (Hp.inW_emp _) (fun B h => absurd rfl h) (Frm.refl _ _)
        rw [eu, (uv v [] Hp.emp).1]; exact hrun
      refine ⟨hop _ ?_, _, _, v, [], Hp.emp, hat⟩
      rw [hrun]
      exact ⟨v, [], Hp.emp, hat⟩
    · have hat : At X CS ops pb rs tm0 own0 a0 W0 (fun j => D j ∨ j = i) (u.upd i v [As.one W.heap.size obj] (Hp.one W.heap.size obj)) (a.put o.dst v) { W with heap := W.heap.push obj } := by
        refine t.add C hi hn hb ⟨o, hi, .inr ⟨hwu _ _ _, W, own, ou _ _ _, so, .inr (.inl ⟨obj, ?_, (uv _ _ _).2⟩)⟩⟩ (own_one rfl) (Hp.inW_one (by simp)) (fun B h => ?_) (Frm.push _ _ _)
        · rw [eu, (uv v _ _).1]; exact hrun
        · by_cases e : B = W.heap.size
          · omega
          · exact absurd (Hp.one_ne _ e) h
      refine ⟨hop _ ?_, _, _, v, _, _, hat⟩
      rw [hrun]
      exact ⟨v, _, _, hat⟩
    · have hcall := hct Hp.emp W .nil (Hp.inW_add so.rd so.ow) (Hp.inW_emp _) (Hp.disj_emp _)
      have hci : CallsIn Fence.wide 0 X.P f args W _ := callsIn_wide.2 hcall
      have key : ∀ e W', (∃ v rs' own', e = Ending.returned v ∧ Own rs' own' ∧ own'.inW W' ∧ Frm Hp.emp W W' ∧ Grow Hp.emp own' W ∧ CS i args v rs') →
          ∃ v, e = Ending.returned v ∧ ∃ r h, At X CS ops pb rs tm0 own0 a0 W0 (fun j => D j ∨ j = i) (u.upd i v r h) (a.put o.dst v) W' := by
        rintro e W' ⟨v, rs', own', rfl, o', i', fr, gr, q⟩
        refine ⟨v, rfl, rs', own', t.add C hi hn hb ⟨o, hi, .inr ⟨hwu _ _ _, W, own, ou _ _ _, so, .inr (.inr ⟨f, args, ?_, ?_⟩)⟩⟩ o' i' (fun B h => (gr B h).resolve_left (fun h' => h' rfl)) fr⟩
        · rw [eu]; exact hrun
        · rw [(uv v rs' own').1, (uv v rs' own').2]; exact q
      refine ⟨hop _ ?_, ?_⟩
      · rw [hrun]
        refine ⟨fun hdep => (by cases hdep), CallsIn.mono (hci : CallsIn X.F (0 - 1) X.P f args W _) ?_⟩
        rintro e W' p
        obtain ⟨v, rfl, r, h, hat⟩ := key e W' p
        exact ⟨v, r, h, hat⟩
      · obtain ⟨e, W', _, p, _⟩ := hci.2 [] (room_wide _)
        obtain ⟨v, rfl, r, h, hat⟩ := key e W' p
        exact ⟨_, _, v, r, h, hat⟩
  · have hwt : Region.wanted o (yielded ops (aT ops a0 u' i).tmps) = false := unwanted_of (sT t.sat) hw
    have hwa : Region.wanted o (yielded ops a.tmps) = false := by rw [wanted_of_look l3]; exact hwt
    have hat : At X CS ops pb rs tm0 own0 a0 W0 (fun j => D j ∨ j = i) (u.upd i undef [] Hp.emp) (a.put o.dst undef) W := by
      refine t.add C hi hn hb ⟨o, hi, .inl ⟨?_, (uv _ _ _).1, (uv _ _ _).2⟩⟩ .nil (Hp.inW_emp _) (fun B h => absurd rfl h) (Frm.refl _ _)
      rw [wanted_of_look (lu _ _ _)]; exact hwt
    refine ⟨?_, _, _, undef, [], Hp.emp, hat⟩
    simp only [wpOpIn, hi]
    rw [if_neg (by rw [hwa]; simp)]
    exact ⟨fun _ _ => trivial, undef, [], Hp.emp, hat⟩

/-- all before the i-th can be carried out -/
theorem At.complete (C : Chk ops pb m X.N) (ho : Own rs own0) (s0 : Sat X tm0 own0 a0 W0) {l : List Oper} (hl : ∀ j, l[j]? = if j < m then ops[j]? else none) (hm : m ≤ ops.size) (htd : TD X CS ops pb rs K 0 l tm0 []) {D : Nat → Prop} {u : Outs} {a : Act} {W : World} (t : At X CS ops pb rs tm0 own0 a0 W0 D u a W) :
    ∀ i, i ≤ m → ∃ D' u' a' W', At X CS ops pb rs tm0 own0 a0 W0 D' u' a' W' ∧ (∀ j, D j → D' j ∧ u.v j = u'.v j ∧ u.r j = u'.r j ∧ u.h j = u'.h j) ∧ (∀ j, j < i → D' j)
  | 0, _ => ⟨D, u, a, W, t, fun j hj => ⟨hj, rfl, rfl, rfl⟩, fun j hj => by omega⟩
  | i + 1, hi => by
    obtain ⟨D', u', a', W', t', hsub, hall⟩ := At.complete C ho s0 hl hm htd t i (by omega)
    by_cases hD : D' i
    · exact ⟨D', u', a', W', t', hsub, fun j hj => by
        by_cases e : j = i
        · subst e; exact hD
        · exact hall j (by omega)⟩
    · have hio : ops[i]? = some ops[i] := Array.getElem?_eq_getElem (by omega)
      have hp := TD.path C ⟨own0, W0, s0⟩ hl hm htd i (by omega) (fun j hj => t'.recs j (hall j hj))
      have hli : l[i]? = some ops[i] := by rw [hl i, if_pos (by omega), hio]
      have hlt : i < l.length := (List.getElem?_eq_some_iff.1 hli).1
      have e : l.drop i = ops[i] :: l.drop (i + 1) := by
        rw [List.drop_eq_getElem_cons hlt]; congr 1; exact (List.getElem?_eq_some_iff.1 hli).2
      rw [e] at hp
      have hx : Tx X CS ops pb rs tm0 u' i ops[i] := hp.imp (fun h => ⟨h.1, h.2.true⟩) (fun h => h.1)
      obtain ⟨_, a2, W2, v, r, h, t2⟩ := t'.exec C (u' := u') (Q := fun _ _ _ => False) ho s0 hio hD (fun j hj hbit => hall j (bit_lt C (by omega) hj hbit)) (fun _ _ _ => ⟨rfl, rfl, rfl⟩) hx
      refine ⟨_, _, a2, W2, t2, fun j hj => ?_, fun j hj => ?_⟩
      · obtain ⟨h1, h2⟩ := hsub j hj
        have hne : j ≠ i := fun e => hD (e ▸ h1)
        exact ⟨.inl h1, by simpa [Outs.upd, hne] using h2⟩
      · by_cases e : j = i
        · exact .inr e
        · exact .inl (hall j (by omega))

/-! ### Which operations may come up -/
theorem ready_iff {listed : Array Bool} {i : Nat} : i ∈ Region.ready .any ops listed ↔ i < ops.size ∧ listed.getD i true = false ∧ ∃ o, ops[i]? = some o ∧ ∀ e ∈ o.after, Region.binds .any e = true → listed.getD e.on false = true := by
  unfold Region.ready
  rw [List.mem_filter, List.mem_range]
  constructor
  · rintro ⟨h1, h2⟩
    simp only [Bool.and_eq_true, Bool.not_eq_true'] at h2
    refine ⟨h1, h2.1, ops[i], Array.getElem?_eq_getElem h1, fun e he hb => ?_⟩
    have h3 := h2.2
    rw [Array.getElem?_eq_getElem h1] at h3
    simp only [Option.map_some, Option.getD_some] at h3
    rw [Array.all_eq_true'] at h3
    have := h3 e he
    simpa only [hb, Bool.not_true, Bool.false_or] using this
  · rintro ⟨h1, h2, o, ho, h3⟩
    refine ⟨h1, ?_⟩
    simp only [Bool.and_eq_true, Bool.not_eq_true']
    refine ⟨h2, ?_⟩
    rw [ho]
    simp only [Option.map_some, Option.getD_some]
    rw [Array.all_eq_true']
    intro e he
    cases hb : Region.binds .any e with
    | false => rfl
    | true => simp only [Bool.not_true, Bool.false_or]; exact h3 e he hb
theorem getD_set {listed : Array Bool} {i j : Nat} (hi : i < listed.size) : (listed.setIfInBounds i true).getD j false = if j = i then true else listed.getD j false := by
  simp only [Array.getD_eq_getD_getElem?]
  by_cases e : j = i
  · subst e; simp [hi]
  · rw [Array.getElem?_setIfInBounds_ne (Ne.symm e)]; simp [e]
theorem getD_tf {listed : Array Bool} {i : Nat} (hi : i < listed.size) : listed.getD i true = listed.getD i false := by
  simp [Array.getD_eq_getD_getElem?, hi]
def remd (listed : Array Bool) (n : Nat) : Nat := (List.range n).countP fun j => !listed.getD j false
theorem countP_lt {p q : Nat → Bool} {i : Nat} : ∀ (l : List Nat), (∀ x ∈ l, p x = true → q x = true) → i ∈ l → q i = true → p i = false → l.countP p < l.countP q
  | [], _, h, _, _ => by simp at h
  | x :: l, hpq, hi, hq, hp => by
    have hle : l.countP p ≤ l.countP q := List.countP_mono_left fun y hy => hpq y (List.mem_cons_of_mem _ hy)
    rcases List.mem_cons.1 hi with rfl | hi
    · rw [List.countP_cons_of_pos (p := q) hq, List.countP_cons_of_neg (p := p) (by rw [hp]; simp)]; omega
    · have ih := countP_lt l (fun y hy => hpq y (List.mem_cons_of_mem _ hy)) hi hq hp
      have hx := hpq x List.mem_cons_self
      rw [List.countP_cons, List.countP_cons]
      cases h1 : p x
      · simp; split <;> omega
      · rw [hx h1]; simp; omega
theorem remd_lt {listed : Array Bool} {n i : Nat} (hs : listed.size = n) (hi : i < n) (hu : listed.getD i false = false) : remd (listed.setIfInBounds i true) n < remd listed n := by
  refine countP_lt (i := i) _ (fun x _ hx => ?_) (List.mem_range.2 hi) (by simp [hu]) (by rw [getD_set (by omega)]; simp)
  rw [getD_set (by omega)] at hx
  split at hx
  · simp at hx
  · exact hx

theorem tailB (C : Chk ops pb m X.N) {Q : Exit → Act → World → Prop} : ∀ (k b fuel : Nat) (listed : Array Bool) (a : Act) (W : World), b + k = ops.size → m ≤ b → listed.size = ops.size → (∀ j, j < ops.size → (listed.getD j false = true ↔ j < b)) → remd listed ops.size ≤ fuel →
    wpOpsIn X.F 0 X.P ops Q (List.range' b k) a W → wpAnyIn X.F 0 X.P .any ops Q fuel listed a W
  | 0, b, fuel, listed, a, W, hk, _, hs, hd, _, h => by
    have hr : Region.ready .any ops listed = [] := by
      rw [List.eq_nil_iff_forall_not_mem]
      intro i hi
      obtain ⟨h1, h2, _⟩ := ready_iff.1 hi
      rw [getD_tf (by omega)] at h2
      have := (hd i h1).2 (by omega)
      rw [h2] at this; cases this
    cases fuel with
    | zero => exact ⟨hr, h⟩
    | succ fuel => exact ⟨fun _ => h, fun i hi => (by rw [hr] at hi; cases hi)⟩
  | k + 1, b, fuel, listed, a, W, hk, hm, hs, hd, hf, h => by
    have hbn : b < ops.size := by omega
    have hbu : listed.getD b false = false := by
      cases e : listed.getD b false with
      | false => rfl
      | true => have := (hd b hbn).1 e; omega
    have hlt := remd_lt hs hbn hbu
    cases fuel with
    | zero => omega
    | succ fuel =>
      have hbo : ops[b]? = some ops[b] := Array.getElem?_eq_getElem hbn
      have hbr : b ∈ Region.ready .any ops listed := ready_iff.2 ⟨hbn, by rw [getD_tf (by omega)]; exact hbu, _, hbo, fun e he hb => (hd e.on (by have := C.edge b _ e hbo he hb; omega)).2 (C.edge b _ e hbo he hb)⟩
      refine ⟨(fun e => by rw [e] at hbr; cases hbr), fun i hi => ?_⟩
      obtain ⟨h1, h2, o, ho, he⟩ := ready_iff.1 hi
      rw [getD_tf (by omega)] at h2
      have hib : b ≤ i := by
        cases Nat.lt_or_ge i b with
        | inl hl => have := (hd i h1).2 hl; rw [h2] at this; cases this
        | inr hg => exact hg
      have hieq : i = b := by
        cases Nat.lt_or_ge b i with
        | inr hg => omega
        | inl hl =>
          -- b binds i, so b would be listed
          exfalso
          have key : ∀ (n j : Nat) (oj : Oper), j < n → ops[j]? = some oj → (∀ e ∈ oj.after, Region.binds .any e = true → listed.getD e.on false = true) → bitOf pb j b = true → listed.getD b false = true := by
            intro n
            induction n with
            | zero => intro j oj hj; omega
            | succ n ih =>
              intro j oj hj hoj hej hbit
              obtain ⟨_, e, hem, hbd, hor⟩ := C.pre j oj b hoj hbn hbit
              rcases hor with x | ⟨x1, x2⟩
              · rw [← x]; exact hej e hem hbd
              · have hon : e.on < ops.size := by have := (Array.getElem?_eq_some_iff.1 hoj).1; omega
                have hl2 : e.on < b := (hd e.on hon).1 (hej e hem hbd)
                have := bit_lt C hon hbn x2
                omega
          have := key (i + 1) i o (by omega) ho he (C.tail i b (by omega) h1 hl)
          rw [hbu] at this; cases this
      subst hieq
      rw [show List.range' i (k + 1) = i :: List.range' (i + 1) k from rfl, wpOpsIn_cons] at h
      refine wpOpIn_mono (fun a' W' h' => ?_) h
      refine tailB C k (i + 1) fuel _ a' W' (by omega) (by omega) (by simpa using hs) (fun j hj => ?_) (by omega) h'
      rw [getD_set (by omega)]
      split
      · rename_i e; subst e; simp
      · rename_i e; rw [hd j hj]; omega

theorem ready_pre (C : Chk ops pb m X.N) {listed : Array Bool} {D : Nat → Prop} (hd : ∀ j, j < ops.size → (listed.getD j false = true ↔ D j)) (hcl : ∀ i j, D i → j < ops.size → bitOf pb i j = true → D j) {i : Nat} (hi : i ∈ Region.ready .any ops listed) : ∀ j, j < ops.size → bitOf pb i j = true → D j := by
  obtain ⟨h1, _, o, ho, he⟩ := ready_iff.1 hi
  intro j hj hbit
  obtain ⟨_, e, hem, hbd, hor⟩ := C.pre i o j ho hj hbit
  have hon : e.on < ops.size := by have := C.edge i o e ho hem hbd; omega
  have hDe : D e.on := (hd e.on hon).1 (he e hem hbd)
  rcases hor with x | ⟨_, x2⟩
  · exact x ▸ hDe
  · exact hcl e.on j hDe hj x2

theorem At.final (C : Chk ops pb m X.N) (ho : Own rs own0) (s0 : Sat X tm0 own0 a0 W0) (hm : m ≤ ops.size) {u : Outs} {a : Act} {W : World} {D : Nat → Prop} (t : At X CS ops pb rs tm0 own0 a0 W0 D u a W) (hD : ∀ j, D j ↔ j < m) :
    ∃ own, Own ((fT u m).flatten ++ rs) own ∧ Sat X (tT ops tm0 u m) own a W ∧ Frm own0 W0 W ∧ Grow own0 own W0 := by
  -- all fresh parts together
  have fresh : ∀ k, k ≤ m → ∃ h, Own (fT u k).flatten h ∧ ∀ b x, h b = some x → ∃ j, j < k ∧ u.h j b = some x := by
    intro k
    induction k with
    | zero => intro _; exact ⟨Hp.emp, .nil, fun _ _ e => by simp [Hp.emp] at e⟩
    | succ k ih =>
      intro hk
      obtain ⟨h, oh, hh⟩ := ih (by omega)
      obtain ⟨o1, i1, g1⟩ := t.own k ((hD k).2 (by omega))
      simp only [fT, List.flatten_cons]
      refine ⟨(u.h k).add h, own_append.2 ⟨_, _, o1, oh, fun b => ?_, rfl⟩, fun b x e => ?_⟩
      · cases e : h b with
        | none => exact .inr rfl
        | some x =>
          obtain ⟨j, hj, hx⟩ := hh b x e
          have := t.dis k j ((hD k).2 (by omega)) ((hD j).2 (by omega)) (by omega) b
          exact .inl (this.resolve_right (by simp [hx]))
      · unfold Hp.add at e
        cases e' : u.h k b with
        | some y => rw [e'] at e; simp at e; subst e; exact ⟨k, by omega, e'⟩
        | none => rw [e'] at e; simp at e; obtain ⟨j, hj, r⟩ := hh b x e; exact ⟨j, by omega, r⟩
  obtain ⟨h, oh, hh⟩ := fresh m (Nat.le_refl _)
  have hge : ∀ b, h b ≠ none → W0.heap.size ≤ b := fun b e => by
    cases e' : h b with
    | none => exact absurd e' e
    | some x => obtain ⟨j, hj, hx⟩ := hh b x e'; exact (t.own j ((hD j).2 hj)).2.2 b (by simp [hx])
  have hd : ∀ {k : Hp}, k.inW W0 → k.disj h := fun {k} ik b => by
    cases e : k b with
    | none => exact .inl rfl
    | some x =>
      refine .inr ?_
      cases e' : h b with
      | none => rfl
      | some y => have h1 := hge b (by simp [e']); have h2 := Hp.inW_lt ik (B := b) (by simp [e]); omega
  have hin : h.inW W := fun b x e => by obtain ⟨j, hj, hx⟩ := hh b x e; exact (t.own j ((hD j).2 hj)).2.1 b x hx
  have hg : Grow own0 (h.add own0) W0 := fun b hb => by
    cases e : own0 b with
    | some x => exact .inl (by simp)
    | none => exact .inr (hge b fun e' => hb (Hp.add_none.2 ⟨e', e⟩))
  have hf : Frm own0 W0 W := t.frm.mono fun B _ => rfl
  refine ⟨h.add own0, own_append.2 ⟨h, own0, oh, ho, Hp.disj_symm (hd s0.ow), rfl⟩, ?_, hf, hg⟩
  have s1 : Sat X (tT ops tm0 u m) own0 (aT ops a0 u m) W0 := sat_T C u s0 m hm
  have s2 := s1.world hf hg (Hp.inW_add hin t.sat.ow)
  refine ⟨fun x v e => ?_, by rw [t.size]; exact s0.size, s2.rd, s2.ow, s2.dis, s2.n0, ?_, s2.round⟩
  · have h1 := s1.tmp x v e
    rw [← h1]
    by_cases hw : ∃ j oj, j < m ∧ ops[j]? = some oj ∧ oj.dst = some x
    · obtain ⟨j, oj, hj, hoj, hdx⟩ := hw
      rw [aT_hit C s0.size u m j oj x hj hm hoj hdx]
      exact t.hit j oj x ((hD j).2 hj) hoj hdx
    · rw [aT_miss u m x hm fun j oj hj hoj hdx => hw ⟨j, oj, hj, hoj, hdx⟩]
      exact t.miss x fun j oj hj hoj hdx => hw ⟨j, oj, (hD j).1 hj, hoj, hdx⟩
  · rw [t.defers]
    have := s2.marks
    rwa [aT_defers] at this

/-- **In whatever order.** -/
theorem anyA (C : Chk ops pb m X.N) (ho : Own rs own0) (s0 : Sat X tm0 own0 a0 W0) {l : List Oper} (hl : ∀ j, l[j]? = if j < m then ops[j]? else none) (hm : m ≤ ops.size) {K' : Tl → List As → Prop}
    (htd : TD X CS ops pb rs (fun tm' rs' => TO X ops m (ops.toList.drop m) tm' rs' K') 0 l tm0 []) :
    ∀ (fuel : Nat) (listed : Array Bool) (D : Nat → Prop) (u : Outs) (a : Act) (W : World), listed.size = ops.size → (∀ j, j < ops.size → (listed.getD j false = true ↔ D j)) → (∀ j, D j → j < m) → remd listed ops.size ≤ fuel → At X CS ops pb rs tm0 own0 a0 W0 D u a W →
      wpAnyIn X.F 0 X.P .any ops (fun e a' W' => e = .normal ∧ ∃ tm' rs' own', Own rs' own' ∧ Sat X tm' own' a' W' ∧ Frm own0 W0 W' ∧ Grow own0 own' W0 ∧ K' tm' rs') fuel listed a W := by
  intro fuel
  induction fuel with
  | zero =>
    intro listed D u a W hs hd hDm hf t
    -- all are listed
    have hall : ∀ j, j < ops.size → D j := fun j hj => by
      refine (hd j hj).1 ?_
      cases e : listed.getD j false with
      | true => rfl
      | false => have := remd_lt hs hj e; omega
    have hme : m = ops.size := by
      cases Nat.lt_or_ge m ops.size with
      | inr h => omega
      | inl h => have := hDm m (hall m h); omega
    have hD : ∀ j, D j ↔ j < m := fun j => ⟨hDm j, fun h => hall j (by omega)⟩
    have hp := TD.path C ⟨own0, W0, s0⟩ hl hm htd m (Nat.le_refl _) (fun j hj => t.recs j ((hD j).2 hj))
    have hnil : l.drop m = [] := by
      have : l.length ≤ m := by
        cases Nat.lt_or_ge m l.length with
        | inr h => exact h
        | inl h => have := hl m; rw [if_neg (by omega), List.getElem?_eq_getElem h] at this; cases this
      simp [this]
    rw [hnil] at hp
    obtain ⟨own, oo, so, ff, gg⟩ := t.final C ho s0 hm hD
    have hto : TO X ops m (ops.toList.drop m) (tT ops tm0 u m) ((fT u m).flatten ++ rs) K' := hp
    have h1 := hto rfl own a W oo so
    refine tailB C 0 m 0 listed a W (by omega) (Nat.le_refl _) hs (fun j hj => by rw [hd j hj, hD j]) hf ?_
    have hz : ops.toList.drop m = [] := by simp [hme]
    rw [hz] at h1
    obtain ⟨h2, tm2, rs2, own2, o2, s2, f2, g2, k2⟩ := h1
    exact ⟨h2, tm2, rs2, own2, o2, s2, ff.trans gg f2, gg.trans ff.size g2, k2⟩
  | succ fuel ih =>
    intro listed D u a W hs hd hDm hf t
    by_cases hall : ∀ j, j < m → D j
    · have hD : ∀ j, D j ↔ j < m := fun j => ⟨hDm j, hall j⟩
      have hp := TD.path C ⟨own0, W0, s0⟩ hl hm htd m (Nat.le_refl _) (fun j hj => t.recs j (hall j hj))
      have hnil : l.drop m = [] := by
        have : l.length ≤ m := by
          cases Nat.lt_or_ge m l.length with
          | inr h => exact h
          | inl h => have := hl m; rw [if_neg (by omega), List.getElem?_eq_getElem h] at this; cases this
        simp [this]
      rw [hnil] at hp
      obtain ⟨own, oo, so, ff, gg⟩ := t.final C ho s0 hm hD
      have hto : TO X ops m (ops.toList.drop m) (tT ops tm0 u m) ((fT u m).flatten ++ rs) K' := hp
      have h1 := hto rfl own a W oo so
      have hlen : (ops.toList.drop m).length = ops.size - m := by simp
      rw [hlen] at h1
      refine tailB C (ops.size - m) m (fuel + 1) listed a W (by omega) (Nat.le_refl _) hs (fun j hj => by rw [hd j hj, hD j]) hf (wpOpsIn_mono ?_ _ _ _ h1)
      rintro e a2 W2 ⟨h2, tm2, rs2, own2, o2, s2, f2, g2, k2⟩
      exact ⟨h2, tm2, rs2, own2, o2, s2, ff.trans gg f2, gg.trans ff.size g2, k2⟩
    · -- something of the head is still to come
      have hex : ∃ j, j < m ∧ ¬ D j := by
        cases Classical.em (∃ j, j < m ∧ ¬ D j) with
        | inl h => exact h
        | inr h => exact absurd (fun j hj => Classical.byContradiction fun hn => h ⟨j, hj, hn⟩) hall
      have hcl := t.closed
      -- the least one may come up
      have hleast : ∃ i, i < m ∧ ¬ D i ∧ ∀ j, j < i → D j := by
        obtain ⟨j0, h1, h2⟩ := hex
        have : ∀ n, (∃ j, j < n ∧ j < m ∧ ¬ D j) → ∃ i, i < m ∧ ¬ D i ∧ ∀ j, j < i → D j := by
          intro n
          induction n with
          | zero => rintro ⟨j, hj, _⟩; omega
          | succ n ihn =>
            rintro ⟨j, hj, hjm, hnj⟩
            cases Classical.em (∃ j, j < n ∧ j < m ∧ ¬ D j) with
            | inl h => exact ihn h
            | inr h =>
              refine ⟨j, hjm, hnj, fun k hk => Classical.byContradiction fun hn => h ⟨k, by omega, by omega, hn⟩⟩
        exact this (j0 + 1) ⟨j0, by omega, h1, h2⟩
      obtain ⟨i0, hi0m, hi0n, hi0l⟩ := hleast
      have hi0 : i0 < ops.size := by omega
      have hio0 : ops[i0]? = some ops[i0] := Array.getElem?_eq_getElem hi0
      have hr0 : i0 ∈ Region.ready .any ops listed := ready_iff.2 ⟨hi0, by
        rw [getD_tf (by omega)]
        cases e : listed.getD i0 false with
        | false => rfl
        | true => exact absurd ((hd i0 hi0).1 e) hi0n, _, hio0, fun e he hb => by
          have hlt := C.edge i0 _ e hio0 he hb
          exact (hd e.on (by omega)).2 (hi0l e.on hlt)⟩
      refine ⟨(fun e => by rw [e] at hr0; cases hr0), fun i hi => ?_⟩
      have hpre := ready_pre C hd hcl hi
      obtain ⟨h1, h2, o, hoi, _⟩ := ready_iff.1 hi
      rw [getD_tf (by omega)] at h2
      have hnD : ¬ D i := fun h => by rw [(hd i h1).2 h] at h2; cases h2
      have him : i < m := by
        cases Nat.lt_or_ge i m with
        | inl h => exact h
        | inr h => exact absurd (hpre i0 hi0 (C.tail i i0 h h1 (by omega))) hi0n
      obtain ⟨D', u', a', W', t', hsub, hdone⟩ := t.complete C ho s0 hl hm htd i (by omega)
      have hp := TD.path C ⟨own0, W0, s0⟩ hl hm htd i (by omega) (fun j hj => t'.recs j (hdone j hj))
      have hli : l[i]? = some o := by rw [hl i, if_pos him, hoi]
      have hlt : i < l.length := (List.getElem?_eq_some_iff.1 hli).1
      have e : l.drop i = o :: l.drop (i + 1) := by
        rw [List.drop_eq_getElem_cons hlt]; congr 1; exact (List.getElem?_eq_some_iff.1 hli).2
      rw [e] at hp
      have hx : Tx X CS ops pb rs tm0 u' i o := hp.imp (fun h => ⟨h.1, h.2.true⟩) (fun h => h.1)
      have hex := (t.exec C (u' := u') (Q := fun e a' W' => e = .normal ∧ ∃ tm' rs' own', Own rs' own' ∧ Sat X tm' own' a' W' ∧ Frm own0 W0 W' ∧ Grow own0 own' W0 ∧ K' tm' rs') ho s0 hoi hnD hpre (fun j _ hj => (hsub j hj).2) hx).1
      refine wpOpIn_mono (fun a2 W2 h => ?_) hex
      obtain ⟨v, r, h, t2⟩ := h
      refine ih _ _ _ a2 W2 (by simpa using hs) (fun j hj => ?_) (fun j hj => ?_) ?_ t2
      · rw [getD_set (by omega)]
        split
        · rename_i e; subst e; simp
        · rename_i e; rw [hd j hj]; simp [e]
      · rcases hj with hj | rfl
        · exact hDm j hj
        · exact him
      · have := remd_lt hs h1 h2; omega

/-- **A region that draws its order.** -/
theorem T.draw {id : Nat} {lo : List Oper} {Q : Exit → Tl → List As → Prop} (CS : Nat → Array Value → Value → List As → Prop) (pb : List Nat) (m : Nat) {tm : Tl} (hc : chk lo.toArray pb m X.N = true) (hf : X.P.follows .mixedOrders = true) (hm : m ≤ lo.length)
    (h : TD X CS lo.toArray pb rs (fun tm' rs' => TO X lo.toArray m (lo.drop m) tm' rs' (fun tm' rs' => Q .normal tm' rs')) 0 (lo.take m) tm []) : T X tm rs (.region id lo.toArray true) Q := fun own a W ho s => by
  have C := chk_spec hc
  refine wpIn_region_draw fun t => ?_
  have s' : Sat X tm own a { W with drawn := W.drawn + 1 } := ⟨s.tmp, s.size, s.rd, s.ow, s.dis, s.n0, s.marks, s.round⟩
  have h0 := anyA (X := X) (CS := CS) (ops := lo.toArray) (pb := pb) (m := m) (rs := rs) (tm0 := tm) (own0 := own) (a0 := a) (W0 := { W with drawn := W.drawn + 1 }) C ho s' (l := lo.take m)
    (fun j => by rw [List.getElem?_take]; split <;> simp) (by simpa using hm) (K' := fun tm' rs' => Q .normal tm' rs') h lo.toArray.size (Array.replicate lo.toArray.size false) (fun _ => False) ⟨fun _ => undef, fun _ => [], fun _ => Hp.emp⟩ a _ (by simp)
    (fun j hj => by have : j < lo.length := by simpa using hj
                    simp [Array.getD_eq_getD_getElem?, this]) (fun _ h => h.elim) (by unfold remd; exact Nat.le_trans List.countP_le_length (by simp))
    { lt := fun _ h => h.elim, closed := fun _ _ h => h.elim, recs := fun _ h => h.elim, defers := rfl, size := rfl, hit := fun _ _ _ h => h.elim, miss := fun _ _ => rfl, sat := s', own := fun _ h => h.elim, dis := fun _ _ h => h.elim, frm := Frm.refl _ _ }
  have hq : ∀ e a' W', (e = Exit.normal ∧ ∃ tm' rs' own', Own rs' own' ∧ Sat X tm' own' a' W' ∧ Frm own { W with drawn := W.drawn + 1 } W' ∧ Grow own own' { W with drawn := W.drawn + 1 } ∧ Q .normal tm' rs') → Post X own W Q e a' W' := by
    rintro e a' W' ⟨rfl, tm', rs', own', o', s', f, g, q⟩
    exact ⟨tm', rs', own', o', s', ⟨f.size, f.same, f.io⟩, g, q⟩
  simp only [Region.schedule, hf, Bool.true_or, if_true]
  exact wpOpsIn_mono hq _ _ _ (wpAnyIn_sound lo.toArray.size t _ a _ h0)

/-! ### Short forms -/
theorem AY.up {tm : Tl} {o : Oper} {v : Value} {l rs : List As} (h : AY X rs tm o v) : AY X (l ++ rs) tm o v := fun own a W ho s => by
  obtain ⟨b, k, _, hk, d, e⟩ := own_append.1 ho
  exact h k a W hk (s.less (own' := k) fun B x hx => by
    rw [e]; have : b B = none := (d B).resolve_right (by simp [hx])
    simp [Hp.add, this, hx])
theorem AN.up {tm : Tl} {o : Oper} {f : Nat → Value} {obj : Obj} {l rs : List As} (h : AN X rs tm o f obj) : AN X (l ++ rs) tm o f obj := fun own a W ho s => by
  obtain ⟨b, k, _, hk, d, e⟩ := own_append.1 ho
  exact h k a W hk (s.less (own' := k) fun B x hx => by
    rw [e]; have : b B = none := (d B).resolve_right (by simp [hx])
    simp [Hp.add, this, hx])
theorem AC.up {tm : Tl} {o : Oper} {K : FuncId} {args : Array Value} {l rs : List As} (h : AC X rs tm o K args) : AC X (l ++ rs) tm o K args := fun own a W ho s => by
  obtain ⟨b, k, _, hk, d, e⟩ := own_append.1 ho
  exact h k a W hk (s.less (own' := k) fun B x hx => by
    rw [e]; have : b B = none := (d B).resolve_right (by simp [hx])
    simp [Hp.add, this, hx])
theorem Ct.weak {P : Program} {K : FuncId} {args : Array Value} {g g' : Hp} {rs : List As} {Q : Value → List As → Prop} (h : Ct P K args g rs Q) (hs : ∀ B x, g B = some x → g' B = some x) : Ct P K args g' rs Q := fun own W o hg ho d =>
  h own W o (fun B x e => hg B x (hs B x e)) ho fun B => (d B).imp (fun e => RSub.none hs e) id

/-- the calls' posts, by the operation's place -/
def csOf : List (Nat × (Value → List As → Prop)) → Nat → Array Value → Value → List As → Prop
  | [], _, _ => fun _ _ => False
  | (j, p) :: r, i, args => if i = j then p else csOf r i args

section forms
variable {K : Tl → List As → Prop} {i : Nat} {o : Oper} {rest : List Oper} {tm : Tl} {fr : List (List As)}
theorem TD.nil (h : K tm (fr.flatten ++ rs)) : TD X CS ops pb rs K i [] tm fr := h
theorem TD.y {v : Value} (h : AY X rs tm o v) (hw : Wanted ops tm o.guard) (k : TD X CS ops pb rs K (i + 1) rest (tput o.dst v tm) ([] :: fr)) : TD X CS ops pb rs K i (o :: rest) tm fr :=
  .inl ⟨hw, fun own a W ho s => .inl ⟨v, h.up own a W ho s, k⟩⟩
/-- one that reads what operations before it have made -/
theorem TD.yf {v : Value} (h : AY X (avl (pb.getD i 0) fr ++ rs) tm o v) (hw : Wanted ops tm o.guard) (k : TD X CS ops pb rs K (i + 1) rest (tput o.dst v tm) ([] :: fr)) : TD X CS ops pb rs K i (o :: rest) tm fr :=
  .inl ⟨hw, fun own a W ho s => .inl ⟨v, h own a W ho s, k⟩⟩
theorem TD.n {f : Nat → Value} {obj : Obj} (h : AN X rs tm o f obj) (hw : Wanted ops tm o.guard) (k : ∀ B, TD X CS ops pb rs K (i + 1) rest (tput o.dst (f B) tm) ([As.one B obj] :: fr)) : TD X CS ops pb rs K i (o :: rest) tm fr :=
  .inl ⟨hw, fun own a W ho s => .inr (.inl ⟨_, obj, h.up own a W ho s, k _⟩)⟩
theorem TD.c {f : FuncId} {args : Array Value} (h : AC X rs tm o f args) (hw : Wanted ops tm o.guard) (hc : ∀ own, Own rs own → X.g.disj own → Ct X.P f args (X.g.add own) [] (CS i args)) (k : ∀ v rs', CS i args v rs' → TD X CS ops pb rs K (i + 1) rest (tput o.dst v tm) (rs' :: fr)) : TD X CS ops pb rs K i (o :: rest) tm fr :=
  .inl ⟨hw, fun own a W ho s => .inr (.inr ⟨f, args, h.up own a W ho s, (by
    obtain ⟨b, q, _, hk, d, e⟩ := own_append.1 ho
    have hq : ∀ B x, q B = some x → own B = some x := fun B x hx => by
      rw [e]; have : b B = none := (d B).resolve_right (by simp [hx])
      simp [Hp.add, this, hx]
    refine (hc q hk fun B => (s.dis B).imp id fun e' => RSub.none hq e').weak fun B x hx => ?_
    unfold Hp.add at hx ⊢
    cases hg : X.g B with
    | some y => rw [hg] at hx; simpa using hx
    | none => rw [hg] at hx; simp at hx; simp [hq B x hx]), k⟩)⟩
theorem TD.cf {f : FuncId} {args : Array Value} (h : AC X rs tm o f args) (hw : Wanted ops tm o.guard) (hc : ∀ own, Own (avl (pb.getD i 0) fr ++ rs) own → X.g.disj own → Ct X.P f args (X.g.add own) [] (CS i args)) (k : ∀ v rs', CS i args v rs' → TD X CS ops pb rs K (i + 1) rest (tput o.dst v tm) (rs' :: fr)) : TD X CS ops pb rs K i (o :: rest) tm fr :=
  .inl ⟨hw, fun own a W ho s => .inr (.inr ⟨f, args, h.up own a W ho s, hc own ho s.dis, k⟩)⟩
theorem TD.skip (hw : Unwanted ops tm o.guard) (k : TD X CS ops pb rs K (i + 1) rest (tput o.dst undef tm) ([] :: fr)) : TD X CS ops pb rs K i (o :: rest) tm fr := .inr ⟨hw, k⟩
end forms

/-- a region that draws its order: the posts of its calls, who surely comes before whom, how many operations are free of order -/
theorem T.dr {id : Nat} {lo : List Oper} {Q : Exit → Tl → List As → Prop} {tm : Tl} {N : Nat} (cs : List (Nat × (Value → List As → Prop))) (pb : List Nat) (m : Nat) (hc : chk lo.toArray pb m N = true) (hf : X.P.follows .mixedOrders = true) (hN : X.N = N) (hm : m ≤ lo.length)
    (h : TD X (csOf cs) lo.toArray pb rs (fun tm' rs' => TO X lo.toArray m (lo.drop m) tm' rs' (fun tm' rs' => Q .normal tm' rs')) 0 (lo.take m) tm []) : T X tm rs (.region id lo.toArray true) Q :=
  .draw (csOf cs) pb m (by rw [hN]; exact hc) hf hm h

end sound
end Go.V
