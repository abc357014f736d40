/- A logic of triples over the model's walk ('Code.wpIn'): the memory that a call owns is a list of assertions on disjoint parts of the heap; all else is read and stays as it lies. This text: heaplets, states, triples, the rules for code. -/
import Derived.RangeFuncLeaves
import Derived.RangeFuncRecord
import Derived.RangeFuncKeeps
import Derived.CallsIn
set_option linter.unusedVariables false
namespace Go.V

/-! ### Parts of a heap -/
abbrev Hp := Nat → Option Obj
def Hp.emp : Hp := fun _ => none
def Hp.one (B : Nat) (o : Obj) : Hp := fun b => if b = B then some o else none
def Hp.add (h k : Hp) : Hp := fun b => (h b).or (k b)
def Hp.disj (h k : Hp) : Prop := ∀ b, h b = none ∨ k b = none
def Hp.inW (h : Hp) (W : World) : Prop := ∀ b o, h b = some o → W.heap[b]? = some o

theorem Hp.add_emp (h : Hp) : h.add Hp.emp = h := by funext b; simp [Hp.add, Hp.emp]
theorem Hp.emp_add (h : Hp) : Hp.emp.add h = h := by funext b; simp [Hp.add, Hp.emp]
theorem Hp.add_assoc (h k l : Hp) : (h.add k).add l = h.add (k.add l) := by funext b; simp [Hp.add, Option.or_assoc]
theorem Hp.add_none {h k : Hp} {b : Nat} : h.add k b = none ↔ h b = none ∧ k b = none := by simp [Hp.add, Option.or_eq_none_iff]
theorem Hp.add_comm {h k : Hp} (d : h.disj k) : h.add k = k.add h := by
  funext b; rcases d b with e | e <;> simp [Hp.add, e]
theorem Hp.disj_symm {h k : Hp} (d : h.disj k) : k.disj h := fun b => (d b).symm
theorem Hp.disj_emp (h : Hp) : h.disj Hp.emp := fun _ => .inr rfl
theorem Hp.emp_disj (h : Hp) : Hp.emp.disj h := fun _ => .inl rfl
theorem Hp.disj_add {h k l : Hp} : h.disj (k.add l) ↔ h.disj k ∧ h.disj l := by
  constructor
  · intro d; exact ⟨fun b => (d b).imp id (fun e => (Hp.add_none.1 e).1), fun b => (d b).imp id (fun e => (Hp.add_none.1 e).2)⟩
  · rintro ⟨d, e⟩ b
    rcases d b with x | x
    · exact .inl x
    · exact (e b).imp id (fun y => Hp.add_none.2 ⟨x, y⟩)
theorem Hp.add_disj {h k l : Hp} : (h.add k).disj l ↔ h.disj l ∧ k.disj l := by
  constructor
  · intro d; have := Hp.disj_add.1 (Hp.disj_symm d); exact ⟨Hp.disj_symm this.1, Hp.disj_symm this.2⟩
  · rintro ⟨d, e⟩; exact Hp.disj_symm (Hp.disj_add.2 ⟨Hp.disj_symm d, Hp.disj_symm e⟩)
theorem Hp.one_self (B : Nat) (o : Obj) : Hp.one B o B = some o := by simp [Hp.one]
theorem Hp.one_ne {B b : Nat} (o : Obj) (h : b ≠ B) : Hp.one B o b = none := by simp [Hp.one, h]
theorem Hp.one_disj {B : Nat} {o : Obj} {h : Hp} : (Hp.one B o).disj h ↔ h B = none := by
  constructor
  · intro d; exact (d B).resolve_left (by simp [Hp.one])
  · intro e b; by_cases hb : b = B
    · subst hb; exact .inr e
    · exact .inl (Hp.one_ne o hb)
theorem Hp.inW_add {h k : Hp} {W : World} (a : h.inW W) (b : k.inW W) : (h.add k).inW W := by
  intro B o e
  unfold Hp.add at e
  cases hh : h B with
  | some x => rw [hh] at e; simp at e; subst e; exact a B x hh
  | none => rw [hh] at e; simp at e; exact b B o e
theorem Hp.inW_left {h k : Hp} {W : World} (a : (h.add k).inW W) : h.inW W := fun B o e => a B o (by simp [Hp.add, e])
theorem Hp.inW_right {h k : Hp} {W : World} (d : h.disj k) (a : (h.add k).inW W) : k.inW W := fun B o e => a B o (by
  have : h B = none := (d B).resolve_right (by simp [e])
  simp [Hp.add, e, this])
theorem Hp.inW_emp (W : World) : Hp.emp.inW W := fun _ _ e => by simp [Hp.emp] at e
theorem Hp.inW_one {W : World} {B : Nat} {o : Obj} (h : W.heap[B]? = some o) : (Hp.one B o).inW W := by
  intro b o' e; by_cases hb : b = B
  · subst hb; simp [Hp.one] at e; subst e; exact h
  · simp [Hp.one, hb] at e
theorem Hp.inW_lt {h : Hp} {W : World} (a : h.inW W) {B : Nat} (e : h B ≠ none) : B < W.heap.size := by
  cases hb : h B with
  | none => exact absurd hb e
  | some o => exact (Array.getElem?_eq_some_iff.1 (a B o hb)).1

/-! ### Assertions -/
abbrev As := Hp → Prop
def As.one (B : Nat) (o : Obj) : As := fun h => h = Hp.one B o
def As.emp : As := fun h => h = Hp.emp
def As.ex {α : Type} (A : α → As) : As := fun h => ∃ x, A x h
/-- two parts, disjoint -/
def As.sep (A B : As) : As := fun h => ∃ a b, A a ∧ B b ∧ a.disj b ∧ h = a.add b

inductive Own : List As → Hp → Prop
  | nil : Own [] Hp.emp
  | cons {A : As} {r : List As} {h k : Hp} (a : A h) (t : Own r k) (d : h.disj k) : Own (A :: r) (h.add k)

theorem own_nil {h : Hp} : Own [] h ↔ h = Hp.emp := ⟨fun o => by cases o; rfl, fun e => e ▸ .nil⟩
theorem own_cons {A : As} {r : List As} {h : Hp} : Own (A :: r) h ↔ ∃ a k, A a ∧ Own r k ∧ a.disj k ∧ h = a.add k :=
  ⟨fun o => by cases o with | cons a t d => exact ⟨_, _, a, t, d, rfl⟩, fun ⟨_, _, a, t, d, e⟩ => e ▸ .cons a t d⟩
theorem own_one {A : As} {h : Hp} (a : A h) : Own [A] h := by
  have := Own.cons a .nil (Hp.disj_emp h); rwa [Hp.add_emp] at this
theorem own_append {l r : List As} {h : Hp} : Own (l ++ r) h ↔ ∃ a k, Own l a ∧ Own r k ∧ a.disj k ∧ h = a.add k := by
  induction l generalizing h with
  | nil =>
    constructor
    · intro o; exact ⟨Hp.emp, h, .nil, o, Hp.emp_disj h, (Hp.emp_add h).symm⟩
    · rintro ⟨a, k, ha, hk, _, e⟩; rw [own_nil] at ha; subst ha; rw [Hp.emp_add] at e; exact e ▸ hk
  | cons A l ih =>
    constructor
    · intro o
      obtain ⟨a, k, ha, hk, d, e⟩ := own_cons.1 o
      obtain ⟨b, c, hb, hc, d2, e2⟩ := ih.1 hk
      subst e2; subst e
      have := Hp.disj_add.1 d
      exact ⟨a.add b, c, .cons ha hb this.1, hc, Hp.add_disj.2 ⟨this.2, d2⟩, (Hp.add_assoc _ _ _).symm⟩
    · rintro ⟨a, k, ha, hk, d, e⟩
      obtain ⟨b, c, hb, hc, d2, e2⟩ := own_cons.1 ha
      subst e2; subst e
      have := Hp.add_disj.1 d
      rw [Hp.add_assoc]
      exact .cons hb (ih.2 ⟨c, k, hc, hk, this.2, rfl⟩) (Hp.disj_add.2 ⟨d2, this.1⟩)

/-- One assertion taken out of the list by its place. -/
theorem own_take {l : List As} {i : Nat} {A : As} {own : Hp} (o : Own l own) (hi : l[i]? = some A) :
    ∃ h k, A h ∧ Own (l.eraseIdx i) k ∧ h.disj k ∧ own = h.add k ∧ ∀ A' h', A' h' → h'.disj k → Own (l.set i A') (h'.add k) := by
  induction l generalizing i own with
  | nil => simp at hi
  | cons B l ih =>
    obtain ⟨a, k, ha, hk, d, e⟩ := own_cons.1 o
    cases i with
    | zero =>
      simp at hi; subst hi
      exact ⟨a, k, ha, hk, d, e, fun A' h' ha' d' => .cons ha' hk d'⟩
    | succ i =>
      simp at hi
      obtain ⟨h, k', hA, hk', d', e', hset⟩ := ih hk hi
      subst e'; subst e
      have dd := Hp.disj_add.1 d
      refine ⟨h, a.add k', hA, by simpa using Own.cons ha hk' dd.2, Hp.disj_add.2 ⟨Hp.disj_symm dd.1, d'⟩, ?_, ?_⟩
      · rw [← Hp.add_assoc, Hp.add_comm dd.1, Hp.add_assoc]
      · intro A' h' ha' d''
        have d3 := Hp.disj_add.1 d''
        have := Own.cons ha (hset A' h' ha' d3.2) (Hp.disj_add.2 ⟨Hp.disj_symm d3.1, dd.2⟩)
        rw [← Hp.add_assoc, Hp.add_comm (Hp.disj_symm d3.1), Hp.add_assoc] at this
        simpa using this

/-- What is read: g and what is owned. -/
theorem own_sub {l : List As} {i : Nat} {A : As} {own : Hp} (o : Own l own) (hi : l[i]? = some A) : ∃ h, A h ∧ ∀ B x, h B = some x → own B = some x := by
  obtain ⟨h, k, hA, _, _, e, _⟩ := own_take o hi
  exact ⟨h, hA, fun B x hx => by rw [e]; simp [Hp.add, hx]⟩

/-! ### Slots -/
abbrev Tl := List (Nat × Value)
def tget : Tl → Nat → Option Value
  | [], _ => none
  | (j, v) :: r, i => if i = j then some v else tget r i
def Tm (tm : Tl) (a : Act) : Prop := ∀ i v, tget tm i = some v → a.tmps[i]? = some v

/-! ### The world's steps -/
/-- what a world has beside its heap stays -/
def IoEq (W W' : World) : Prop := W'.os = W.os ∧ W'.output = W.output
theorem IoEq.refl (W : World) : IoEq W W := ⟨rfl, rfl⟩
theorem IoEq.trans {W W' W'' : World} (h : IoEq W W') (h' : IoEq W' W'') : IoEq W W'' := ⟨h'.1.trans h.1, h'.2.trans h.2⟩
/-- whatever lay, and is not owned, lies as it lay -/
structure Frm (own : Hp) (W W' : World) : Prop where
  size : W.heap.size ≤ W'.heap.size
  same : ∀ B, B < W.heap.size → own B = none → W'.heap[B]? = W.heap[B]?
  io : IoEq W W'
def Grow (own own' : Hp) (W : World) : Prop := ∀ B, own' B ≠ none → own B ≠ none ∨ W.heap.size ≤ B

theorem Frm.refl (own : Hp) (W : World) : Frm own W W := ⟨Nat.le_refl _, fun _ _ _ => rfl, IoEq.refl W⟩
theorem Grow.refl (own : Hp) (W : World) : Grow own own W := fun _ h => .inl h
theorem Frm.trans {o o' : Hp} {W W' W'' : World} (h : Frm o W W') (g : Grow o o' W) (h' : Frm o' W' W'') : Frm o W W'' :=
  ⟨Nat.le_trans h.size h'.size, fun B hB hn => by
    rw [h'.same B (Nat.lt_of_lt_of_le hB h.size) ?_, h.same B hB hn]
    cases e : o' B with
    | none => rfl
    | some x => rcases g B (by simp [e]) with y | y
                · exact absurd hn y
                · omega, h.io.trans h'.io⟩
theorem Grow.trans {o o' o'' : Hp} {W W' : World} (hs : W.heap.size ≤ W'.heap.size) (h : Grow o o' W) (h' : Grow o' o'' W') : Grow o o'' W := fun B hB => by
  rcases h' B hB with x | x
  · exact h B x
  · exact .inr (Nat.le_trans hs x)
theorem Frm.inW {own h : Hp} {W W' : World} (f : Frm own W W') (d : h.disj own) (a : h.inW W) : h.inW W' := fun B o e => by
  have hl := Hp.inW_lt a (B := B) (by simp [e])
  rw [f.same B hl ((d B).resolve_left (by simp [e]))]; exact a B o e
theorem Frm.mono {own own' : Hp} {W W' : World} (f : Frm own W W') (h : ∀ B, own' B = none → own B = none) : Frm own' W W' := ⟨f.size, fun B hB hn => f.same B hB (h B hn), f.io⟩
theorem Grow.disj {own own' h : Hp} {W : World} (g : Grow own own' W) (d : h.disj own) (a : h.inW W) : h.disj own' := fun B => by
  cases e : h B with
  | none => exact .inl rfl
  | some x =>
    refine .inr ?_
    cases e' : own' B with
    | none => rfl
    | some y =>
      rcases g B (by simp [e']) with z | z
      · exact absurd ((d B).resolve_left (by simp [e])) z
      · have := Hp.inW_lt a (B := B) (by simp [e]); omega

/-! ### Marks: the blocks for calls deferred in rounds -/
inductive Mk (n0 : Nat) : List Deferred → Hp → Prop
  | nil : Mk n0 [] Hp.emp
  | cons {D : Nat} {ds : List Deferred} {h : Hp} (hD : n0 ≤ D) (t : Mk n0 ds h) (d : h D = none) : Mk n0 ({ target := .collected D, args := #[] } :: ds) ((Hp.one D (.deferred (some []))).add h)

/-- What stays the same through a function: the program, what is read, the loop around, the heap's size at its begin, how many slots. -/
structure Cx where
  P : Program
  g : Hp
  ro : Option Nat
  n0 : Nat
  N : Nat

abbrev Cx.F (X : Cx) : Fence := { Fence.wide with round := X.ro }

structure Sat (X : Cx) (tm : Tl) (own : Hp) (a : Act) (W : World) : Prop where
  tmp : Tm tm a
  size : a.tmps.size = X.N
  rd : X.g.inW W
  ow : own.inW W
  dis : X.g.disj own
  n0 : X.n0 ≤ W.heap.size
  marks : ∃ hm, Mk X.n0 a.defers hm ∧ hm.disj own ∧ hm.inW W
  round : ∀ l, X.ro = some l → (∃ r : Loop, W.heap[l]? = some (.loop r)) ∧ own l = none

/-- What holds behind a step: a new state, reached by turning nothing but what was owned. -/
def Post (X : Cx) (own : Hp) (W : World) (Q : Exit → Tl → List As → Prop) : Exit → Act → World → Prop := fun e a' W' =>
  ∃ tm' rs' own', Own rs' own' ∧ Sat X tm' own' a' W' ∧ Frm own W W' ∧ Grow own own' W ∧ Q e tm' rs'

/-- THE TRIPLE. -/
def T (X : Cx) (tm : Tl) (rs : List As) (c : Code) (Q : Exit → Tl → List As → Prop) : Prop :=
  ∀ own a W, Own rs own → Sat X tm own a W → c.wpIn X.F 0 X.P (Post X own W Q) a W

theorem Post.mono {X : Cx} {own : Hp} {W : World} {Q Q' : Exit → Tl → List As → Prop} (h : ∀ e tm rs, Q e tm rs → Q' e tm rs) {e : Exit} {a : Act} {w : World} (p : Post X own W Q e a w) : Post X own W Q' e a w :=
  let ⟨tm, rs, o, h1, h2, h3, h4, h5⟩ := p; ⟨tm, rs, o, h1, h2, h3, h4, h _ _ _ h5⟩
theorem Post.from {X : Cx} {own own1 : Hp} {W W1 : World} {Q : Exit → Tl → List As → Prop} (f : Frm own W W1) (g : Grow own own1 W) {e : Exit} {a : Act} {w : World} (p : Post X own1 W1 Q e a w) : Post X own W Q e a w :=
  let ⟨tm, rs, o, h1, h2, h3, h4, h5⟩ := p; ⟨tm, rs, o, h1, h2, f.trans g h3, g.trans f.size h4, h5⟩

theorem T.mono {X : Cx} {tm : Tl} {rs : List As} {c : Code} {Q Q' : Exit → Tl → List As → Prop} (h : T X tm rs c Q) (hq : ∀ e tm rs, Q e tm rs → Q' e tm rs) : T X tm rs c Q' :=
  fun own a W o s => wpIn_mono (h own a W o s) fun _ _ _ => Post.mono hq

/-! ### Entailment of states -/
def TSub : Tl → Tl → Prop
  | [], _ => True
  | (i, v) :: r, tm => tget tm i = some v ∧ TSub r tm
theorem TSub.get {tm' tm : Tl} (h : TSub tm' tm) {i : Nat} {v : Value} (e : tget tm' i = some v) : tget tm i = some v := by
  induction tm' with
  | nil => simp [tget] at e
  | cons p r ih =>
    obtain ⟨j, u⟩ := p
    obtain ⟨h1, h2⟩ := h
    unfold tget at e
    split at e
    · rename_i hij; subst hij; cases e; exact h1
    · exact ih h2 e
theorem TSub.tm {tm' tm : Tl} (h : TSub tm' tm) {a : Act} (t : Tm tm a) : Tm tm' a := fun i v e => t i v (h.get e)
theorem TSub.of_get : ∀ {l tm : Tl}, (∀ i v, (i, v) ∈ l → tget tm i = some v) → TSub l tm
  | [], _, _ => trivial
  | (i, v) :: _, _, h => ⟨h i v List.mem_cons_self, TSub.of_get fun j u hm => h j u (List.mem_cons_of_mem _ hm)⟩
/-- rs' is owned where rs is (parts may be dropped) -/
def RSub (rs' rs : List As) : Prop := ∀ own, Own rs own → ∃ own', Own rs' own' ∧ ∀ B x, own' B = some x → own B = some x
theorem RSub.refl (rs : List As) : RSub rs rs := fun own o => ⟨own, o, fun _ _ h => h⟩
theorem RSub.trans {a b c : List As} (h : RSub a b) (k : RSub b c) : RSub a c := fun own o => by
  obtain ⟨o1, h1, s1⟩ := k own o
  obtain ⟨o2, h2, s2⟩ := h o1 h1
  exact ⟨o2, h2, fun B x hx => s1 B x (s2 B x hx)⟩
theorem RSub.none {own own' : Hp} (s : ∀ B x, own' B = some x → own B = some x) {B : Nat} (h : own B = none) : own' B = none := by
  cases e : own' B with
  | none => rfl
  | some x => rw [s B x e] at h; cases h
theorem RSub.drop (A : As) {rs' rs : List As} (h : RSub rs' rs) : RSub rs' (A :: rs) := fun own o => by
  obtain ⟨a, k, _, hk, d, e⟩ := own_cons.1 o
  obtain ⟨o', ho', s⟩ := h k hk
  refine ⟨o', ho', fun B x hx => ?_⟩
  have hb := s B x hx
  have : a B = Option.none := (d B).resolve_right (by simp [hb])
  rw [e]; simp [Hp.add, this, hb]
theorem RSub.cons {A A' : As} {rs' rs : List As} (ha : ∀ h, A h → A' h) (h : RSub rs' rs) : RSub (A' :: rs') (A :: rs) := fun own o => by
  obtain ⟨a, k, ha', hk, d, e⟩ := own_cons.1 o
  obtain ⟨o', ho', s⟩ := h k hk
  refine ⟨a.add o', .cons (ha a ha') ho' (fun B => (d B).imp id (fun e => RSub.none s e)), fun B x hx => ?_⟩
  rw [e]
  cases hab : a B with
  | some y => simpa [Hp.add, hab] using hx
  | none => simp [Hp.add, hab] at hx; simp [Hp.add, hab, s B x hx]
theorem RSub.keep (A : As) {rs' rs : List As} (h : RSub rs' rs) : RSub (A :: rs') (A :: rs) := .cons (fun _ h => h) h
/-- take the i-th out to the head -/
theorem RSub.pick {A : As} {rs' rs : List As} (i : Nat) (hi : rs[i]? = some A) (h : RSub rs' (rs.eraseIdx i)) : RSub (A :: rs') rs := fun own o => by
  obtain ⟨a, k, ha, hk, d, e, _⟩ := own_take o hi
  obtain ⟨o', ho', s⟩ := h k hk
  refine ⟨a.add o', .cons ha ho' (fun B => (d B).imp id (fun e => RSub.none s e)), fun B x hx => ?_⟩
  rw [e]
  cases hab : a B with
  | some y => simpa [Hp.add, hab] using hx
  | none => simp [Hp.add, hab] at hx; simp [Hp.add, hab, s B x hx]
theorem RSub.nil (rs : List As) : RSub [] rs := fun _ _ => ⟨Hp.emp, .nil, fun _ _ h => by simp [Hp.emp] at h⟩

theorem Sat.less {X : Cx} {tm : Tl} {own own' : Hp} {a : Act} {W : World} (s : Sat X tm own a W) (hs : ∀ B x, own' B = some x → own B = some x) : Sat X tm own' a W where
  tmp := s.tmp
  size := s.size
  rd := s.rd
  ow := fun B o h => s.ow B o (hs B o h)
  dis := fun B => (s.dis B).imp id (fun (e : own B = none) => RSub.none hs e)
  n0 := s.n0
  marks := let ⟨hm, h1, h2, h3⟩ := s.marks; ⟨hm, h1, fun B => (h2 B).imp id (fun (e : own B = none) => RSub.none hs e), h3⟩
  round := fun l hl => ⟨(s.round l hl).1, RSub.none hs (s.round l hl).2⟩
theorem Sat.tmps {X : Cx} {tm tm' : Tl} {own : Hp} {a : Act} {W : World} (s : Sat X tm own a W) (h : Tm tm' a) : Sat X tm' own a W := ⟨h, s.size, s.rd, s.ow, s.dis, s.n0, s.marks, s.round⟩
theorem Sat.weak {X : Cx} {tm tm' : Tl} {own own' : Hp} {a : Act} {W : World} (s : Sat X tm own a W) (ht : TSub tm' tm) (hs : ∀ B x, own' B = some x → own B = some x) : Sat X tm' own' a W :=
  (s.tmps (ht.tm s.tmp)).less hs

theorem T.weak {X : Cx} {tm tm' : Tl} {rs rs' : List As} {c : Code} {Q : Exit → Tl → List As → Prop} (ht : TSub tm' tm) (hr : RSub rs' rs) (h : T X tm' rs' c Q) : T X tm rs c Q :=
  fun own a W o s => by
    obtain ⟨own', o', hs⟩ := hr own o
    refine wpIn_mono (h own' a W o' (s.weak ht hs)) fun e a' W' p => ?_
    obtain ⟨tm2, rs2, o2, h1, h2, h3, h4, h5⟩ := p
    exact ⟨tm2, rs2, o2, h1, h2, h3.mono (fun B hB => RSub.none hs hB), fun B hB => (h4 B hB).imp (fun y e => y (RSub.none hs e)) id, h5⟩

/-- an existential of the first assertion is opened -/
theorem T.ex {X : Cx} {tm : Tl} {rs : List As} {c : Code} {Q : Exit → Tl → List As → Prop} {α : Type} {A : α → As} (h : ∀ x, T X tm (A x :: rs) c Q) : T X tm (As.ex A :: rs) c Q :=
  fun own a W o s => by
    obtain ⟨b, k, ⟨x, hx⟩, hk, d, e⟩ := own_cons.1 o
    subst e
    exact h x _ a W (.cons hx hk d) s

/-! ### The rules for code -/
variable {X : Cx} {tm : Tl} {rs : List As} {Q : Exit → Tl → List As → Prop}

theorem T.done {e : Exit} {own : Hp} {a : Act} {W : World} (o : Own rs own) (s : Sat X tm own a W) (h : Q e tm rs) : Post X own W Q e a W :=
  ⟨tm, rs, own, o, s, Frm.refl _ _, Grow.refl _ _, h⟩

theorem T.skip (h : Q .normal tm rs) : T X tm rs .skip Q := fun _ _ _ o s => wpIn_skip (T.done o s h)
theorem T.exit {id : Nat} (h : Q (.exit id) tm rs) : T X tm rs (.exit id) Q := fun _ _ _ o s => wpIn_exit (T.done o s h)
theorem T.ret (h : Q .ret tm rs) : T X tm rs .ret Q := fun _ _ _ o s => wpIn_ret (T.done o s h)
theorem T.label {l : Nat} (h : Q .normal tm rs) : T X tm rs (.label l) Q := fun _ _ _ o s => wpIn_label (T.done o s h)

@[reducible] def thenQ (K : Tl → List As → Prop) (Q : Exit → Tl → List As → Prop) : Exit → Tl → List As → Prop
  | .normal => K
  | e => Q e
theorem T.seq {x y : Code} (h : T X tm rs x (thenQ (fun tm' rs' => T X tm' rs' y Q) Q)) : T X tm rs (.seq x y) Q := by
  intro own a W o s
  refine wpIn_seq (wpIn_mono (h own a W o s) fun e a1 W1 p => ?_)
  obtain ⟨tm', rs', own', o', s', f, g, q⟩ := p
  cases e with
  | normal => exact wpIn_mono (q own' a1 W1 o' s') fun e a2 W2 p2 => p2.from f g
  | exit id => exact ⟨tm', rs', own', o', s', f, g, q⟩
  | goto l => exact ⟨tm', rs', own', o', s', f, g, q⟩
  | ret => exact ⟨tm', rs', own', o', s', f, g, q⟩
  | panic ch => exact ⟨tm', rs', own', o', s', f, g, q⟩
  | outgrown => exact ⟨tm', rs', own', o', s', f, g, q⟩
theorem T.seq_skip {y : Code} (h : T X tm rs y Q) : T X tm rs (.seq .skip y) Q := .seq (.skip h)
theorem T.seq_label {l : Nat} {y : Code} (h : T X tm rs y Q) : T X tm rs (.seq (.label l) y) Q := .seq (.label h)
theorem T.seq_exit {id : Nat} {y : Code} (h : Q (.exit id) tm rs) : T X tm rs (.seq (.exit id) y) Q := .seq (.exit h)
theorem T.seq_ret {y : Code} (h : Q .ret tm rs) : T X tm rs (.seq .ret y) Q := .seq (.ret h)

def inB (id : Nat) (Q : Exit → Tl → List As → Prop) : Exit → Tl → List As → Prop
  | .exit id' => if id' = id then Q .normal else Q (.exit id')
  | e => Q e
theorem inB_eq (id : Nat) (Q : Exit → Tl → List As → Prop) {e : Exit} {own : Hp} {a : Act} {W W0 : World} (p : Post X own W0 (inB id Q) e a W) : Exit.inBlock id (Post X own W0 Q) e a W := by
  obtain ⟨tm', rs', own', o', s', f, g, q⟩ := p
  cases e with
  | exit id' =>
    by_cases h : id' = id
    · simp only [Exit.inBlock, h, if_true]; simp only [inB, h, if_true] at q; exact ⟨tm', rs', own', o', s', f, g, q⟩
    · simp only [Exit.inBlock, h, if_false]; simp only [inB, h, if_false] at q; exact ⟨tm', rs', own', o', s', f, g, q⟩
  | normal => exact ⟨tm', rs', own', o', s', f, g, q⟩
  | goto l => exact ⟨tm', rs', own', o', s', f, g, q⟩
  | ret => exact ⟨tm', rs', own', o', s', f, g, q⟩
  | panic ch => exact ⟨tm', rs', own', o', s', f, g, q⟩
  | outgrown => exact ⟨tm', rs', own', o', s', f, g, q⟩
theorem T.block {id : Nat} {c : Code} (h : T X tm rs c (inB id Q)) : T X tm rs (.block id c) Q := fun own a W o s =>
  wpIn_block (wpIn_mono (h own a W o s) fun _ _ _ p => inB_eq id Q p)
theorem inB_hit {id : Nat} (h : Q .normal tm rs) : inB id Q (.exit id) tm rs := by simp only [inB, if_true]; exact h
theorem inB_miss {id id' : Nat} (hne : id' ≠ id) (h : Q (.exit id') tm rs) : inB id Q (.exit id') tm rs := by simp only [inB, hne, if_false]; exact h

/-! ### Operands -/
def evo (tm : Tl) : Operand → Option Value
  | .tmp t => tget tm t
  | .const v => some v
  | .func f => some (.func (.func f) #[] #[])
  | .global g => some (.pointer (some ⟨g, 0, none⟩))
theorem Sat.eval {own : Hp} {a : Act} {W : World} (s : Sat X tm own a W) {x : Operand} {v : Value} (h : evo tm x = some v) : a.eval x = v := by
  cases x with
  | tmp t => have := s.tmp t v h; simp [Act.eval, this]
  | const c => simp only [evo, Option.some.injEq] at h; exact h
  | func f => simp only [evo, Option.some.injEq] at h; exact h
  | global g => simp only [evo, Option.some.injEq] at h; exact h

theorem T.cond {c : Operand} {x y : Code} {b : Bool} (hc : evo tm c = some (.bool b)) (ht : b = true → T X tm rs x Q) (hf : b = false → T X tm rs y Q) : T X tm rs (.cond c x y) Q :=
  fun own a W o s => wpIn_cond_split (s.eval hc) (fun e => ht e own a W o s) (fun e => hf e own a W o s)
theorem T.cond_t {c : Operand} {x y : Code} (hc : evo tm c = some (.bool true)) (h : T X tm rs x Q) : T X tm rs (.cond c x y) Q := .cond hc (fun _ => h) (fun e => by cases e)
theorem T.cond_f {c : Operand} {x y : Code} (hc : evo tm c = some (.bool false)) (h : T X tm rs y Q) : T X tm rs (.cond c x y) Q := .cond hc (fun e => by cases e) (fun _ => h)
/-- the test's outcome is said by a proposition -/
theorem T.ite {c : Operand} {x y : Code} {p : Prop} [Decidable p] (hc : evo tm c = some (.bool (decide p))) (ht : p → T X tm rs x Q) (hf : ¬ p → T X tm rs y Q) : T X tm rs (.cond c x y) Q :=
  .cond hc (fun e => ht (of_decide_eq_true e)) (fun e => hf (of_decide_eq_false e))

/-- Ways meet again: what holds behind c is one state (or one family of states). -/
theorem T.cut {c : Code} {ι : Type} (f : ι → Tl × List As) (h : T X tm rs c (thenQ (fun tm' rs' => ∃ x, TSub (f x).1 tm' ∧ RSub (f x).2 rs') Q)) (k : ∀ x, Q .normal (f x).1 (f x).2)
    (hQ : ∀ {tm tm' : Tl} {rs rs' : List As}, TSub tm' tm → RSub rs' rs → Q .normal tm' rs' → Q .normal tm rs) : T X tm rs c Q :=
  h.mono fun e tm' rs' q => by
    cases e with
    | normal => obtain ⟨x, h1, h2⟩ := q; exact hQ h1 h2 (k x)
    | exit id => exact q
    | goto l => exact q
    | ret => exact q
    | panic ch => exact q
    | outgrown => exact q
/-- the same for a statement with code behind it -/
theorem T.cutseq {c y : Code} {ι : Type} (f : ι → Tl × List As) (h : T X tm rs c (thenQ (fun tm' rs' => ∃ x, TSub (f x).1 tm' ∧ RSub (f x).2 rs') Q)) (k : ∀ x, T X (f x).1 (f x).2 y Q) : T X tm rs (.seq c y) Q := by
  refine .seq (h.mono fun e tm' rs' q => ?_)
  cases e with
  | normal => obtain ⟨x, h1, h2⟩ := q; exact T.weak h1 h2 (k x)
  | exit id => exact q
  | goto l => exact q
  | ret => exact q
  | panic ch => exact q
  | outgrown => exact q

/-! ### A loop: a family of states, a measure -/
@[reducible] def loopQ {ι : Type} (I : ι → Tl × List As) (m : ι → Nat) (x : ι) (Q : Exit → Tl → List As → Prop) : Exit → Tl → List As → Prop
  | .normal => fun tm' rs' => ∃ y, m y < m x ∧ TSub (I y).1 tm' ∧ RSub (I y).2 rs'
  | e => Q e
theorem wpIn_loopG {F : Fence} {n : Nat} {P : Program} {Q : Exit → Act → World → Prop} {a : Act} {w : World} {c : Code} {ι : Type} (I : ι → Act → World → Prop) (m : ι → Nat) (x0 : ι) (h₀ : I x0 a w)
    (round : ∀ x a w, I x a w → c.wpIn F n P (Exit.then (fun a' w' => ∃ y, m y < m x ∧ I y a' w') Q) a w) : (Code.loop c).wpIn F n P Q a w := by
  intro b k cs hro hb hr
  have key : ∀ j x a w, m x = j → I x a w →
      ∃ e a' w', Q e a' w' ∧ ArrivesIn (Machine.fenced P F) P (lone (b.atR a (.code c :: .inLoop c :: k)) cs w) b k cs e a' w' := by
    intro j
    induction j using Nat.strongRecOn with
    | _ j ih =>
      intro x a w hn hI
      obtain ⟨e, a₁, w₁, hq, harr⟩ := round x a w hI b (.inLoop c :: k) cs hro hb hr
      cases e with
      | normal =>
        obtain ⟨y, hlt, hI₁⟩ := hq
        obtain ⟨e₂, a₂, w₂, hq₂, harr₂⟩ := ih (m y) (hn ▸ hlt) y a₁ w₁ rfl hI₁
        exact ⟨e₂, a₂, w₂, hq₂, .of_steps (StepsIn.trans harr (.one (fenced_calm hb hr rfl) stepR_inLoop)) harr₂⟩
      | exit id => exact ⟨_, a₁, w₁, hq, .pass (x := .inLoop c) rfl (fun _ _ => .inl (by simp)) harr⟩
      | goto l => exact ⟨_, a₁, w₁, hq, .pass (x := .inLoop c) rfl (fun _ _ => .inl (by simp)) harr⟩
      | ret => exact ⟨_, a₁, w₁, hq, .pass (x := .inLoop c) rfl (fun _ _ => .inl (by simp)) harr⟩
      | panic ch => exact ⟨_, a₁, w₁, hq, .pass (x := .inLoop c) rfl (fun _ _ => .inl (by simp)) harr⟩
      | outgrown => exact ⟨_, a₁, w₁, hq, .pass (x := .inLoop c) rfl (fun _ _ => .inl (by simp)) harr⟩
  obtain ⟨e, a', w', hq, harr⟩ := key _ x0 a w rfl h₀
  exact ⟨e, a', w', hq, .of_steps (.one (fenced_calm hb hr rfl) stepR_loop) harr⟩

theorem T.loop {ι : Type} (I : ι → Tl × List As) (m : ι → Nat) {c : Code} (x0 : ι) (ht : TSub (I x0).1 tm) (hr : RSub (I x0).2 rs)
    (h : ∀ x, T X (I x).1 (I x).2 c (loopQ I m x Q)) : T X tm rs (.loop c) Q := by
  intro own0 a W o0 s0
  obtain ⟨own1, o1, hs1⟩ := hr own0 o0
  refine wpIn_loopG (fun x a' W' => ∃ own', Own (I x).2 own' ∧ Sat X (I x).1 own' a' W' ∧ Frm own0 W W' ∧ Grow own0 own' W) m x0 ?_ ?_
  · exact ⟨own1, o1, s0.weak ht hs1, Frm.refl _ _, fun B hB => .inl fun e => hB (RSub.none hs1 e)⟩
  · rintro x a1 W1 ⟨own', o', s', f', g'⟩
    refine wpIn_mono (h x own' a1 W1 o' s') fun e a2 W2 p => ?_
    have p := p.from f' g'
    obtain ⟨tm2, rs2, own2, o2, s2, f2, g2, q⟩ := p
    cases e with
    | normal =>
      obtain ⟨y, hlt, ht2, hr2⟩ := q
      obtain ⟨own3, o3, hs3⟩ := hr2 own2 o2
      exact ⟨y, hlt, own3, o3, s2.weak ht2 hs3, f2, fun B hB => g2 B fun e => hB (RSub.none hs3 e)⟩
    | exit id => exact ⟨tm2, rs2, own2, o2, s2, f2, g2, q⟩
    | goto l => exact ⟨tm2, rs2, own2, o2, s2, f2, g2, q⟩
    | ret => exact ⟨tm2, rs2, own2, o2, s2, f2, g2, q⟩
    | panic ch => exact ⟨tm2, rs2, own2, o2, s2, f2, g2, q⟩
    | outgrown => exact ⟨tm2, rs2, own2, o2, s2, f2, g2, q⟩

/-! ### Contracts of functions -/
def Ct (P : Program) (K : FuncId) (args : Array Value) (g : Hp) (rs : List As) (Q : Value → List As → Prop) : Prop :=
  ∀ own W, Own rs own → g.inW W → own.inW W → g.disj own → Calls P K args W fun e W' =>
    ∃ v rs' own', e = .returned v ∧ Own rs' own' ∧ own'.inW W' ∧ Frm own W W' ∧ Grow own own' W ∧ Q v rs'

theorem Ct.mono {P : Program} {K : FuncId} {args : Array Value} {g : Hp} {rs : List As} {Q Q' : Value → List As → Prop} (h : Ct P K args g rs Q) (hq : ∀ v rs', Q v rs' → Q' v rs') : Ct P K args g rs Q' :=
  fun own W o hg ho d => (h own W o hg ho d).mono fun _ _ ⟨v, rs', own', e, h1, h2, h3, h4, h5⟩ => ⟨v, rs', own', e, h1, h2, h3, h4, hq _ _ h5⟩

def argsTl : Nat → List Value → Tl
  | _, [] => []
  | i, v :: r => (i, v) :: argsTl (i + 1) r
theorem argsTl_get : ∀ (l : List Value) (i j : Nat) (v : Value), tget (argsTl i l) j = some v → i ≤ j ∧ l[j - i]? = some v
  | [], _, _, _, h => by simp [argsTl, tget] at h
  | u :: r, i, j, v, h => by
    unfold argsTl tget at h
    split at h
    · rename_i e; subst e; simp at h; subst h; simp
    · rename_i e
      obtain ⟨h1, h2⟩ := argsTl_get r (i + 1) j v h
      have : j - i = (j - (i + 1)) + 1 := by omega
      exact ⟨by omega, by rw [this]; simpa using h2⟩

/-- what the results are, at a state -/
def ResOk (P : Program) (fn : Func) (tm : Tl) (own : Hp) (g : Hp) (v : Value) : Prop :=
  ∀ (a : Act) (W : World), Tm tm a → own.inW W → g.inW W → (results fn a.tmps).run P W = .ok v W

theorem takeMarks {X : Cx} {fn : Func} {tmps : Array Value} {R : Ending → World → Prop} : ∀ (ds : List Deferred) (hm : Hp) (W : World), Mk X.n0 ds hm → hm.inW W →
    (∀ W', W.heap.size = W'.heap.size → (∀ B, hm B = none → W'.heap[B]? = W.heap[B]?) → IoEq W W' → LeavesIn Fence.wide 0 X.P fn tmps R [] .returning W') →
    LeavesInM Fence.wide 0 X.P fn tmps R ds .returning W
  | _, _, W, .nil, _, h => h W rfl (fun _ _ => rfl) (IoEq.refl W)
  | _, _, W, .cons (D := D) (ds := ds) (h := h') hD t d, hin, h => by
    have hblk : W.heap[D]? = some (.deferred (some [])) := hin D _ (by simp [Hp.add, Hp.one])
    refine ⟨by simp, .inl ⟨D, W.putObj D (.deferred none), rfl, run_takeDeferred hblk, ?_⟩⟩
    refine takeMarks ds h' _ t (fun B o e => ?_) (fun W' hs hsame hio => h W' (by rw [← hs]; simp) (fun B hB => ?_) (IoEq.trans (show IoEq W (W.putObj D (.deferred none)) from ⟨rfl, rfl⟩) hio))
    · have hne : B ≠ D := fun e' => by subst e'; rw [d] at e; cases e
      rw [World.putObj_heap_other hne]
      exact hin B o (by simp [Hp.add, Hp.one, hne, e])
    · obtain ⟨h1, h2⟩ := Hp.add_none.1 hB
      have hne : B ≠ D := fun e' => by subst e'; simp [Hp.one] at h1
      rw [hsame B h2, World.putObj_heap_other hne]

theorem Mk.ge {n0 : Nat} {ds : List Deferred} {h : Hp} (m : Mk n0 ds h) {B : Nat} (e : h B ≠ none) : n0 ≤ B := by
  induction m with
  | nil => exact absurd rfl e
  | @cons D ds h' hD t d ih =>
    by_cases hB : B = D
    · subst hB; exact hD
    · exact ih fun e' => e (Hp.add_none.2 ⟨Hp.one_ne _ hB, e'⟩)

/-- **A function's contract out of its body's triple.** -/
theorem Ct.of_body {P : Program} {K : FuncId} {fn : Func} {c : Code} {l : List Value} {g : Hp} {rs : List As} {Q : Value → List As → Prop} {N : Nat} (hf : P.funcs[K]? = some fn) (hb : fn.body = some c) (hN : fn.ntmps = N) (hl : l.length ≤ N)
    (h : ∀ n0, T ⟨P, g, none, n0, N⟩ (argsTl 0 l) rs c (fun e tm' rs' => (e = .normal ∨ e = .ret) ∧ ∃ v rsF, RSub rsF rs' ∧ (∀ own', Own rs' own' → ResOk P fn tm' own' g v) ∧ Q v rsF)) : Ct P K l.toArray g rs Q := by
  intro own W o hg ho d
  refine callsIn_wide.1 (callsIn_of_wp_marks (n := 0) (F := Fence.wide) hf hb trivial ?_)
  have s : Sat ⟨P, g, none, W.heap.size, N⟩ (argsTl 0 l) own { tmps := l.toArray ++ Array.replicate (fn.ntmps - l.toArray.size) undef, defers := [] } W := {
    tmp := fun i v e => by
      obtain ⟨_, h2⟩ := argsTl_get l 0 i v e
      have h3 : l[i]? = some v := by simpa using h2
      have hlt : i < l.length := (List.getElem?_eq_some_iff.1 h3).1
      rw [Array.getElem?_append_left (by simpa using hlt)]
      simpa using h3
    size := by simp [hN]; omega
    rd := hg
    ow := ho
    dis := d
    n0 := Nat.le_refl _
    marks := ⟨Hp.emp, .nil, Hp.emp_disj _, Hp.inW_emp _⟩
    round := fun l hl => by cases hl }
  refine wpIn_mono (h W.heap.size own _ W o s) fun e a' W' p => ?_
  obtain ⟨tm', rs', own', o', s', f, gr, he, v, rsF, hsubF, hv, hq⟩ := p
  obtain ⟨ownF, oF, hF⟩ := hsubF own' o'
  have key : LeavesInM Fence.wide 0 P fn a'.tmps (fun e W' => ∃ v rs' own', e = .returned v ∧ Own rs' own' ∧ own'.inW W' ∧ Frm own W W' ∧ Grow own own' W ∧ Q v rs') a'.defers .returning W' := by
    obtain ⟨hm, m, dm, im⟩ := s'.marks
    refine takeMarks (X := ⟨P, g, none, W.heap.size, N⟩) a'.defers hm W' m im fun W2 hs2 hsame hio => ?_
    have io : own'.inW W2 := fun B x e => by rw [hsame B ((dm B).resolve_right (by simp [e]))]; exact s'.ow B x e
    have ig : g.inW W2 := fun B x e => by
      rw [hsame B ?_]
      · exact s'.rd B x e
      · cases e' : hm B with
        | none => rfl
        | some y => have h1 := Mk.ge m (B := B) (by simp [e']); have h2 := Hp.inW_lt hg (B := B) (by simp [e]); simp at h1; omega
    refine ⟨v, hv own' o' a' W2 s'.tmp io ig, v, rsF, ownF, rfl, oF, fun B x e => io B x (hF B x e), ⟨by rw [← hs2]; exact f.size, fun B hB hn => ?_, f.io.trans hio⟩, fun B hB => gr B fun e => hB (RSub.none hF e), hq⟩
    rw [hsame B ?_]
    · exact f.same B hB hn
    · cases e' : hm B with
      | none => rfl
      | some y => have h1 := Mk.ge m (B := B) (by simp [e']); simp at h1; omega
  rcases he with rfl | rfl
  · exact key
  · exact key

end Go.V
