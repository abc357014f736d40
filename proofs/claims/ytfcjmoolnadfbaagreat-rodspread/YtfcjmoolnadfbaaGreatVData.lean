/- The logic of triples: slices as lists: what a slice reads as, slices that are owned, elements, append, make, copy, literals. -/
import Derived.Test.YtfcjmoolnadfbaaGreatVSteps
import Derived.Test.YtfcjmoolnadfbaaGreatVDraw
import Derived.Laws.AppendOwn
import Derived.Laws.OwnMore
import Derived.Laws.CopyRow
set_option linter.unusedVariables false
namespace Go.V

variable {X : Cx} {tm : Tl} {L rs : List As}

/-- how an element lies in cells -/
structure En (α : Type) where
  sz : Nat
  enc : α → List Value
  len : ∀ x, (enc x).length = sz
  pos : 0 < sz
  pl : ∀ x, (enc x).all plainV = true

def blk : Option Addr → Nat
  | some a => a.block
  | none => 0
def ofs : Option Addr → Nat
  | some a => a.off
  | none => 0

section lists
variable {α : Type} (E : En α)
theorem En.flat_len (xs : List α) : (xs.flatMap E.enc).length = xs.length * E.sz := by
  induction xs with
  | nil => simp
  | cons x r ih => simp [List.flatMap_cons, E.len, ih, Nat.add_mul, Nat.add_comm]
theorem En.flat_drop (xs : List α) (i : Nat) : (xs.flatMap E.enc).drop (i * E.sz) = (xs.drop i).flatMap E.enc := by
  induction xs generalizing i with
  | nil => simp
  | cons x r ih =>
    cases i with
    | zero => simp
    | succ i =>
      have : (i + 1) * E.sz = (E.enc x).length + i * E.sz := by rw [E.len, Nat.add_mul]; omega
      rw [List.flatMap_cons, this, List.drop_append, Nat.add_sub_cancel_left, ih]
      simp
theorem En.flat_take (xs : List α) (i : Nat) : (xs.flatMap E.enc).take (i * E.sz) = (xs.take i).flatMap E.enc := by
  induction xs generalizing i with
  | nil => simp
  | cons x r ih =>
    cases i with
    | zero => simp
    | succ i =>
      have : (i + 1) * E.sz = (E.enc x).length + i * E.sz := by rw [E.len, Nat.add_mul]; omega
      rw [List.flatMap_cons, this, List.take_length_add_append, ih]
      simp
/-- what lies in the i-th element -/
theorem En.rd {xs : List α} {i : Nat} {x : α} (hx : xs[i]? = some x) {ag : Bool} {s f : Nat} {v : Value} (hf : f + s ≤ E.sz) (hs : 0 < s) (hv : rdL ag s (E.enc x) f = some v) : rdL ag s (xs.flatMap E.enc) (i * E.sz + f) = some v := by
  have hlt : i < xs.length := (List.getElem?_eq_some_iff.1 hx).1
  have hd : (xs.flatMap E.enc).drop (i * E.sz) = E.enc x ++ (xs.drop (i + 1)).flatMap E.enc := by
    rw [E.flat_drop, List.drop_eq_getElem_cons hlt, List.flatMap_cons]
    have := (List.getElem?_eq_some_iff.1 hx).2
    rw [this]
  cases ag with
  | false =>
    have hv' : (E.enc x)[f]? = some v := hv
    show (xs.flatMap E.enc)[i * E.sz + f]? = some v
    rw [← List.getElem?_drop, hd, List.getElem?_append_left (by rw [E.len]; omega)]
    exact hv'
  | true =>
    simp only [rdL] at hv ⊢
    rw [E.len] at hv
    rw [if_pos hf] at hv
    have hlen := E.flat_len xs
    have : (i + 1) * E.sz ≤ xs.length * E.sz := Nat.mul_le_mul_right _ hlt
    rw [Nat.add_mul] at this
    rw [if_pos (by rw [hlen]; omega), ← List.drop_drop, hd, List.drop_append_of_le_length (by rw [E.len]; omega), List.take_append_of_le_length (by simp [E.len]; omega)]
    exact hv
theorem En.rd0 {xs : List α} {i : Nat} {x : α} (hx : xs[i]? = some x) {ag : Bool} {s : Nat} {v : Value} (hf : s ≤ E.sz) (hs : 0 < s) (hv : rdL ag s (E.enc x) 0 = some v) : rdL ag s (xs.flatMap E.enc) (i * E.sz) = some v := by
  have := E.rd hx (f := 0) (by omega) hs hv
  simpa using this
end lists

/-! ### What a slice reads as -/
def SlR {α : Type} (E : En α) (h : Hp) (a : Option Addr) (xs : List α) : Prop :=
  xs = [] ∨ ∃ cs T fr, a = some ⟨blk a, ofs a, none⟩ ∧ h (blk a) = some (.cells cs T fr) ∧ (cs.toList.drop (ofs a)).take (xs.length * E.sz) = xs.flatMap E.enc
/-- here and now -/
def SlAt {α : Type} (X : Cx) (L : List As) (E : En α) (a : Option Addr) (xs : List α) : Prop :=
  ∀ own W, Own L own → own.inW W → X.g.inW W → SlR E (fun B => W.heap[B]?) a xs
theorem SlR.mono {α : Type} {E : En α} {h k : Hp} {a : Option Addr} {xs : List α} (s : SlR E h a xs) (hk : ∀ B x, h B = some x → k B = some x) : SlR E k a xs :=
  s.imp id fun ⟨cs, T, fr, h1, h2, h3⟩ => ⟨cs, T, fr, h1, hk _ _ h2, h3⟩
theorem SlR.nil {α : Type} (E : En α) (h : Hp) (a : Option Addr) : SlR E h a [] := .inl rfl
theorem SlAt.g {α : Type} {E : En α} {a : Option Addr} {xs : List α} (s : SlR E X.g a xs) : SlAt X L E a xs := fun _ W _ _ ig => s.mono fun B x e => ig B x e
/-- a slice that is owned: nil, or a block of its own from its first cell on -/
def SlO {α : Type} (E : En α) (T : TypeId) (a : Option Addr) (c : Nat) (xs : List α) : As := fun h =>
  (a = none ∧ c = 0 ∧ xs = [] ∧ h = Hp.emp) ∨ ∃ B cur, a = some ⟨B, 0, none⟩ ∧ h = Hp.one B (.cells cur T (0, 0)) ∧ cur.size = c * E.sz ∧ xs.length ≤ c ∧ cur.toList.take (xs.length * E.sz) = xs.flatMap E.enc
/-- where a slice begins: nowhere, or in a block -/
inductive SlOk : Option Addr → Nat → Prop
  | nil : SlOk none 0
  | some {B o c : Nat} : SlOk (some ⟨B, o, none⟩) c
theorem SlOk.cap {a : Option Addr} {c : Nat} (h : SlOk a c) : a = Option.none → c = 0 := fun e => by cases h with | nil => rfl | some => cases e
theorem SlOk.at {a : Option Addr} {c : Nat} (h : SlOk a c) : a = Option.none ∨ ∃ B o, a = Option.some ⟨B, o, Option.none⟩ := by cases h with | nil => exact .inl rfl | some => exact .inr ⟨_, _, rfl⟩
theorem SlO.ok {α : Type} {E : En α} {T : TypeId} {a : Option Addr} {c : Nat} {xs : List α} {h : Hp} (s : SlO E T a c xs h) : SlOk a c := by
  rcases s with ⟨rfl, rfl, _⟩ | ⟨B, cur, rfl, _⟩
  · exact .nil
  · exact .some
theorem SlO.slr {α : Type} {E : En α} {T : TypeId} {a : Option Addr} {c : Nat} {xs : List α} {h : Hp} (s : SlO E T a c xs h) : SlR E h a xs := by
  rcases s with ⟨_, _, rfl, _⟩ | ⟨B, cur, rfl, rfl, _, _, h5⟩
  · exact .inl rfl
  · exact .inr ⟨cur, T, (0, 0), rfl, Hp.one_self _ _, by simpa [ofs] using h5⟩
theorem SlAt.own {α : Type} {E : En α} {T : TypeId} {a : Option Addr} {c : Nat} {xs : List α} (i : Nat) (h : L[i]? = some (SlO E T a c xs)) : SlAt X L E a xs := fun own W o io _ => by
  obtain ⟨hh, hA, hs⟩ := own_sub o h
  exact (SlO.slr hA).mono fun B x e => io B x (hs B x e)
/-- for a callee that reads: in all that is known here -/
theorem SlAt.in_own {α : Type} {E : En α} {T : TypeId} {a : Option Addr} {c : Nat} {xs : List α} (i : Nat) (h : L[i]? = some (SlO E T a c xs)) {own : Hp} (o : Own L own) (d : X.g.disj own) : SlR E (X.g.add own) a xs := by
  obtain ⟨hh, hA, hs⟩ := own_sub o h
  exact (SlO.slr hA).mono fun B x e => by
    have h1 := hs B x e
    have : X.g B = none := (d B).resolve_right (by simp [h1])
    simp [Hp.add, this, h1]
theorem SlR.up {α : Type} {E : En α} {g own : Hp} {a : Option Addr} {xs : List α} (s : SlR E g a xs) : SlR E (g.add own) a xs := s.mono fun B x e => by simp [Hp.add, e]
theorem one_in {B : Nat} {obj : Obj} (i : Nat) (h : L[i]? = some (As.one B obj)) {own : Hp} (o : Own L own) (d : X.g.disj own) : (X.g.add own) B = some obj := by
  obtain ⟨hh, hA, hs⟩ := own_sub o h
  rw [show hh = Hp.one B _ from hA] at hs
  have h1 := hs B _ (Hp.one_self _ _)
  have : X.g B = none := (d B).resolve_right (by simp [h1])
  simp [Hp.add, this, h1]
theorem SlO.len {α : Type} {E : En α} {T : TypeId} {a : Option Addr} {c : Nat} {xs : List α} {h : Hp} (s : SlO E T a c xs h) : xs.length ≤ c := by
  rcases s with ⟨_, h1, rfl, _⟩ | ⟨_, _, _, _, _, h4, _⟩
  · simp
  · exact h4

section elems
variable {α : Type} {E : En α} {d : Option Tmp} {ty : TypeId} {pos : String} {af : Array Edge} {gu : Option (Nat × Bool)} {a : Option Addr} {xs : List α} {c : Nat}
theorem AY.indexE {t e : TypeId} {x y : Operand} {k : IntKind} {i : Int} {n : Nat} (hx : evo tm x = some (.slice a n c)) (hn : n = xs.length) (hs : SlAt X L E a xs) (hy : evo tm y = some (.int k i)) (ht : sliOf X.P t = some e) (hz : szOf X.P e = some E.sz) (hi : 0 ≤ i ∧ i < xs.length) :
    AY X L tm ⟨d, .indexAddr t x y, ty, pos, af, gu⟩ (.pointer (some ⟨blk a, ofs a + i.toNat * E.sz, none⟩)) := fun own ac W o s => by
  rcases hs own W o s.ow s.rd with rfl | ⟨cs, T, fr, ha, _, _⟩
  · simp at hi; omega
  · rw [ha] at hx
    have := AY.indexAddr (X := X) (L := L) (d := d) (ty := ty) (pos := pos) (af := af) (gu := gu) hx hy ht hz (by rw [hn]; exact hi) own ac W o s
    exact this
theorem slr_rd {h : Hp} {W : World} (hs : SlR E h a xs) (hh : ∀ B x, h B = some x → W.heap[B]? = some x) {P : Program} {t : TypeId} {ag : Bool} {sz k : Nat} {v : Value} (ht : agOf P t = some ag) (hz : szOf P t = some sz) (hp : 0 < sz) (hv : rdL ag sz (xs.flatMap E.enc) k = some v) :
    (loadVar t ⟨blk a, ofs a + k, none⟩).run P W = .ok v W := by
  rcases hs with rfl | ⟨cs, T, fr, ha, hb, hc⟩
  · cases ag <;> simp [rdL] at hv; omega
  · have hb' : W.heap[blk a]? = some (.cells cs.toList.toArray T fr) := by simpa using hh _ _ hb
    refine run_loadVar ht hz hb' ?_
    have hlen : (xs.flatMap E.enc).length ≤ cs.toList.length - ofs a := by
      rw [← hc]; simp [List.length_take, List.length_drop]; omega
    cases ag with
    | false =>
      show cs.toList[ofs a + k]? = some v
      have hv' : (xs.flatMap E.enc)[k]? = some v := hv
      rw [← List.getElem?_drop]
      rw [← hc, List.getElem?_take] at hv'
      split at hv'
      · exact hv'
      · cases hv'
    | true =>
      simp only [rdL] at hv ⊢
      split at hv
      · rename_i hle
        have hle2 : ofs a + k + sz ≤ cs.toList.length := by omega
        rw [if_pos hle2, ← hv]
        congr 2
        rw [← hc, ← List.drop_drop]
        rw [List.drop_take, List.take_take]
        have : sz ≤ xs.length * E.sz - k := by rw [← E.flat_len]; omega
        rw [Nat.min_eq_left this]
      · cases hv
theorem AY.loadE {t : TypeId} {x : Operand} {k sz : Nat} {ag : Bool} {v : Value} (hx : evo tm x = some (.pointer (some ⟨blk a, ofs a + k, none⟩))) (hs : SlAt X L E a xs) (ht : agOf X.P t = some ag) (hz : szOf X.P t = some sz) (hp : 0 < sz) (hv : rdL ag sz (xs.flatMap E.enc) k = some v) :
    AY X L tm ⟨d, .load t x, ty, pos, af, gu⟩ v := fun own ac W o s => by
  have := slr_rd (P := X.P) (hs own W o s.ow s.rd) (fun B x e => e) ht hz hp hv
  simp [execOp, s.eval hx, Instr.loadAt, Instr.sureAddr, this]
/-- a field of an element -/
theorem AY.loadEf {t : TypeId} {x : Operand} {k f sz : Nat} {ag : Bool} {v : Value} (hx : evo tm x = some (.pointer (some ⟨blk a, ofs a + k + f, none⟩))) (hs : SlAt X L E a xs) (ht : agOf X.P t = some ag) (hz : szOf X.P t = some sz) (hp : 0 < sz) (hv : rdL ag sz (xs.flatMap E.enc) (k + f) = some v) :
    AY X L tm ⟨d, .load t x, ty, pos, af, gu⟩ v := AY.loadE (k := k + f) (by rw [hx, Nat.add_assoc]) hs ht hz hp hv

/-- x[lo:], x[:hi], x[lo:hi] of a slice -/
def dropA (a : Option Addr) (k : Nat) : Option Addr := a.map (·.add k)
theorem run_sliceBoundOk {P : Program} {k : IntKind} {i : Int} {y : Nat} {code : BoundsCode} {W : World} (h : 0 ≤ i ∧ i ≤ y) : (Instr.sliceBound (.int k i) y code).run P W = .ok i.toNat W := by
  simp [Instr.sliceBound, asIntOf, h]
theorem AY.sliceLo {t e : TypeId} {x y : Operand} {n sz : Nat} {k : IntKind} {i : Int} (hx : evo tm x = some (.slice a n c)) (hy : evo tm y = some (.int k i)) (ht : sliOf X.P t = some e) (hz : szOf X.P e = some sz) (hi : 0 ≤ i ∧ i ≤ n) :
    AY X L tm ⟨d, .slice t x (some y) none none, ty, pos, af, gu⟩ (.slice (if c = i.toNat then a else dropA a (i.toNat * sz)) (n - i.toNat) (c - i.toNat)) := fun own ac W o s => by
  have hb : (Instr.sliceBounds true n c (some (.int k i)) none none).run X.P W = .ok (i.toNat, n, c) W := by
    simp [Instr.sliceBounds, run_sliceBoundOk hi]
  simp [execOp, s.eval hx, s.eval hy, Instr.sliceAt, Instr.slice, run_underlying (sliOf_spec ht), hb, run_sizeOf hz, dropA]
theorem AY.sliceHi {t e : TypeId} {x y : Operand} {n sz : Nat} {k : IntKind} {i : Int} (hx : evo tm x = some (.slice a n c)) (hy : evo tm y = some (.int k i)) (ht : sliOf X.P t = some e) (hz : szOf X.P e = some sz) (hi : 0 ≤ i ∧ i ≤ c) :
    AY X L tm ⟨d, .slice t x none (some y) none, ty, pos, af, gu⟩ (.slice a i.toNat c) := fun own ac W o s => by
  have hb : (Instr.sliceBounds true n c none (some (.int k i)) none).run X.P W = .ok (0, i.toNat, c) W := by
    simp [Instr.sliceBounds, run_sliceBoundOk hi]
  have hz0 : a.map (fun x => x.add 0) = a := by cases a <;> simp [Addr.add]
  simp [execOp, s.eval hx, s.eval hy, Instr.sliceAt, Instr.slice, run_underlying (sliOf_spec ht), hb, run_sizeOf hz, hz0]
theorem AY.sliceLoHi {t e : TypeId} {x y z : Operand} {n sz : Nat} {k k' : IntKind} {i j : Int} (hx : evo tm x = some (.slice a n c)) (hy : evo tm y = some (.int k i)) (hz' : evo tm z = some (.int k' j)) (ht : sliOf X.P t = some e) (hz : szOf X.P e = some sz) (hi : 0 ≤ i ∧ i ≤ j ∧ j ≤ c) :
    AY X L tm ⟨d, .slice t x (some y) (some z) none, ty, pos, af, gu⟩ (.slice (if c = i.toNat then a else dropA a (i.toNat * sz)) (j.toNat - i.toNat) (c - i.toNat)) := fun own ac W o s => by
  have h1 : (Instr.sliceBound (.int k' j) c .sliceAcap).run X.P W = .ok j.toNat W := run_sliceBoundOk ⟨by omega, hi.2.2⟩
  have h2 : (Instr.sliceBound (.int k i) j.toNat .sliceB).run X.P W = .ok i.toNat W := run_sliceBoundOk ⟨hi.1, by omega⟩
  have hb : (Instr.sliceBounds true n c (some (.int k i)) (some (.int k' j)) none).run X.P W = .ok (i.toNat, j.toNat, c) W := by
    simp [Instr.sliceBounds, h1, h2]
  simp [execOp, s.eval hx, s.eval hy, s.eval hz', Instr.sliceAt, Instr.slice, run_underlying (sliOf_spec ht), hb, run_sizeOf hz, dropA]
/-- x[:hi] of an array behind its address -/
theorem AY.sliceArr {t e : TypeId} {x y : Operand} {n B off : Nat} {k : IntKind} {i : Int} {sz : Nat} (hx : evo tm x = some (.pointer (some ⟨B, off, none⟩))) (hy : evo tm y = some (.int k i)) (ht : arrOf X.P t = some (n, e)) (hz : szOf X.P e = some sz) (hi : 0 ≤ i ∧ i ≤ n) :
    AY X L tm ⟨d, .slice t x none (some y) none, ty, pos, af, gu⟩ (.slice (some ⟨B, off, none⟩) i.toNat n) := fun own ac W o s => by
  have hb : (Instr.sliceBounds false n n none (some (.int k i)) none).run X.P W = .ok (0, i.toNat, n) W := by
    simp [Instr.sliceBounds, run_sliceBoundOk hi]
  simp [execOp, s.eval hx, s.eval hy, Instr.sliceAt, run_underlying (arrOf_spec ht), Instr.sureAddr, hb, run_sizeOf hz, Addr.add]
theorem AY.sliceArrAll {t e : TypeId} {x : Operand} {n B off : Nat} {sz : Nat} (hx : evo tm x = some (.pointer (some ⟨B, off, none⟩))) (ht : arrOf X.P t = some (n, e)) (hz : szOf X.P e = some sz) :
    AY X L tm ⟨d, .slice t x none none none, ty, pos, af, gu⟩ (.slice (some ⟨B, off, none⟩) n n) := fun own ac W o s => by
  have hb : (Instr.sliceBounds false n n none none none).run X.P W = .ok (0, n, n) W := by
    simp [Instr.sliceBounds]
  simp [execOp, s.eval hx, Instr.sliceAt, run_underlying (arrOf_spec ht), Instr.sureAddr, hb, run_sizeOf hz, Addr.add]
theorem AY.nilSlice {t t' e : TypeId} {x y : Operand} {n : Nat} (hx : evo tm x = some (.slice a n c)) (hy : evo tm y = some (.slice none 0 0)) (ht : sliOf X.P t = some e) :
    AY X L tm ⟨d, .binOp .eql t x y t', ty, pos, af, gu⟩ (.bool a.isNone) := fun own ac W o s => by
  have h2 : (eqGuard .eql t x y (.slice a n c) (.slice none 0 0)).run X.P W = .ok () W := by simp [eqGuard]
  have h3 : (Op.equal t (.slice a n c) (.slice none 0 0)).run X.P W = .ok a.isNone W := by
    show (Op.equalIn (9999 + 1) t _ _).run X.P W = _
    unfold Op.equalIn
    cases a <;> simp [run_underlying (sliOf_spec ht)]
  simp only [execOp, s.eval hx, s.eval hy, Sem.run_bind, h2, Result.andThen, Go.binOp, h3, Sem.run_pure]
theorem AY.notNilSlice {t t' e : TypeId} {x y : Operand} {n : Nat} (hx : evo tm x = some (.slice a n c)) (hy : evo tm y = some (.slice none 0 0)) (ht : sliOf X.P t = some e) :
    AY X L tm ⟨d, .binOp .neq t x y t', ty, pos, af, gu⟩ (.bool (!a.isNone)) := fun own ac W o s => by
  have h2 : (eqGuard .neq t x y (.slice a n c) (.slice none 0 0)).run X.P W = .ok () W := by simp [eqGuard]
  have h3 : (Op.equal t (.slice a n c) (.slice none 0 0)).run X.P W = .ok a.isNone W := by
    show (Op.equalIn (9999 + 1) t _ _).run X.P W = _
    unfold Op.equalIn
    cases a <;> simp [run_underlying (sliOf_spec ht)]
  simp only [execOp, s.eval hx, s.eval hy, Sem.run_bind, h2, Result.andThen, Go.binOp, h3, Sem.run_pure]
end elems

/-! ### Element types -/
structure ElOk (P : Program) (t e : TypeId) (sz by_ : Nat) (z : Value) : Prop where
  sl : sliOf P t = some e
  info : (P.info? e).map (fun i => (i.zero, i.size, i.bytes)) = some (some z, sz, by_)
  zs : z.cells.size = sz
theorem ElOk.get {P : Program} {t e : TypeId} {sz b : Nat} {z : Value} (h : ElOk P t e sz b z) : ∃ i, P.info? e = some i ∧ i.zero = some z ∧ i.size = sz ∧ i.bytes = b := by
  have := h.info
  cases hi : P.info? e with
  | none => rw [hi] at this; simp at this
  | some i => rw [hi] at this; simp at this; exact ⟨i, rfl, this.1, this.2.1, this.2.2⟩

/-- where appended values come from -/
def Src (X : Cx) (L : List As) (a : Option Addr) (m : Nat) (news : List Value) : Prop :=
  ∀ own W, Own L own → own.inW W → X.g.inW W → (m = 0 ∧ a = none) ∨ ∃ ad, a = some ad ∧ ∀ j u, news[j]? = some u → W.cell? (ad.add j) = some u
theorem Src.of_cells {B : Nat} {cs : List Value} {m : Nat} (ca : CellsAt X L B cs) : Src X L (some ⟨B, 0, none⟩) m cs := fun own W o io ig => by
  obtain ⟨T, fr, hb⟩ := ca own W o io ig
  refine .inr ⟨_, rfl, fun j u hj => ?_⟩
  rw [addr_add]
  simp [World.cell?, hb, hj]
theorem Src.of_slice {α : Type} {E : En α} {a : Option Addr} {xs : List α} (hs : SlAt X L E a xs) (hn : a = none ∨ ∃ B o, a = some ⟨B, o, none⟩) : Src X L a xs.length (xs.flatMap E.enc) := fun own W o io ig => by
  rcases hs own W o io ig with rfl | ⟨cs, T, fr, ha, hb, hc⟩
  · rcases hn with rfl | ⟨B, of_, rfl⟩
    · exact .inl ⟨rfl, rfl⟩
    · exact .inr ⟨_, rfl, fun j u hj => by simp at hj⟩
  · refine .inr ⟨_, ha, fun j u hj => ?_⟩
    rw [addr_add]
    have hb' : W.heap[blk a]? = some (.cells cs T fr) := hb
    rw [← hc, List.getElem?_take] at hj
    split at hj
    · rw [List.getElem?_drop] at hj
      simp only [World.cell?, hb']
      simpa using hj
    · cases hj

/-- what append makes of a slice that is owned -/
theorem run_append_V {P : Program} {t e ty : TypeId} {b : Nat} {z : Value} {α : Type} {E : En α} (el : ElOk P t e E.sz b z) {a : Option Addr} {c : Nat} {xs ys : List α} {ho : Hp} {W : World} (hs : SlO E e a c xs ho) (hin : ho.inW W) {a2 : Option Addr} {m c2 : Nat} (hm : m = ys.length)
    (hsrc : (m = 0 ∧ a2 = none) ∨ ∃ ad, a2 = some ad ∧ ∀ j u, (ys.flatMap E.enc)[j]? = some u → W.cell? (ad.add j) = some u) (hc2 : a2 = none → c2 = 0) (h63 : (xs.length + m) ≤ 9223372036854775807) (hby : (xs.length + m) * b ≤ 140737488355328) :
    ∃ a' c' h' W', (Builtin.append_ #[t, t] ty #[.slice a xs.length c, .slice a2 m c2]).run P W = .ok (.slice a' (xs.length + m) c') W' ∧ SlO E e a' c' (xs ++ ys) h' ∧ h'.inW W' ∧ Frm ho W W' ∧ Grow ho h' W := by
  obtain ⟨i, hi, hz, hsz, hbs⟩ := el.get
  have hu := sliOf_spec el.sl
  subst hm
  have hnl : (ys.flatMap E.enc).length = ys.length * i.size := by rw [hsz]; exact E.flat_len ys
  have hone : ∀ u ∈ ys.flatMap E.enc, u.oneCell' = true := fun u hu => by
    obtain ⟨y, _, hy⟩ := List.mem_flatMap.1 hu
    have := List.all_eq_true.1 (E.pl y) u hy
    cases u <;> simp_all [plainV, Value.oneCell']
  by_cases hy0 : ys = []
  · -- nothing is appended
    subst hy0
    refine ⟨a, c, ho, W, ?_, by simpa using hs, hin, Frm.refl _ _, Grow.refl _ _⟩
    have hlen := SlO.len hs
    rcases hs with ⟨rfl, rfl, rfl, _⟩ | ⟨B, cur, rfl, _, _, h4, _⟩
    · rcases hsrc with ⟨_, rfl⟩ | ⟨ad, rfl, _⟩
      · simp [Builtin.append_, run_underlying hu, sizeOf, typeInfo, hi, Builtin.lenOf, Builtin.firstCells]
      · simp [Builtin.append_, run_underlying hu, sizeOf, typeInfo, hi, Builtin.lenOf, Builtin.firstCells, loadCells, loadCellsFrom]
    · rcases hsrc with ⟨_, rfl⟩ | ⟨ad, rfl, _⟩
      · simp [Builtin.append_, run_underlying hu, sizeOf, typeInfo, hi, Builtin.lenOf, Builtin.firstCells, hlen, storeCells]
      · simp [Builtin.append_, run_underlying hu, sizeOf, typeInfo, hi, Builtin.lenOf, Builtin.firstCells, loadCells, loadCellsFrom, hlen, storeCells]
  · have hpos : 0 < ys.length := List.length_pos_iff.2 hy0
    obtain ⟨ad, rfl, hnews⟩ : ∃ ad, a2 = some ad ∧ ∀ j u, (ys.flatMap E.enc)[j]? = some u → W.cell? (ad.add j) = some u := by
      rcases hsrc with ⟨h0, _⟩ | h
      · omega
      · exact h
    have hfl : ((xs ++ ys).flatMap E.enc) = xs.flatMap E.enc ++ ys.flatMap E.enc := by simp
    have hlx := E.flat_len xs
    have hly := E.flat_len ys
    rcases hs with ⟨rfl, rfl, rfl, rfl⟩ | ⟨B, cur, rfl, rfl, hcur, hle, htake⟩
    · have hr := run_append_nil (P := P) (w := W) t ty e i z hu hi hz ad ys.length c2 _ hnl hnews hpos (by simp at h63; omega) (by rw [hbs]; simp at hby; omega)
      have hge := grownCap_ge W ys.length 0 e
      refine ⟨_, _, _, _, by simpa using hr, .inr ⟨W.heap.size, _, rfl, rfl, ?_, by simpa using hge, ?_⟩, Hp.inW_one (by exact heap_alloc_new W.drew _), ⟨by simp, fun k hk _ => heap_alloc_old W.drew _ k hk, rfl, rfl⟩, fun k hk => ?_⟩
      · simp only [Array.size_append, List.size_toArray, size_zeroCells, el.zs, hly, ← Nat.add_mul]; congr 1; omega
      · rw [Array.toList_append]
        simp only [List.nil_append]
        rw [← hly]
        exact List.take_left
      · by_cases hk2 : k = W.heap.size
        · exact .inr (by omega)
        · exact absurd (Hp.one_ne _ hk2) hk
    · have hb : W.heap[B]? = some (.cells cur e (0, 0)) := hin B _ (Hp.one_self _ _)
      have hBlt : B < W.heap.size := (Array.getElem?_eq_some_iff.1 hb).1
      by_cases hroom : xs.length + ys.length ≤ c
      · have hfit : xs.length * i.size + (ys.flatMap E.enc).length ≤ cur.size := by rw [hly, hcur, hsz, ← Nat.add_mul]; exact Nat.mul_le_mul_right _ hroom
        have hr := run_append_room (P := P) W t ty e i hu hi B xs.length c cur hb ad ys.length c2 _ hnl hnews hone hroom hfit
        refine ⟨_, _, _, _, hr, .inr ⟨B, _, rfl, rfl, ?_, by simpa using hroom, ?_⟩, Hp.inW_one (setRow_heap W B cur _ e _ hb), ⟨by simp, fun k hk hn => setRow_other W B k _ fun e' => by subst e'; simp [Hp.one] at hn, rfl, rfl⟩, fun k hk => ?_⟩
        · simp only [List.size_toArray, List.length_append, List.length_take, List.length_drop, Array.length_toList]
          rw [← hcur]; omega
        · rw [hsz, htake, hfl, List.length_append, Nat.add_mul, ← hlx, ← hly, ← List.length_append]
          exact List.take_left
        · by_cases hk2 : k = B
          · subst hk2; exact .inl (by simp [Hp.one])
          · exact absurd (Hp.one_ne _ hk2) hk
      · have holds : ∀ j u, (xs.flatMap E.enc)[j]? = some u → W.cell? ((⟨B, 0, none⟩ : Addr).add j) = some u := fun j u hj => by
          rw [addr_add]
          rw [← htake, List.getElem?_take] at hj
          split at hj
          · simp only [World.cell?, hb]; simpa using hj
          · cases hj
        have hr := run_append_grow (P := P) (w := W) t ty e i z hu hi hz ⟨B, 0, none⟩ xs.length c _ (by rw [hsz]; exact hlx) holds ad ys.length c2 _ hnl hnews (by omega) (by omega) (growslice_fits (by omega) (by rw [hbs]; exact hby))
        have hge := grownCap_ge W (xs.length + ys.length) c e
        refine ⟨_, _, _, _, hr, .inr ⟨W.heap.size, _, rfl, rfl, ?_, by simpa using hge, ?_⟩, Hp.inW_one (by exact heap_alloc_new W.drew _), ⟨by simp, fun k hk _ => heap_alloc_old W.drew _ k hk, rfl, rfl⟩, fun k hk => ?_⟩
        · simp only [Array.size_append, List.size_toArray, size_zeroCells, el.zs, hlx, hly, ← Nat.add_mul]; congr 1; omega
        · simp only [Array.toList_append, List.append_assoc]
          rw [hfl, ← List.append_assoc, List.length_append, Nat.add_mul, ← hlx, ← hly, ← List.length_append]
          exact List.take_left
        · by_cases hk2 : k = W.heap.size
          · exact .inr (by omega)
          · exact absurd (Hp.one_ne _ hk2) hk

/-- a part of what is owned is turned -/
theorem own_turn {own h h' q : Hp} {W W' : World} {i : Nat} {A' : As} (s : own.inW W) (e : own = h.add q) (hd1 : h.disj q) (hset : ∀ A' h', A' h' → h'.disj q → Own (rs.set i A') (h'.add q)) (hA : A' h') (hin : h'.inW W') (f : Frm h W W') (g : Grow h h' W) :
    Own (rs.set i A') (h'.add q) ∧ (h'.add q).inW W' ∧ Frm own W W' ∧ Grow own (h'.add q) W := by
  subst e
  have iq : q.inW W := Hp.inW_right hd1 s
  have dq : q.disj h := Hp.disj_symm hd1
  have hq : h'.disj q := Hp.disj_symm (g.disj dq iq)
  refine ⟨hset A' h' hA hq, Hp.inW_add hin (f.inW dq iq), f.mono fun B hB => (Hp.add_none.1 hB).1, fun B hB => ?_⟩
  cases eq : q B with
  | some x => exact .inl fun hn => by have := (Hp.add_none.1 hn).2; rw [eq] at this; cases this
  | none =>
    have : h' B ≠ none := fun e' => hB (Hp.add_none.2 ⟨e', eq⟩)
    rcases g B this with y | y
    · exact .inl fun hn => y (Hp.add_none.1 hn).1
    · exact .inr y

section
variable {d : Option Tmp} {ty : TypeId} {pos : String} {af : Array Edge} {gu : Option (Nat × Bool)} {K : Tl → List As → Prop} {α : Type} {E : En α} {a : Option Addr} {c : Nat} {xs ys : List α}
theorem O1.append {t e : TypeId} {b n m : Nat} {z : Value} {x y : Operand} {a2 : Option Addr} {c2 : Nat} (i : Nat) (el : ElOk X.P t e E.sz b z) (hx : evo tm x = some (.slice a n c)) (hn : n = xs.length) (hi : rs[i]? = some (SlO E e a c xs)) (hy : evo tm y = some (.slice a2 m c2)) (hm : m = ys.length)
    (hsrc : Src X rs a2 m (ys.flatMap E.enc)) (hc2 : a2 = none → c2 = 0) (h63 : xs.length + m ≤ 9223372036854775807) (hby : (xs.length + m) * b ≤ 140737488355328) (hd : dOk X d = true)
    (k : ∀ a' c', SlOk a' c' → K (tput d (.slice a' (xs.length + m) c') tm) (rs.set i (SlO E e a' c' (xs ++ ys)))) : O1 X tm rs ⟨d, .call ⟨.builtin .append, #[x, y], #[t, t]⟩, ty, pos, af, gu⟩ K := fun own ac W ho s => by
  refine wpIn_of_run rfl ?_
  subst hn
  obtain ⟨h, q, hA, hk, hd1, e0, hset⟩ := own_take ho hi
  obtain ⟨a', c', h', W', hrun, hS, hin, hf, hg⟩ := run_append_V (ty := ty) el hA (Hp.inW_left (e0 ▸ s.ow)) hm (hsrc own W ho s.ow s.rd) hc2 h63 hby
  have hex : (execOp ac.eval ⟨d, .call ⟨.builtin .append, #[x, y], #[t, t]⟩, ty, pos, af, gu⟩).run X.P W = .ok (.value (.slice a' (xs.length + m) c')) W' := by
    simp [execOp, resolve, s.eval hx, s.eval hy, invoke, Go.builtin, hrun]
  rw [hex]
  obtain ⟨o1, i1, f1, g1⟩ := own_turn s.ow e0 hd1 hset hS hin hf hg
  exact ⟨_, _, _, o1, (s.world f1 g1 i1).put hd _, f1, g1, k _ _ hS.ok⟩
/-- append to nil -/
theorem O1.append0 {t e : TypeId} {b m : Nat} {z : Value} {x y : Operand} {a2 : Option Addr} {c2 : Nat} (el : ElOk X.P t e E.sz b z) (hx : evo tm x = some (.slice none 0 0)) (hy : evo tm y = some (.slice a2 m c2)) (hm : m = ys.length)
    (hsrc : Src X rs a2 m (ys.flatMap E.enc)) (hc2 : a2 = none → c2 = 0) (h63 : m ≤ 9223372036854775807) (hby : m * b ≤ 140737488355328) (hd : dOk X d = true)
    (k : ∀ a' c', SlOk a' c' → K (tput d (.slice a' m c') tm) (SlO E e a' c' ys :: rs)) : O1 X tm rs ⟨d, .call ⟨.builtin .append, #[x, y], #[t, t]⟩, ty, pos, af, gu⟩ K := fun own ac W ho s => by
  have ho2 : Own (SlO E e none 0 [] :: rs) own := by
    have := Own.cons (A := SlO E e none 0 ([] : List α)) (h := Hp.emp) (.inl ⟨rfl, rfl, rfl, rfl⟩) ho (Hp.emp_disj _)
    rwa [Hp.emp_add] at this
  have := O1.append (X := X) (tm := tm) (rs := SlO E e none 0 [] :: rs) (d := d) (ty := ty) (pos := pos) (af := af) (gu := gu) (K := K) (xs := ([] : List α)) (ys := ys) 0 el hx rfl rfl hy hm
    (fun own W o io ig => by
      obtain ⟨h1, k1, hA1, hk1, dd, ee⟩ := own_cons.1 o
      have hk1' : k1.inW W := Hp.inW_right dd (ee ▸ io)
      exact hsrc k1 W hk1 hk1' ig) hc2 (by simpa using h63) (by simpa using hby) hd (fun a' c' ok => by simpa using k a' c' ok)
  exact this own ac W ho2 s

theorem made_getElem (z : Array Value) (n j : Nat) : (madeCells z n).toList[j]? = if j < n then some z[j % z.size]! else none := by
  unfold madeCells
  by_cases h : j < n
  · simp [h]
  · simp [h]
theorem flat_getElem (l : List Value) (hp : 0 < l.length) : ∀ (N j : Nat), (List.replicate N l).flatten[j]? = if j < N * l.length then l[j % l.length]? else none
  | 0, j => by simp
  | N + 1, j => by
    rw [List.replicate_succ, List.flatten_cons]
    by_cases h : j < l.length
    · rw [List.getElem?_append_left h, if_pos (by rw [Nat.add_mul]; omega), Nat.mod_eq_of_lt h]
    · rw [List.getElem?_append_right (by omega), flat_getElem l hp N (j - l.length)]
      have h2 : (j - l.length) % l.length = j % l.length := by
        have : j = (j - l.length) + l.length := by omega
        conv => rhs; rw [this]
        rw [Nat.add_mod_right]
      rw [h2, Nat.add_mul]
      by_cases h3 : j - l.length < N * l.length
      · rw [if_pos h3, if_pos (by omega)]
      · rw [if_neg h3, if_neg (by omega)]
/-- make([]T, n), all zero -/
theorem O1.make {t e : TypeId} {b : Nat} {z : Value} {x y : Operand} {k1 k2 : IntKind} {n : Int} {w : α} (el : ElOk X.P t e E.sz b z) (hx : evo tm x = some (.int k1 n)) (hy : evo tm y = some (.int k2 n)) (hn : 0 ≤ n) (hb : b * n ≤ 281474976710656) (h63 : n ≤ 9223372036854775807) (hz : z.cells.toList = E.enc w) (hd : dOk X d = true)
    (k : ∀ B, K (tput d (.slice (some ⟨B, 0, none⟩) n.toNat n.toNat) tm) (SlO E e (some ⟨B, 0, none⟩) n.toNat (List.replicate n.toNat w) :: rs)) : O1 X tm rs ⟨d, .makeSlice t x y, ty, pos, af, gu⟩ K := fun own ac W ho s => by
  refine wpIn_of_run rfl ?_
  obtain ⟨i, hi, hz1, hsz, hbs⟩ := el.get
  obtain ⟨N, rfl⟩ := Int.eq_ofNat_of_zero_le hn
  have hr := run_make (P := X.P) W t e i z (sliOf_spec el.sl) hi hz1 k1 k2 N N (by omega) (Int.le_refl _) (by rw [hbs]; exact hb) h63
  simp only [Int.toNat_natCast] at hr k
  have hex : (execOp ac.eval ⟨d, .makeSlice t x y, ty, pos, af, gu⟩).run X.P W = .ok (.value (.slice (some ⟨W.heap.size, 0, none⟩) N N)) { W with heap := W.heap.push (.cells (madeCells z.cells (N * i.size)) e) } := by
    simp only [execOp, s.eval hx, s.eval hy, Sem.run_bind, hr, Result.andThen, Sem.run_pure]
    rfl
  rw [hex]
  obtain ⟨o1, i1, g1⟩ := own_new (obj := .cells (madeCells z.cells (N * i.size)) e) ho s.ow
  have hmade : (madeCells z.cells (N * i.size)).toList = (List.replicate N w).flatMap E.enc := by
    rw [hsz]
    have hzl : (E.enc w).length = E.sz := E.len w
    have hzs : z.cells.size = E.sz := el.zs
    rw [List.flatMap_replicate]
    apply List.ext_getElem?
    intro j
    rw [made_getElem, flat_getElem _ (by rw [hzl]; exact E.pos), hzl, ← hz, hzs]
    by_cases h : j < N * E.sz
    · have hlt : j % E.sz < z.cells.size := by rw [hzs]; exact Nat.mod_lt _ E.pos
      simp [h, hlt]
    · simp [h]
  have hS : SlO E e (some ⟨W.heap.size, 0, none⟩) N (List.replicate N w) (Hp.one W.heap.size (.cells (madeCells z.cells (N * i.size)) e)) :=
    .inr ⟨W.heap.size, _, rfl, rfl, by rw [size_madeCells, hsz], by simp, by
      rw [hmade]; rw [List.take_of_length_le (by rw [E.flat_len]; exact Nat.le_refl _)]⟩
  obtain ⟨ah, kh, ha, hk2, hdd, hee⟩ := own_cons.1 o1
  have o2 : Own (SlO E e (some ⟨W.heap.size, 0, none⟩) N (List.replicate N w) :: rs) ((Hp.one W.heap.size (.cells (madeCells z.cells (N * i.size)) e)).add own) := by
    refine .cons hS ho (Hp.one_disj.2 ?_)
    cases e' : own W.heap.size with
    | none => rfl
    | some x => have := Hp.inW_lt s.ow (B := W.heap.size) (by simp [e']); omega
  exact ⟨_, _, _, o2, (s.world (Frm.push own W _) g1 i1).put hd _, Frm.push own W _, g1, k _⟩
end

/-! ### Literals -/
def evp (tm : Tl) : List (Nat × Operand) → Option (List (Nat × Value))
  | [] => some []
  | (i, x) :: r => match evo tm x, evp tm r with | some v, some l => some ((i, v) :: l) | _, _ => none
theorem Sat.evalp {own : Hp} {a : Act} {W : World} (s : Sat X tm own a W) : ∀ {ps : List (Nat × Operand)} {vs : List (Nat × Value)}, evp tm ps = some vs → ps.map (fun (i, x) => (i, a.eval x)) = vs
  | [], vs, h => by simp only [evp, Option.some.injEq] at h; simp [← h]
  | (i, x) :: r, vs, h => by
    simp only [evp] at h
    split at h
    · rename_i v l h1 h2; simp only [Option.some.injEq] at h; simp [← h, s.eval h1, s.evalp h2]
    · cases h
section
variable {d : Option Tmp} {ty : TypeId} {pos : String} {af : Array Edge} {gu : Option (Nat × Bool)}
theorem AN.buildSlice {t e : TypeId} {len sz : Nat} {z : Value} {ps : List (Nat × Operand)} {vs : List (Nat × Value)} {cells : Array Value} (hv : evp tm ps = some vs) (ht : sliOf X.P t = some e) (hs : szOf X.P e = some sz) (hz : zeroOf X.P e = some z) (hl : Nat.ble (len * sz) (2 ^ 24) = true) (hp : Nat.blt 0 (len * sz) = true)
    (hf : Instr.fill (fun i => some (i * sz, sz)) ((Array.range (len * sz)).map (z.cells[· % z.cells.size]!)) vs = some cells) :
    AN X L tm ⟨d, .buildSlice t len ps.toArray, ty, pos, af, gu⟩ (fun B => .slice (some ⟨B, 0, none⟩) len len) (.cells cells e (0, 0)) := fun own ac W o s => by
  have h1 : ¬ (2 ^ 24 < len * sz) := by have := Nat.le_of_ble_eq_true hl; omega
  have h2 : ¬ (len * sz = 0) := by simp at hp; omega
  have hmap : (Array.map (fun x : Nat × Operand => (x.1, ac.eval x.2)) ps.toArray).toList = vs := by
    have := s.evalp hv
    simpa using this
  simp only [execOp, Instr.buildSlice, Sem.run_bind, run_underlying (sliOf_spec ht), Result.andThen, run_sizeOf hs, h1, if_false, h2, run_zeroValue hz, Sem.run_pure]
  have e1 : (List.map (fun x : Nat × Operand => match x with | (i, x) => (i, ac.eval x)) ps) = vs := s.evalp hv
  simp only [List.map_toArray, e1, hf, newRow, newObj, Sem.run_bind, Result.andThen, Sem.run, Sem.run_pure]

/-- the places of a struct's fields -/
def plOf (P : Program) (t : TypeId) : Option (List (Nat × Nat)) :=
  match P.underlying t with
  | some (.struct fs) => fs.toList.mapM fun f => (szOf P f.type).map fun s => (f.offset, s)
  | _ => none
theorem run_places {P : Program} (W : World) : ∀ {l : List Field} {ps : List (Nat × Nat)}, (l.mapM fun f => (szOf P f.type).map fun s => (f.offset, s)) = some ps → (l.mapM fun f => (do pure (f.offset, ← sizeOf f.type) : Sem (Nat × Nat))).run P W = .ok ps W
  | [], ps, h => by simp at h; subst h; simp
  | f :: r, ps, h => by
    rw [List.mapM_cons] at h
    cases hs : szOf P f.type with
    | none => simp [hs] at h
    | some n =>
      cases hr : (r.mapM fun f => (szOf P f.type).map fun s => (f.offset, s)) with
      | none => simp [hs, hr] at h
      | some q =>
        simp [hs, hr] at h
        subst h
        have ih := run_places (P := P) W hr
        rw [List.mapM_cons]
        simp only [Sem.run_bind, run_sizeOf hs, Result.andThen, Sem.run_pure, ih]
theorem AY.build {t : TypeId} {z : Value} {ps : List (Nat × Operand)} {vs : List (Nat × Value)} {pl : List (Nat × Nat)} {cells : Array Value} (hv : evp tm ps = some vs) (hp : plOf X.P t = some pl) (hz : zeroOf X.P t = some z) (hf : Instr.fill (fun i => pl[i]?) z.cells vs = some cells) :
    AY X L tm ⟨d, .build t ps.toArray, ty, pos, af, gu⟩ (.agg cells) := fun own ac W o s => by
  unfold plOf at hp
  split at hp
  · rename_i fs hu
    have h1 : (fs.mapM fun f => (do pure (f.offset, ← sizeOf f.type) : Sem (Nat × Nat))).run X.P W = .ok pl.toArray W := by
      rw [Array.mapM_eq_mapM_toList]
      have := run_places (P := X.P) W hp
      simp only [map_eq_pure_bind, Sem.run_bind, Result.andThen, Sem.run_pure] at this ⊢
      rw [this]
    have e1 : (List.map (fun x : Nat × Operand => match x with | (i, x) => (i, ac.eval x)) ps) = vs := s.evalp hv
    have hf2 : Instr.fill (fun x => pl.toArray[x]?) z.cells vs = some cells := by simpa using hf
    simp only [execOp, Instr.build, Sem.run_bind, run_zeroValue hz, Result.andThen, run_underlying hu, h1, List.map_toArray, e1, hf2, Sem.run_pure]
  · cases hp
end

end Go.V
