/- The logic of triples: ranging over functions: what an iterator promises, the loop over it, and the call of yield. -/
import Derived.Test.YtfcjmoolnadfbaaGreatVSteps
import Derived.RangeFuncSeq
import Derived.RangeFuncNested
set_option linter.unusedVariables false
namespace Go.V

variable {X : Cx} {tm : Tl} {rs : List As}

/-- ONE CALL OF yield, the k-th: what is lent goes on by one element, or the loop has been left. -/
def Yd (P : Program) (l : Nat) (args : Array Value) (g : Hp) (R : Nat → As) (Rx : As) (k : Nat) : Prop :=
  ∀ own W, R k own → own.inW W → g.inW W → g.disj own →
    YieldAt Fence.wide 0 P l args W fun e W' => ∃ own', own'.inW W' ∧ Frm own W W' ∧ Grow own own' W ∧ ((e = .returned (.bool true) ∧ R (k + 1) own') ∨ (e = .returned (.bool false) ∧ Rx own'))

/-- WHAT AN ITERATOR PROMISES: N elements, one after the other, as long as the rounds go on. -/
def It (P : Program) (gf : FuncId) (lb : Array Value) (g : Hp) (N : Nat) (enc : Nat → Array Value) : Prop :=
  ∀ (l : Nat) (R : Nat → As) (Rx : As), (∀ k, k < N → Yd P l (enc k) g R Rx k) →
    Ct P gf (#[.func (.yield l) #[] #[]] ++ lb) g [R 0] (fun _ rs' => rs' = [R N] ∨ rs' = [Rx])

theorem Yd.weak {P : Program} {l : Nat} {args : Array Value} {g g' : Hp} {R : Nat → As} {Rx : As} {k : Nat} (h : Yd P l args g R Rx k) (hs : ∀ B x, g B = some x → g' B = some x) : Yd P l args g' R Rx k := fun own W hr io ig d =>
  h own W hr io (fun B x e => ig B x (hs B x e)) fun B => (d B).imp (fun e => RSub.none hs e) id

theorem callsIn_F {X : Cx} {n : Nat} {P : Program} {f : FuncId} {args : Array Value} {W : World} {R : Ending → World → Prop} (h : Calls P f args W R) : CallsIn X.F n P f args W R :=
  (show CallsIn Fence.wide n P f args W R from callsIn_wide.2 h)

/-! ### The call of yield, in an iterator -/
theorem O1.yield {d : Option Tmp} {ty : TypeId} {pos : String} {af : Array Edge} {gu : Option (Nat × Bool)} {c : Operand} {xs : List Operand} {ats : Array TypeId} {l : Nat} {vs : List Value} {R : Nat → As} {Rx : As} {k : Nat} {K : Tl → List As → Prop} (i : Nat)
    (hc : evo tm c = some (.func (.yield l) #[] #[])) (hx : evs tm xs = some vs) (hi : rs[i]? = some (R k)) (hY : Yd X.P l vs.toArray X.g R Rx k) (hd : dOk X d = true)
    (h1 : K (tput d (.bool true) tm) (rs.set i (R (k + 1)))) (h2 : K (tput d (.bool false) tm) (rs.set i Rx)) : O1 X tm rs ⟨d, .call ⟨.value c, xs.toArray, ats⟩, ty, pos, af, gu⟩ K := fun own a W ho s => by
  refine wpIn_of_run rfl ?_
  obtain ⟨h, q, hA, hk, hd1, e, hset⟩ := own_take ho hi
  have ih : h.inW W := Hp.inW_left (e ▸ s.ow)
  have dq : q.disj h := Hp.disj_symm hd1
  have iq : q.inW W := Hp.inW_right hd1 (e ▸ s.ow)
  have dg : X.g.disj h := (Hp.disj_add.1 (e ▸ s.dis)).1
  obtain ⟨fn, tmps, assign, body, hrun, hround⟩ := hY h W hA ih s.rd dg
  have hex : (execOp a.eval ⟨d, .call ⟨.value c, xs.toArray, ats⟩, ty, pos, af, gu⟩).run X.P W = .ok (.round l fn tmps assign body) W := by
    simp only [execOp, resolve, s.eval hc, Sem.run_bind, Deferred.ofValue, Sem.run_pure, Result.andThen, invoke]
    have : (#[] ++ Array.map a.eval xs.toArray : Array Value) = vs.toArray := by simp [s.evals hx]
    rw [this]; exact hrun
  rw [hex]
  refine ⟨fun hdep => (by cases hdep), ?_⟩
  refine RoundIn.mono (show RoundIn X.F (0 - 1) X.P l fn tmps assign body W _ from hround) ?_
  rintro e2 W' ⟨own', i', f, gr, hor⟩
  have hq : own'.disj q := Hp.disj_symm (gr.disj dq iq)
  have hf : Frm own W W' := f.mono fun B hB => by rw [e] at hB; exact (Hp.add_none.1 hB).1
  have iq' : q.inW W' := f.inW dq iq
  have hg : Grow own (own'.add q) W := fun B hB => by
    rw [e]
    cases eq : q B with
    | some x => exact .inl fun hn => by have := (Hp.add_none.1 hn).2; rw [eq] at this; cases this
    | none =>
      have : own' B ≠ none := fun e' => hB (Hp.add_none.2 ⟨e', eq⟩)
      rcases gr B this with y | y
      · exact .inl fun hn => y (Hp.add_none.1 hn).1
      · exact .inr y
  have s' := s.world hf hg (Hp.inW_add i' iq')
  rcases hor with ⟨rfl, hR⟩ | ⟨rfl, hR⟩
  · exact ⟨_, _, _, hset _ _ hR hq, s'.put hd _, hf, hg, h1⟩
  · exact ⟨_, _, _, hset _ _ hR hq, s'.put hd _, hf, hg, h2⟩

/-! ### The loop over an iterator -/
def psTl : List Nat → List Value → Tl → Tl
  | p :: ps, v :: vs, tm => psTl ps vs ((p, v) :: tm)
  | _, _, tm => tm
theorem psTl_ok : ∀ (ps : List Nat) (vs : List Value) (tm : Tl) (t : Array Value), (∀ p ∈ ps, p < t.size) → Tm tm { tmps := t, defers := [] } →
    Tm (psTl ps vs tm) { tmps := (ps.zip vs).foldl (fun t (p, v) => t.setIfInBounds p v) t, defers := [] } ∧ ((ps.zip vs).foldl (fun t (p, v) => t.setIfInBounds p v) t).size = t.size
  | [], _, tm, t, _, h => by simpa [psTl] using h
  | p :: ps, [], tm, t, _, h => by simpa [psTl] using h
  | p :: ps, v :: vs, tm, t, hp, h => by
    simp only [psTl, List.zip_cons_cons, List.foldl_cons]
    have := psTl_ok ps vs ((p, v) :: tm) (t.setIfInBounds p v) (fun q hq => by simpa using hp q (List.mem_cons_of_mem _ hq)) (fun i u e => by
      unfold tget at e
      split at e
      · rename_i h'
        cases e
        have := hp p List.mem_cons_self
        simp [h', this]
      · rename_i h'
        rw [Array.getElem?_setIfInBounds_ne (Ne.symm h')]
        exact h i u e)
    simpa using this

abbrev Cx.inR (X : Cx) (l : Nat) : Cx := { X with ro := some l }

/-- how a round may be left -/
@[reducible] def rdQ (I : List As) (J : Exit → List As → Prop) : Exit → Tl → List As → Prop
  | .normal => fun _ rs => RSub I rs
  | .ret => fun _ rs => J .ret rs
  | .exit id => fun _ rs => J (.exit id) rs
  | _ => fun _ _ => False

/-- the block of a loop's record -/
theorem putObj_frm {own : Hp} {W : World} {l : Nat} {o o' : Obj} (hl : W.heap[l]? = some o) : Frm (Hp.one l o |>.add own) W (W.putObj l o') := ⟨by simp, fun B _ hn => by
  have : B ≠ l := fun e => by subst e; simp [Hp.add, Hp.one] at hn
  exact World.putObj_heap_other this, rfl, rfl⟩

theorem T.range {f : Operand} {ps : List Nat} {assign body : Code} {Q : Exit → Tl → List As → Prop} {gf : FuncId} {lb : Array Value} {N : Nat} {enc : Nat → List Value} {r : List As} (I : Nat → List As) (J : Exit → List As → Prop)
    (hf : evo tm f = some (.func (.func gf) #[] lb)) (hk : fnOk X.P gf = true) (hit : ∀ own, Own r own → X.g.disj own → It X.P gf lb (X.g.add own) N (fun k => (enc k).toArray)) (h0 : RSub (I 0 ++ r) rs)
    (hps : ∀ k, (enc k).length = ps.length) (hpN : ∀ p ∈ ps, p < X.N)
    (hbody : ∀ l k, k < N → T (X.inR l) (psTl ps (enc k) tm) (I k) assign (fun e tm1 rs1 => e = .normal ∧ T (X.inR l) tm1 rs1 body (rdQ (I (k + 1)) J)))
    (hdone : Q .normal tm (I N ++ r)) (hstop : ∀ e rs2, J e rs2 → Q e tm (rs2 ++ r)) : T X tm rs (.rangeFunc f ps.toArray assign body) Q := by
  intro own0 a W o0 s0
  obtain ⟨own, o, hsub⟩ := h0 own0 o0
  have s : Sat X tm own a W := s0.less hsub
  obtain ⟨oI, orr, hI, hr, hdI, e0⟩ := own_append.1 o
  subst e0
  have iI : oI.inW W := Hp.inW_left s.ow
  have ir : orr.inW W := Hp.inW_right hdI s.ow
  have dgI := (Hp.disj_add.1 s.dis).1
  have dgr := (Hp.disj_add.1 s.dis).2
  refine wpIn_rangeFunc ?_
  intro fn hfn
  -- where the record lies, the block for deferred calls, the mark
  obtain ⟨l, D, mark, W1, hent, hL1, hlt, hold, hmark⟩ : ∃ (l D : Nat) (mark : List Deferred) (W1 : World),
      (Instr.enterLoop fn a.tmps ps.toArray assign body X.ro).run X.P W = .ok (l, mark) W1 ∧
      W1.heap[l]? = some (.loop { state := .ready, pending := none, fn, tmps := a.tmps, params := ps.toArray, assign, body, defers := D }) ∧ W.heap.size ≤ l ∧ Frm Hp.emp W W1 ∧
      ((mark = [] ) ∨ (mark = [{ target := .collected D, args := #[] }] ∧ W1.heap[D]? = some (.deferred (some [])) ∧ W.heap.size ≤ D ∧ D ≠ l)) := by
    cases hro : X.ro with
    | none =>
      refine ⟨W.heap.size + 1, W.heap.size, _, _, run_enterLoop_outer _ _ _ _ _, ?_, by omega, ?_, .inr ⟨rfl, ?_, Nat.le_refl _, by omega⟩⟩
      · have := World.alloc_heap_new (W.alloc (.deferred (some []))) (.loop { state := .ready, pending := none, fn, tmps := a.tmps, params := ps.toArray, assign, body, defers := W.heap.size })
        rwa [World.size_alloc] at this
      · exact (Frm.push Hp.emp W (.deferred (some []))).trans (Grow.refl _ _) (Frm.push Hp.emp _ _)
      · exact (Go.RowKit.Below.heap_alloc _ _ _ (by simp)).trans (World.alloc_heap_new W _)
    | some l0 =>
      obtain ⟨⟨r0, hr0⟩, _⟩ := s.round l0 hro
      refine ⟨W.heap.size, r0.defers, [], _, run_enterLoop_inner hr0 _ _ _ _ _, World.alloc_heap_new _ _, Nat.le_refl _, Frm.push Hp.emp W _, .inl rfl⟩
  obtain ⟨rec, hrec⟩ : ∃ rec : LoopState → Option Code → Loop, rec = fun st pe => { state := st, pending := pe, fn, tmps := a.tmps, params := ps.toArray, assign, body, defers := D } := ⟨_, rfl⟩
  have hL1 : W1.heap[l]? = some (.loop (rec .ready none)) := by rw [hrec]; exact hL1
  have hl1 : l < W1.heap.size := (Array.getElem?_eq_some_iff.1 hL1).1
  have keepI : oI.inW W1 := hold.inW (Hp.disj_emp _) iI
  have keepr : orr.inW W1 := hold.inW (Hp.disj_emp _) ir
  have keepg : X.g.inW W1 := hold.inW (Hp.disj_emp _) s.rd
  have nl : ∀ {h : Hp}, h.inW W → h l = none := fun {h} ih => by
    cases e : h l with
    | none => rfl
    | some x => have := Hp.inW_lt ih (B := l) (by simp [e]); omega
  -- what is lent to the iterator
  obtain ⟨R, hRd⟩ : ∃ R : Nat → As, R = fun k h => ∃ h1, Own (I k) h1 ∧ h1 l = none ∧ h = (Hp.one l (.loop (rec .ready none))).add h1 := ⟨_, rfl⟩
  obtain ⟨Rx, hRxd⟩ : ∃ Rx : As, Rx = fun h => ∃ (e : Exit) (c : Code) (rs2 : List As) (h1 : Hp), ((e = .ret ∧ c = .ret) ∨ ∃ id, e = .exit id ∧ c = .exit id) ∧ J e rs2 ∧ Own rs2 h1 ∧ h1 l = none ∧ h = (Hp.one l (.loop (rec .done (some c)))).add h1 := ⟨_, rfl⟩
  have hcall := hit orr hr dgr l R Rx (fun k hkN => by
    -- ONE ROUND
    intro h W2 hR ih ig dgh
    rw [hRd] at hR
    obtain ⟨h1, oh1, hn1, rfl⟩ := hR
    have hL2 : W2.heap[l]? = some (.loop (rec .ready none)) := ih l _ (by simp [Hp.add, Hp.one])
    have hl2 : l < W2.heap.size := (Array.getElem?_eq_some_iff.1 hL2).1
    have i1 : h1.inW W2 := fun B x e => ih B x (by
      have : B ≠ l := fun e' => by subst e'; rw [hn1] at e; cases e
      simp [Hp.add, Hp.one, this, e])
    have g1 : X.g.inW W2 := Hp.inW_left ig
    have d1 : X.g.disj h1 := fun B => by
      cases e : h1 B with
      | none => exact .inr rfl
      | some x =>
        refine .inl ?_
        have : (Hp.one l (Obj.loop (rec .ready none))).add h1 B ≠ none := fun e' => by have := (Hp.add_none.1 e').2; rw [e] at this; cases this
        have h3 := (dgh B).resolve_right this
        exact (Hp.add_none.1 h3).1
    have hfold : (ps.toArray.zip (enc k).toArray).foldl (fun t (p, v) => t.setIfInBounds p v) a.tmps = (ps.zip (enc k)).foldl (fun t (p, v) => t.setIfInBounds p v) a.tmps := by
      rw [← Array.foldl_toList]; simp
    have hy : (Instr.yield l (enc k).toArray).run X.P W2 = .ok (.round l fn ((ps.zip (enc k)).foldl (fun t (p, v) => t.setIfInBounds p v) a.tmps) assign body) W2 := by
      rw [← hfold]
      have := run_yield (P := X.P) (args := (enc k).toArray) hL2 (by rw [hrec]; simp [hps])
      rw [hrec] at this; exact this
    refine ⟨fn, (ps.zip (enc k)).foldl (fun t (p, v) => t.setIfInBounds p v) a.tmps, assign, body, hy, roundIn_of_wpIn (F := Fence.wide) trivial ?_⟩
    obtain ⟨tmk, szk⟩ := psTl_ok ps (enc k) tm a.tmps (fun p hp => by rw [s.size]; exact hpN p hp) s.tmp
    have sat0 : Sat (X.inR l) (psTl ps (enc k) tm) h1 { tmps := (ps.zip (enc k)).foldl (fun t (p, v) => t.setIfInBounds p v) a.tmps, defers := [] } W2 := {
      tmp := tmk, size := by rw [szk]; exact s.size, rd := g1, ow := i1, dis := d1
      n0 := Nat.le_trans s.n0 (Nat.le_trans hlt (Nat.le_of_lt hl2))
      marks := ⟨Hp.emp, .nil, Hp.emp_disj _, Hp.inW_emp _⟩
      round := fun l' hl' => by cases hl'; exact ⟨⟨_, hL2⟩, hn1⟩ }
    have hb := hbody l k hkN h1 _ W2 oh1 sat0
    have hgoal : assign.wpIn (Fence.wide.inRound l) 0 X.P (Exit.then (fun a₁ w₁ => ∃ w₂, (Instr.beginRound l).run X.P w₁ = .ok () w₂ ∧ body.wpIn (Fence.wide.inRound l) 0 X.P (roundPost X.P l (fun e W' => ∃ own', own'.inW W' ∧ Frm ((Hp.one l (Obj.loop (rec .ready none))).add h1) W2 W' ∧ Grow ((Hp.one l (Obj.loop (rec .ready none))).add h1) own' W2 ∧ ((e = .returned (.bool true) ∧ R (k + 1) own') ∨ (e = .returned (.bool false) ∧ Rx own')))) a₁ w₂) (fun _ _ _ => False))
        { tmps := (ps.zip (enc k)).foldl (fun t (p, v) => t.setIfInBounds p v) a.tmps, defers := [] } W2 := by
      refine wpIn_mono (show assign.wpIn (X.inR l).F 0 X.P _ _ W2 from hb) fun e a1 W3 p => ?_
      obtain ⟨tm1, rs1, o3, ow3, s3, f3, gr3, he, hb3⟩ := p
      subst he
      have n3 : o3 l = none := (s3.round l rfl).2
      have hL3 : W3.heap[l]? = some (.loop (rec .ready none)) := by rw [f3.same l hl2 hn1]; exact hL2
      refine ⟨_, run_beginRound hL3 (by rw [hrec]), ?_⟩
      obtain ⟨W4, hW4⟩ : ∃ W4, W3.putObj l (.loop { rec .ready none with state := .busy }) = W4 := ⟨_, rfl⟩
      rw [hW4]
      have hl3 : l < W3.heap.size := (Array.getElem?_eq_some_iff.1 hL3).1
      have hL4 : W4.heap[l]? = some (.loop { rec .ready none with state := .busy }) := by rw [← hW4]; exact World.putObj_heap_same hl3
      have sz4 : W4.heap.size = W3.heap.size := by rw [← hW4]; simp
      have ot4 : ∀ B, B ≠ l → W4.heap[B]? = W3.heap[B]? := fun B hB => by rw [← hW4]; exact World.putObj_heap_other hB
      have keep4 : ∀ {h : Hp}, h.inW W3 → h l = none → h.inW W4 := fun {h} ih hn B x e => by
        rw [ot4 B fun e' => by subst e'; rw [hn] at e; cases e]; exact ih B x e
      have gl : X.g l = none := by
        cases e : X.g l with
        | none => rfl
        | some x => have := Hp.inW_lt s.rd (B := l) (by simp [e]); omega
      have s4 : Sat (X.inR l) tm1 o3 a1 W4 := {
        tmp := s3.tmp, size := s3.size, rd := keep4 s3.rd gl, ow := keep4 s3.ow n3, dis := s3.dis, n0 := by rw [sz4]; exact s3.n0
        marks := by
          obtain ⟨hm, m1, m2, m3⟩ := s3.marks
          refine ⟨hm, m1, m2, keep4 m3 ?_⟩
          cases e : hm l with
          | none => rfl
          | some x =>
            -- a mark's block is no loop's record
            have h5 := m3 l x e
            rw [hL3] at h5
            have : ∀ {ds : List Deferred} {hm : Hp}, Mk X.n0 ds hm → ∀ {b y}, hm b = some y → y = .deferred (some []) := by
              intro ds hm m
              induction m with
              | nil => intro b y e; simp [Hp.emp] at e
              | @cons D' ds' h' _ _ _ ihm =>
                intro b y e
                by_cases hb : b = D'
                · subst hb; simp [Hp.add, Hp.one] at e; exact e.symm
                · simp [Hp.add, Hp.one, hb] at e; exact ihm e
            have := this m1 e
            subst this; cases h5
        round := fun l' hl' => by cases hl'; exact ⟨⟨_, hL4⟩, n3⟩ }
      refine wpIn_mono (show body.wpIn (X.inR l).F 0 X.P _ _ W4 from hb3 o3 a1 W4 ow3 s4) fun e a2 W5 p => ?_
      obtain ⟨tm2, rs2, o5, ow5, s5, f5, gr5, q⟩ := p
      have n5 : o5 l = none := (s5.round l rfl).2
      have hL5 : W5.heap[l]? = some (.loop { rec .ready none with state := .busy }) := by rw [f5.same l (by rw [sz4]; exact hl3) n3]; exact hL4
      have hl5 : l < W5.heap.size := (Array.getElem?_eq_some_iff.1 hL5).1
      have fin : ∀ (jump : Option Code), (Instr.endRound l jump).run X.P W5 = .ok (.bool jump.isNone) (W5.putObj l (.loop (rec (if jump.isNone then .ready else .done) jump))) := fun jump => by
        have := run_endRound (P := X.P) jump hL5
        rw [hrec] at this ⊢; exact this
      have frm5 : ∀ (o' : Obj), Frm ((Hp.one l (Obj.loop (rec .ready none))).add h1) W2 (W5.putObj l o') := fun o' => ⟨by
          have := f3.size; have := f5.size; simp; omega, fun B hB hn => by
          have hBl : B ≠ l := fun e' => by subst e'; simp [Hp.add, Hp.one] at hn
          have hn1' : h1 B = none := (Hp.add_none.1 hn).2
          have hn3 : o3 B = none := by
            cases e' : o3 B with
            | none => rfl
            | some y => rcases gr3 B (by simp [e']) with z | z
                        · exact absurd hn1' z
                        · omega
          rw [World.putObj_heap_other hBl, f5.same B (by have := f3.size; omega) hn3, ot4 B hBl, f3.same B hB hn1'], (f3.io.trans (show IoEq W3 W4 by rw [← hW4]; exact ⟨rfl, rfl⟩)).trans (f5.io.trans (show IoEq W5 (W5.putObj l o') from ⟨rfl, rfl⟩))⟩
      have gr5' : ∀ (o' : Obj) (oo : Hp), (∀ B x, oo B = some x → o5 B = some x) → Grow ((Hp.one l (Obj.loop (rec .ready none))).add h1) ((Hp.one l o').add oo) W2 := fun o' oo hoo B hB => by
        by_cases hBl : B = l
        · subst hBl; exact .inl (by simp [Hp.add, Hp.one])
        · have : oo B ≠ none := fun e' => hB (Hp.add_none.2 ⟨Hp.one_ne _ hBl, e'⟩)
          have h6 : o5 B ≠ none := by cases e' : oo B with
            | none => exact absurd e' this
            | some x => rw [hoo B x e']; simp
          rcases gr5 B h6 with z | z
          · rcases gr3 B z with z' | z'
            · exact .inl fun e' => z' (Hp.add_none.1 e').2
            · exact .inr z'
          · exact .inr (by have := f3.size; omega)
      have in5 : ∀ (o' : Obj) (oo : Hp), (∀ B x, oo B = some x → o5 B = some x) → ((Hp.one l o').add oo).inW (W5.putObj l o') := fun o' oo hoo => Hp.inW_add (Hp.inW_one (World.putObj_heap_same hl5)) fun B x e' => by
        rw [World.putObj_heap_other fun e'' => by subst e''; have := hoo _ _ e'; rw [n5] at this; cases this]
        exact s5.ow B x (hoo B x e')
      have out : ∀ (e : Exit) (c : Code), ((e = .ret ∧ c = .ret) ∨ ∃ id, e = .exit id ∧ c = .exit id) → J e rs2 → ∃ own', own'.inW (W5.putObj l (.loop (rec .done (some c)))) ∧ Frm ((Hp.one l (Obj.loop (rec .ready none))).add h1) W2 (W5.putObj l (.loop (rec .done (some c)))) ∧ Grow ((Hp.one l (Obj.loop (rec .ready none))).add h1) own' W2 ∧ ((Ending.returned (.bool false) = .returned (.bool true) ∧ R (k + 1) own') ∨ (Ending.returned (.bool false) = .returned (.bool false) ∧ Rx own')) := fun e c hec hJ =>
        ⟨_, in5 _ o5 (fun _ _ h => h), frm5 _, gr5' _ o5 (fun _ _ h => h), .inr ⟨rfl, by rw [hRxd]; exact ⟨e, c, rs2, o5, hec, hJ, ow5, n5, rfl⟩⟩⟩
      cases e with
      | normal =>
        obtain ⟨oo, hoo, hs⟩ := (q : RSub (I (k + 1)) rs2) o5 ow5
        exact ⟨_, _, fin none, _, in5 _ oo hs, frm5 _, gr5' _ oo hs, .inl ⟨rfl, by rw [hRd]; exact ⟨oo, hoo, RSub.none hs n5, rfl⟩⟩⟩
      | ret => exact ⟨_, _, fin (some .ret), out .ret .ret (.inl ⟨rfl, rfl⟩) q⟩
      | exit id => exact ⟨_, _, fin (some (.exit id)), out (.exit id) (.exit id) (.inr ⟨id, rfl, rfl⟩) q⟩
      | goto t => exact (show False from q).elim
      | panic ch => exact (show False from q).elim
      | outgrown => exact (show False from q).elim
    exact hgoal)
  -- the call of the iterator
  have gdis : (X.g.add orr).disj ((Hp.one l (Obj.loop (rec .ready none))).add oI) := by
    refine Hp.disj_add.2 ⟨Hp.disj_symm (Hp.one_disj.2 (Hp.add_none.2 ⟨nl s.rd, nl ir⟩)), Hp.add_disj.2 ⟨dgI, Hp.disj_symm hdI⟩⟩
  have hc := hcall ((Hp.one l (Obj.loop (rec .ready none))).add oI) W1 (own_one (by rw [hRd]; exact ⟨oI, hI, nl iI, rfl⟩)) (Hp.inW_add keepg keepr) (Hp.inW_add (Hp.inW_one hL1) keepI) gdis
  refine ⟨l, mark, W1, { target := .fn (.func gf) lb, args := #[.func (.yield l) #[] #[]] }, W1, gf, #[.func (.yield l) #[] #[]] ++ lb, W1, hent, ?_, fun _ _ => trivial, ?_, fun hdep => (by cases hdep), ?_⟩
  · simp only [resolve, s.eval hf]
    simp [Deferred.ofValue, Act.eval]
  · simp [invoke, run_callFunc_ok hk]
  · refine CallsIn.mono (callsIn_F hc) ?_
    rintro e W6 ⟨v, rs', own', rfl, o', i', f6, gr6, hor⟩
    -- behind the iterator
    have behind : ∀ (rsF : List As) (o6 : Hp) (st : LoopState) (pe : Option Code), Own rsF o6 → o6 l = none → own' = (Hp.one l (Obj.loop (rec st pe))).add o6 → st ≠ .busy →
        (Instr.endLoop l).run X.P W6 = .ok pe (W6.putObj l (.loop { rec st pe with state := .exhausted })) ∧
        (∃ own7, Own (rsF ++ r) own7 ∧ Sat X tm own7 { a with defers := mark ++ a.defers } (W6.putObj l (.loop { rec st pe with state := .exhausted })) ∧ Frm own0 W (W6.putObj l (.loop { rec st pe with state := .exhausted })) ∧ Grow own0 own7 W) := by
      intro rsF o6 st pe oF n6 e6 hst
      have hL6 : W6.heap[l]? = some (.loop (rec st pe)) := i' l _ (by rw [e6]; simp [Hp.add, Hp.one])
      have hl6 : l < W6.heap.size := (Array.getElem?_eq_some_iff.1 hL6).1
      refine ⟨by have := run_endLoop (P := X.P) hL6 (by rw [hrec]; exact hst); rw [hrec] at this ⊢; exact this, ?_⟩
      obtain ⟨W7, hW7⟩ : ∃ W7, W6.putObj l (.loop { rec st pe with state := .exhausted }) = W7 := ⟨_, rfl⟩
      rw [hW7]
      have ot7 : ∀ B, B ≠ l → W7.heap[B]? = W6.heap[B]? := fun B hB => by rw [← hW7]; exact World.putObj_heap_other hB
      have sz7 : W7.heap.size = W6.heap.size := by rw [← hW7]; simp
      have i6 : o6.inW W6 := fun B x e => i' B x (by
        have : B ≠ l := fun e' => by subst e'; rw [n6] at e; cases e
        rw [e6]; simp [Hp.add, Hp.one, this, e])
      have frW : ∀ B, B < W.heap.size → oI B = none → W7.heap[B]? = W.heap[B]? := fun B hB hn => by
        have hBl : B ≠ l := by omega
        rw [ot7 B hBl, f6.same B (by have := hold.size; omega) (Hp.add_none.2 ⟨Hp.one_ne _ hBl, hn⟩), hold.same B hB rfl]
      have f7 : Frm (oI.add orr) W W7 := ⟨by rw [sz7]; exact Nat.le_trans hold.size f6.size, fun B hB hn => frW B hB (Hp.add_none.1 hn).1, (hold.io.trans f6.io).trans (by rw [← hW7]; exact ⟨rfl, rfl⟩)⟩
      have g7 : Grow (oI.add orr) (o6.add orr) W := fun B hB => by
        cases er : orr B with
        | some x => exact .inl fun e' => by have := (Hp.add_none.1 e').2; rw [er] at this; cases this
        | none =>
          have h6 : o6 B ≠ none := fun e' => hB (Hp.add_none.2 ⟨e', er⟩)
          have hBl : B ≠ l := fun e' => by subst e'; exact h6 n6
          have : own' B ≠ none := fun e' => by rw [e6] at e'; exact h6 (Hp.add_none.1 e').2
          rcases gr6 B this with z | z
          · refine .inl fun e' => z (Hp.add_none.2 ⟨Hp.one_ne _ hBl, (Hp.add_none.1 e').1⟩)
          · exact .inr (Nat.le_trans hold.size z)
      have d6 : o6.disj orr := fun B => by
        cases er : orr B with
        | none => exact .inr rfl
        | some x =>
          refine .inl ?_
          have hlB := Hp.inW_lt ir (B := B) (by simp [er])
          cases e' : o6 B with
          | none => rfl
          | some y =>
            have hBl : B ≠ l := by omega
            have : own' B ≠ none := by rw [e6]; simp [Hp.add, Hp.one, hBl, e']
            rcases gr6 B this with z | z
            · exfalso; refine z (Hp.add_none.2 ⟨Hp.one_ne _ hBl, (hdI B).resolve_right (by simp [er])⟩)
            · have := hold.size; omega
      have i7 : (o6.add orr).inW W7 := by
        refine Hp.inW_add (fun B x e => ?_) (fun B x e => ?_)
        · rw [ot7 B fun e' => by subst e'; rw [n6] at e; cases e]; exact i6 B x e
        · have hlB := Hp.inW_lt ir (B := B) (by simp [e])
          rw [frW B hlB ((hdI B).resolve_right (by simp [e]))]; exact ir B x e
      have s7 := s.world f7 g7 i7
      refine ⟨o6.add orr, own_append.2 ⟨_, _, oF, hr, d6, rfl⟩, ?_, f7.mono fun B hB => RSub.none hsub hB, fun B hB => (g7 B hB).imp (fun z e => z (RSub.none hsub e)) id⟩
      refine ⟨s7.tmp, s7.size, s7.rd, s7.ow, s7.dis, s7.n0, ?_, s7.round⟩
      obtain ⟨hm, m1, m2, m3⟩ := s7.marks
      rcases hmark with rfl | ⟨rfl, hD1, hDge, hDl⟩
      · exact ⟨hm, m1, m2, m3⟩
      · have hD1lt := (Array.getElem?_eq_some_iff.1 hD1).1
        have own'D : own' D = none := by
          cases e : own' D with
          | none => rfl
          | some x => rcases gr6 D (by simp [e]) with z | z
                      · exfalso; refine z (Hp.add_none.2 ⟨Hp.one_ne _ hDl, ?_⟩)
                        cases e' : oI D with
                        | none => rfl
                        | some y => have := Hp.inW_lt iI (B := D) (by simp [e']); omega
                      · omega
        have o6D : o6 D = none := by rw [e6] at own'D; exact (Hp.add_none.1 own'D).2
        have orD : orr D = none := by
          cases e' : orr D with
          | none => rfl
          | some y => have := Hp.inW_lt ir (B := D) (by simp [e']); omega
        have oID : oI D = none := by
          cases e' : oI D with
          | none => rfl
          | some y => have := Hp.inW_lt iI (B := D) (by simp [e']); omega
        have hD7 : W7.heap[D]? = some (.deferred (some [])) := by
          rw [ot7 D hDl, f6.same D hD1lt (Hp.add_none.2 ⟨Hp.one_ne _ hDl, oID⟩)]; exact hD1
        obtain ⟨hm0, m01, m02, m03⟩ := s.marks
        have hmD : hm0 D = none := by
          cases e' : hm0 D with
          | none => rfl
          | some y => have := Hp.inW_lt m03 (B := D) (by simp [e']); omega
        have m03' : hm0.inW W7 := f7.inW m02 m03
        have m02' : hm0.disj (o6.add orr) := g7.disj m02 m03
        exact ⟨_, .cons (Nat.le_trans s.n0 hDge) m01 hmD, Hp.add_disj.2 ⟨Hp.one_disj.2 (Hp.add_none.2 ⟨o6D, orD⟩), m02'⟩, Hp.inW_add (Hp.inW_one hD7) m03'⟩
    rcases hor with rfl | rfl
    · -- all have come
      obtain ⟨hx, k6, hR6, hnil, _, e7⟩ := own_cons.1 o'
      rw [hRd] at hR6
      obtain ⟨o6, ho6, n6, e6⟩ := hR6
      rw [own_nil] at hnil; subst hnil; rw [Hp.add_emp] at e7
      obtain ⟨hrun, own7, h1, h2, h3, h4⟩ := behind (I N) o6 .ready none ho6 n6 (e7.trans e6) (by simp)
      exact ⟨none, _, hrun, tm, _, own7, h1, h2, h3, h4, hdone⟩
    · -- a round has left
      obtain ⟨hx, k6, hR6, hnil, _, e7⟩ := own_cons.1 o'
      rw [hRxd] at hR6
      obtain ⟨e, c, rs2, o6, hec, hJ, ho6, n6, e6⟩ := hR6
      rw [own_nil] at hnil; subst hnil; rw [Hp.add_emp] at e7
      obtain ⟨hrun, own7, h1, h2, h3, h4⟩ := behind rs2 o6 .done (some c) ho6 n6 (e7.trans e6) (by simp)
      refine ⟨some c, _, hrun, ?_⟩
      have hq : Post X own0 W Q e { a with defers := mark ++ a.defers } _ := ⟨tm, _, own7, h1, h2, h3, h4, hstop e rs2 hJ⟩
      rcases hec with ⟨rfl, rfl⟩ | ⟨id, rfl, rfl⟩
      · exact wpIn_ret hq
      · exact wpIn_exit hq

end Go.V
