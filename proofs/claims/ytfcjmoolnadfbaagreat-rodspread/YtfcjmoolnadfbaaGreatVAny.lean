/- The logic of triples: a region whose order Go leaves open, state by state: which operations are done, what is known then, and which may come next. -/
import Derived.Test.YtfcjmoolnadfbaaGreatVDraw
set_option linter.unusedVariables false
namespace Go.V

variable {X : Cx} {tm : Tl} {rs : List As} {ops : Array Oper} {K : Tl → List As → Prop} {n : Nat} {listed : Array Bool}

/-- n more operations may come, some are done -/
def TB (X : Cx) (ops : Array Oper) (K : Tl → List As → Prop) (n : Nat) (listed : Array Bool) (tm : Tl) (rs : List As) : Prop :=
  ∀ own a W, Own rs own → Sat X tm own a W →
    wpAnyIn X.F 0 X.P .any ops (fun e a' W' => e = .normal ∧ ∃ tm' rs' own', Own rs' own' ∧ Sat X tm' own' a' W' ∧ Frm own W W' ∧ Grow own own' W ∧ K tm' rs') n listed a W

theorem wpAnyIn_mono {F : Fence} {m : Nat} {P : Program} {md : Region.Mode} {Q Q' : Exit → Act → World → Prop} (hq : ∀ e a w, Q e a w → Q' e a w) : ∀ (n : Nat) (listed : Array Bool) (a : Act) (w : World), wpAnyIn F m P md ops Q n listed a w → wpAnyIn F m P md ops Q' n listed a w
  | 0, listed, a, w, h => ⟨h.1, hq _ _ _ h.2⟩
  | n + 1, listed, a, w, h => by
    refine ⟨fun e => hq _ _ _ (h.1 e), fun i hi => ?_⟩
    have h1 := h.2 i hi
    unfold wpOpIn at h1 ⊢
    split
    · rename_i ho; rw [ho] at h1; exact wpAnyIn_mono hq n _ _ _ h1
    · rename_i o ho
      rw [ho] at h1
      simp only at h1 ⊢
      split
      · rename_i hw
        rw [if_pos hw] at h1
        refine ⟨h1.1, ?_⟩
        have h2 := h1.2
        revert h2
        generalize (o.semAt F.round a.eval).run P w = res
        intro h2
        cases res with
        | ok nx w' =>
          cases nx with
          | value v => exact wpAnyIn_mono hq n _ _ _ h2
          | skip => exact wpAnyIn_mono hq n _ _ _ h2
          | defer dd => exact wpAnyIn_mono hq n _ _ _ h2
          | enter f args => exact ⟨h2.1, h2.2.mono fun e w'' he => by cases e with | returned v => exact wpAnyIn_mono hq n _ _ _ he | panicked ch => exact hq _ _ _ he | outgrown => exact LetsOut_mono hq he⟩
          | row rw' args => exact ⟨h2.1, h2.2.mono fun v w'' he => wpAnyIn_mono hq n _ _ _ he⟩
          | round l f tmps as bd => exact ⟨h2.1, h2.2.mono fun e w'' he => by cases e with | returned v => exact wpAnyIn_mono hq n _ _ _ he | panicked ch => exact hq _ _ _ he | outgrown => exact LetsOut_mono hq he⟩
          | _ => exact h2
        | halt hh w' => cases hh with
          | panic v => exact hq _ _ _ h2
          | _ => exact h2
      · rename_i hw
        rw [if_neg hw] at h1
        exact ⟨h1.1, wpAnyIn_mono hq n _ _ _ h1.2⟩

theorem TB.done (hr : Region.ready .any ops listed = []) (k : K tm rs) : TB X ops K n listed tm rs := fun own a W ho s => by
  cases n with
  | zero => exact ⟨hr, rfl, tm, rs, own, ho, s, Frm.refl _ _, Grow.refl _ _, k⟩
  | succ n => exact ⟨fun _ => ⟨rfl, tm, rs, own, ho, s, Frm.refl _ _, Grow.refl _ _, k⟩, fun i hi => by rw [hr] at hi; cases hi⟩
theorem TB.weak {tm' : Tl} {rs' : List As} (ht : TSub tm' tm) (hr : RSub rs' rs) (h : TB X ops K n listed tm' rs') : TB X ops K n listed tm rs := fun own a W ho s => by
  obtain ⟨own', o', hs⟩ := hr own ho
  refine wpAnyIn_mono ?_ _ _ _ _ (h own' a W o' (s.weak ht hs))
  rintro e a2 W2 ⟨he, tm2, rs2, own2, o2, s2, f2, g2, k2⟩
  exact ⟨he, tm2, rs2, own2, o2, s2, f2.mono (fun B hB => RSub.none hs hB), fun B hB => (g2 B hB).imp (fun y e => y (RSub.none hs e)) id, k2⟩
/-- one operation, done next -/
def TB1 (X : Cx) (ops : Array Oper) (K : Tl → List As → Prop) (n : Nat) (listed : Array Bool) (tm : Tl) (rs : List As) (i : Nat) : Prop :=
  ∃ o, ops[i]? = some o ∧ ((Wanted ops tm o.guard ∧ O1 X tm rs o (fun tm' rs' => TB X ops K n (listed.setIfInBounds i true) tm' rs')) ∨ (Unwanted ops tm o.guard ∧ noDefer o = true ∧ dOk X o.dst = true ∧ TB X ops K n (listed.setIfInBounds i true) (tput o.dst undef tm) rs))
theorem TB1.run {o : Oper} {i : Nat} (ho : ops[i]? = some o) (hw : Wanted ops tm o.guard) (h : O1 X tm rs o (fun tm' rs' => TB X ops K n (listed.setIfInBounds i true) tm' rs')) : TB1 X ops K n listed tm rs i := ⟨o, ho, .inl ⟨hw, h⟩⟩
theorem TB1.skip {o : Oper} {i : Nat} (ho : ops[i]? = some o) (hw : Unwanted ops tm o.guard) (hn : noDefer o = true) (hd : dOk X o.dst = true) (h : TB X ops K n (listed.setIfInBounds i true) (tput o.dst undef tm) rs) : TB1 X ops K n listed tm rs i := ⟨o, ho, .inr ⟨hw, hn, hd, h⟩⟩
def TBs (X : Cx) (ops : Array Oper) (K : Tl → List As → Prop) (n : Nat) (listed : Array Bool) (tm : Tl) (rs : List As) : List Nat → Prop
  | [] => True
  | i :: l => TB1 X ops K n listed tm rs i ∧ TBs X ops K n listed tm rs l
theorem TBs.mem {l : List Nat} (h : TBs X ops K n listed tm rs l) {i : Nat} (hi : i ∈ l) : TB1 X ops K n listed tm rs i := by
  induction l with
  | nil => cases hi
  | cons j l ih =>
    rcases List.mem_cons.1 hi with rfl | hi
    · exact h.1
    · exact ih h.2 hi
theorem TB.step {l : List Nat} (hr : Region.ready .any ops listed = l) (hne : l ≠ []) (h : TBs X ops K n listed tm rs l) : TB X ops K (n + 1) listed tm rs := fun own a W ho s => by
  refine ⟨fun e => absurd (hr ▸ e) hne, fun i hi => ?_⟩
  rw [hr] at hi
  obtain ⟨o, hio, hor⟩ := h.mem hi
  have key : ∀ a' W', (∃ tm' rs' own', Own rs' own' ∧ Sat X tm' own' a' W' ∧ Frm own W W' ∧ Grow own own' W ∧ TB X ops K n (listed.setIfInBounds i true) tm' rs') →
      wpAnyIn X.F 0 X.P .any ops (fun e a' W' => e = .normal ∧ ∃ tm' rs' own', Own rs' own' ∧ Sat X tm' own' a' W' ∧ Frm own W W' ∧ Grow own own' W ∧ K tm' rs') n (listed.setIfInBounds i true) a' W' := by
    rintro a' W' ⟨tm', rs', own', o', s', f, g, hto⟩
    refine wpAnyIn_mono ?_ _ _ _ _ (hto own' a' W' o' s')
    rintro e a2 W2 ⟨he, tm2, rs2, own2, o2, s2, f2, g2, k2⟩
    exact ⟨he, tm2, rs2, own2, o2, s2, f.trans g f2, g.trans f.size g2, k2⟩
  unfold wpOpIn
  rw [hio]
  simp only
  rcases hor with ⟨hw, hO⟩ | ⟨hw, hn, hd, hT⟩
  · rw [if_pos (wanted_of s hw)]
    have h1 := hO own a W ho s
    refine ⟨h1.1, ?_⟩
    have h2 := h1.2
    revert h2
    generalize (o.semAt X.F.round a.eval).run X.P W = res
    intro h2
    cases res with
    | ok nx w' =>
      cases nx with
      | value v => exact key _ _ h2
      | skip => exact key _ _ h2
      | defer dd => exact key _ _ h2
      | enter f args => exact ⟨h2.1, h2.2.mono fun e w'' he => by cases e with | returned v => exact key _ _ he | panicked ch => exact he.elim | outgrown => exact LetsOut_mono (fun _ _ _ h => h.elim) he⟩
      | row rw' args => exact ⟨h2.1, h2.2.mono fun v w'' he => key _ _ he⟩
      | round l f tmps as bd => exact ⟨h2.1, h2.2.mono fun e w'' he => by cases e with | returned v => exact key _ _ he | panicked ch => exact he.elim | outgrown => exact LetsOut_mono (fun _ _ _ h => h.elim) he⟩
      | _ => exact h2
    | halt hh w' => cases hh with
      | panic v => exact h2.elim
      | _ => exact h2
  · rw [if_neg (by rw [unwanted_of s hw]; simp)]
    exact ⟨fun _ _ => trivial, key _ _ ⟨_, _, own, ho, s.put hd undef, Frm.refl _ _, Grow.refl _ _, hT⟩⟩

/-- **A region that draws its order, state by state.** -/
theorem T.any {id : Nat} {lo : List Oper} {Q : Exit → Tl → List As → Prop} (listed : Array Bool) (hl : Array.replicate lo.toArray.size false = listed) (N : Nat) (hN : lo.toArray.size = N) (hf : X.P.follows .mixedOrders = true)
    (h : TB X lo.toArray (fun tm' rs' => Q .normal tm' rs') N listed tm rs) : T X tm rs (.region id lo.toArray true) Q := fun own a W ho s => by
  refine wpIn_region_draw fun t => ?_
  have s' : Sat X tm own a { W with drawn := W.drawn + 1 } := ⟨s.tmp, s.size, s.rd, s.ow, s.dis, s.n0, s.marks, s.round⟩
  have h0 := h own a { W with drawn := W.drawn + 1 } ho s'
  rw [← hl, ← hN] at h0
  have hq : ∀ e a' W', (e = Exit.normal ∧ ∃ tm' rs' own', Own rs' own' ∧ Sat X tm' own' a' W' ∧ Frm own { W with drawn := W.drawn + 1 } W' ∧ Grow own own' { W with drawn := W.drawn + 1 } ∧ Q .normal tm' rs') → Post X own W Q e a' W' := by
    rintro e a' W' ⟨rfl, tm', rs', own', o', s', f, g, q⟩
    exact ⟨tm', rs', own', o', s', ⟨f.size, f.same, f.io⟩, g, q⟩
  simp only [Region.schedule, hf, Bool.true_or, if_true]
  exact wpOpsIn_mono hq _ _ _ (wpAnyIn_sound lo.toArray.size t _ a _ h0)
theorem TB.use {tm : Tl} {rs : List As} (h : ∀ F : Nat → Array Bool → Tl → List As → Prop, F = TB X ops K → F n listed tm rs) : TB X ops K n listed tm rs := h _ rfl
end Go.V
