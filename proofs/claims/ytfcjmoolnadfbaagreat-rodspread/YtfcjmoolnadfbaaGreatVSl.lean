/- The logic of triples: parts of slices; elements that are stored; boxes whose slice lies wherever it can be read; tables of slices. -/
import Derived.Test.YtfcjmoolnadfbaaGreatVLate
set_option linter.unusedVariables false
set_option linter.unusedSimpArgs false
namespace Go.V
variable {X : Cx} {tm : Tl} {L rs : List As}

theorem wpO_mono {o : Oper} {K K' : Tl → List As → Prop} {own : Hp} {a : Act} {W : World} (h1 : o.wpIn X.F 0 X.P a W (fun a' W' => ∃ tm' rs' own', Own rs' own' ∧ Sat X tm' own' a' W' ∧ Frm own W W' ∧ Grow own own' W ∧ K tm' rs') (fun _ _ _ => False)) (hk : ∀ tm' rs' own', K tm' rs' → Own rs' own' → ∃ rs2, Own rs2 own' ∧ K' tm' rs2) :
    o.wpIn X.F 0 X.P a W (fun a' W' => ∃ tm' rs' own', Own rs' own' ∧ Sat X tm' own' a' W' ∧ Frm own W W' ∧ Grow own own' W ∧ K' tm' rs') (fun _ _ _ => False) := by
  refine ⟨h1.1, ?_⟩
  have h2 := h1.2
  revert h2
  generalize (o.semAt X.F.round a.eval).run X.P W = res
  have key : ∀ a' W', (∃ tm' rs' own', Own rs' own' ∧ Sat X tm' own' a' W' ∧ Frm own W W' ∧ Grow own own' W ∧ K tm' rs') → (∃ tm' rs' own', Own rs' own' ∧ Sat X tm' own' a' W' ∧ Frm own W W' ∧ Grow own own' W ∧ K' tm' rs') := by
    rintro a' W' ⟨tm', rs', own', o', s', f, g, k⟩
    obtain ⟨rs2, o2, k2⟩ := hk _ _ _ k o'
    exact ⟨tm', rs2, own', o2, s', f, g, k2⟩
  intro h2
  cases res with
  | ok nx w' =>
    cases nx with
    | value v => exact key _ _ h2
    | skip => exact key _ _ h2
    | defer dd => exact key _ _ h2
    | enter f args => exact ⟨h2.1, h2.2.mono fun e w'' he => by cases e with | returned v => exact key _ _ he | panicked ch => exact he.elim | outgrown => exact LetsOut_mono (fun _ _ _ h => h.elim) he⟩
    | row rw' args => exact ⟨h2.1, h2.2.mono fun v w'' he => key _ _ he⟩
    | round l f tmps as bd => exact ⟨h2.1, h2.2.mono fun e w'' he => by cases e with | returned v => exact key _ _ he | panicked ch => exact he.elim | outgrown => exact LetsOut_mono (fun _ _ _ h => h.elim) he⟩
    | _ => exact h2
  | halt hh w' => cases hh with
    | panic v => exact h2.elim
    | _ => exact h2

theorem O1.mono {o : Oper} {K K' : Tl → List As → Prop} (h : O1 X tm rs o K) (hk : ∀ tm' rs' own', K tm' rs' → Own rs' own' → ∃ rs2, Own rs2 own' ∧ K' tm' rs2) : O1 X tm rs o K' := fun own a W ho s => wpO_mono (h own a W ho s) hk
theorem wpO_from {o : Oper} {K : Tl → List As → Prop} {own own2 : Hp} {a : Act} {W : World} (hs : ∀ B x, own2 B = some x → own B = some x) (h1 : o.wpIn X.F 0 X.P a W (fun a' W' => ∃ tm' rs' own', Own rs' own' ∧ Sat X tm' own' a' W' ∧ Frm own2 W W' ∧ Grow own2 own' W ∧ K tm' rs') (fun _ _ _ => False)) :
    o.wpIn X.F 0 X.P a W (fun a' W' => ∃ tm' rs' own', Own rs' own' ∧ Sat X tm' own' a' W' ∧ Frm own W W' ∧ Grow own own' W ∧ K tm' rs') (fun _ _ _ => False) := by
  refine ⟨h1.1, ?_⟩
  have h2 := h1.2
  revert h2
  generalize (o.semAt X.F.round a.eval).run X.P W = res
  have key : ∀ a' W', (∃ tm' rs' own', Own rs' own' ∧ Sat X tm' own' a' W' ∧ Frm own2 W W' ∧ Grow own2 own' W ∧ K tm' rs') → (∃ tm' rs' own', Own rs' own' ∧ Sat X tm' own' a' W' ∧ Frm own W W' ∧ Grow own own' W ∧ K tm' rs') := by
    rintro a' W' ⟨tm', rs', own', o', s', f, g, k⟩
    exact ⟨tm', rs', own', o', s', f.mono fun B hB => RSub.none hs hB, fun B hB => (g B hB).imp (fun y e => y (RSub.none hs e)) id, k⟩
  intro h2
  cases res with
  | ok nx w' =>
    cases nx with
    | value v => exact key _ _ h2
    | skip => exact key _ _ h2
    | defer dd => exact key _ _ h2
    | enter f args => exact ⟨h2.1, h2.2.mono fun e w'' he => by cases e with | returned v => exact key _ _ he | panicked ch => exact he.elim | outgrown => exact LetsOut_mono (fun _ _ _ h => h.elim) he⟩
    | row rw' args => exact ⟨h2.1, h2.2.mono fun v w'' he => key _ _ he⟩
    | round l f tmps as bd => exact ⟨h2.1, h2.2.mono fun e w'' he => by cases e with | returned v => exact key _ _ he | panicked ch => exact he.elim | outgrown => exact LetsOut_mono (fun _ _ _ h => h.elim) he⟩
    | _ => exact h2
  | halt hh w' => cases hh with
    | panic v => exact h2.elim
    | _ => exact h2
/-- an operation at fewer resources, in another order -/
theorem O1.rsub {o : Oper} {rs' : List As} {K : Tl → List As → Prop} (hr : RSub rs' rs) (h : O1 X tm rs' o K) : O1 X tm rs o K := fun own a W ho s => by
  obtain ⟨own2, o2, hs⟩ := hr own ho
  exact wpO_from hs (h own2 a W o2 (s.less hs))

/-! ### Parts of slices -/
section parts
variable {α : Type} {E : En α} {a : Option Addr} {c : Nat} {xs : List α}
theorem SlR.take {h : Hp} (s : SlR E h a xs) (i : Nat) : SlR E h a (xs.take i) := by
  rcases s with rfl | ⟨cs, T, fr, h1, h2, h3⟩
  · exact .inl (by simp)
  · refine .inr ⟨cs, T, fr, h1, h2, ?_⟩
    rw [← E.flat_take, ← h3, List.take_take, List.length_take]
    congr 1
    rcases Nat.le_total i xs.length with h | h
    · rw [Nat.min_eq_left h, Nat.min_eq_left (Nat.mul_le_mul_right _ h)]
    · rw [Nat.min_eq_right h, Nat.min_eq_right (Nat.mul_le_mul_right _ h)]
theorem SlR.drop {h : Hp} (s : SlR E h a xs) (i : Nat) (hc : xs.length ≤ c) : SlR E h (if c = i then a else dropA a (i * E.sz)) (xs.drop i) := by
  by_cases hi : xs.length ≤ i
  · exact .inl (List.drop_eq_nil_of_le hi)
  · rw [if_neg (by omega)]
    rcases s with rfl | ⟨cs, T, fr, h1, h2, h3⟩
    · exact .inl (by simp)
    · generalize blk a = B at *
      generalize ofs a = o at *
      subst h1
      rw [show dropA (Option.some ⟨B, o, Option.none⟩) (i * E.sz) = Option.some ⟨B, o + i * E.sz, Option.none⟩ from by
        unfold dropA; simp only [Option.map_some, Addr.add]; split
        · rename_i e; rw [e]; rfl
        · rfl]
      refine .inr ⟨cs, T, fr, rfl, h2, ?_⟩
      show (cs.toList.drop (o + i * E.sz)).take ((xs.drop i).length * E.sz) = _
      rw [← E.flat_drop, ← h3, List.drop_take, List.drop_drop, List.length_drop, Nat.sub_mul]
theorem SlAt.take (s : SlAt X L E a xs) (i : Nat) : SlAt X L E a (xs.take i) := fun own W o io ig => (s own W o io ig).take i
theorem SlAt.drop (s : SlAt X L E a xs) (i : Nat) (hc : xs.length ≤ c) : SlAt X L E (if c = i then a else dropA a (i * E.sz)) (xs.drop i) := fun own W o io ig => (s own W o io ig).drop i hc
theorem SlOk.drop {k m : Nat} (h : SlOk a c) : SlOk (if c = k then a else dropA a m) (c - k) := by
  cases h with
  | nil => simp only [dropA, Option.map_none, ite_self, Nat.zero_sub]; exact .nil
  | some =>
    split
    · exact .some
    · unfold dropA; simp only [Option.map_some, Addr.add]; split <;> exact .some
/-- fewer of a slice that is owned -/
theorem SlO.take {T : TypeId} {h : Hp} (s : SlO E T a c xs h) (i : Nat) : SlO E T a c (xs.take i) h := by
  rcases s with ⟨rfl, rfl, rfl, rfl⟩ | ⟨B, cur, rfl, rfl, h3, h4, h5⟩
  · exact .inl ⟨rfl, rfl, by simp, rfl⟩
  · refine .inr ⟨B, cur, rfl, rfl, h3, by rw [List.length_take]; omega, ?_⟩
    rw [← E.flat_take, ← h5, List.take_take, List.length_take]
    congr 1
    rcases Nat.le_total i xs.length with h | h
    · rw [Nat.min_eq_left h, Nat.min_eq_left (Nat.mul_le_mul_right _ h)]
    · rw [Nat.min_eq_right h, Nat.min_eq_right (Nat.mul_le_mul_right _ h)]
end parts

/-! ### An element is stored -/
theorem wrL_take (cs : List Value) : ∀ (vs : List Value) (off k : Nat), k ≤ off → (wrL cs off vs).take k = cs.take k
  | [], _, _, _ => rfl
  | v :: r, off, k, h => by
    have ih := wrL_take (cs.set off v) r (off + 1) k (by omega)
    rw [wrL, ih, List.take_set_of_le (by omega)]
theorem wrL_eq : ∀ (vs cs : List Value) (off : Nat), off + vs.length ≤ cs.length → wrL cs off vs = cs.take off ++ vs ++ cs.drop (off + vs.length)
  | [], cs, off, _ => by simp [wrL]
  | v :: r, cs, off, h => by
    simp only [List.length_cons] at h
    rw [wrL, wrL_eq r _ _ (by simp; omega)]
    rw [List.take_add_one, List.getElem?_eq_getElem (by simp; omega), List.take_set_of_le (by omega), List.drop_set_of_lt (by omega)]
    simp [Nat.add_assoc, Nat.add_comm 1]
theorem splice_take {β : Type} {L V : List β} {k N : Nat} (h : k + V.length ≤ N) (hN : N ≤ L.length) : (L.take k ++ V ++ L.drop (k + V.length)).take N = (L.take N).take k ++ V ++ (L.take N).drop (k + V.length) := by
  have h1 : (L.take k ++ V).length = k + V.length := by simp; omega
  rw [List.take_take, Nat.min_eq_left (by omega), List.drop_take, List.take_append, List.take_of_length_le (by omega), h1]
section
variable {α : Type} {E : En α} {a : Option Addr} {c : Nat} {xs : List α} {d : Option Tmp} {ty : TypeId} {pos : String} {af : Array Edge} {gu : Option (Nat × Bool)} {K : Tl → List As → Prop}
theorem flat_set {xs : List α} {k : Nat} {v : α} (hk : k < xs.length) : (xs.set k v).flatMap E.enc = (xs.flatMap E.enc).take (k * E.sz) ++ E.enc v ++ (xs.flatMap E.enc).drop (k * E.sz + E.sz) := by
  rw [List.set_eq_take_append_cons_drop, if_pos hk, List.flatMap_append, List.flatMap_cons, E.flat_take, ← Nat.succ_mul, E.flat_drop]
  simp
theorem O1.storeE {t T : TypeId} {x y : Operand} {k : Nat} {v : α} {u : Value} {p : Addr} (i : Nat) (hx : evo tm x = some (.pointer (some p))) (hp : p = ⟨blk a, ofs a + k * E.sz, none⟩) (hy : evo tm y = some u) (hu : u.cells.toList = E.enc v) (hi : rs[i]? = some (SlO E T a c xs)) (hs : szOf X.P t = some E.sz) (hk : k < xs.length) (hd : dOk X d = true)
    (h : K (tput d undef tm) (rs.set i (SlO E T a c (xs.set k v)))) : O1 X tm rs ⟨d, .store t x y, ty, pos, af, gu⟩ K := fun own ac W ho s => by
  subst hp
  obtain ⟨h1, q, hA, hkq, hd1, e0, hset⟩ := own_take ho hi
  rcases hA with ⟨_, _, rfl, _⟩ | ⟨B, cur, rfl, rfl, h3, h4, h5⟩
  · simp at hk
  · have hlen : (xs.flatMap E.enc).length = xs.length * E.sz := E.flat_len xs
    have hcl : cur.toList.length = c * E.sz := by rw [Array.length_toList]; exact h3
    have hcs : xs.length * E.sz ≤ cur.toList.length := by rw [hcl]; exact Nat.mul_le_mul_right _ h4
    have hks : k * E.sz + E.sz ≤ xs.length * E.sz := by rw [← Nat.succ_mul]; exact Nat.mul_le_mul_right _ hk
    have hulen : u.cells.toList.length = E.sz := by rw [hu, E.len]
    have hlt : i < rs.length := (List.getElem?_eq_some_iff.1 hi).1
    have hi2 : (rs.set i (As.one B (.cells cur T (0, 0))))[i]? = some (As.one B (.cells cur.toList.toArray T (0, 0))) := by simp [hlt]
    have o2 : Own (rs.set i (As.one B (.cells cur T (0, 0)))) own := by rw [e0]; exact hset (As.one B _) _ rfl hd1
    have st := O1.store (X := X) (tm := tm) (d := d) (ty := ty) (pos := pos) (af := af) (gu := gu) (v := u) (K := fun tm' rs' => tm' = tput d undef tm ∧ rs' = (rs.set i (As.one B (.cells cur T (0, 0)))).set i (As.one B (.cells (wrL cur.toList (k * E.sz) u.cells.toList).toArray T (0, 0)))) i (by simpa [blk, ofs] using hx) hy hi2 hs (by rw [← Array.length_toList]; exact hulen) (by rw [hu]; exact E.pl v) (by omega) hd ⟨rfl, rfl⟩
    refine st.mono (fun tm' rs' own' hK o' => ?_) own ac W o2 s
    obtain ⟨rfl, rfl⟩ := hK
    rw [List.set_set] at o'
    refine ⟨_, ?_, h⟩
    have hi3 : (rs.set i (As.one B (.cells (wrL cur.toList (k * E.sz) u.cells.toList).toArray T (0, 0))))[i]? = some (As.one B (.cells (wrL cur.toList (k * E.sz) u.cells.toList).toArray T (0, 0))) := by simp [hlt]
    obtain ⟨h6, q6, hA6, hk6, hd6, e6, hset6⟩ := own_take o' hi3
    obtain rfl : h6 = Hp.one B _ := hA6
    rw [e6]
    have := hset6 (SlO E T (some ⟨B, 0, none⟩) c (xs.set k v)) (Hp.one B (.cells (wrL cur.toList (k * E.sz) u.cells.toList).toArray T (0, 0))) (.inr ⟨B, _, rfl, rfl, by simp [wrL_length, h3], by simpa using h4, ?_⟩) hd6
    · rw [List.set_set] at this; exact this
    · rw [wrL_eq _ _ _ (by omega), hulen, hu, flat_set hk, ← h5]
      have hv : (E.enc v).length = E.sz := E.len v
      have := splice_take (L := cur.toList) (V := E.enc v) (k := k * E.sz) (N := xs.length * E.sz) (by omega) hcs
      rw [hv] at this
      simp only [List.length_set]
      exact this

theorem zeroCells_plain {z : Value} (hp : z.cells.toList.all plainV = true) (hz : 0 < z.cells.size) (n : Nat) : (Builtin.zeroCells z.cells n).toList.all plainV = true ∧ (Builtin.zeroCells z.cells n).size = n * z.cells.size := by
  constructor
  · rw [List.all_eq_true]
    intro v hv
    simp only [Builtin.zeroCells, Array.toList_map, List.mem_map] at hv
    obtain ⟨i, _, rfl⟩ := hv
    have hlt : i % z.cells.size < z.cells.size := Nat.mod_lt _ hz
    rw [getElem!_pos z.cells _ hlt]
    exact List.all_eq_true.1 hp _ (by simp)
  · simp [Builtin.zeroCells]
theorem O1.clearTail {t e : TypeId} {x : Operand} {z : Value} {b n c2 k : Nat} {a2 : Option Addr} (i : Nat) (el : ElOk X.P t e E.sz b z) (hx : evo tm x = some (.slice a2 n c2)) (hi : rs[i]? = some (SlO E e a c xs)) (hk : k ≤ xs.length) (ha2 : a2 = if c = k then a else dropA a (k * E.sz)) (hn : n = xs.length - k) (hp : z.cells.toList.all plainV = true) (hd : dOk X d = true)
    (h : K (tput d (.tuple #[]) tm) (rs.set i (SlO E e a c (xs.take k)))) : O1 X tm rs ⟨d, .call ⟨.builtin .clear, #[x], #[t]⟩, ty, pos, af, gu⟩ K := fun own ac W ho s => by
  refine wpIn_of_run rfl ?_
  subst hn; subst ha2
  have hu := sliOf_spec el.sl
  obtain ⟨inf, hinf, hzi, hsz, _⟩ := el.get
  have hz : (zeroValue e).run X.P W = .ok z W := run_zeroValue (by simp [zeroOf, hinf, hzi]) W
  obtain ⟨h1, q, hA, hkq, hd1, e0, hset⟩ := own_take ho hi
  by_cases hkl : k = xs.length
  · subst hkl
    have hrun : ∀ a2 : Option Addr, (Builtin.clear_ #[t] ty #[.slice a2 0 c2]).run X.P W = .ok (.tuple #[]) W := fun a2 => by
      cases a2 <;> simp [Builtin.clear_, run_underlying hu]
    have hex : (execOp ac.eval ⟨d, .call ⟨.builtin .clear, #[x], #[t]⟩, ty, pos, af, gu⟩).run X.P W = .ok (.value (.tuple #[])) W := by
      simp only [execOp, resolve, invoke, Sem.run_bind, Sem.run_pure, Result.andThen]
      simp [s.eval hx, Go.builtin, hrun]
    rw [hex]
    have o2 := hset (SlO E e a c (xs.take xs.length)) h1 (by rw [List.take_length]; exact hA) hd1
    rw [← e0] at o2
    exact ⟨_, _, _, o2, s.put hd _, Frm.refl _ _, Grow.refl _ _, h⟩
  · rcases hA with ⟨_, _, rfl, _⟩ | ⟨B, cur, rfl, rfl, h3, h4, h5⟩
    · simp at hk hkl; omega
    · have hlt : k < xs.length := by omega
      have hcne : ¬ c = k := by omega
      rw [if_neg hcne] at hx
      have hdrop : dropA (Option.some ⟨B, 0, Option.none⟩) (k * E.sz) = Option.some ⟨B, k * E.sz, Option.none⟩ := by
        unfold dropA; simp only [Option.map_some, Addr.add]; split
        · rename_i e; rw [e]
        · simp
      rw [hdrop] at hx
      have hcl : cur.toList.length = c * E.sz := by rw [Array.length_toList]; exact h3
      have hzs := el.zs
      obtain ⟨hzp, hzl⟩ := zeroCells_plain hp (by rw [hzs]; exact E.pos) (xs.length - k)
      have hb : W.heap[B]? = some (.cells cur.toList.toArray e (0, 0)) := by
        have := s.ow B (.cells cur e (0, 0)) (by rw [e0]; simp [Hp.add, Hp.one])
        simpa using this
      have hfit : k * E.sz + 0 + (Builtin.zeroCells z.cells (xs.length - k)).toList.length ≤ cur.toList.length := by
        rw [Array.length_toList, hzl, hzs, hcl, Nat.add_zero, ← Nat.add_mul]
        exact Nat.mul_le_mul_right _ (by omega)
      obtain ⟨W', r1, r2, r3, r4, r5⟩ := run_storeCells (P := X.P) B _ (k * E.sz) 0 cur.toList W hb hzp hfit
      have hn0 : ∃ m, xs.length - k = m + 1 := ⟨xs.length - k - 1, by omega⟩
      have hrun : (Builtin.clear_ #[t] ty #[.slice (some ⟨B, k * E.sz, Option.none⟩) (xs.length - k) c2]).run X.P W = .ok (.tuple #[]) W' := by
        obtain ⟨m, hm⟩ := hn0
        rw [hm] at r1 ⊢
        simp [Builtin.clear_, run_underlying hu, hz, Result.andThen, r1]
      have hex : (execOp ac.eval ⟨d, .call ⟨.builtin .clear, #[x], #[t]⟩, ty, pos, af, gu⟩).run X.P W = .ok (.value (.tuple #[])) W' := by
        simp only [execOp, resolve, invoke, Sem.run_bind, Sem.run_pure, Result.andThen]
        simp [s.eval hx, Go.builtin, hrun]
      rw [hex]
      let h' : Hp := Hp.one B (.cells (wrL cur.toList (k * E.sz) (Builtin.zeroCells z.cells (xs.length - k)).toList).toArray e (0, 0))
      have hS : SlO E e (some ⟨B, 0, Option.none⟩) c (xs.take k) h' := .inr ⟨B, _, rfl, rfl, by simp [wrL_length, h3], by rw [List.length_take]; omega, by
        have h5' := congrArg (List.take (k * E.sz)) h5
        rw [List.take_take, Nat.min_eq_left (Nat.mul_le_mul_right _ hk), E.flat_take] at h5'
        rw [List.length_take, Nat.min_eq_left hk]
        show (wrL cur.toList (k * E.sz) _).take (k * E.sz) = _
        rw [wrL_take _ _ _ _ (Nat.le_refl _), h5']⟩
      have hin : h'.inW W' := Hp.inW_one (by simpa using r2)
      have hf : Frm (Hp.one B (.cells cur e (0, 0))) W W' := ⟨by rw [r3]; exact Nat.le_refl _, fun b _ hbn => r4 b fun e' => (by subst e'; simp [Hp.one] at hbn), r5⟩
      have hg : Grow (Hp.one B (.cells cur e (0, 0))) h' W := fun b hb2 => .inl fun e' => hb2 (by
        by_cases hbB : b = B
        · subst hbB; simp [Hp.one] at e'
        · exact Hp.one_ne _ hbB)
      obtain ⟨o1, i1, f1, g1⟩ := own_turn s.ow e0 hd1 hset hS hin hf hg
      exact ⟨_, _, _, o1, (s.world f1 g1 i1).put hd _, f1, g1, h⟩
end

theorem TO.pure {ops : Array Oper} {i : Nat} {rest : List Oper} {K : Tl → List As → Prop} {p : Prop} (j : Nat) {A : As} (hi : rs[j]? = some A) (hp : ∀ h, A h → p) (k : p → TO X ops i rest tm rs K) : TO X ops i rest tm rs K := fun hdrop own a W ho s => by
  obtain ⟨h, hA, _⟩ := own_sub ho hi
  exact k (hp h hA) hdrop own a W ho s
/-! ### Slices that can be read, wherever they lie -/
/-- what is owned lets a slice be read -/
def SlD {α : Type} (E : En α) (a : Option Addr) (xs : List α) : As := fun h => SlR E h a xs
theorem SlAt.rd {α : Type} {E : En α} {a : Option Addr} {xs : List α} (i : Nat) (h : L[i]? = some (SlD E a xs)) : SlAt X L E a xs := fun own W o io _ => by
  obtain ⟨hh, hA, hs⟩ := own_sub o h
  exact SlR.mono hA fun B x e => io B x (hs B x e)
theorem SlR.in_rd {α : Type} {E : En α} {a : Option Addr} {xs : List α} (i : Nat) (h : L[i]? = some (SlD E a xs)) {own : Hp} (o : Own L own) (d : X.g.disj own) : SlR E (X.g.add own) a xs := by
  obtain ⟨hh, hA, hs⟩ := own_sub o h
  exact SlR.mono hA fun B x e => by
    have h1 := hs B x e
    have : X.g B = Option.none := (d B).resolve_right (by simp [h1])
    simp [Hp.add, this, h1]
theorem own_cap {α : Type} {E : En α} {T : TypeId} {a : Option Addr} {c : Nat} {xs : List α} (i : Nat) (h : L[i]? = some (SlO E T a c xs)) {own : Hp} (o : Own L own) : xs.length ≤ c := by
  obtain ⟨hh, hA, _⟩ := own_sub o h
  exact SlO.len hA
/-- a box whose slice can be read in g and in what comes with the box -/
def BoxGo {α : Type} (E : En α) (g : Hp) (T : TypeId) (B : Nat) (a : Option Addr) (c : Nat) (xs : List α) : As := fun h =>
  xs.length ≤ c ∧ ∃ k, (Hp.one B (.cells #[.slice a xs.length c] T (0, 0))).disj k ∧ h = (Hp.one B (.cells #[.slice a xs.length c] T (0, 0))).add k ∧ SlR E (g.add k) a xs
def BoxG {α : Type} (E : En α) (g : Hp) (T : TypeId) (B : Nat) (xs : List α) : As := fun h => ∃ a c, BoxGo E g T B a c xs h
section boxg
variable {α : Type} {E : En α} {g : Hp} {Tb : TypeId} {B : Nat} {a : Option Addr} {c : Nat} {xs : List α}
theorem T.boxG {code : Code} {Q : Exit → Tl → List As → Prop} (h : ∀ a c, T X tm (BoxGo E g Tb B a c xs :: rs) code Q) : T X tm (BoxG E g Tb B xs :: rs) code Q := fun own ac W o s => by
  obtain ⟨u, k, ⟨a, c, hu⟩, hk, d, rfl⟩ := own_cons.1 o
  exact h a c _ ac W (.cons hu hk d) s
theorem RSub.boxG {rs' rs : List As} (h : RSub (BoxGo E g Tb B a c xs :: rs') rs) : RSub (BoxG E g Tb B xs :: rs') rs := fun own o => by
  obtain ⟨o', ho', s⟩ := h own o
  obtain ⟨u, k, hu, hk, d, rfl⟩ := own_cons.1 ho'
  exact ⟨_, .cons ⟨a, c, hu⟩ hk d, s⟩
theorem CellsAt.boxG (i : Nat) (h : L[i]? = some (BoxGo E g Tb B a c xs)) : CellsAt X L B [.slice a xs.length c] := fun own W o io ig => by
  obtain ⟨hh, ⟨_, k, d, rfl, _⟩, hs⟩ := own_sub o h
  exact ⟨Tb, (0, 0), io _ _ (hs B _ (by simp [Hp.add, Hp.one]))⟩
theorem SlR.weakg {h k : Hp} (s : SlR E h a xs) (hk : ∀ B x, h B = some x → k B = some x) : SlR E k a xs := s.mono hk
/-- nil in a new box -/
theorem boxG_nil : ∀ h, As.one B (.cells #[.slice none 0 0] Tb (0, 0)) h → BoxGo E g Tb B Option.none 0 ([] : List α) h := fun h e =>
  ⟨Nat.le_refl _, Hp.emp, Hp.disj_emp _, by rw [Hp.add_emp]; exact e, .nil _ _ _⟩
theorem O1.storeBoxG {d : Option Tmp} {ty : TypeId} {pos : String} {af : Array Edge} {gu : Option (Nat × Bool)} {K : Tl → List As → Prop} {t : TypeId} {x y : Operand} {a2 : Option Addr} {n2 c2 : Nat} {ys : List α} (i : Nat) (hx : evo tm x = some (.pointer (some ⟨B, 0, Option.none⟩))) (hy : evo tm y = some (.slice a2 n2 c2)) (hn : n2 = ys.length) (hcap : ys.length ≤ c2) (hr : SlR E g a2 ys)
    (hi : rs[i]? = some (BoxGo E g Tb B a c xs)) (hs : szOf X.P t = some 1) (hd : dOk X d = true) (h : K (tput d undef tm) (rs.set i (BoxGo E g Tb B a2 c2 ys))) : O1 X tm rs ⟨d, .store t x y, ty, pos, af, gu⟩ K := fun own ac W ho s => by
  subst hn
  obtain ⟨h1, q, ⟨_, k, dk, rfl, hk⟩, hkq, hd1, e0, hset⟩ := own_take ho hi
  obtain ⟨hd2, hd3⟩ := Hp.add_disj.1 hd1
  have o2 : Own (As.one B (.cells [Value.slice a xs.length c].toArray Tb (0, 0)) :: (fun h => h = k) :: rs.eraseIdx i) own := by
    rw [e0, Hp.add_assoc]
    exact .cons rfl (.cons rfl hkq hd3) (Hp.disj_add.2 ⟨dk, hd2⟩)
  have st := O1.store (X := X) (tm := tm) (d := d) (ty := ty) (pos := pos) (af := af) (gu := gu) (v := .slice a2 ys.length c2) (rs := As.one B (.cells [Value.slice a xs.length c].toArray Tb (0, 0)) :: (fun h => h = k) :: rs.eraseIdx i)
    (K := fun tm' rs' => tm' = tput d undef tm ∧ rs' = As.one B (.cells #[.slice a2 ys.length c2] Tb (0, 0)) :: (fun h => h = k) :: rs.eraseIdx i) 0 hx hy rfl hs rfl rfl (by simp) hd ⟨rfl, rfl⟩
  refine wpO_mono (st own ac W o2 s) (fun tm' rs' own' hK o' => ?_)
  obtain ⟨rfl, rfl⟩ := hK
  obtain ⟨u, r1, rfl, o3, d3, rfl⟩ := own_cons.1 o'
  obtain ⟨v, r2, rfl, o4, d4, rfl⟩ := own_cons.1 o3
  obtain ⟨d5, d6⟩ := Hp.disj_add.1 d3
  have d7 : (Hp.one B (.cells #[.slice a2 ys.length c2] Tb (0, 0)) |>.add v).disj r2 := Hp.add_disj.2 ⟨d6, d4⟩
  have hone : ∀ (l : List As) (i : Nat) (A : As) (h : Hp), A h → ∀ r, Own (l.eraseIdx i) r → i < l.length → h.disj r → Own (l.set i A) (h.add r) := by
    intro l
    induction l with
    | nil => intro i A h hA r hr hi; simp at hi
    | cons x l ih =>
      intro i A h hA r hr hi hdis
      cases i with
      | zero => exact .cons hA hr hdis
      | succ i =>
        simp only [List.eraseIdx_cons_succ, List.set_cons_succ, List.length_cons] at hr hi ⊢
        obtain ⟨p, q2, hp, hq, dq, rfl⟩ := own_cons.1 hr
        obtain ⟨e1, e2⟩ := Hp.disj_add.1 hdis
        have := ih i A h hA q2 hq (by omega) e2
        rw [← Hp.add_assoc, Hp.add_comm e1, Hp.add_assoc]
        exact .cons hp this (Hp.disj_add.2 ⟨Hp.disj_symm e1, dq⟩)
  refine ⟨_, ?_, h⟩
  rw [← Hp.add_assoc]
  exact hone rs i _ _ ⟨hcap, v, d5, rfl, hr.mono fun b x e => by simp [Hp.add, e]⟩ r2 o4 (List.getElem?_eq_some_iff.1 hi).1 d7
/-- a slice that can be read in g and in what is owned -/
def SlG {α : Type} (E : En α) (g : Hp) (a : Option Addr) (xs : List α) : As := fun h => SlR E (g.add h) a xs
theorem BoxGo.slg {h : Hp} (b : BoxGo E g Tb B a c xs h) : SlG E g a xs h := by
  obtain ⟨_, k, d, rfl, hr⟩ := b
  refine hr.mono fun x y e => ?_
  simp only [Hp.add] at e ⊢
  cases eg : g x with
  | some z => rw [eg] at e; simpa using e
  | none =>
    rw [eg] at e; simp at e
    have : Hp.one B (.cells #[.slice a xs.length c] Tb (0, 0)) x = Option.none := (d x).resolve_right (by simp [e])
    simp [this, e]
theorem SlG.sld {h : Hp} (s : SlG E Hp.emp a xs h) : SlD E a xs h := by unfold SlG at s; rwa [Hp.emp_add] at s
theorem TO.boxG {ops : Array Oper} {i : Nat} {rest : List Oper} {K : Tl → List As → Prop} (h : ∀ a c, TO X ops i rest tm (BoxGo E g Tb B a c xs :: rs) K) : TO X ops i rest tm (BoxG E g Tb B xs :: rs) K := fun hdrop own ac W o s => by
  obtain ⟨u, k, ⟨a, c, hu⟩, hk, d, rfl⟩ := own_cons.1 o
  exact h a c hdrop _ ac W (.cons hu hk d) s
theorem RSub.boxN {rs' rs : List As} (i : Nat) (hi : rs[i]? = some (As.one B (.cells #[.slice Option.none 0 0] Tb (0, 0)))) (h : RSub rs' (rs.eraseIdx i)) : RSub (BoxG E g Tb B ([] : List α) :: rs') rs :=
  .boxG (a := Option.none) (c := 0) (.pickc i hi (fun h hh => boxG_nil h hh) h)
theorem Ct.weakg {P : Program} {K : FuncId} {args : Array Value} {g g' : Hp} {rs : List As} {Q : Value → List As → Prop} (h : Ct P K args g rs Q) (hs : ∀ B x, g B = some x → g' B = some x) : Ct P K args g' rs Q := fun own W o hg ho d =>
  h own W o (fun B x e => hg B x (hs B x e)) ho (fun B => (d B).imp (fun e => RSub.none hs e) id)
theorem Ct.mono' {P : Program} {K : FuncId} {args : Array Value} {g : Hp} {rs : List As} {Q Q' : Value → List As → Prop} (h : Ct P K args g rs Q) (hq : ∀ v rs' own', Q v rs' → Own rs' own' → ∃ rs2, Own rs2 own' ∧ Q' v rs2) : Ct P K args g rs Q' :=
  fun own W o hg ho d => (h own W o hg ho d).mono fun _ _ ⟨v, rs', own', e, h1, h2, h3, h4, h5⟩ => by
    obtain ⟨rs2, o2, q2⟩ := hq v rs' own' h5 h1
    exact ⟨v, rs2, own', e, o2, h2, h3, h4, q2⟩
/-- what a callee that is handed the box may read, and may put there, comes with the box -/
theorem Ct.absorb {P : Program} {K : FuncId} {args : Array Value} {A : List As} {V : Value} {best best' : List α} {r : Hp}
    (h : ∀ o, Own A o → g.disj o → Ct P K args (g.add o) [BoxG E (g.add o) Tb B best] (fun v rs' => v = V ∧ rs' = [BoxG E (g.add o) Tb B best'])) :
    Ct P K args (g.add r) (BoxG E g Tb B best :: A) (fun v rs' => v = V ∧ rs' = [BoxG E g Tb B best']) := fun own W o hg ho d => by
  obtain ⟨b, oA, ⟨a, c, hcap, k, dk, rfl, hk⟩, hA, dA, rfl⟩ := own_cons.1 o
  have hg1 : g.inW W := Hp.inW_left hg
  have dg : g.disj ((Hp.one B (.cells #[.slice a best.length c] Tb (0, 0)) |>.add k).add oA) := fun x => (d x).imp (fun e => (Hp.add_none.1 e).1) id
  obtain ⟨dg1, dg2⟩ := Hp.disj_add.1 dg
  have iA : oA.inW W := Hp.inW_right dA ho
  have ib := Hp.inW_left ho
  have hbox : BoxG E (g.add oA) Tb B best (Hp.one B (.cells #[.slice a best.length c] Tb (0, 0)) |>.add k) := ⟨a, c, hcap, k, dk, rfl, hk.mono fun x y e => by
    simp only [Hp.add] at e ⊢
    cases eg : g x with
    | some z => rw [eg] at e; simpa using e
    | none =>
      rw [eg] at e; simp at e
      have hkx : oA x = Option.none := (dA x).resolve_left (by simp [Hp.add, e])
      simp [hkx, e]⟩
  refine (h oA hA dg2 _ W (own_one hbox) (Hp.inW_add hg1 iA) ib (Hp.add_disj.2 ⟨dg1, Hp.disj_symm dA⟩)).mono ?_
  rintro e W' ⟨v, rs', own', rfl, o', i', f, gr, hv, rfl⟩
  obtain ⟨u, z, ⟨a3, c3, hcap3, k3, dk3, rfl, hk3⟩, hz, dz, rfl⟩ := own_cons.1 o'
  obtain rfl := own_nil.1 hz
  rw [Hp.add_emp] at i' gr
  have dA' : (Hp.one B (.cells #[.slice a3 best'.length c3] Tb (0, 0)) |>.add k3).disj oA := Hp.disj_symm (gr.disj (Hp.disj_symm dA) iA)
  obtain ⟨dB, dk4⟩ := Hp.add_disj.1 dA'
  have iA' : oA.inW W' := f.inW (Hp.disj_symm dA) iA
  refine ⟨v, _, ((Hp.one B (.cells #[.slice a3 best'.length c3] Tb (0, 0)) |>.add k3).add oA), rfl, own_one (A := BoxG E g Tb B best') ⟨a3, c3, hcap3, k3.add oA, Hp.disj_add.2 ⟨dk3, dB⟩, Hp.add_assoc _ _ _, hk3.mono fun x y e => ?_⟩, Hp.inW_add i' iA', f.mono fun x hx => (Hp.add_none.1 hx).1, fun x hx => ?_, hv, rfl⟩
  · simp only [Hp.add] at e ⊢
    cases eg : g x with
    | some z => rw [eg] at e; simpa using e
    | none =>
      rw [eg] at e; simp only [Option.none_or] at e ⊢
      cases eo : oA x with
      | some z =>
        rw [eo] at e; simp at e
        have : k3 x = Option.none := (dk4 x).resolve_right (by simp [eo])
        simp [this, e]
      | none => rw [eo] at e; simp at e; simp [e]
  · cases eo : oA x with
    | some z => exact .inl fun e => by have := (Hp.add_none.1 e).2; rw [eo] at this; cases this
    | none =>
      have : (Hp.one B (.cells #[.slice a3 best'.length c3] Tb (0, 0)) |>.add k3) x ≠ Option.none := fun e => hx (Hp.add_none.2 ⟨e, eo⟩)
      rcases gr x this with y | y
      · exact .inl fun e => y (Hp.add_none.1 e).1
      · exact .inr y
end boxg
end Go.V
