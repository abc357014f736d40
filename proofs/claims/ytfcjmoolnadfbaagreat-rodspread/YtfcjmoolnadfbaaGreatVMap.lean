/- The logic of triples: maps whose keys are structs of two ints. -/
import Derived.Test.YtfcjmoolnadfbaaGreatVBits
import Derived.Laws.IdiomRangeMap
set_option linter.unusedVariables false
set_option linter.unusedSimpArgs false
namespace Go.V

variable {β : Type} {ev : β → Value}
/-- the entry with a key -/
def findI (ev : β → Value) (c : Cell) : List (Cell × β) → Nat → Option (Nat × Value)
  | [], _ => none
  | p :: r, i => if c = p.1 then some (i, ev p.2) else findI ev c r (i + 1)
def kvs (ev : β → Value) (ms : List (Cell × β)) : List (Value × Value) := ms.map fun p => (argC p.1, ev p.2)
def kv (e : MapEntry) : Value × Value := (e.key, e.val)

theorem run_equal_C {P : Program} {t : TypeId} (h : twoI P t = true) (a b : Cell) (W : World) : (Op.equal t (argC a) (argC b)).run P W = .ok (decide (a = b)) W := by
  have h1 := (run_equal_twoI h a.col a.row b.col b.row .i64 W).1
  have e : (decide (a.col = b.col) && decide (a.row = b.row)) = decide (a = b) := by
    obtain ⟨_, _⟩ := a; obtain ⟨_, _⟩ := b; simp only [Cell.mk.injEq]; rw [Bool.decide_and]
  rw [e] at h1
  exact h1
theorem run_findAsking {P : Program} {t : TypeId} (h : twoI P t = true) (c : Cell) (W : World) : ∀ (l : List MapEntry) (ms : List (Cell × β)) (i : Nat), l.map kv = kvs ev ms → (Instr.findAsking t (argC c) l i).run P W = .ok (findI ev c ms i) W
  | [], [], i, _ => by simp [Instr.findAsking, findI]
  | [], _ :: _, _, e => by simp [kvs] at e
  | _ :: _, [], _, e => by simp [kvs] at e
  | x :: l, p :: ms, i, e => by
    simp only [kvs, List.map_cons, List.cons.injEq, kv, Prod.mk.injEq] at e
    obtain ⟨⟨e1, e2⟩, e3⟩ := e
    have ih := run_findAsking h c W l ms (i + 1) e3
    simp only [Instr.findAsking, Sem.run_bind, e1, run_equal_C h, Result.andThen, findI]
    by_cases hc : c = p.1
    · simp [hc, e2]
    · simp [hc, ih]
theorem struct_of {P : Program} {t : TypeId} (h : twoI P t = true) : P.underlying t = some (.struct (P.fieldsOf t)) := by
  unfold twoI at h
  simp only [Bool.and_eq_true] at h
  have h1 := h.1.1.1
  unfold Program.fieldsOf; split at h1 <;> simp_all
theorem run_findKey {P : Program} {t : TypeId} (h : twoI P t = true) (c : Cell) (W : World) (l : List MapEntry) (ms : List (Cell × β)) (e : l.map kv = kvs ev ms) : (Instr.findKey t (argC c) l).run P W = .ok (findI ev c ms 0) W := by
  cases l with
  | nil =>
    cases ms with
    | nil => simp [Instr.findKey, run_underlying (struct_of h), Instr.findNow, findI, Result.andThen]
    | cons p r => simp [kvs] at e
  | cons x l =>
    have := run_findAsking h c W (x :: l) ms 0 e
    simp only [Instr.findKey, Sem.run_bind, run_underlying (struct_of h), Result.andThen, Instr.findNow, argC, Instr.sameNow]
    exact this
theorem run_checkKey {P : Program} {t : TypeId} (h : twoI P t = true) (c : Cell) (W : World) (em : Bool) : (Instr.checkKey em 10000 t (argC c)).run P W = .ok () W := by
  have hs := struct_of h
  unfold twoI at h
  simp only [Bool.and_eq_true, Bool.not_eq_true'] at h
  obtain ⟨_, h4⟩ := h
  split at h4
  · rename_i f g hfg
    simp only [Bool.and_eq_true, bne_iff_ne, ne_eq, beq_iff_eq] at h4
    obtain ⟨⟨⟨⟨⟨⟨⟨n1, n2⟩, o1⟩, o2⟩, a1⟩, a2⟩, i1⟩, i2⟩ := h4
    obtain ⟨k1, hk1⟩ : ∃ k1, P.underlying f.type = some (.int k1) := by split at i1 <;> simp_all
    obtain ⟨k2, hk2⟩ : ∃ k2, P.underlying g.type = some (.int k2) := by split at i2 <;> simp_all
    have e1 : ∀ (xs : Array Value) (v : Value) (o : Nat) (ty : TypeId) (hag : agOf P ty = some false) (hv : xs[o]? = some v), (part ty xs o).run P W = .ok v W := fun xs v o ty hag hv => by
      simp [part, run_isAgg hag, hv, Result.andThen]
    have ck : ∀ (n : Nat) (ty : TypeId) (k : IntKind) (v : Int), P.underlying ty = some (.int k) → (Instr.checkKey em (n + 1) ty (.int .i64 v)).run P W = .ok () W := fun n ty k v hk => by
      simp [Instr.checkKey, run_underlying hk, Result.andThen]
    show (Instr.checkKey em (9998 + 1 + 1) t (argC c)).run P W = _
    generalize 9998 = n
    unfold Instr.checkKey
    simp only [Sem.run_bind, run_underlying hs, Result.andThen, argC]
    rw [← Array.forIn_toList, hfg]
    simp [n1, n2, o1, o2, e1 #[.int .i64 c.col, .int .i64 c.row] (.int .i64 c.col) 0 f.type a1 rfl, e1 #[.int .i64 c.col, .int .i64 c.row] (.int .i64 c.row) 1 g.type a2 rfl, ck n f.type k1 c.col hk1, ck n g.type k2 c.row hk2, Result.andThen]
  · cases h4

/-- a map as a list of keys and values -/
structure MapOk (ev : β → Value) (es : Array MapEntry) (clock : Nat) (ms : List (Cell × β)) : Prop where
  same : es.toList.map kv = kvs ev ms
  apart : (ms.map Prod.fst).Nodup
  born : (es.toList.map (·.born)).Nodup
  old : ∀ e ∈ es.toList, e.born < clock
/-- here and now -/
def MapAt (X : Cx) (L : List As) (ev : β → Value) (M : Nat) (ms : List (Cell × β)) : Prop :=
  ∀ own W, Own L own → own.inW W → X.g.inW W → ∃ es clock, W.heap[M]? = some (.map es clock) ∧ MapOk ev es clock ms
/-- a map that is owned -/
def MapO (ev : β → Value) (M : Nat) (ms : List (Cell × β)) : As := fun h => ∃ es clock, h = Hp.one M (.map es clock) ∧ MapOk ev es clock ms
/-- a map that is read -/
def MapR (ev : β → Value) (h : Hp) (M : Nat) (ms : List (Cell × β)) : Prop := ∃ es clock, h M = some (.map es clock) ∧ MapOk ev es clock ms
theorem MapR.mono {h k : Hp} {M : Nat} {ms : List (Cell × β)} (r : MapR ev h M ms) (hk : ∀ B x, h B = some x → k B = some x) : MapR ev k M ms := let ⟨es, c, h1, h2⟩ := r; ⟨es, c, hk _ _ h1, h2⟩
theorem MapAt.g {X : Cx} {L : List As} {M : Nat} {ms : List (Cell × β)} (r : MapR ev X.g M ms) : MapAt X L ev M ms := fun _ W _ _ ig => let ⟨es, c, h1, h2⟩ := r; ⟨es, c, ig _ _ h1, h2⟩
theorem MapAt.own {X : Cx} {L : List As} {M : Nat} {ms : List (Cell × β)} (i : Nat) (h : L[i]? = some (MapO ev M ms)) : MapAt X L ev M ms := fun own W o io _ => by
  obtain ⟨hh, ⟨es, c, rfl, hm⟩, hs⟩ := own_sub o h
  exact ⟨es, c, io _ _ (hs _ _ (Hp.one_self _ _)), hm⟩
theorem MapR.in_own {X : Cx} {L : List As} {M : Nat} {ms : List (Cell × β)} (i : Nat) (h : L[i]? = some (MapO ev M ms)) {own : Hp} (o : Own L own) (d : X.g.disj own) : MapR ev (X.g.add own) M ms := by
  obtain ⟨hh, ⟨es, c, rfl, hm⟩, hs⟩ := own_sub o h
  have h1 := hs _ _ (Hp.one_self _ _)
  have : X.g M = none := (d M).resolve_right (by simp [h1])
  exact ⟨es, c, by simp [Hp.add, this, h1], hm⟩
theorem MapR.up {g own : Hp} {M : Nat} {ms : List (Cell × β)} (r : MapR ev g M ms) : MapR ev (g.add own) M ms := r.mono fun B x e => Hp.up e
/-- what a key has -/
def mlook (z : β) (ms : List (Cell × β)) (c : Cell) : β := ((ms.find? (fun p => decide (c = p.1))).map Prod.snd).getD z
theorem findI_look (z : β) (c : Cell) : ∀ (ms : List (Cell × β)) (i : Nat), (match findI ev c ms i with | some (_, v) => v | none => ev z) = ev (mlook z ms c)
  | [], _ => rfl
  | p :: r, i => by
    unfold findI mlook
    by_cases h : c = p.1
    · simp [h]
    · simp only [h, if_false, List.find?_cons, decide_false]
      exact findI_look z c r (i + 1)

section
variable {X : Cx} {tm : Tl} {L rs : List As} {d : Option Tmp} {ty : TypeId} {pos : String} {af : Array Edge} {gu : Option (Nat × Bool)} {t kt e : TypeId} {x y : Operand} {M : Nat} {ms : List (Cell × β)} {c : Cell}
theorem AY.lookup (z : β) (hx : evo tm x = some (.map (some M))) (hy : evo tm y = some (argC c)) (hm : MapAt X L ev M ms) (ht : mapOf X.P t = some (kt, e)) (h2 : twoI X.P kt = true) (hz : zeroOf X.P e = some (ev z)) : AY X L tm ⟨d, .lookup t x y false, ty, pos, af, gu⟩ (ev (mlook z ms c)) := fun own ac W o s => by
  obtain ⟨es, clock, hb, ok⟩ := hm own W o s.ow s.rd
  have hg : (getObj M).run X.P W = .ok (.map es clock) W := MapKept.run_getObj_map hb
  have h3 := run_findKey (P := X.P) h2 c W es.toList ms ok.same
  have key := findI_look (ev := ev) z c ms 0
  simp only [execOp, s.eval hx, s.eval hy, Instr.lookup, Sem.run_bind, run_underlying (mapOf_spec ht), hg, Result.andThen, Sem.run_pure, run_checkKey h2, h3, Bool.false_eq_true, if_false]
  cases hf : findI ev c ms 0 with
  | none => rw [hf] at key; simp only at key; simp [run_zeroValue hz, Result.andThen, key]
  | some p => rw [hf] at key; simp only at key; simp [key]

/-! ### A map's entry that is laid, and stored to -/
def MapE (ev : β → Value) (M : Nat) (ms : List (Cell × β)) (c : Cell) (stamp : Int) : As := fun h =>
  ∃ (es : Array MapEntry) (clock i : Nat) (en : MapEntry), h = Hp.one M (.map es clock) ∧ MapOk ev es clock ms ∧ es[i]? = some en ∧ (en.born : Int) = stamp ∧ en.key = argC c
theorem argC_inj {a b : Cell} (h : argC a = argC b) : a = b := by
  obtain ⟨_, _⟩ := a; obtain ⟨_, _⟩ := b
  simp [argC] at h; simp [h]
theorem sameBits_C (c : Cell) : Instr.sameBits 10000 (argC c) (argC c) = true := by
  show Instr.sameBits (9999 + 1) (argC c) (argC c) = true
  generalize 9999 = n
  unfold Instr.sameBits argC
  simp [Instr.sameBits]
theorem findI_none {c : Cell} : ∀ {ms : List (Cell × β)} {i : Nat}, findI ev c ms i = none → c ∉ ms.map Prod.fst
  | [], _, _ => by simp
  | p :: r, i, h => by
    unfold findI at h
    by_cases hc : c = p.1
    · simp [hc] at h
    · simp only [hc, if_false] at h
      have := findI_none h
      simp only [List.map_cons, List.mem_cons, not_or]
      exact ⟨hc, this⟩
theorem findI_some {c : Cell} : ∀ {ms : List (Cell × β)} {i j : Nat} {v : Value}, findI ev c ms i = some (j, v) → i ≤ j ∧ ∃ b, ms[j - i]? = some (c, b) ∧ v = ev b
  | [], _, _, _, h => by simp [findI] at h
  | p :: r, i, j, v, h => by
    unfold findI at h
    by_cases hc : c = p.1
    · simp [hc] at h; obtain ⟨rfl, rfl⟩ := h; exact ⟨Nat.le_refl _, p.2, by simp [hc], rfl⟩
    · simp only [hc, if_false] at h
      obtain ⟨h1, b, h2, h3⟩ := findI_some h
      refine ⟨by omega, b, ?_, h3⟩
      have : j - i = (j - (i + 1)) + 1 := by omega
      rw [this]; simpa using h2
theorem look_append_not {z : β} {ms : List (Cell × β)} {c d : Cell} (h : c ∉ ms.map Prod.fst) : mlook z (ms ++ [(c, z)]) d = mlook z ms d := by
  unfold mlook
  rw [List.find?_append]
  cases hf : ms.find? (fun p => decide (d = p.1)) with
  | some p => simp
  | none => by_cases e : d = c <;> simp [e]
theorem look_set {z v : β} : ∀ {ms : List (Cell × β)} {j : Nat} {c d : Cell} {b : β}, (ms.map Prod.fst).Nodup → ms[j]? = some (c, b) → mlook z (ms.set j (c, v)) d = if d = c then v else mlook z ms d
  | [], _, _, _, _, _, h => by simp at h
  | p :: r, 0, c, d, b, _, h => by
    simp at h; subst h
    simp only [List.set_cons_zero, mlook, List.find?_cons]
    by_cases e : d = c <;> simp [e]
  | p :: r, j + 1, c, d, b, hn, h => by
    simp at h
    have hn' := List.nodup_cons.1 (by simpa using hn : (p.1 :: r.map Prod.fst).Nodup)
    have ih := look_set (z := z) (v := v) (d := d) hn'.2 h
    have hpc : p.1 ≠ c := fun e => hn'.1 (by rw [e]; exact List.mem_map.2 ⟨(c, b), List.mem_of_getElem? h, rfl⟩)
    simp only [List.set_cons_succ, mlook, List.find?_cons] at ih ⊢
    by_cases e : d = p.1
    · subst e; simp [hpc]
    · simp only [e, decide_false]; exact ih

theorem run_mapEntry {P : Program} {W : World} {t kt e : TypeId} {M : Nat} {es : Array MapEntry} {clock : Nat} {ms : List (Cell × β)} {c : Cell} (z : β) (hb : W.heap[M]? = some (.map es clock)) (ok : MapOk ev es clock ms) (ht : mapOf P t = some (kt, e)) (h2 : twoI P kt = true) (hz : zeroOf P e = some (ev z)) :
    ∃ (stamp : Int) (ms2 : List (Cell × β)) (es2 : Array MapEntry) (clock2 i : Nat) (en : MapEntry), (Instr.mapEntry t (.map (some M)) (argC c)).run P W = .ok (.tuple #[ev (mlook z ms c), .int .i64 stamp]) (W.putObj M (.map es2 clock2)) ∧ MapOk ev es2 clock2 ms2 ∧ es2[i]? = some en ∧ (en.born : Int) = stamp ∧ en.key = argC c ∧
      (∀ d, mlook z ms2 d = mlook z ms d) ∧ (∀ p ∈ ms2, p = (c, z) ∨ p ∈ ms) := by
  have hg : (getObj M).run P W = .ok (.map es clock) W := MapKept.run_getObj_map hb
  have h3 := run_findKey (P := P) h2 c W es.toList ms ok.same
  have key := findI_look (ev := ev) z c ms 0
  have hset : ∀ es2 c2, (setObj M (.map es2 c2)).run P W = .ok () (W.putObj M (.map es2 c2)) := fun es2 c2 => by simp [setObj, Sem.run, World.putObj, hb]
  cases hf : findI ev c ms 0 with
  | none =>
    rw [hf] at key h3; simp only at key
    have hnot := findI_none hf
    refine ⟨clock, ms ++ [(c, z)], es.push { key := argC c, val := ev z, born := clock }, clock + 1, es.size, { key := argC c, val := ev z, born := clock }, ?_, ?_, by simp, rfl, rfl, fun d => look_append_not hnot, fun p hp => ?_⟩
    · simp [Instr.mapEntry, run_underlying (mapOf_spec ht), hg, Result.andThen, run_checkKey h2, h3, run_zeroValue hz, hset, goInt, ← key]
    · refine ⟨?_, ?_, ?_, ?_⟩
      · simp [ok.same, kvs, kv]
      · rw [List.map_append, List.nodup_append]
        exact ⟨ok.apart, by simp, fun a ha b hb' => by simp at hb'; subst hb'; exact fun e => hnot (e ▸ ha)⟩
      · simp only [Array.toList_push, List.map_append, List.map_cons, List.map_nil]
        rw [List.nodup_append]
        refine ⟨ok.born, by simp, fun a ha b hb' => ?_⟩
        simp at hb'; subst hb'
        obtain ⟨x, hx, rfl⟩ := List.mem_map.1 ha
        have := ok.old x hx; omega
      · intro x hx
        simp at hx
        rcases hx with hx | rfl
        · have := ok.old x (by simpa using hx); omega
        · simp
    · rcases List.mem_append.1 hp with h | h
      · exact .inr h
      · simp at h; exact .inl h
  | some p =>
    obtain ⟨j, v⟩ := p
    rw [hf] at key h3; simp only at key
    obtain ⟨_, b, hj, hv⟩ := findI_some hf
    simp only [Nat.sub_zero] at hj
    have hlen : es.toList.length = ms.length := by have := congrArg List.length ok.same; simpa [kvs] using this
    have hjl : j < es.size := by have := (List.getElem?_eq_some_iff.1 hj).1; rw [← Array.length_toList]; omega
    have hkey : es[j].key = argC c := by
      have h5 : (es.toList.map kv)[j]? = (kvs ev ms)[j]? := by rw [ok.same]
      simp only [kvs, List.getElem?_map, hj, Option.map_some, Array.getElem?_toList, Array.getElem?_eq_getElem hjl, kv, Option.some.injEq, Prod.mk.injEq] at h5
      exact h5.1
    have hmod : (es.modify j fun e => { e with key := argC c }) = es := by
      apply Array.ext (by simp)
      intro n h1 h2'
      rw [Array.getElem_modify]
      split
      · rename_i e'; subst e'
        generalize es[j] = en at hkey ⊢
        cases en; simp at hkey; simp [hkey]
      · rfl
    refine ⟨es[j].born, ms, es, clock, j, es[j], ?_, ok, Array.getElem?_eq_getElem hjl, rfl, hkey, fun _ => rfl, fun p hp => .inr hp⟩
    have hkt : ∀ W', (Instr.keyThatStays (argC c) (argC c)).run P W' = .ok (argC c) W' := fun W' => by simp [Instr.keyThatStays, sameBits_C]
    simp [Instr.mapEntry, run_underlying (mapOf_spec ht), hg, Result.andThen, run_checkKey h2, h3, hset, goInt, Array.getElem?_eq_getElem hjl, hkey, hkt, hmod, key]
theorem run_entryStore {P : Program} {W : World} {t : TypeId} {M : Nat} {es : Array MapEntry} {clock i : Nat} {en : MapEntry} {ms : List (Cell × β)} {c : Cell} {stamp : Int} (z v : β) (hb : W.heap[M]? = some (.map es clock)) (ok : MapOk ev es clock ms) (hi : es[i]? = some en) (hs : (en.born : Int) = stamp) (hk : en.key = argC c) :
    ∃ (ms2 : List (Cell × β)) (es2 : Array MapEntry), (Instr.entryStore t (.map (some M)) (.int .i64 stamp) (ev v)).run P W = .ok () (W.putObj M (.map es2 clock)) ∧ MapOk ev es2 clock ms2 ∧
      (∀ d, mlook z ms2 d = if d = c then v else mlook z ms d) ∧ (∀ p ∈ ms2, p = (c, v) ∨ p ∈ ms) := by
  have hg : (getObj M).run P W = .ok (.map es clock) W := MapKept.run_getObj_map hb
  have hset : ∀ es2 c2, (setObj M (.map es2 c2)).run P W = .ok () (W.putObj M (.map es2 c2)) := fun es2 c2 => by simp [setObj, Sem.run, World.putObj, hb]
  obtain ⟨hil, hie⟩ := Array.getElem?_eq_some_iff.1 hi
  have hlen : es.toList.length = ms.length := by have := congrArg List.length ok.same; simpa [kvs] using this
  have hml : i < ms.length := by rw [← hlen]; simpa using hil
  have hkv : ms[i].1 = c := by
    have h5 : (es.toList.map kv)[i]? = (kvs ev ms)[i]? := by rw [ok.same]
    simp only [kvs, List.getElem?_map, List.getElem?_eq_getElem hml, Option.map_some, Array.getElem?_toList, hi, kv, Option.some.injEq, Prod.mk.injEq] at h5
    exact argC_inj (by rw [← hk]; exact h5.1.symm)
  have hmi : ms[i]? = some (c, ms[i].2) := by rw [List.getElem?_eq_getElem hml, ← hkv]
  have hfind : es.findIdx? (fun e => (e.born : Int) == stamp) = some i := by
    rw [Array.findIdx?_eq_some_iff_getElem]
    refine ⟨hil, by rw [hie]; simpa using hs, fun j hj => ?_⟩
    have hjl : j < es.size := by omega
    simp only [Bool.not_eq_true, beq_eq_false_iff_ne, ne_eq]
    intro e'
    have hb1 : (es.toList.map (·.born))[j]'(by simpa using hjl) = (es.toList.map (·.born))[i]'(by simpa using hil) := by
      simp only [List.getElem_map, Array.getElem_toList]
      rw [hie]; omega
    have := (List.getElem_inj ok.born).1 hb1
    omega
  refine ⟨ms.set i (c, v), es.modify i fun e => { e with val := ev v }, ?_, ?_, fun d => look_set ok.apart hmi, fun p hp => ?_⟩
  · simp [Instr.entryStore, hg, Result.andThen, hfind, hset, asInt, asIntOf]
  · refine ⟨?_, ?_, ?_, ?_⟩
    · apply List.ext_getElem
      · simpa [kvs] using hlen
      · intro n h1 h2'
        simp only [List.getElem_map, Array.getElem_toList, Array.getElem_modify, kvs, List.getElem_set]
        have h5 : ∀ m (hm : m < es.size) (hm2 : m < ms.length), kv es[m] = (argC ms[m].1, ev ms[m].2) := fun m hm hm2 => by
          have h6 : (es.toList.map kv)[m]? = (kvs ev ms)[m]? := by rw [ok.same]
          simpa [kvs, List.getElem?_eq_getElem hm2, Array.getElem?_eq_getElem hm] using h6
        split
        · rename_i e'; subst e'
          simp [kv, hie, hk]
        · exact h5 n (by simpa using h1) (by simpa [kvs] using h2')
    · have : (ms.set i (c, v)).map Prod.fst = ms.map Prod.fst := by
        rw [List.map_set]
        apply List.ext_getElem (by simp)
        intro n h1 h2'
        simp only [List.getElem_set]
        split
        · rename_i e'; subst e'; simp [hkv]
        · rfl
      rw [this]; exact ok.apart
    · have : (es.modify i fun e => { e with val := ev v }).toList.map (·.born) = es.toList.map (·.born) := by
        apply List.ext_getElem (by simp)
        intro n h1 h2'
        simp only [List.getElem_map, Array.getElem_toList, Array.getElem_modify]
        split <;> rfl
      rw [this]; exact ok.born
    · intro x hx
      obtain ⟨n, hn, rfl⟩ := List.mem_iff_getElem.1 hx
      simp only [Array.getElem_toList, Array.getElem_modify]
      have hn' : n < es.size := by simpa using hn
      split <;> exact ok.old es[n] (by simp)
  · rcases List.mem_or_eq_of_mem_set hp with h | h
    · exact .inr h
    · exact .inl h

theorem putObj_turn {M : Nat} {W : World} {o o' : Obj} (hb : W.heap[M]? = some o) : (Hp.one M o').inW (W.putObj M o') ∧ Frm (Hp.one M o) W (W.putObj M o') ∧ Grow (Hp.one M o) (Hp.one M o') W := by
  have hlt := (Array.getElem?_eq_some_iff.1 hb).1
  refine ⟨Hp.inW_one (World.putObj_heap_same hlt), ⟨by simp, fun B hB hn => World.putObj_heap_other fun e => by subst e; simp [Hp.one] at hn, rfl, rfl⟩, fun B hB => .inl fun e => hB ?_⟩
  by_cases h : B = M
  · subst h; simp [Hp.one] at e
  · exact Hp.one_ne _ h
theorem O1.mapEntry {K : Tl → List As → Prop} (i : Nat) (z : β) (hx : evo tm x = some (.map (some M))) (hy : evo tm y = some (argC c)) (hi : rs[i]? = some (MapO ev M ms)) (ht : mapOf X.P t = some (kt, e)) (h2 : twoI X.P kt = true) (hz : zeroOf X.P e = some (ev z)) (hd : dOk X d = true)
    (k : ∀ stamp ms2, (∀ d, mlook z ms2 d = mlook z ms d) → (∀ p ∈ ms2, p = (c, z) ∨ p ∈ ms) → K (tput d (.tuple #[ev (mlook z ms c), .int .i64 stamp]) tm) (rs.set i (MapE ev M ms2 c stamp))) : O1 X tm rs ⟨d, .mapEntry t x y, ty, pos, af, gu⟩ K := fun own ac W ho s => by
  refine wpIn_of_run rfl ?_
  obtain ⟨h, q, hA, hk, hd1, e0, hset⟩ := own_take ho hi
  obtain ⟨es, clock, rfl, ok⟩ := hA
  have hb : W.heap[M]? = some (.map es clock) := s.ow M _ (by rw [e0]; simp [Hp.add, Hp.one])
  obtain ⟨stamp, ms2, es2, clock2, j, en, r1, r2, r3, r4, r5, r6, r7⟩ := run_mapEntry (P := X.P) (c := c) z hb ok ht h2 hz
  have hex : (execOp ac.eval ⟨d, .mapEntry t x y, ty, pos, af, gu⟩).run X.P W = .ok (.value (.tuple #[ev (mlook z ms c), .int .i64 stamp])) (W.putObj M (.map es2 clock2)) := by
    simp [execOp, s.eval hx, s.eval hy, r1]
  rw [hex]
  obtain ⟨t1, t2, t3⟩ := putObj_turn (o' := .map es2 clock2) hb
  obtain ⟨o1, i1, f1, g1⟩ := own_turn (A' := MapE ev M ms2 c stamp) s.ow e0 hd1 hset ⟨es2, clock2, j, en, rfl, r2, r3, r4, r5⟩ t1 t2 t3
  exact ⟨_, _, _, o1, (s.world f1 g1 i1).put hd _, f1, g1, k _ _ r6 r7⟩
theorem O1.entryStore {K : Tl → List As → Prop} {w : Operand} {v : β} {stamp : Int} (i : Nat) (z : β) (hx : evo tm x = some (.map (some M))) (hy : evo tm y = some (.int .i64 stamp)) (hw : evo tm w = some (ev v)) (hi : rs[i]? = some (MapE ev M ms c stamp)) (hd : dOk X d = true)
    (k : ∀ ms2, (∀ d, mlook z ms2 d = if d = c then v else mlook z ms d) → (∀ p ∈ ms2, p = (c, v) ∨ p ∈ ms) → K (tput d undef tm) (rs.set i (MapO ev M ms2))) : O1 X tm rs ⟨d, .entryStore t x y w, ty, pos, af, gu⟩ K := fun own ac W ho s => by
  refine wpIn_of_run rfl ?_
  obtain ⟨h, q, hA, hk, hd1, e0, hset⟩ := own_take ho hi
  obtain ⟨es, clock, j, en, rfl, ok, h1, h2, h3⟩ := hA
  have hb : W.heap[M]? = some (.map es clock) := s.ow M _ (by rw [e0]; simp [Hp.add, Hp.one])
  obtain ⟨ms2, es2, r1, r2, r3, r4⟩ := run_entryStore (P := X.P) (t := t) z v hb ok h1 h2 h3
  have hex : (execOp ac.eval ⟨d, .entryStore t x y w, ty, pos, af, gu⟩).run X.P W = .ok .skip (W.putObj M (.map es2 clock)) := by
    simp [execOp, s.eval hx, s.eval hy, s.eval hw, r1]
  rw [hex]
  obtain ⟨t1, t2, t3⟩ := putObj_turn (o' := .map es2 clock) hb
  obtain ⟨o1, i1, f1, g1⟩ := own_turn (A' := MapO ev M ms2) s.ow e0 hd1 hset ⟨es2, clock, rfl, r2⟩ t1 t2 t3
  exact ⟨_, _, _, o1, (s.world f1 g1 i1).put hd _, f1, g1, k _ r3 r4⟩

/-! ### Ranging over a map -/
/-- a block that is known as it is -/
def ObjAt (X : Cx) (L : List As) (B : Nat) (o : Obj) : Prop := ∀ own W, Own L own → own.inW W → X.g.inW W → W.heap[B]? = some o
theorem ObjAt.g {B : Nat} {o : Obj} (h : X.g B = some o) : ObjAt X L B o := fun _ W _ _ ig => ig _ _ h
theorem ObjAt.own {B : Nat} {o : Obj} (i : Nat) (h : L[i]? = some (As.one B o)) : ObjAt X L B o := fun own W oo io _ => by
  obtain ⟨hh, hA, hs⟩ := own_sub oo h
  rw [show hh = Hp.one B _ from hA] at hs
  exact io _ _ (hs B _ (Hp.one_self _ _))
theorem AN.rangeM {es : Array MapEntry} {clock : Nat} (hx : evo tm x = some (.map (some M))) (hb : ObjAt X L M (.map es clock)) (ht : mapOf X.P t = some (kt, e)) : AN X L tm ⟨d, .range t x, ty, pos, af, gu⟩ (fun B => .pointer (some ⟨B, 0, none⟩)) (.mapIter (some M) clock #[] clock) := fun own ac W o s => by
  have h1 := run_range_map (P := X.P) W t kt e M es clock (mapOf_spec ht) (hb own W o s.ow s.rd)
  simp only [execOp, s.eval hx, Sem.run_bind, h1, Result.andThen, Sem.run_pure]
  rfl
theorem AY.entryM {R : Nat} {es : Array MapEntry} {clock : Nat} {seen : Array Nat} {en : MapEntry} (hx : evo tm x = some (.pointer (some ⟨R, 0, none⟩))) (hR : ObjAt X L R (.mapIter (some M) clock (seen.push en.born) clock)) (hb : ObjAt X L M (.map es clock)) (he : en ∈ es.toList) (hn : (es.toList.map (·.born)).Nodup) : AY X L tm ⟨d, .entry x, ty, pos, af, gu⟩ (.tuple #[en.key, en.val]) := fun own ac W o s => by
  have h1 := hR own W o s.ow s.rd
  have h2 := hb own W o s.ow s.rd
  have hf : es.find? (·.born == en.born) = some en := by rw [← Array.find?_toList]; exact find_born en es.toList hn he
  have h3 : (Instr.entry (.pointer (some ⟨R, 0, none⟩))).run X.P W = .ok (.tuple #[en.key, en.val]) W := by
    simp only [Instr.entry, getObj, Sem.run_bind, Sem.run, h1, h2, Result.andThen, Array.back?_push, bne_self_eq_false, Bool.false_eq_true, if_false, hf]
    rfl
  simp only [execOp, s.eval hx, Sem.run_bind, h3, Result.andThen, Sem.run_pure]
theorem run_next_gen {P : Program} {W : World} {ty : TypeId} {R : Nat} {clock : Nat} {seen : Array Nat} {es : Array MapEntry} (hR : W.heap[R]? = some (.mapIter (some M) clock seen clock)) (hb : W.heap[M]? = some (.map es clock)) (hold : ∀ x ∈ es.toList, x.born < clock) :
    ((leftOf es seen).size = 0 ∧ ∃ W', (W'.heap = W.heap ∧ IoEq W W') ∧ (Instr.next (.pointer (some ⟨R, 0, none⟩)) false ty).run P W = .ok (.tuple #[.bool false]) W') ∨
    ∃ en ∈ (leftOf es seen).toList, ∃ W', (W'.heap = (W.putObj R (.mapIter (some M) clock (seen.push en.born) clock)).heap ∧ IoEq W W') ∧ (Instr.next (.pointer (some ⟨R, 0, none⟩)) false ty).run P W = .ok (.tuple #[.bool true, en.key, en.val]) W' := by
  simp only [Instr.next, getObj, Sem.run_bind, Sem.run, hR, hb, Result.andThen, next_test_false seen es clock clock hold (Nat.le_refl _), Bool.false_eq_true, if_false]
  unfold leftOf
  have hmem : ∀ x ∈ (Array.filter (fun e => !seen.contains e.born) es).toList, x.born < clock := fun x hx => hold x (by simp at hx ⊢; exact hx.1)
  generalize Array.filter (fun e => !seen.contains e.born) es = L at hmem ⊢
  have e1 : L.filter (fun x => decide (x.born < clock)) = L := Array.filter_eq_self.2 (fun x hx => by simpa using hmem x (by simpa using hx))
  have e2 : L.filter (fun x => decide (x.born ≥ clock)) = #[] := by
    rw [Array.filter_eq_empty_iff]
    intro x hx
    have := hmem x (by simpa using hx)
    simp
    omega
  simp only [e1, e2, Array.append_empty]
  by_cases h0 : L.size = 0
  · left
    have : L = #[] := Array.eq_empty_of_size_eq_zero h0
    subst this
    refine ⟨rfl, W, ⟨rfl, IoEq.refl W⟩, ?_⟩
    simp [choose, Sem.run, Question.forced]
  · right
    have hne : L.isEmpty = false := by simp [Array.isEmpty, h0]
    simp only [hne, Bool.false_eq_true, if_false, Array.empty_append, Array.size_map]
    have hch : ∃ (j : Nat) (w1 : World), j < L.size ∧ (w1.heap = W.heap ∧ IoEq W w1) ∧ (choose (Question.mapNext L.size)).run P W = .ok j w1 := by
      by_cases hf : L.size ≤ 1
      · exact ⟨0, W, by omega, ⟨rfl, IoEq.refl W⟩, by simp [choose, Sem.run, Question.forced, hf]⟩
      · exact ⟨_, W.drew, Nat.mod_lt _ (by omega), ⟨rfl, rfl, rfl⟩, by
          simp only [choose, Sem.run, Question.forced, decide_eq_true_eq, hf, if_false, Question.cut]
          rfl⟩
    obtain ⟨j, w1, hj, ⟨hal, hio⟩, hrun⟩ := hch
    have hR1 : w1.heap[R]? = some (.mapIter (some M) clock seen clock) := by rw [hal]; exact hR
    have hset : ∀ (a : Option Nat) (b : Nat) (c : Array Nat) (d : Nat), (setObj R (.mapIter a b c d)).run P w1 = .ok () (w1.putObj R (.mapIter a b c d)) := fun a b c d => by
      simp [setObj, Sem.run, World.putObj, hR1]
    refine ⟨L[j], by simp, w1.putObj R (.mapIter (some M) clock (seen.push L[j].born) clock), ⟨by simp [World.putObj, hal], hio.1, hio.2⟩, ?_⟩
    simp only [hrun, Array.getElem?_map, Array.getElem?_eq_getElem hj, Option.map_some, Sem.run_bind, hset, Result.andThen, Sem.run_pure]
theorem O1.next {K : Tl → List As → Prop} {R : Nat} {es : Array MapEntry} {clock : Nat} {seen : Array Nat} (i : Nat) (hx : evo tm x = some (.pointer (some ⟨R, 0, none⟩))) (hi : rs[i]? = some (As.one R (.mapIter (some M) clock seen clock))) (hb : ObjAt X rs M (.map es clock)) (hold : ∀ x ∈ es.toList, x.born < clock) (hd : dOk X d = true)
    (k1 : (leftOf es seen).size = 0 → K (tput d (.tuple #[.bool false]) tm) rs)
    (k2 : ∀ en, en ∈ (leftOf es seen).toList → K (tput d (.tuple #[.bool true, en.key, en.val]) tm) (rs.set i (As.one R (.mapIter (some M) clock (seen.push en.born) clock)))) : O1 X tm rs ⟨d, .next x false, ty, pos, af, gu⟩ K := fun own ac W ho s => by
  refine wpIn_of_run rfl ?_
  have hM := hb own W ho s.ow s.rd
  obtain ⟨h, q, hA, hk, hd1, e0, hset⟩ := own_take ho hi
  obtain rfl : h = Hp.one R _ := hA
  have hR : W.heap[R]? = some (.mapIter (some M) clock seen clock) := s.ow R _ (by rw [e0]; simp [Hp.add, Hp.one])
  rcases run_next_gen (P := X.P) (ty := ty) hR hM hold with ⟨h0, W', ⟨hW, hio⟩, hrun⟩ | ⟨en, hen, W', ⟨hW, hio⟩, hrun⟩
  · have hex : (execOp ac.eval ⟨d, .next x false, ty, pos, af, gu⟩).run X.P W = .ok (.value (.tuple #[.bool false])) W' := by
      simp [execOp, s.eval hx, hrun]
    rw [hex]
    have f1 : Frm own W W' := ⟨by rw [hW]; exact Nat.le_refl _, fun B _ _ => by rw [hW], hio⟩
    have i1 : own.inW W' := fun B x e => by rw [hW]; exact s.ow B x e
    exact ⟨_, _, own, ho, (s.world f1 (Grow.refl _ _) i1).put hd _, f1, Grow.refl _ _, k1 h0⟩
  · have hex : (execOp ac.eval ⟨d, .next x false, ty, pos, af, gu⟩).run X.P W = .ok (.value (.tuple #[.bool true, en.key, en.val])) W' := by
      simp [execOp, s.eval hx, hrun]
    rw [hex]
    obtain ⟨t1, t2, t3⟩ := putObj_turn (o' := .mapIter (some M) clock (seen.push en.born) clock) hR
    have t1' : (Hp.one R (Obj.mapIter (some M) clock (seen.push en.born) clock)).inW W' := fun B x e => by rw [hW]; exact t1 B x e
    have t2' : Frm (Hp.one R (Obj.mapIter (some M) clock seen clock)) W W' := ⟨by rw [hW]; exact t2.size, fun B hB hn => by rw [hW]; exact t2.same B hB hn, hio⟩
    obtain ⟨o1, i1, f1, g1⟩ := own_turn (A' := As.one R (.mapIter (some M) clock (seen.push en.born) clock)) s.ow e0 hd1 hset rfl t1' t2' t3
    exact ⟨_, _, _, o1, (s.world f1 g1 i1).put hd _, f1, g1, k2 en hen⟩
end

def vN (n : Nat) : Value := .int .i64 (n : Int)
def vB (b : Bool) : Value := .bool b
theorem MapAt.ownE {X : Cx} {L : List As} {M : Nat} {ms : List (Cell × β)} {c : Cell} {stamp : Int} (i : Nat) (h : L[i]? = some (MapE ev M ms c stamp)) : MapAt X L ev M ms := fun own W o io _ => by
  obtain ⟨hh, ⟨es, cl, _, _, rfl, hm, _⟩, hs⟩ := own_sub o h
  exact ⟨es, cl, io _ _ (hs _ _ (Hp.one_self _ _)), hm⟩
theorem one_mapO {M : Nat} : ∀ h, As.one M (.map #[] 0) h → MapO ev M ([] : List (Cell × β)) h := fun h e =>
  ⟨#[], 0, e, ⟨rfl, .nil, .nil, fun _ h => by cases h⟩⟩
theorem RSub.pickc {A A' : As} {rs' rs : List As} (i : Nat) (hi : rs[i]? = some A) (hc : ∀ h, A h → A' h) (h : RSub rs' (rs.eraseIdx i)) : RSub (A' :: rs') rs :=
  .trans (.cons hc (.refl _)) (.pick i hi h)
/-- a part that is owned for some value -/
def ExA {α : Type} (P : α → Prop) (A : α → As) : As := fun h => ∃ x, P x ∧ A x h
theorem T.exA {X : Cx} {tm : Tl} {rs : List As} {code : Code} {Q : Exit → Tl → List As → Prop} {α : Type} {P : α → Prop} {A : α → As} (h : ∀ x, P x → T X tm (A x :: rs) code Q) : T X tm (ExA P A :: rs) code Q := fun own a W o s => by
  obtain ⟨u, k, ⟨x, hp, hx⟩, hk, d, e⟩ := own_cons.1 o
  subst e
  exact h x hp _ a W (.cons hx hk d) s
theorem RSub.exA {α : Type} {P : α → Prop} {A : α → As} {rs' rs : List As} (x : α) (hp : P x) (h : RSub (A x :: rs') rs) : RSub (ExA P A :: rs') rs :=
  .trans (.cons (fun _ h => ⟨x, hp, h⟩) (.refl _)) h

/-! ### A bin at work -/
def fieldC (C Rw : Nat) (ra : Option Addr) (rn rc : Nat) (top : List Int) (M : Nat) : List Value := [.int .i64 (C : Int), .int .i64 (Rw : Int), .slice ra rn rc] ++ top.map argI ++ [.map (some M)]
section
variable {C Rw : Nat} {ra : Option Addr} {rn rc : Nat} {top : List Int} {M : Nat}
theorem rdF_bin : rdL true 3 (fieldC C Rw ra rn rc top M) 0 = some (.agg #[.int .i64 (C : Int), .int .i64 (Rw : Int), .slice ra rn rc]) := by
  simp [rdL, fieldC]
theorem rdF_top (h : top.length = 25) : rdL true 25 (fieldC C Rw ra rn rc top M) 3 = some (.agg (top.map argI).toArray) := by
  have hl : 3 + 25 ≤ (fieldC C Rw ra rn rc top M).length := by simp [fieldC, h]
  have ht : ((fieldC C Rw ra rn rc top M).drop 3).take 25 = top.map argI := by
    show (top.map argI ++ [Value.map (some M)]).take 25 = _
    rw [List.take_append_of_le_length (by simp [h]), List.take_of_length_le (by simp [h])]
  simp only [rdL, hl, if_true, ht]
theorem rdF_map (h : top.length = 25) (s : Nat) : rdL false s (fieldC C Rw ra rn rc top M) 28 = some (.map (some M)) := by
  simp [rdL, fieldC, h]
theorem rdF_at {i off : Nat} {x : Int} (hx : top[i]? = some x) (e : off = 3 + i) (s : Nat) : rdL false s (fieldC C Rw ra rn rc top M) off = some (.int .i64 x) := by
  have hi := (List.getElem?_eq_some_iff.1 hx).1
  subst e
  simp only [rdL, fieldC]
  rw [List.append_assoc, List.getElem?_append_right (by simp)]
  rw [List.getElem?_append_left (by simp; omega)]
  simp [hx, argI]
theorem fold_set (off : Nat) : ∀ (vs : List Value) (k : Nat) (cs : Array Value), off + k + vs.length ≤ cs.size → ((vs.zipIdx k).foldl (fun cs (p : Value × Nat) => cs.setIfInBounds (off + p.2) p.1) cs).toList = cs.toList.take (off + k) ++ vs ++ cs.toList.drop (off + k + vs.length)
  | [], k, cs, h => by simp
  | v :: r, k, cs, h => by
    simp only [List.zipIdx_cons, List.foldl_cons, List.length_cons] at h ⊢
    rw [fold_set off r (k + 1) _ (by simp; omega)]
    simp only [Array.toList_setIfInBounds]
    have h1 : off + k < cs.toList.length := by simp; omega
    rw [List.take_set, List.drop_set_of_lt (by omega)]
    rw [show off + (k + 1) = off + k + 1 by omega, List.take_add_one, List.getElem?_eq_getElem h1]
    simp only [Option.toList_some]
    rw [List.set_append_right _ _ (by simp; omega)]
    have h2 : off + k ≤ cs.size := by simp at h1; omega
    have h3 : off + k + 1 + r.length = off + k + (r.length + 1) := by omega
    simp [Nat.min_eq_left h2, h3]
theorem fill_field {z : Array Value} (hz : z.size = 29) (h : top.length = 25) : Instr.fill (fun i => [(0, 3), (3, 25), (28, 1)][i]?) z [(0, .agg #[.int .i64 (C : Int), .int .i64 (Rw : Int), .slice ra rn rc]), (1, .agg (top.map argI).toArray), (2, .map (some M))] = some (fieldC C Rw ra rn rc top M).toArray := by
  have key : ∀ (off : Nat) (v : Value) (cs : Array Value), off + v.cells.size ≤ cs.size → v.cells.zipIdx.foldl (fun cs (p : Value × Nat) => cs.setIfInBounds (off + p.2) p.1) cs = (cs.toList.take off ++ v.cells.toList ++ cs.toList.drop (off + v.cells.size)).toArray := fun off v cs hle => by
    have := fold_set off v.cells.toList 0 cs (by simpa using hle)
    apply Array.toList_inj.1
    rw [← Array.foldl_toList, Array.toList_zipIdx]
    simpa using this
  have c1 : (Value.agg #[.int .i64 (C : Int), .int .i64 (Rw : Int), .slice ra rn rc]).cells = #[.int .i64 (C : Int), .int .i64 (Rw : Int), .slice ra rn rc] := rfl
  have c2 : (Value.agg (top.map argI).toArray).cells = (top.map argI).toArray := rfl
  have c3 : (Value.map (some M)).cells = #[.map (some M)] := rfl
  simp only [Instr.fill, List.getElem?_cons_zero, List.getElem?_cons_succ]
  have s1 := key 0 (.agg #[.int .i64 (C : Int), .int .i64 (Rw : Int), .slice ra rn rc]) z (by rw [c1, hz]; simp)
  rw [c1] at s1
  simp only [c1, c2, c3]
  rw [if_neg (by simp [hz])]
  simp only [s1]
  have s2 := key 3 (.agg (top.map argI).toArray) (z.toList.take 0 ++ (#[.int .i64 (C : Int), .int .i64 (Rw : Int), .slice ra rn rc] : Array Value).toList ++ z.toList.drop (0 + (#[.int .i64 (C : Int), .int .i64 (Rw : Int), .slice ra rn rc] : Array Value).size)).toArray (by rw [c2]; simp [h, hz])
  rw [c2] at s2
  rw [if_neg (by simp [h, hz])]
  simp only [s2]
  rw [if_neg (by simp [h, hz])]
  simp [fieldC, h, hz]
  have hlen : (z.toList.drop 28).length = 1 := by simp [hz]
  obtain ⟨x, hx⟩ := List.length_eq_one_iff.1 hlen
  rw [hx]; rfl
end

theorem MapOk.entry {es : Array MapEntry} {clk : Nat} {ms : List (Cell × β)} (ok : MapOk ev es clk ms) {en : MapEntry} {seen : Array Nat} (h : en ∈ (leftOf es seen).toList) : ∃ d n, (d, n) ∈ ms ∧ (Value.tuple #[en.key, en.val]) = .tuple #[argC d, ev n] := by
  have h1 := (mem_left h).1
  have h2 : kv en ∈ kvs ev ms := by rw [← ok.same]; exact List.mem_map.2 ⟨en, h1, rfl⟩
  obtain ⟨p, hp, e⟩ := List.mem_map.1 h2
  simp only [kv, Prod.mk.injEq] at e
  exact ⟨p.1, p.2, hp, by rw [← e.1, ← e.2]⟩
/-- what the other keys have, together -/
def orOther (ms : List (Cell × Nat)) (c : Cell) : Nat := ms.foldr (fun p n => if p.1 = c then n else p.2 ||| n) 0
theorem orOther_bit (c : Cell) (b : Nat) : ∀ ms : List (Cell × Nat), (orOther ms c).testBit b = true ↔ ∃ p ∈ ms, p.1 ≠ c ∧ p.2.testBit b = true
  | [] => by simp [orOther]
  | p :: r => by
    have ih := orOther_bit c b r
    unfold orOther at ih ⊢
    simp only [List.foldr_cons]
    by_cases h : p.1 = c
    · simp only [h, if_true]; rw [ih]; simp [h]
    · simp only [h, if_false, Nat.testBit_or, Bool.or_eq_true]; rw [ih]; simp [h]
end Go.V
