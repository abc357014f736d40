/- The library's sort of ints at this program: laid out of the shelf; and its contract in the logic of triples. -/
import Derived.Shelf.Sort.Plain
import Derived.Test.YtfcjmoolnadfbaaGreatProg
import Derived.Test.YtfcjmoolnadfbaaGreatSSpec
import Derived.KernelRfl
namespace Go.Proofs
open Go.Shelf
def YtfcjmoolnadfbaaGreat.lays189_ren : Go.Shelf.Ren := ⟨fun | 189 => 56 | 125 => 125 | 257 => 124 | 128 => 192 | 129 => 193 | 294 => 183 | 295 => 184 | 296 => 185 | 297 => 186 | 298 => 187 | 299 => 188 | 216 => 189 | 300 => 190 | 301 => 191 | 328 => 221 | 329 => 222 | 330 => 223 | 331 => 224 | 332 => 225 | 215 => 203 | 343 => 245 | n => n, fun | 28 => 39 | 3 => 3 | 46 => 180 | 0 => 0 | 51 => 112 | 53 => 241 | 4 => 4 | 183 => 232 | 182 => 231 | 131 => 237 | 5 => 5 | 9 => 9 | 218 => 258 | 222 => 87 | 228 => 274 | 229 => 275 | n => n, fun | n => n⟩
theorem YtfcjmoolnadfbaaGreat.lays189 : Go.Proofs.Lays.n189 Tryz.prog YtfcjmoolnadfbaaGreat.lays189_ren := {
  mixed := by kernel_rfl
  f125 := Tryz.func125.trans (congrArg some (by kernel_rfl))
  f128 := Tryz.func192.trans (congrArg some (by kernel_rfl))
  f129 := Tryz.func193.trans (congrArg some (by kernel_rfl))
  f189 := Tryz.func56.trans (congrArg some (by kernel_rfl))
  f215 := Tryz.func203.trans (congrArg some (by kernel_rfl))
  f216 := Tryz.func189.trans (congrArg some (by kernel_rfl))
  f257 := Tryz.func124.trans (congrArg some (by kernel_rfl))
  f294 := Tryz.func183.trans (congrArg some (by kernel_rfl))
  f295 := Tryz.func184.trans (congrArg some (by kernel_rfl))
  f296 := Tryz.func185.trans (congrArg some (by kernel_rfl))
  f297 := Tryz.func186.trans (congrArg some (by kernel_rfl))
  f298 := Tryz.func187.trans (congrArg some (by kernel_rfl))
  f299 := Tryz.func188.trans (congrArg some (by kernel_rfl))
  f300 := Tryz.func190.trans (congrArg some (by kernel_rfl))
  f301 := Tryz.func191.trans (congrArg some (by kernel_rfl))
  f328 := Tryz.func221.trans (congrArg some (by kernel_rfl))
  f329 := Tryz.func222.trans (congrArg some (by kernel_rfl))
  f330 := Tryz.func223.trans (congrArg some (by kernel_rfl))
  f331 := Tryz.func224.trans (congrArg some (by kernel_rfl))
  f332 := Tryz.func225.trans (congrArg some (by kernel_rfl))
  f343 := Tryz.func245.trans (congrArg some (by kernel_rfl))
  t0 := Tryz.underlying0
  a0 := Tryz.isAgg0
  z0 := Tryz.sizeOf0
  v0 := Tryz.zeroValue0
  t3 := Tryz.underlying3
  a3 := Tryz.isAgg3
  z3 := Tryz.sizeOf3
  v3 := Tryz.zeroValue3
  t4 := Tryz.underlying4
  a4 := Tryz.isAgg4
  z4 := Tryz.sizeOf4
  v4 := Tryz.zeroValue4
  t5 := Tryz.underlying5
  a5 := Tryz.isAgg5
  z5 := Tryz.sizeOf5
  v5 := Tryz.zeroValue5
  t9 := Tryz.underlying9
  a9 := Tryz.isAgg9
  z9 := Tryz.sizeOf9
  v9 := Tryz.zeroValue9
  t28 := Tryz.underlying39
  a28 := Tryz.isAgg39
  z28 := Tryz.sizeOf39
  v28 := Tryz.zeroValue39
  t46 := Tryz.underlying180
  a46 := Tryz.isAgg180
  z46 := Tryz.sizeOf180
  v46 := Tryz.zeroValue180
  t51 := Tryz.underlying112
  a51 := Tryz.isAgg112
  z51 := Tryz.sizeOf112
  v51 := Tryz.zeroValue112
  t53 := Tryz.underlying241
  a53 := Tryz.isAgg241
  z53 := Tryz.sizeOf241
  v53 := Tryz.zeroValue241
  t131 := Tryz.underlying237
  a131 := Tryz.isAgg237
  z131 := Tryz.sizeOf237
  v131 := Tryz.zeroValue237
  t182 := Tryz.underlying231
  a182 := Tryz.isAgg231
  z182 := Tryz.sizeOf231
  v182 := Tryz.zeroValue231
  t183 := Tryz.underlying232
  a183 := Tryz.isAgg232
  z183 := Tryz.sizeOf232
  v183 := Tryz.zeroValue232
  t218 := Tryz.underlying258
  a218 := Tryz.isAgg258
  z218 := Tryz.sizeOf258
  v218 := Tryz.zeroValue258
  t222 := Tryz.underlying87
  a222 := Tryz.isAgg87
  z222 := Tryz.sizeOf87
  v222 := Tryz.zeroValue87
  t228 := Tryz.underlying274
  a228 := Tryz.isAgg274
  z228 := Tryz.sizeOf274
  v228 := Tryz.zeroValue274
  t229 := Tryz.underlying275
  a229 := Tryz.isAgg275
  z229 := Tryz.sizeOf275
  v229 := Tryz.zeroValue275 }
open Go.Sort Go.RowKit in
theorem YtfcjmoolnadfbaaGreat.slices_Sort_int (blk off cap : Nat) (zs : List Int) (w : World) (hH : Holds (Value.int .i64) w blk off zs.toArray) (hblk : blk < w.heap.size) (hsz : zs.length < 4611686018427387904) :
    Calls Tryz.prog 56 #[.slice (some ⟨blk, off, none⟩) zs.length cap] w fun e w' =>
      e = .returned (.tuple #[]) ∧ ∃ n os, w' = grow (putRow (Value.int .i64) (Sort.ahead w n) blk off (zs.mergeSort fun x y => decide (x ≤ y)).toArray) os := Any.slices_Sort_int YtfcjmoolnadfbaaGreat.lays189 blk off cap zs w hH hblk hsz
end Go.Proofs
namespace Go.Proofs.YtfcjmoolnadfbaaGreat
open Go.V Go.Sort Go.RowKit
theorem putRow_other {α : Type} [Inhabited α] (enc : α → Value) (off : Nat) (d : Array α) (W : World) (blk b : Nat) (h : b ≠ blk) : (putRow enc W blk off d).heap[b]? = W.heap[b]? := by
  unfold putRow mapBlock; simp [Array.getElem?_modify, Ne.symm h]
theorem flat_int (xs : List Int) : xs.flatMap eInt.enc = xs.map (Value.int .i64) := by
  induction xs with
  | nil => rfl
  | cons x r ih => rw [List.flatMap_cons, ih]; rfl
/-- the library's sort, of a slice that is owned -/
theorem sort_ct (g : Hp) {a : Option Addr} {c : Nat} {xs : List Int} (hne : xs ≠ []) (hl : xs.length ≤ 1000000) : Ct Tryz.prog 56 [.slice a xs.length c].toArray g [SlO eInt 3 a c xs] (fun v rs => v = .tuple #[] ∧ rs = [SlO eInt 3 a c (sortI xs)]) := fun own W o hg ho d => by
  obtain ⟨u, k, hu, hk, dk, rfl⟩ := own_cons.1 o
  obtain rfl := own_nil.1 hk
  rw [Hp.add_emp] at ho d ⊢
  rcases hu with ⟨_, _, rfl, _⟩ | ⟨B, cur, rfl, rfl, h3, h4, h5⟩
  · exact absurd rfl hne
  · have hb : W.heap[B]? = some (.cells cur 3 (0, 0)) := ho B _ (Hp.one_self _ _)
    have hB : B < W.heap.size := (Array.getElem?_eq_some_iff.1 hb).1
    rw [flat_int, show eInt.sz = 1 from rfl, Nat.mul_one] at h5
    have hcur : ∀ j (hj : j < xs.length), cur[j]? = some (.int .i64 xs[j]) := fun j hj => by
      have e1 : (cur.toList.take xs.length)[j]? = (xs.map (Value.int .i64))[j]? := by rw [h5]
      rw [List.getElem?_take_of_lt hj, List.getElem?_map, List.getElem?_eq_getElem hj, Array.getElem?_toList] at e1
      exact e1
    have hH : Holds (Value.int .i64) W B 0 xs.toArray := fun j hj => by
      have hj' : j < xs.length := by simpa using hj
      have e := hcur j hj'
      obtain ⟨h6, h7⟩ := Array.getElem?_eq_some_iff.1 e
      refine ⟨?_, by simp [World.frozen?, hb]⟩
      simp [World.cell?, hb, e, hj']
    have hcon := slices_Sort_int B 0 c xs W hH hB (by omega)
    refine hcon.mono ?_
    rintro e W' ⟨rfl, n, os, rfl⟩
    have hg2 : ∀ b, b < W.heap.size → (grow (putRow (Value.int .i64) (Go.Sort.ahead W n) B 0 (sortI xs).toArray) os).heap[b]? = (putRow (Value.int .i64) (Go.Sort.ahead W n) B 0 (sortI xs).toArray).heap[b]? := fun b hb => by
      show (_ ++ os)[b]? = _
      rw [Array.getElem?_append_left (by rw [size_putRow]; exact hb)]
    have hnew : (putRow (Value.int .i64) (Go.Sort.ahead W n) B 0 (sortI xs).toArray).heap[B]? = some (.cells (putCells (Value.int .i64) 0 (sortI xs).toArray cur) 3 (0, 0)) := by
      unfold putRow mapBlock
      simp only [Array.getElem?_modify, if_true]
      show Option.map _ (W.heap[B]?) = _
      rw [hb]; rfl
    let h' : Hp := Hp.one B (.cells (putCells (Value.int .i64) 0 (sortI xs).toArray cur) 3 (0, 0))
    refine ⟨_, _, h', rfl, own_one (A := SlO eInt 3 (some ⟨B, 0, none⟩) c (sortI xs)) (.inr ⟨B, _, rfl, rfl, by simp [putCells, h3], by simpa using h4, ?_⟩), Hp.inW_one ?_, ⟨?_, fun b hb2 hn => ?_, rfl, rfl⟩, fun b hb2 => ?_, rfl, rfl⟩
    · rw [flat_int, show eInt.sz = 1 from rfl, Nat.mul_one]
      apply List.ext_getElem?
      intro j
      by_cases hj : j < (sortI xs).length
      · rw [List.getElem?_take_of_lt hj, List.getElem?_map, List.getElem?_eq_getElem hj, Array.getElem?_toList]
        have hj2 : j < xs.length := by simpa using hj
        simp only [putCells, Array.getElem?_mapIdx, hcur j hj2, Option.map_some]
        simp [hj2]
      · rw [List.getElem?_eq_none (by rw [List.length_take]; have : xs.length ≤ j := (by simpa using hj); omega), List.getElem?_eq_none (by simpa using hj)]
    · exact (hg2 B hB).trans hnew
    · show W.heap.size ≤ (_ ++ os).size
      rw [Array.size_append, size_putRow]; exact Nat.le_add_right _ _
    · have hne2 : b ≠ B := fun e => by subst e; simp [Hp.one] at hn
      exact (hg2 b hb2).trans (putRow_other _ _ _ _ _ _ hne2)
    · by_cases e : b = B
      · subst e; exact .inl (by simp [Hp.one])
      · exact absurd (Hp.one_ne _ e) hb2
end Go.Proofs.YtfcjmoolnadfbaaGreat
