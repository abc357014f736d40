/- What RodSpread asks, in plain terms, reckoned for all its bins. -/
import Derived.Test.YtfcjmoolnadfbaaGreatSSpec
import Derived.KernelRfl
set_option linter.unusedVariables false
namespace Go.V
def covT (C Rw r : Nat) : Nat := firstN (covOk C Rw r) 30 1
def tipsL (C Rw r T : Nat) : List Cell := filtC C (covP (covL C Rw r T)) (C * Rw)
/-- the rods at tips but one -/
def rodsBut (tips : List Cell) (r : Nat) (w : Int) (i : Nat) : List Rod := (List.range i).filterMap fun (j : Nat) => if (j : Int) = w then none else (tips[j]?).map fun t => (⟨t, (r : Int), 0⟩ : Rod)
def coverGood (C Rw r T : Nat) : Bool := decide (1 ≤ T) && decide (T ≤ 30) && covOk C Rw r T && ((List.range T).all fun m => decide (m < 1) || !covOk C Rw r m) && !(covL C Rw r T).isEmpty
def blindGood (C Rw : Nat) (tips : List Cell) (r : Nat) (w : Int) : Bool :=
  let rods := rodsBut tips r w tips.length
  decide (8 < rods.length) || (filtC C (blindP C rods) (C * Rw)).isEmpty == decide (w < 0)
def pairsGood (l : List Cell) (C r : Nat) : Bool := (List.range l.length).all fun i => (List.range i).all fun j =>
  match l[i]?, l[j]? with
  | some c, some d => !decide (dist c d ≤ 2 * (r : Int)) && decide (d.row * C + d.col < c.row * C + c.col)
  | _, _ => true
def inBinB (C Rw : Nat) (l : List Cell) : Bool := l.all fun c => hasC (C : Int) (Rw : Int) c
def spreadOk (C Rw r T T' : Nat) : Bool :=
  let tips := tipsL C Rw r T
  let l := scatB C Rw r
  coverGood C Rw r T && decide (l.length ≤ tips.length) && decide (1 ≤ l.length) && decide (l.length ≤ (scatB (C + 1) Rw r).length) &&
  ((List.range (min tips.length 8 + 1)).all fun w => blindGood C Rw tips r ((w : Int) - 1)) && pairsGood l C r && inBinB C Rw l &&
  (decide (r = 3) || (coverGood C Rw (r + 1) T' && decide ((tipsL C Rw (r + 1) T').length ≤ tips.length)))
def spreadAll : Bool := (List.range 4).all fun a => (List.range 5).all fun b => (List.range 4).all fun r => spreadOk (a + 1) (b + 1) r (covT (a + 1) (b + 1) r) (covT (a + 1) (b + 1) (r + 1))
set_option maxRecDepth 100000 in
theorem spread_all : spreadAll = true := by kernel_rfl
end Go.V
