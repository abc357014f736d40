/-
  No cell of these rows narrows 'for every input' (looked for: loops, veiled, ifaces, maps, wideKeys, modest, calm, conditions, laid).
  DERIVED. THE GIVEN ROWS OF THIS SEAT. 6 by the template 'for every input the law returns true; each argument reads behind the call as it read before'; 0 by the template 'total and deterministic' (their statements: YtfcjmoolnadfbaaGreatTotals.lean).
  GIVEN WITH THE SEED: the statements are not yours to turn. If you find one false, say at which input.
  Laid BY PROGRAM, IN A SANDBOX (cutbox-rows.mjs): the forced cells as the released guide's own fill.sh prints them over the translation 79f815edaf0d0efd… (all of the seat's roots in one cut). By AI agents, Wed Nov 11 2026. No macro, syntax, notation, axiom, sorry.
-/
import Derived.Test.YtfcjmoolnadfbaaGreatChecked
import GoSem.Claim
import GoSem.ClaimJoined
import GoSem.ClaimMapViews
import Derived.JoinedTies
import Derived.KernelRfl
namespace Go.Proofs.YtfcjmoolnadfbaaGreat
/- THE CELL 'sum', in the pinned program and in every row, IS THE sha256 OF THE DUMP (.gsa) THAT YtfcjmoolnadfbaaGreatProg.lean LOADS. Nothing in Lean hashes anything: it is a label: what it is worth is what the hold of that sum in a sandbox is worth. -/
noncomputable def Tryz.pinned : Pinned := { name := "ytfcjmoolnadfbaagreat", sum := "79f815edaf0d0efd69982873f383f04401835d42c9a6959313ae1c35aed734b9", checked := Tryz.checked }
namespace Rows
def none {H : Type} : Left H := { results := [], args := [] }

/-- 'staddlelaw03.RodSpread': WHATEVER THE INPUT: true; the input reads as it did. -/
def rodSpreadSpec : ChangeSpec := { name := "rodSpread", fn := fun _ => fun
  | [d1, d2, d3] => { results := [.lit (.bool true)], args := [d1, d2, d3] }
  | _ => none }
def rodSpreadRow : OpenClaim := { program := "ytfcjmoolnadfbaagreat", sum := "79f815edaf0d0efd69982873f383f04401835d42c9a6959313ae1c35aed734b9", func := "staddle/staddlelaw03.RodSpread", spec := "rodSpread", unfollowed := true, recurses := true, plainKeys := false, apart := false }
def RodSpreadSaid : Prop := rodSpreadRow.holds Tryz.pinned (OpenSpec.ofChange rodSpreadSpec)

/-- ITS FALSE NEIGHBOUR: 'it returns false'. Refute it at one input. -/
def rodSpreadWrong : ChangeSpec := { name := "rodSpread", fn := fun _ => fun
  | [d1, d2, d3] => { results := [.lit (.bool false)], args := [d1, d2, d3] }
  | _ => none }
def RodSpreadWrongFalsely : Prop := rodSpreadRow.holds Tryz.pinned (OpenSpec.ofChange rodSpreadWrong)

/-- 'staddlelaw03.RodFound': WHATEVER THE INPUT: true; the input reads as it did. -/
def rodFoundSpec : ChangeSpec := { name := "rodFound", fn := fun _ => fun
  | [d1, d2] => { results := [.lit (.bool true)], args := [d1, d2] }
  | _ => none }
def rodFoundRow : OpenClaim := { program := "ytfcjmoolnadfbaagreat", sum := "79f815edaf0d0efd69982873f383f04401835d42c9a6959313ae1c35aed734b9", func := "staddle/staddlelaw03.RodFound", spec := "rodFound", unfollowed := true, recurses := true, plainKeys := false, apart := false }
def RodFoundSaid : Prop := rodFoundRow.holds Tryz.pinned (OpenSpec.ofChange rodFoundSpec)

/-- ITS FALSE NEIGHBOUR: 'it returns false'. Refute it at one input. -/
def rodFoundWrong : ChangeSpec := { name := "rodFound", fn := fun _ => fun
  | [d1, d2] => { results := [.lit (.bool false)], args := [d1, d2] }
  | _ => none }
def RodFoundWrongFalsely : Prop := rodFoundRow.holds Tryz.pinned (OpenSpec.ofChange rodFoundWrong)

/-- 'staddlelaw03.RodMore': WHATEVER THE INPUT: true; the input reads as it did. -/
def rodMoreSpec : ChangeSpec := { name := "rodMore", fn := fun _ => fun
  | [d1, d2, d3] => { results := [.lit (.bool true)], args := [d1, d2, d3] }
  | _ => none }
def rodMoreRow : OpenClaim := { program := "ytfcjmoolnadfbaagreat", sum := "79f815edaf0d0efd69982873f383f04401835d42c9a6959313ae1c35aed734b9", func := "staddle/staddlelaw03.RodMore", spec := "rodMore", unfollowed := true, recurses := true, plainKeys := false, apart := false }
def RodMoreSaid : Prop := rodMoreRow.holds Tryz.pinned (OpenSpec.ofChange rodMoreSpec)

/-- ITS FALSE NEIGHBOUR: 'it returns false'. Refute it at one input. -/
def rodMoreWrong : ChangeSpec := { name := "rodMore", fn := fun _ => fun
  | [d1, d2, d3] => { results := [.lit (.bool false)], args := [d1, d2, d3] }
  | _ => none }
def RodMoreWrongFalsely : Prop := rodMoreRow.holds Tryz.pinned (OpenSpec.ofChange rodMoreWrong)

/-- 'staddlelaw03.RodDamp': WHATEVER THE INPUT: true; the input reads as it did. -/
def rodDampSpec : ChangeSpec := { name := "rodDamp", fn := fun _ => fun
  | [d1, d2] => { results := [.lit (.bool true)], args := [d1, d2] }
  | _ => none }
def rodDampRow : OpenClaim := { program := "ytfcjmoolnadfbaagreat", sum := "79f815edaf0d0efd69982873f383f04401835d42c9a6959313ae1c35aed734b9", func := "staddle/staddlelaw03.RodDamp", spec := "rodDamp", unfollowed := true, recurses := true, plainKeys := false, apart := false }
def RodDampSaid : Prop := rodDampRow.holds Tryz.pinned (OpenSpec.ofChange rodDampSpec)

/-- ITS FALSE NEIGHBOUR: 'it returns false'. Refute it at one input. -/
def rodDampWrong : ChangeSpec := { name := "rodDamp", fn := fun _ => fun
  | [d1, d2] => { results := [.lit (.bool false)], args := [d1, d2] }
  | _ => none }
def RodDampWrongFalsely : Prop := rodDampRow.holds Tryz.pinned (OpenSpec.ofChange rodDampWrong)

/-- 'staddlelaw03.RodClashed': WHATEVER THE INPUT: true; the input reads as it did. -/
def rodClashedSpec : ChangeSpec := { name := "rodClashed", fn := fun _ => fun
  | [d1, d2, d3, d4] => { results := [.lit (.bool true)], args := [d1, d2, d3, d4] }
  | _ => none }
def rodClashedRow : OpenClaim := { program := "ytfcjmoolnadfbaagreat", sum := "79f815edaf0d0efd69982873f383f04401835d42c9a6959313ae1c35aed734b9", func := "staddle/staddlelaw03.RodClashed", spec := "rodClashed", inPlace := ["slices.overlaps[int]"], unfollowed := true, recurses := true, plainKeys := false, apart := false }
def RodClashedSaid : Prop := rodClashedRow.holds Tryz.pinned (OpenSpec.ofChange rodClashedSpec)

/-- ITS FALSE NEIGHBOUR: 'it returns false'. Refute it at one input. -/
def rodClashedWrong : ChangeSpec := { name := "rodClashed", fn := fun _ => fun
  | [d1, d2, d3, d4] => { results := [.lit (.bool false)], args := [d1, d2, d3, d4] }
  | _ => none }
def RodClashedWrongFalsely : Prop := rodClashedRow.holds Tryz.pinned (OpenSpec.ofChange rodClashedWrong)

/-- 'staddlelaw03.RodSmall': WHATEVER THE INPUT: true; the input reads as it did. -/
def rodSmallSpec : ChangeSpec := { name := "rodSmall", fn := fun _ => fun
  | [] => { results := [.lit (.bool true)], args := [] }
  | _ => none }
def rodSmallRow : OpenClaim := { program := "ytfcjmoolnadfbaagreat", sum := "79f815edaf0d0efd69982873f383f04401835d42c9a6959313ae1c35aed734b9", func := "staddle/staddlelaw03.RodSmall", spec := "rodSmall", unfollowed := true, recurses := true, plainKeys := false, apart := false }
def RodSmallSaid : Prop := rodSmallRow.holds Tryz.pinned (OpenSpec.ofChange rodSmallSpec)

/-- ITS FALSE NEIGHBOUR: 'it returns false'. Refute it at one input. -/
def rodSmallWrong : ChangeSpec := { name := "rodSmall", fn := fun _ => fun
  | [] => { results := [.lit (.bool false)], args := [] }
  | _ => none }
def RodSmallWrongFalsely : Prop := rodSmallRow.holds Tryz.pinned (OpenSpec.ofChange rodSmallWrong)

/- THE SECOND FORM. 'bulk': how many values and letters a reading holds, each counted each time it is reached (what is shared counts as often as it is met; a slice's spare places count too). A statement '..UptoSaid' is the law's where the arguments, and the package variables that the reading takes, are together of bulk at most 1048576: NARROWER than '..Said'. Prove '..Said' where nothing that the law and all that it calls make is longer than what came in: it says more and counts as full. Else prove '..UptoSaid'. A law counts once. -/
mutual
def uptoBulk {H : Type} : DataW H → Nat
  | .lit (.string bytes) => bytes.length + 1
  | .lit _ => 1
  | .nil => 1
  | .ptr d => uptoBulk d + 1
  | .slice elems spare => uptoBulkAll elems + uptoBulkAll spare + 1
  | .agg parts => uptoBulkAll parts + 1
  | .iface _ d => uptoBulk d + 1
  | .map entries => uptoBulkEntries entries + 1
  | .held _ => 1
def uptoBulkAll {H : Type} : List (DataW H) → Nat
  | [] => 0
  | d :: r => uptoBulk d + uptoBulkAll r
def uptoBulkEntries {H : Type} : List (Lit × DataW H) → Nat
  | [] => 0
  | x :: r => uptoBulkEntry x + uptoBulkEntries r
def uptoBulkEntry {H : Type} : Lit × DataW H → Nat
  | (.string bytes, d) => bytes.length + uptoBulk d + 1
  | (_, d) => uptoBulk d + 1
 end
def uptoSmall : (H : Type) → List (DataW H) → Bool := fun _ ds => decide (uptoBulkAll ds ≤ 1048576)
def OpenSpec.upto (s : _root_.Go.ChangeSpec) : _root_.Go.OpenSpec := { _root_.Go.OpenSpec.ofChange s with cond := some uptoSmall }

/-- 'staddlelaw03.RodSpread', WHERE WHAT IT READS IS OF BULK AT MOST 1048576: true; the input reads as it did. -/
def rodSpreadUptoRow : OpenClaim := { program := "ytfcjmoolnadfbaagreat", sum := "79f815edaf0d0efd69982873f383f04401835d42c9a6959313ae1c35aed734b9", func := "staddle/staddlelaw03.RodSpread", spec := "rodSpread", unfollowed := true, recurses := true, plainKeys := false, apart := false, narrowed := true }
def RodSpreadUptoSaid : Prop := rodSpreadUptoRow.holds Tryz.pinned (OpenSpec.upto rodSpreadSpec)

/-- 'staddlelaw03.RodFound', WHERE WHAT IT READS IS OF BULK AT MOST 1048576: true; the input reads as it did. -/
def rodFoundUptoRow : OpenClaim := { program := "ytfcjmoolnadfbaagreat", sum := "79f815edaf0d0efd69982873f383f04401835d42c9a6959313ae1c35aed734b9", func := "staddle/staddlelaw03.RodFound", spec := "rodFound", unfollowed := true, recurses := true, plainKeys := false, apart := false, narrowed := true }
def RodFoundUptoSaid : Prop := rodFoundUptoRow.holds Tryz.pinned (OpenSpec.upto rodFoundSpec)

/-- 'staddlelaw03.RodMore', WHERE WHAT IT READS IS OF BULK AT MOST 1048576: true; the input reads as it did. -/
def rodMoreUptoRow : OpenClaim := { program := "ytfcjmoolnadfbaagreat", sum := "79f815edaf0d0efd69982873f383f04401835d42c9a6959313ae1c35aed734b9", func := "staddle/staddlelaw03.RodMore", spec := "rodMore", unfollowed := true, recurses := true, plainKeys := false, apart := false, narrowed := true }
def RodMoreUptoSaid : Prop := rodMoreUptoRow.holds Tryz.pinned (OpenSpec.upto rodMoreSpec)

/-- 'staddlelaw03.RodDamp', WHERE WHAT IT READS IS OF BULK AT MOST 1048576: true; the input reads as it did. -/
def rodDampUptoRow : OpenClaim := { program := "ytfcjmoolnadfbaagreat", sum := "79f815edaf0d0efd69982873f383f04401835d42c9a6959313ae1c35aed734b9", func := "staddle/staddlelaw03.RodDamp", spec := "rodDamp", unfollowed := true, recurses := true, plainKeys := false, apart := false, narrowed := true }
def RodDampUptoSaid : Prop := rodDampUptoRow.holds Tryz.pinned (OpenSpec.upto rodDampSpec)

/-- 'staddlelaw03.RodClashed', WHERE WHAT IT READS IS OF BULK AT MOST 1048576: true; the input reads as it did. -/
def rodClashedUptoRow : OpenClaim := { program := "ytfcjmoolnadfbaagreat", sum := "79f815edaf0d0efd69982873f383f04401835d42c9a6959313ae1c35aed734b9", func := "staddle/staddlelaw03.RodClashed", spec := "rodClashed", inPlace := ["slices.overlaps[int]"], unfollowed := true, recurses := true, plainKeys := false, apart := false, narrowed := true }
def RodClashedUptoSaid : Prop := rodClashedUptoRow.holds Tryz.pinned (OpenSpec.upto rodClashedSpec)

/-- 'staddlelaw03.RodSmall', WHERE WHAT IT READS IS OF BULK AT MOST 1048576: true; the input reads as it did. -/
def rodSmallUptoRow : OpenClaim := { program := "ytfcjmoolnadfbaagreat", sum := "79f815edaf0d0efd69982873f383f04401835d42c9a6959313ae1c35aed734b9", func := "staddle/staddlelaw03.RodSmall", spec := "rodSmall", unfollowed := true, recurses := true, plainKeys := false, apart := false, narrowed := true }
def RodSmallUptoSaid : Prop := rodSmallUptoRow.holds Tryz.pinned (OpenSpec.upto rodSmallSpec)

end Rows
end Go.Proofs.YtfcjmoolnadfbaaGreat
