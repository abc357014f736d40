/- From a contract to a law: a contract that is handed nothing and gives back nothing leaves the caller's world as it lay. -/
import Derived.Test.YtfcjmoolnadfbaaGreatVCore
import Derived.ChangeSame
import Derived.OpenShut
namespace Go.V
open Go.ChangeShapes Go.WideShapes

theorem Frm.kept {W W' : World} (h : Frm Hp.emp W W') (may : MemPlace → Prop) : W.keptBut W' may := by
  refine ⟨h.io.1, h.io.2, fun i hi => ?_⟩
  rw [h.same i hi rfl]
  split <;> simp_all

theorem Ct.calls {P : Program} {K : FuncId} {args : Array Value} {Q : Value → List As → Prop} (h : Ct P K args Hp.emp [] Q) (W : World) :
    Calls P K args W fun e W' => ∃ v rs', e = .returned v ∧ Q v rs' ∧ Frm Hp.emp W W' :=
  (h Hp.emp W .nil (Hp.inW_emp W) (Hp.inW_emp W) (Hp.emp_disj _)).mono fun _ _ ⟨v, rs', _, e, _, _, f, _, q⟩ => ⟨v, rs', e, q, f⟩

/-- an integer of eight bits without sign is a number below 256 -/
theorem u8_nat {a : Int} (h : (Lit.int .u8 a).wf = true) : ∃ p : Nat, a = (p : Int) ∧ p < 256 := by
  simp only [Lit.wf, Bool.and_eq_true] at h
  have h1 : (0 : Int) ≤ a := of_decide_eq_true h.1
  have h2 : a ≤ 255 := of_decide_eq_true h.2
  obtain ⟨p, rfl⟩ := Int.eq_ofNat_of_zero_le h1
  exact ⟨p, rfl, by omega⟩
end Go.V
