/- The library's sort of cells by a function, of at most twelve, none among them. -/
import Derived.Test.YtfcjmoolnadfbaaGreatShelfB
import Derived.Test.YtfcjmoolnadfbaaGreatRF8
namespace Go.Proofs.YtfcjmoolnadfbaaGreat
open Go.V
theorem sortC_ct (g : Hp) {a : Option Addr} {c : Nat} {xs : List Cell} (hnil : xs = [] → a = none) (hl : xs.length ≤ 12) (hsm : ∀ x ∈ xs, Sm x) : Ct Tryz.prog 71 [.slice a xs.length c, .func (.func 72) #[] #[]].toArray g [SlO eCell 30 a c xs] (fun v rs => ∃ ys, v = .tuple #[] ∧ ys.Perm xs ∧ rs = [SlO eCell 30 a c ys]) := by
  by_cases hne : xs = []
  · subst hne
    obtain rfl := hnil rfl
    intro own W o hg ho d
    obtain ⟨u, k, hu, hk, dk, rfl⟩ := own_cons.1 o
    obtain rfl := own_nil.1 hk
    rw [Hp.add_emp] at ho d ⊢
    rcases hu with ⟨_, rfl, _, rfl⟩ | ⟨B, cur, h1, _⟩
    · refine (sortNil_ct g _ W .nil hg ho d).mono ?_
      rintro e W' ⟨v, rs', own', he, o', i', f, gr, hv, rfl⟩
      obtain rfl := own_nil.1 o'
      exact ⟨v, _, _, he, own_one (A := SlO eCell 30 none 0 []) (.inl ⟨rfl, rfl, rfl, rfl⟩), i', f, gr, [], hv, .nil, rfl⟩
    · cases h1
  · exact sortC_pos g hne hl hsm
end Go.Proofs.YtfcjmoolnadfbaaGreat
