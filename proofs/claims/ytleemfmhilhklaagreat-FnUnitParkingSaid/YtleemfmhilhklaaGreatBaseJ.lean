/- Binomial coefficients, as the program makes them. Condition: at most 6. -/
import Derived.Test.YtleemfmhilhklaaGreatPAllx5
import Derived.Test.YtleemfmhilhklaaGreatBaseQ0
namespace Go.Proofs.YtleemfmhilhklaaGreat.Plain
open Go.RowKit Go.Proofs.YtleemfmhilhklaaGreatW.PrintWords Go.Proofs.YtleemfmhilhklaaGreatW.PrintLast Go.Proofs.YtleemfmhilhklaaGreat.Hand Go.Proofs.YtleemfmhilhklaaGreat.PAll
set_option linter.unusedVariables false

theorem choose_fin : ∀ n : Fin 7, ∀ k : Fin 7, k.1 ≤ n.1 → impl_choose.f 60 (n.1 : Int) (k.1 : Int) = some (bin n.1 k.1 : Int) := by decide +kernel
theorem choose_ev (n k : Nat) (hn : n ≤ 6) (hk : k ≤ n) : Ev (fun q => impl_choose.f q (n : Int) (k : Int)) (bin n k : Int) :=
  Ev.of (k := 60) (fun q => impl_choose.mono _ _ q) (choose_fin ⟨n, by omega⟩ ⟨k, by omega⟩ hk)
end Go.Proofs.YtleemfmhilhklaaGreat.Plain
