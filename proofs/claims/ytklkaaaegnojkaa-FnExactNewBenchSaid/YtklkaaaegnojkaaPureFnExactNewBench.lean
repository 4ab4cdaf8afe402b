/-
The law of NewBench takes nothing: its walk is shown whole beside the printed texts; there is nothing left to prove here.
-/
import Derived.Test.YtklkaaaegnojkaaMx7
namespace Go.Proofs.Ytklkaaaegnojkaa.Pure
theorem FnExactNewBench : Go.Proofs.Ytklkaaaegnojkaa.M.laws_FnExactNewBench.Pure := trivial
end Go.Proofs.Ytklkaaaegnojkaa.Pure
