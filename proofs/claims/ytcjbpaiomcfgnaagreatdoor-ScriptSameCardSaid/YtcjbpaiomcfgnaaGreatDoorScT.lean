/- ScriptSame: two texts that are the same, and that are not, told as numbers. No program in sight. -/
import Derived.Test.YtcjbpaiomcfgnaaGreatDoorScE
import Derived.Test.YtcjbpaiomcfgnaaGreatDoorGs
namespace Go.Proofs.YtcjbpaiomcfgnaaGreatDoor
open Go
theorem eqsT_ok {a b : Tm} : TEqOk (eqsT a b) :=
 teq_cons (fun ν hs d hd => by
  obtain ⟨h1, _⟩ := hs
  obtain ⟨s, r, k1, k2, k3⟩ := eqs_den h1
  rw [c_b01 true hd]
  exact den_f4.2 ⟨s, r, k1, k2, by rw [k3]⟩) (teq_cons (fun ν hs d hd => by
  obtain ⟨h1, _⟩ := hs
  obtain ⟨s, r, k1, k2, k3⟩ := eqs_den h1
  rw [c_b01 false hd]
  exact den_f4.2 ⟨s, r, k1, k2, by rw [k3]⟩) teq_nil)
theorem teqE_ok : TEqOk teqE := teq_append teq0_ok eqsT_ok
end Go.Proofs.YtcjbpaiomcfgnaaGreatDoor
