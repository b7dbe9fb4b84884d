import Derived.Test.YtpkmlogclnjijaaGreatAm31
import Derived.RowKit3
set_option linter.unusedVariables false
namespace Go.AM
open Go.RowKit

/-- From empty memory: what is told of a call is that it returns so, and that of what was there nothing turns. -/
theorem calls_closed {P : Program} {F : CallT} (hF : FSound P F) {f : Nat} {v : Value} {st' : St} (h : F f [] ⟨fun _ => none, 0⟩ = some (.val (.sc v), st')) (w : World) :
    Calls P f #[] w fun e w' => e = .returned v ∧ Grown w w' := by
  refine (hF.calls f [] ⟨fun _ => none, 0⟩ (.val (.sc v)) st' h (fun _ => none) w #[] ⟨fun i B h => by simp at h, fun i j Bi Bj li lj h => by simp at h⟩ (fun _ _ _ => rfl) trivial).mono ?_
  rintro e w' ⟨m', hp, c, rfl, hc⟩
  have hcv : c = v := hc.2
  subst hcv
  refine ⟨rfl, ⟨hp.ws.os, hp.ws.output, fun i hi => ?_⟩, fun a => by rw [frozen_eq, frozen_eq]; exact hp.ws.fz _ _, hp.size⟩
  rw [hp.fr i hi (fun j B l hj => by simp at hj)]
  exact (World.keptBut_refl w (fun _ => False)).2.2 i hi

end Go.AM
