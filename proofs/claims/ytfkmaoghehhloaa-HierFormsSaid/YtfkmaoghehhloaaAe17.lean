/- The evaluator's answer about a call with no arguments is the model's. -/
import Derived.Test.YtfkmaoghehhloaaAe16
import Derived.Below
set_option linter.unusedVariables false
namespace Go.Ae
open Go.RowKit
variable {P : Program}

theorem H0_wf : WF H0 := ⟨fun b h => absurd h (Nat.not_lt_zero b), fun _ _ => rfl⟩
theorem rep_none (w : World) : Rep P (fun _ => none) H0.view w :=
  ⟨fun b e h => (by cases h), fun b e k g h => (by cases h), fun b e k g h => (by cases h), fun b1 b2 e1 e2 k1 k2 h => (by cases h), fun b e et k g h => (by cases h)⟩
theorem Step.below {μ : Mu} {V : View} {w : World} {μ' : Mu} {V' : View} {w' : World} (h : Step μ V w μ' V' w') (hr : ∀ b e k, μ b = some e → V.t b = some k → k.ro = true) : Below w.heap.size w w' :=
  ⟨h.os, h.tape, h.output, h.size, fun c hc => h.keep c hc fun b e k hb hk _ => hr b e k hb hk⟩

/-- Does it say true? -/
def saysTrue (o : Option (Value × AH)) : Bool := match o with | some (.bool true, _) => true | _ => false
theorem saysTrue_of {o : Option (Value × AH)} (h : saysTrue o = true) : ∃ H', o = some (.bool true, H') := by
  unfold saysTrue at h
  split at h
  · exact ⟨_, rfl⟩
  · cases h

theorem calls_true (hmix : P.follows .mixedOrders = true) {k : Nat} {f : FuncId} (h : saysTrue (evCall P k f [] H0) = true) (w : World) :
    Calls P f #[] w (fun e w' => e = .returned (.bool true) ∧ Below w.heap.size w w') := by
  obtain ⟨H', h'⟩ := saysTrue_of h
  refine (((evCall_sound hmix k) f [] H0 _ H' h').2 H0_wf (fun _ => none) w [] (rep_none w) (LR.nil _)).mono ?_
  rintro e w' ⟨v', μ', rfl, h1, h2, h3⟩
  exact ⟨by rw [h1.bool], h3.below fun b e k hb => by cases hb⟩
end Go.Ae
