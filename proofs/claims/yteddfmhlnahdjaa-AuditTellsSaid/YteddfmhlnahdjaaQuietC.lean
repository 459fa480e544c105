/- A region that draws its order: its operations yield the same value in every world of a class; the laws for one operation. -/
import Derived.Deep.QuietTactic
import Derived.BigQuiet
namespace Go.Proofs.Yteddfmhlnahdjaa
open Go Go.RowKit
variable {P : Program} {o : Oper} {a : Act} {C : World → Prop} {K : Act → Prop} {v : Value}

theorem quiet_val (h : ∀ W, C W → (execOp a.eval o).run P W = .ok (.value v) W) (hK : K (a.put o.dst v)) : o.quiet P a C K :=
  ⟨v, fun W hW => by unfold Oper.quietAt; rw [h W hW]; exact ⟨rfl, rfl⟩, hK⟩
theorem quiet_call {f : FuncId} {args : Array Value} (h : ∀ W, C W → (execOp a.eval o).run P W = .ok (.enter f args) W) (hc : ∀ W, C W → Calls P f args W (fun e w' => e = .returned v ∧ C w')) (hK : K (a.put o.dst v)) : o.quiet P a C K :=
  ⟨v, fun W hW => by unfold Oper.quietAt; rw [h W hW]; exact ⟨rfl, hc W hW⟩, hK⟩
theorem region_quietC {id : Nat} {Q : Exit → Act → World → Prop} {w : World} {l : List Oper} (C : World → Prop) (hm : P.follows .mixedOrders = true) (hB : Region.lexB .any l.toArray = true) (hC : C { w with drawn := w.drawn + 1 })
    (h : wpQuiet P l.toArray C (fun a' => ∀ w', C w' → Q .normal a' w') l a) : (Code.region id l.toArray true).wp P Q a w := wp_region_quiet hm hB hC (by simpa using h)
end Go.Proofs.Yteddfmhlnahdjaa
