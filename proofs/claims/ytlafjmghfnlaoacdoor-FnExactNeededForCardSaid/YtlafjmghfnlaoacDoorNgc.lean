/-
  Drawn regions with calls whose results lead to new memory: what is known of a callee's result goes with the temporary. No program is named here.
-/
import Derived.Test.YtlafjmghfnlaoacDoorNg
namespace Go.Proofs.YtlafjmghfnlaoacDoor
open Go Go.RowKit

section
variable {P : Program} {ops : Array Oper} {W : World} {S : CallRel}
variable {post : Act → World → Prop} {Γ : Facts} {a : Act} {o : Oper} {rest : List Oper}
def isCallOf (n : FuncId) : Op → Bool
  | .call c => match c.callee with
    | .value (.func f) => f == n
    | _ => false
  | _ => false
theorem g_factc (n : FuncId) (ψ : Value → World → Prop) (_ : isCallOf n o.op = true) (hd : ∀ d, o.dst = some d → ∀ w, Γ d w) (hg : o.guard = none)
    (h : ∀ K : Act → (World → Prop) → Prop, (∀ a φ, wpG P ops W S (EndG W post) rest a (fun t w => Γ t w ∧ (o.dst = some t → φ w)) → K a φ) → ∀ w, Gr W w → (∀ b o, b < W.heap.size → w.cell? ⟨b, o, none⟩ = W.cell? ⟨b, o, none⟩) → factsAt ops o Γ w → gUpon P S w (fun v w' => (∀ w'', Gr w' w'' → ψ v w'') ∧ K (a.put o.dst v) (ψ v)) ((execOp a.eval o).run P w)) :
    wpG P ops W S (EndG W post) (o :: rest) a Γ :=
  wpG_fact ψ hd hg (fun K hK w hw hf => h K hK w hw (fun b o hb => hw.cell (p := ⟨b, o, none⟩) hb) hf)
end
end Go.Proofs.YtlafjmghfnlaoacDoor
