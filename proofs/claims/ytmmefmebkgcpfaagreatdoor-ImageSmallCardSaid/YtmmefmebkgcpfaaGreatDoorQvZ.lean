/- From a contract over data to a call that leaves what there was as it was. Over any program. -/
import Derived.Test.YtmmefmebkgcpfaaGreatDoorQvR2
import Derived.Below
namespace Go.Qv
open Go Go.RowKit
theorem live_nil {G : Gh} {k : Nat} (h : Live G [] [] k) : False := by
  rcases h with ⟨o, h⟩ | ⟨h, _⟩ <;> cases h
theorem ctx_nil (G : Gh) (w : World) : Ctx G w [] [] where
  okO := fun k o h => by cases h
  okR := fun k h => by cases h
  inj := fun k k' h => (live_nil h).elim
  uniq := fun k o o' h => by cases h
  dis := fun k o h => by cases h
theorem AFn.below {P : Program} {f : Nat} {args : List AV} {r : AV} (h : AFn P f args [] [] r [] []) {G : Gh} {W : World} {vs : List Value} (hfin : ∀ b, W.heap.size ≤ b → G.S b = 0) (hr : RAL G W args vs) :
    Calls P f vs.toArray W fun e W' => ∃ v G', e = .returned v ∧ RA G' W' r v ∧ Below W.heap.size W W' :=
  (h G W vs hfin (ctx_nil G W) hr).mono fun e W' ⟨v, G', e1, e2, _, hf, _⟩ =>
    ⟨v, G', e1, e2, ⟨hf.os, hf.tape, hf.output, hf.size, fun b hb => (hf.keep b hb (fun ⟨k, hk, _⟩ => live_nil hk)).1⟩⟩
/-- What is protected: all that there is. -/
def allS (W : World) (n : Nat) : Gh := { β := fun _ => 0, E := fun _ => 0, Z := fun _ => 0, S := fun b => if b < W.heap.size then n else 0, ov := fun _ => .nilFunc }
theorem allS_fin (W : World) (n : Nat) : ∀ b, W.heap.size ≤ b → (allS W n).S b = 0 := fun b hb => by simp [allS]; omega
end Go.Qv
