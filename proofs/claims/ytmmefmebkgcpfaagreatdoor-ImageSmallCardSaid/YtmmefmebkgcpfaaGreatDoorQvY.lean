/- A state laid open: each slot, object and room turned to its constructor. Over any program. -/
import Derived.Test.YtmmefmebkgcpfaaGreatDoorQvX
namespace Go.Qv
open Go

def forceA (a : AV) (K : AV → Prop) : Prop := match a with
  | .no => K .no
  | .d x => K (.d x)
  | .own k sz xs => K (.own k sz xs)
  | .ptr k o => K (.ptr k o)
  | .row cs => K (.row cs)
  | .mp k => K (.mp k)
  | .fn f cs => K (.fn f cs)
  | .agg cs => K (.agg cs)
  | .tup cs => K (.tup cs)
  | .opq n => K (.opq n)
  | .zr k sz n => K (.zr k sz n)
theorem forceA_eq (a : AV) (K : AV → Prop) : forceA a K = K a := by cases a <;> rfl
def forceL : List AV → (List AV → Prop) → Prop
  | [], K => K []
  | a :: as, K => forceA a fun a => forceL as fun as => K (a :: as)
theorem forceL_eq : ∀ (as : List AV) (K : List AV → Prop), forceL as K = K as
  | [], K => rfl
  | a :: as, K => by simp only [forceL, forceA_eq, forceL_eq as]
def forceO (o : Ob) (K : Ob → Prop) : Prop := match o with
  | .cells cs => forceL cs fun cs => K (.cells cs)
  | .mapS es => K (.mapS es)
  | .mapI kd es => K (.mapI kd es)
  | .mit m s n l => K (.mit m s n l)
  | .mitN => K .mitN
  | .unk => K .unk
  | .sit s p => K (.sit s p)
theorem forceO_eq (o : Ob) (K : Ob → Prop) : forceO o K = K o := by cases o <;> simp only [forceO, forceL_eq]
def forceOs : List (Nat × Ob) → (List (Nat × Ob) → Prop) → Prop
  | [], K => K []
  | (k, o) :: os, K => forceO o fun o => forceOs os fun os => K ((k, o) :: os)
theorem forceOs_eq : ∀ (os : List (Nat × Ob)) (K : List (Nat × Ob) → Prop), forceOs os K = K os
  | [], K => rfl
  | (k, o) :: os, K => by simp only [forceOs, forceO_eq, forceOs_eq os]
def forceN : List Nat → (List Nat → Prop) → Prop
  | [], K => K []
  | a :: as, K => forceN as fun as => K (a :: as)
theorem forceN_eq : ∀ (as : List Nat) (K : List Nat → Prop), forceN as K = K as
  | [], K => rfl
  | a :: as, K => by simp only [forceN, forceN_eq as]
def forceSt (σ : St) (K : St → Prop) : Prop := forceL σ.env fun e => forceOs σ.objs fun o => forceN σ.rooms fun r => K { env := e, objs := o, rooms := r }
theorem forceSt_eq (σ : St) (K : St → Prop) : forceSt σ K = K σ := by simp only [forceSt, forceL_eq, forceOs_eq, forceN_eq]
end Go.Qv
