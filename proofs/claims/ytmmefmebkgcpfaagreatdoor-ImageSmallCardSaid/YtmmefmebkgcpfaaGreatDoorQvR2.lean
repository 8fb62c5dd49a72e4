/- Contracts that say less. Over any program. -/
import Derived.Test.YtmmefmebkgcpfaaGreatDoorQvR
namespace Go.Qv
open Go

structure DvWL (xs ys : List DV) : Prop where
  le : DvLeL xs ys
theorem DvWL.nil : DvWL [] [] := ⟨by simp only [DvLeL]⟩
theorem DvWL.cons {x y : DV} {xs ys : List DV} (h : DvW x y) (k : DvWL xs ys) : DvWL (x :: xs) (y :: ys) := ⟨by simp only [DvLeL]; exact ⟨y, ys, rfl, h.le, k.le⟩⟩
theorem DvWL.refl (xs : List DV) : DvWL xs xs := ⟨DvLeL.refl xs⟩
theorem DvW.agg {xs ys : List DV} (h : DvWL xs ys) : DvW (.agg xs) (.agg ys) := ⟨by simp only [DvLe]; exact ⟨ys, rfl, h.le⟩⟩
theorem DvW.tup {xs ys : List DV} (h : DvWL xs ys) : DvW (.tup xs) (.tup ys) := ⟨by simp only [DvLe]; exact ⟨ys, rfl, h.le⟩⟩
theorem DvW.iface {t : Nat} {x y : DV} (h : DvW x y) : DvW (.iface t x) (.iface t y) := ⟨by simp only [DvLe]; exact ⟨y, rfl, h.le⟩⟩
theorem DvW.any {m : SM} {sz : Nat} {xs ys : List DV} (h : DvWL xs ys) : DvW (.sl m sz xs) (.sl .any sz ys) := ⟨by simp only [DvLe]; exact ⟨.any, sz, ys, rfl, .inr rfl, .inl rfl, h.le⟩⟩
theorem DvW.anyR {m : SM} {sz : Nat} {xs : List DV} : DvW (.sl m sz xs) (.sl .any sz xs) := DvW.any (DvWL.refl xs)
theorem DvW.nilS {m : SM} {sz sz' : Nat} : DvW (.sl m sz []) (.sl .any sz' []) := ⟨by unfold DvLe; exact ⟨.any, sz', [], rfl, .inr rfl, .inr rfl, by unfold DvLeL; rfl⟩⟩
theorem DvW.sl {m : SM} {sz : Nat} {xs ys : List DV} (h : DvWL xs ys) : DvW (.sl m sz xs) (.sl m sz ys) := ⟨by simp only [DvLe]; exact ⟨m, sz, ys, rfl, .inl rfl, .inl rfl, h.le⟩⟩
theorem DvW.int {k : IntKind} {a b : Int} (h : a = b) : DvW (.int k a) (.int k b) := by subst h; exact DvW.refl _
theorem DvW.bool {a b : Bool} (h : a = b) : DvW (.bool a) (.bool b) := by subst h; exact DvW.refl _
theorem DvWL.append {xs ys xs' ys' : List DV} (h : DvWL xs ys) (k : DvWL xs' ys') : DvWL (xs ++ xs') (ys ++ ys') := by
  induction xs generalizing ys with
  | nil =>
    have := h.le
    simp only [DvLeL] at this
    subst this
    exact k
  | cons x xs ih =>
    have := h.le
    simp only [DvLeL] at this
    obtain ⟨y, ys', rfl, h1, h2⟩ := this
    exact DvWL.cons ⟨h1⟩ (ih ⟨h2⟩)

/-- Arguments that say less. -/
inductive AvW : List AV → List AV → Prop where
  | nil : AvW [] []
  | d {x y : DV} {as bs : List AV} (h : DvW x y) (k : AvW as bs) : AvW (.d x :: as) (.d y :: bs)
  | eq {a : AV} {as bs : List AV} (k : AvW as bs) : AvW (a :: as) (a :: bs)
theorem RAL.weak {G : Gh} {w : World} : ∀ {as bs : List AV} {vs : List Value}, AvW as bs → RAL G w as vs → RAL G w bs vs
  | _, _, _, .nil, h => h
  | _, _, _, .d h k, hr => by
    simp only [RAL] at hr ⊢
    obtain ⟨u, us, rfl, h1, h2⟩ := hr
    refine ⟨u, us, rfl, ?_, RAL.weak k h2⟩
    simp only [RA] at h1 ⊢
    exact R.weak h.le h1
  | _, _, _, .eq k, hr => by
    simp only [RAL] at hr ⊢
    obtain ⟨u, us, rfl, h1, h2⟩ := hr
    exact ⟨u, us, rfl, h1, RAL.weak k h2⟩
theorem AFn.weak {P : Program} {f : Nat} {as bs : List AV} {objs : List (Nat × Ob)} {rooms : List Nat} {r : AV} {objs' : List (Nat × Ob)} {rooms' : List Nat} (h : AFn P f bs objs rooms r objs' rooms') (hw : AvW as bs) : AFn P f as objs rooms r objs' rooms' :=
  fun G w vs h1 h2 h3 => h G w vs h1 h2 (h3.weak hw)
theorem AFn.res {P : Program} {f : Nat} {as : List AV} {objs : List (Nat × Ob)} {rooms : List Nat} {r r' : DV} {objs' : List (Nat × Ob)} {rooms' : List Nat} (h : AFn P f as objs rooms (.d r) objs' rooms') (hw : DvW r r') : AFn P f as objs rooms (.d r') objs' rooms' :=
  fun G w vs h1 h2 h3 => (h G w vs h1 h2 h3).mono fun e w' ⟨v, G', e1, hr, hk⟩ => ⟨v, G', e1, by simp only [RA] at hr ⊢; exact R.weak hw.le hr, hk⟩
end Go.Qv
