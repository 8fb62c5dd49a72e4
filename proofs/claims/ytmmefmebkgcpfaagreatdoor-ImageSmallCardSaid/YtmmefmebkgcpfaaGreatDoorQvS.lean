/- Regions whose order is drawn: any order reaches what the text's order reaches. Over any program. -/
import Derived.Test.YtmmefmebkgcpfaaGreatDoorQvQ
import Derived.Orders
namespace Go.Qv
open Go

/-! ### A state that says less, by what it holds -/
theorem Sim.weak {F : F0} {G : Gh} {σ h : St} {a : Act} {w : World} (hs : Sim F G σ a w) (he : RAL G w h.env a.tmps.toList) (ho : ∀ p, p ∈ h.objs → p ∈ σ.objs) (hr : ∀ k, k ∈ h.rooms → k ∈ σ.rooms) : Sim F G h a w := by
  have hl : ∀ k, Live G h.objs h.rooms k → Live G σ.objs σ.rooms k := by
    rintro k (⟨o, h1⟩ | ⟨h1, h2⟩)
    · exact .inl ⟨o, ho _ h1⟩
    · exact .inr ⟨hr k h1, h2⟩
  exact
    { env := he, defers := hs.defers, fr := hs.fr, old := hs.old, ov := hs.ov, mine := fun k hk => hs.mine k (hl k hk)
      ctx := { okO := fun k o h1 => hs.ctx.okO k o (ho _ h1), okR := fun k hk => hs.ctx.okR k (hr k hk), inj := fun k k' hk hk' e => hs.ctx.inj k k' (hl k hk) (hl k' hk') e
               uniq := fun k o o' h1 h2 => hs.ctx.uniq k o o' (ho _ h1) (ho _ h2), dis := fun k o h1 h2 => hs.ctx.dis k o (hr k h1) (ho _ h2) } }
theorem Sim.drawn {F : F0} {G : Gh} {σ : St} {a : Act} {w : World} (hs : Sim F G σ a w) : Sim F G σ a { w with drawn := w.drawn + 1 } := by
  have hp : Pres w G.S { w with drawn := w.drawn + 1 } G.S := ⟨fun _ => Nat.le_refl _, fun _ _ _ => rfl⟩
  exact hs.upd (fun _ => True) (Gh.But.all G _) hp (fun _ _ => trivial) (fun _ _ => trivial) (fun _ _ => trivial) (fun _ _ => trivial) (fun _ _ => ⟨rfl, rfl⟩)
    ⟨hs.fr.os, hs.fr.tape, hs.fr.output, hs.fr.size, hs.fr.keep, ⟨hs.fr.pres.le, hs.fr.pres.cell⟩, hs.fr.fin⟩

/-! ### What must be done ahead of what -/
def tst (T : Array Nat) (i j : Nat) : Bool := (T.getD i 0).testBit j
def bindsOf (o : Oper) : List Nat := o.after.toList.filterMap fun e => if Region.binds .any e then some e.on else none
def tabOk (ops : Array Oper) (T : Array Nat) : Bool :=
  (List.range ops.size).all fun i => match ops[i]? with
    | some o => (List.range ops.size).all fun j => !tst T i j || (bindsOf o).any fun k => k == j || tst T k j
    | none => false
structure Lst (ops : Array Oper) (T : Array Nat) (listed : Array Bool) (X : List Nat) : Prop where
  size : listed.size = ops.size
  iff : ∀ i, i < ops.size → (listed.getD i false = true ↔ i ∈ X)
  lt : ∀ i, i ∈ X → i < ops.size
  nodup : X.Nodup
  clo : ∀ i, i ∈ X → ∀ j, j < ops.size → tst T i j = true → j ∈ X
theorem mem_bindsOf {o : Oper} {k : Nat} : k ∈ bindsOf o ↔ ∃ e, e ∈ o.after ∧ Region.binds .any e = true ∧ e.on = k := by
  simp only [bindsOf, List.mem_filterMap]
  constructor
  · rintro ⟨e, h1, h2⟩
    split at h2
    · rename_i hb; cases h2; exact ⟨e, by simpa using h1, hb, rfl⟩
    · cases h2
  · rintro ⟨e, h1, h2, rfl⟩
    exact ⟨e, by simpa using h1, by simp [h2]⟩
theorem Lst.getD {ops : Array Oper} {T : Array Nat} {listed : Array Bool} {X : List Nat} (h : Lst ops T listed X) {i : Nat} (hi : i < ops.size) (d : Bool) : listed.getD i d = true ↔ i ∈ X := by
  rw [← h.iff i hi]
  have : i < listed.size := by rw [h.size]; exact hi
  simp [this]
theorem Lst.of_ready {ops : Array Oper} {T : Array Nat} {listed : Array Bool} {X : List Nat} (ht : tabOk ops T = true) (h : Lst ops T listed X) {i : Nat} (hi : i ∈ Region.ready .any ops listed) :
    ∃ o, ops[i]? = some o ∧ i ∉ X ∧ i < ops.size ∧ (∀ j, j < ops.size → tst T i j = true → j ∈ X) ∧ Lst ops T (listed.setIfInBounds i true) (i :: X) := by
  obtain ⟨h0, o, ho, hd⟩ := mem_ready.1 hi
  have hlt : i < ops.size := (Array.getElem?_eq_some_iff.1 ho).1
  have hn : i ∉ X := by
    intro hx
    rw [(h.getD hlt true).2 hx] at h0; cases h0
  have hD : ∀ j, j < ops.size → tst T i j = true → j ∈ X := by
    intro j hj htj
    unfold tabOk at ht
    have h1 := List.all_eq_true.1 ht i (by simpa using hlt)
    rw [ho] at h1
    have h2 := List.all_eq_true.1 h1 j (by simpa using hj)
    simp only [htj, Bool.not_true, Bool.false_or, List.any_eq_true, Bool.or_eq_true, beq_iff_eq] at h2
    obtain ⟨k, hk, h2⟩ := h2
    obtain ⟨e, he, hb, rfl⟩ := mem_bindsOf.1 hk
    have hlisted := hd e he hb
    have hek : e.on < ops.size := by
      rcases Nat.lt_or_ge e.on listed.size with h' | h'
      · rw [h.size] at h'; exact h'
      · simp [Array.getElem?_eq_none h'] at hlisted
    have hX := (h.iff e.on hek).1 hlisted
    rcases h2 with rfl | h2
    · exact hX
    · exact h.clo e.on hX j hj h2
  refine ⟨o, ho, hn, hlt, hD, ?_, ?_, ?_, ?_, ?_⟩
  · simp [h.size]
  · intro j hj
    by_cases e : i = j
    · subst e
      have hl : i < listed.size := by rw [h.size]; exact hlt
      simp [hl]
    · rw [getD_set_ne false e, h.iff j hj]
      simp only [List.mem_cons]
      exact ⟨.inr, fun hh => hh.resolve_left fun e' => e e'.symm⟩
  · intro j hj
    rcases List.mem_cons.1 hj with rfl | hj
    · exact hlt
    · exact h.lt j hj
  · exact List.nodup_cons.2 ⟨hn, h.nodup⟩
  · intro k hk j hj htj
    rcases List.mem_cons.1 hk with rfl | hk
    · exact List.mem_cons_of_mem _ (hD j hj htj)
    · exact List.mem_cons_of_mem _ (h.clo k hk j hj htj)
theorem Lst.mk_ready {ops : Array Oper} {T : Array Nat} {listed : Array Bool} {X : List Nat} (h : Lst ops T listed X) {i : Nat} {o : Oper} (ho : ops[i]? = some o) (hn : i ∉ X) (hd : ∀ k, k ∈ bindsOf o → k ∈ X) : i ∈ Region.ready .any ops listed := by
  have hlt : i < ops.size := (Array.getElem?_eq_some_iff.1 ho).1
  refine mem_ready.2 ⟨?_, o, ho, fun e he hb => ?_⟩
  · cases e : listed.getD i true
    · rfl
    · exact absurd ((h.getD hlt true).1 e) hn
  · have hX := hd e.on (mem_bindsOf.2 ⟨e, he, hb, rfl⟩)
    exact (h.iff _ (h.lt _ hX)).2 hX
theorem nodup_bound : ∀ (n : Nat) (X : List Nat), X.Nodup → (∀ i, i ∈ X → i < n) → X.length ≤ n := by
  intro n X hn hl
  have := List.Nodup.length_le_of_subset hn (l₂ := List.range n) fun i hi => by simpa using hl i hi
  simpa using this
theorem play {P : Program} {ops : Array Oper} {T : Array Nat} {Q : Exit → Act → World → Prop} {listed : Array Bool} {X : List Nat} {fuel : Nat} {a : Act} {w : World} (ht : tabOk ops T = true) (h : Lst ops T listed X) (hf : fuel + X.length = ops.size) {i0 : Nat} (h0 : i0 ∈ Region.ready .any ops listed)
    (step : ∀ i o n, ops[i]? = some o → i ∉ X → i < ops.size → (∀ j, j < ops.size → tst T i j = true → j ∈ X) → Lst ops T (listed.setIfInBounds i true) (i :: X) → n + (i :: X).length = ops.size → wpOp P ops Q i (wpAny P .any ops Q n (listed.setIfInBounds i true)) a w) : wpAny P .any ops Q fuel listed a w := by
  cases fuel with
  | zero =>
    exfalso
    obtain ⟨o, _, hn, hlt, _, hL⟩ := h.of_ready ht h0
    have := nodup_bound ops.size (i0 :: X) hL.nodup hL.lt
    simp only [List.length_cons] at this
    omega
  | succ n =>
    refine ⟨fun e => (by rw [e] at h0; cases h0), fun i hi => ?_⟩
    obtain ⟨o, ho, hn, hlt, hD, hL⟩ := h.of_ready ht hi
    exact step i o n ho hn hlt hD hL (by simp only [List.length_cons]; omega)
theorem finished {P : Program} {ops : Array Oper} {T : Array Nat} {Q : Exit → Act → World → Prop} {listed : Array Bool} {X : List Nat} {fuel : Nat} {a : Act} {w : World} (h : Lst ops T listed X) (hall : ∀ i, i < ops.size → i ∈ X) (hq : Q .normal a w) : wpAny P .any ops Q fuel listed a w := by
  refine wpAny_done ?_ hq fuel
  cases e : Region.ready .any ops listed with
  | nil => rfl
  | cons i is =>
    exfalso
    have hi : i ∈ Region.ready .any ops listed := by rw [e]; exact List.mem_cons_self ..
    obtain ⟨h0, o, ho, _⟩ := mem_ready.1 hi
    have hlt : i < ops.size := (Array.getElem?_eq_some_iff.1 ho).1
    rw [(h.getD hlt true).2 (hall i hlt)] at h0; cases h0
end Go.Qv
