/- Regions whose order is drawn: the game. Over any program. -/
import Derived.Test.YtmmefmebkgcpfaaGreatDoorQvT
namespace Go.Qv
open Go

def unl (B X : List Nat) : List Nat := B.filter fun j => !X.contains j
theorem mem_unl {B X : List Nat} {j : Nat} : j ∈ unl B X ↔ j ∈ B ∧ j ∉ X := by simp [unl]
theorem Sim.masks {F : F0} {G : Gh} {ops : Array Oper} {U U' : List Nat} {σ : St} {a : Act} {w : World} (hs : Sim F G (mask ops U σ) a w) (h : ∀ i, i ∈ U → i ∈ U') : Sim F G (mask ops U' σ) a w := by
  refine hs.weak ?_ ?_ (fun k hk => hk)
  · refine RAL.ofGet (by rw [hs.env.len]; simp [mask, Go.Qv.setNos]) fun i x u hx hu => ?_
    rw [mask_get] at hx
    cases e : σ.env[i]? with
    | none => rw [e] at hx; cases hx
    | some y =>
      rw [e] at hx
      simp only [Option.map_some, Option.some.injEq] at hx
      by_cases hc : i ∈ dsts ops U'
      · rw [if_pos (by simpa using hc)] at hx
        subst hx; simp only [RA]
      · rw [if_neg (by simpa using hc)] at hx
        subst hx
        have hc' : i ∉ dsts ops U := by
          intro hm
          simp only [dsts, List.mem_filterMap] at hm hc
          obtain ⟨j, hj, e⟩ := hm
          exact hc ⟨j, h j hj, e⟩
        have : (mask ops U σ).env[i]? = some y := by
          rw [mask_get, e]
          simp only [Option.map_some, if_neg (show ¬ (dsts ops U).contains i = true by simpa using hc')]
        obtain ⟨u', h1, h2⟩ := hs.env.get i y this
        rw [hu] at h1; cases h1
        exact h2
  · intro p hp
    simp only [mask, List.mem_filter] at hp ⊢
    refine ⟨hp.1, ?_⟩
    have := hp.2
    simp only [Bool.not_eq_true', List.contains_eq_mem, decide_eq_false_iff_not] at this ⊢
    intro hm
    simp only [alcs, List.mem_filterMap] at hm this
    obtain ⟨j, hj, e⟩ := hm
    exact this ⟨j, h j hj, e⟩
theorem mask_nil (ops : Array Oper) (σ : St) : mask ops [] σ = σ := by
  obtain ⟨e, o, r⟩ := σ
  simp only [mask, dsts, alcs, List.filterMap_nil, setNos, List.contains_nil, Bool.not_false, Bool.false_eq_true, if_false]
  rw [List.filter_eq_self.2 (fun _ _ => rfl)]
  congr 1
  apply List.ext_getElem?
  intro q
  simp [List.getElem?_mapIdx]
/-- One more operation of a block has been. -/
theorem Sim.ran {F : F0} {G : Gh} {ops : Array Oper} {U U' : List Nat} {σ S : St} {a : Act} {w : World} {dst : Option Nat} {V : AV} {u : Value} (hs : Sim F G S a w) (hSe : S.env = (mask ops U σ).env) (hSo : ∀ p, p ∈ (mask ops U' σ).objs → p ∈ S.objs) (hSr : S.rooms = σ.rooms) (hU : ∀ q, q ∈ dsts ops U → q ∈ dsts ops U' ∨ dst = some q) (hv : slotIs σ dst V) (hr : RA G w V u) : Sim F G (mask ops U' σ) (a.put dst u) w := by
  have h1 := hs.putD dst V u hr
  refine h1.weak ?_ ?_ ?_
  · refine RAL.ofGet (by rw [h1.env.len]; cases dst <;> simp [mask, Go.Qv.setNos, Go.Qv.putD, hSe]) fun i x u' hx hu => ?_
    rw [mask_get] at hx
    cases e : σ.env[i]? with
    | none => rw [e] at hx; cases hx
    | some y =>
      rw [e] at hx
      simp only [Option.map_some, Option.some.injEq] at hx
      by_cases hc : i ∈ dsts ops U'
      · rw [if_pos (by simpa using hc)] at hx
        subst hx; simp only [RA]
      · rw [if_neg (by simpa using hc)] at hx
        subst hx
        have hget : (Go.Qv.putD S dst V).env[i]? = some y := by
          by_cases hd : dst = some i
          · subst hd
            have := hv i rfl y e
            subst this
            simp only [Go.Qv.putD, List.getElem?_set, if_true]
            have hl : i < S.env.length := by
              have := (List.getElem?_eq_some_iff.1 e).1
              rw [hSe]
              simpa [mask, Go.Qv.setNos] using this
            simp [hl]
          · have hc' : i ∉ dsts ops U := fun hm => by
              rcases hU i hm with h | h
              · exact hc h
              · exact hd h
            have : S.env[i]? = some y := by
              rw [hSe, mask_get, e]
              simp only [Option.map_some, if_neg (show ¬ (dsts ops U).contains i = true by simpa using hc')]
            cases dst with
            | none => exact this
            | some d => rw [putD_getNo (fun e' => hd (by rw [e']))]; exact this
        obtain ⟨u2, g1, g2⟩ := h1.env.get i y hget
        rw [hu] at g1; cases g1
        exact g2
  · intro p hp
    have hp' := hSo p hp
    cases dst <;> exact hp'
  · intro k hk
    have hk' : k ∈ S.rooms := by rw [hSr]; exact hk
    cases dst <;> exact hk'

theorem goneB_kill {σ : St} {d : Nat} (h : goneB d σ = true) : σ.kill d = σ := by
  simp only [goneB, Bool.and_eq_true, Bool.not_eq_true', List.all_eq_true, bne_iff_ne, ne_eq] at h
  obtain ⟨h1, h2, h3⟩ := h
  have killA : (∀ a : AV, a.has d = false → a.kill d = a) ∧ (∀ as : List AV, AV.hasL d as = false → AV.killL d as = as) := by
    constructor
    · intro a
      exact AV.rec (motive_1 := fun a => a.has d = false → a.kill d = a) (motive_2 := fun as => AV.hasL d as = false → AV.killL d as = as)
        (fun _ => rfl) (fun _ _ => rfl)
        (fun k sz xs h => by simp only [AV.has, beq_eq_false_iff_ne, ne_eq] at h; simp [AV.kill, h])
        (fun k o h => by simp only [AV.has, beq_eq_false_iff_ne, ne_eq] at h; simp [AV.kill, h])
        (fun _ _ => rfl)
        (fun k h => by simp only [AV.has, beq_eq_false_iff_ne, ne_eq] at h; simp [AV.kill, h])
        (fun f cap ih h => by simp only [AV.has] at h; simp [AV.kill, ih h])
        (fun cs ih h => by simp only [AV.has] at h; simp [AV.kill, ih h])
        (fun cs ih h => by simp only [AV.has] at h; simp [AV.kill, ih h])
        (fun _ _ => rfl)
        (fun k sz n h => by simp only [AV.has, beq_eq_false_iff_ne, ne_eq] at h; simp [AV.kill, h])
        (fun _ => rfl)
        (fun a as iha ihas h => by simp only [AV.hasL, Bool.or_eq_false_iff] at h; simp [AV.killL, iha h.1, ihas h.2]) a
    · intro as
      exact AV.rec_1 (motive_1 := fun a => a.has d = false → a.kill d = a) (motive_2 := fun as => AV.hasL d as = false → AV.killL d as = as)
        (fun _ => rfl) (fun _ _ => rfl)
        (fun k sz xs h => by simp only [AV.has, beq_eq_false_iff_ne, ne_eq] at h; simp [AV.kill, h])
        (fun k o h => by simp only [AV.has, beq_eq_false_iff_ne, ne_eq] at h; simp [AV.kill, h])
        (fun _ _ => rfl)
        (fun k h => by simp only [AV.has, beq_eq_false_iff_ne, ne_eq] at h; simp [AV.kill, h])
        (fun f cap ih h => by simp only [AV.has] at h; simp [AV.kill, ih h])
        (fun cs ih h => by simp only [AV.has] at h; simp [AV.kill, ih h])
        (fun cs ih h => by simp only [AV.has] at h; simp [AV.kill, ih h])
        (fun _ _ => rfl)
        (fun k sz n h => by simp only [AV.has, beq_eq_false_iff_ne, ne_eq] at h; simp [AV.kill, h])
        (fun _ => rfl)
        (fun a as iha ihas h => by simp only [AV.hasL, Bool.or_eq_false_iff] at h; simp [AV.killL, iha h.1, ihas h.2]) as
  have e1 : AV.killL d σ.env = σ.env := killA.2 _ h1
  have e2 : (σ.objs.filter (fun p => p.1 != d)).map (fun p => (p.1, p.2.kill d)) = σ.objs := by
    rw [List.filter_eq_self.2 (fun p hp => by simpa using (h2 p hp).1)]
    conv => rhs; rw [← List.map_id σ.objs]
    refine List.map_congr_left fun p hp => ?_
    have := (h2 p hp).2
    obtain ⟨k, o⟩ := p
    simp only [id, Prod.mk.injEq, true_and]
    cases o with
    | cells cs => simp only [Ob.kill, Ob.cells.injEq]; exact killA.2 _ (by simpa [Ob.has] using this)
    | mit m s n l =>
      have : m ≠ d := by simpa [Ob.has] using this
      simp [Ob.kill, this]
    | _ => rfl
  have e3 : σ.rooms.filter (· != d) = σ.rooms := by
    refine List.filter_eq_self.2 fun k hk => ?_
    simp only [bne_iff_ne, ne_eq]
    rintro rfl
    simp [hk] at h3
  obtain ⟨a, b, c⟩ := σ
  simp only [St.kill, e1, e2, e3]
theorem AV.hasL_mem {d : Nat} : ∀ {as : List AV}, AV.hasL d as = false ↔ ∀ a, a ∈ as → a.has d = false
  | [] => by simp [AV.hasL]
  | a :: as => by
    simp only [AV.hasL, Bool.or_eq_false_iff, List.mem_cons, forall_eq_or_imp]
    rw [AV.hasL_mem]
theorem goneB_mask {ops : Array Oper} {U U' : List Nat} {σ : St} {d : Nat} (h : goneB d (mask ops U σ) = true) (hU : ∀ i, i ∈ U → i ∈ U') : goneB d (mask ops U' σ) = true := by
  simp only [goneB, Bool.and_eq_true, Bool.not_eq_true', List.all_eq_true, bne_iff_ne, ne_eq] at h ⊢
  obtain ⟨h1, h2, h3⟩ := h
  refine ⟨?_, fun p hp => h2 p ?_, h3⟩
  · rw [AV.hasL_mem] at h1 ⊢
    intro x hx
    obtain ⟨q, hq⟩ := List.mem_iff_getElem?.1 hx
    rw [mask_get] at hq
    cases e : σ.env[q]? with
    | none => rw [e] at hq; cases hq
    | some y =>
      rw [e] at hq
      simp only [Option.map_some, Option.some.injEq] at hq
      by_cases hc : q ∈ dsts ops U'
      · rw [if_pos (by simpa using hc)] at hq
        subst hq; rfl
      · rw [if_neg (by simpa using hc)] at hq
        subst hq
        refine h1 y (List.mem_iff_getElem?.2 ⟨q, ?_⟩)
        have hc' : q ∉ dsts ops U := by
          intro hm
          simp only [dsts, List.mem_filterMap] at hm hc
          obtain ⟨j, hj, e⟩ := hm
          exact hc ⟨j, hU j hj, e⟩
        rw [mask_get, e]
        simp only [Option.map_some, if_neg (show ¬ (dsts ops U).contains q = true by simpa using hc')]
  · simp only [mask, List.mem_filter, Bool.not_eq_true', List.contains_eq_mem, decide_eq_false_iff_not] at hp ⊢
    refine ⟨hp.1, fun hm => hp.2 ?_⟩
    simp only [alcs, List.mem_filterMap] at hm ⊢
    obtain ⟨j, hj, e⟩ := hm
    exact ⟨j, hU j hj, e⟩
end Go.Qv
