/- Regions: operations one after the other, some of them guarded. Over any program. -/
import Derived.Test.YtmmefmebkgcpfaaGreatDoorQvY
namespace Go.Qv
open Go

def dstOf (ops : Array Oper) (j : Nat) : Option Nat := (ops[j]?).bind (·.dst)
def gval (σ : St) (ops : Array Oper) (j : Nat) : AV := match dstOf ops j with | some d => σ.env.getD d .no | none => .no
def putD (σ : St) (dst : Option Nat) (av : AV) : St := match dst with | some d => { σ with env := σ.env.set d av } | none => σ
def setNos (ds : List Nat) (σ : St) : St := { σ with env := σ.env.mapIdx fun i a => if ds.contains i then .no else a }
def pickIs (σ : St) (c x y : Operand) (r : Bool) : Prop := asB (ev σ c) fun b => pickA b (ev σ x) (ev σ y) fun av => match av with | .d (.bool q) => q = r | _ => False
def inGrp (opn : List (Nat × Bool)) (ops : Array Oper) (i : Nat) : Bool := match ops[i]? with
  | some o => (match o.guard with | some g => !(opn.contains g) | none => false)
  | none => false
def grpOk (ops : Array Oper) (g : Nat × Bool) (dj : Nat) : List Nat → List Nat → Bool
  | [], _ => true
  | i :: is, prev => match ops[i]? with
    | some o => (match o.guard with | some g' => (g' == g || prev.contains g'.1) | none => false) && !(o.dst == some dj) && grpOk ops g dj is (i :: prev)
    | none => false
def IfT (b : Bool) (X : Prop) : Prop := match b with | true => X | false => False
def opT (P : Program) (SP : Nat → List Sp) (top : Bool) (o : Oper) (σ : St) (K : AV → St → Prop) : Prop := match top with
  | true => opX P SP o σ K
  | false => opQ P o σ fun av => K av σ
def guardSat (ops : Array Oper) (opn : List (Nat × Bool)) (o : Oper) (σ : St) (X : Prop) : Prop := match o.guard with
  | none => X
  | some g => if opn.contains g then asB (gval σ ops g.1) fun b => IfT (b == g.2) X else False
def vcG (P : Program) (SP : Nat → List Sp) (ops : Array Oper) : Nat → Bool → List (Nat × Bool) → List Nat → St → (St → Prop) → Prop
  | _, _, _, [], σ, K => K σ
  | 0, _, _, _ :: _, _, _ => False
  | n + 1, top, opn, i :: is, σ, K => match ops[i]? with
    | none => False
    | some o =>
      if inGrp opn ops i then
        match o.guard, (i :: is).dropWhile (inGrp opn ops) with
        | some (j, want), pk :: rest => (match dstOf ops j, ops[pk]? with
          | some dj, some po => (match po.op, po.dst with
            | .pick c x y, some d =>
              if grpOk ops (j, want) dj ((i :: is).takeWhile (inGrp opn ops)) [] then
                asB (gval σ ops j) fun b => ∃ r : Bool,
                  (b = want → forceSt (putD (setNos (((i :: is).takeWhile (inGrp opn ops)).filterMap (dstOf ops)) σ) (some dj) (.d (.bool want))) fun σ => vcG P SP ops n false ((j, want) :: opn) ((i :: is).takeWhile (inGrp opn ops)) σ fun σ' => pickIs σ' c x y r) ∧
                  (b = !want → pickIs (putD (setNos (((i :: is).takeWhile (inGrp opn ops)).filterMap (dstOf ops)) σ) (some dj) (.d (.bool (!want)))) c x y r) ∧
                  guardSat ops opn po (setNos (((i :: is).takeWhile (inGrp opn ops)).filterMap (dstOf ops)) σ) (forceSt (putD (setNos (((i :: is).takeWhile (inGrp opn ops)).filterMap (dstOf ops)) σ) (some d) (.d (.bool r))) fun σ => vcG P SP ops n top opn rest σ K)
              else False
            | _, _ => False)
          | _, _ => False)
        | _, _ => False
      else guardSat ops opn o σ (opT P SP top o σ fun av σ' => forceSt (putD σ' o.dst av) fun σ => vcG P SP ops n top opn is σ K)

theorem Sim.putD {F : F0} {G : Gh} {σ : St} {a : Act} {w : World} (h : Sim F G σ a w) (dst : Option Nat) (av : AV) (u : Value) (hu : RA G w av u) : Sim F G (putD σ dst av) (a.put dst u) w := by
  cases dst with
  | none => exact h
  | some d => exact h.set d av u hu
theorem gval_ok {F : F0} {G : Gh} {σ : St} {a : Act} {w : World} (h : Sim F G σ a w) {ops : Array Oper} {j : Nat} {b : Bool} (hg : gval σ ops j = .d (.bool b)) : yielded ops a.tmps j = some b := by
  unfold gval at hg
  unfold yielded
  unfold dstOf at hg
  split at hg
  · rename_i d hd
    rw [hd]
    rw [List.getD_eq_getElem?_getD] at hg
    cases he : σ.env[d]? with
    | none => rw [he] at hg; cases hg
    | some x =>
      rw [he] at hg
      simp only [Option.getD_some] at hg
      subst hg
      obtain ⟨u, hu, hr⟩ := h.env.get d _ he
      simp only [RA, R] at hr
      subst hr
      rw [Array.getElem?_toList] at hu
      simp [hu]
  · cases hg
theorem asB_inv {a : AV} {K : Bool → Prop} (h : asB a K) : ∃ b, a = .d (.bool b) ∧ K b := by
  unfold asB at h
  split at h
  · exact ⟨_, rfl, h⟩
  · exact h.elim
theorem IfT_inv {b : Bool} {X : Prop} (h : IfT b X) : b = true ∧ X := by
  unfold IfT at h
  split at h
  · exact ⟨rfl, h⟩
  · exact h.elim
theorem guardSat_inv {F : F0} {G : Gh} {σ : St} {a : Act} {w : World} (hs : Sim F G σ a w) {ops : Array Oper} {opn : List (Nat × Bool)} {o : Oper} {X : Prop} (h : guardSat ops opn o σ X) : X ∧ Region.wanted o (yielded ops a.tmps) = true := by
  unfold guardSat at h
  unfold Region.wanted
  split at h
  · rename_i hg; rw [hg]; exact ⟨h, rfl⟩
  · rename_i g hg
    split at h
    case isFalse => exact h.elim
    obtain ⟨b, hb, h⟩ := asB_inv h
    obtain ⟨h1, h2⟩ := IfT_inv h
    have : b = g.2 := by simpa using h1
    rw [hg]
    obtain ⟨gj, gw⟩ := g
    simp only at this ⊢
    subst this
    exact ⟨h2, by simp [gval_ok hs hb]⟩
section
variable {P : Program} {ops : Array Oper} {Q : Exit → Act → World → Prop}
theorem wpOps_run {i : Nat} {r : List Nat} {o : Oper} {a : Act} {w : World} (ho : ops[i]? = some o) (hw : Region.wanted o (yielded ops a.tmps) = true) (h : o.wp P a w (wpOps P ops Q r) Q) : wpOps P ops Q (i :: r) a w := by
  unfold wpOps
  rw [ho]
  simp only [hw, if_true]
  exact .inl h
theorem wpOps_skip {i : Nat} {r : List Nat} {o : Oper} {a : Act} {w : World} (ho : ops[i]? = some o) (hw : Region.wanted o (yielded ops a.tmps) = false) (h : wpOps P ops Q r (a.put o.dst undef) w) : wpOps P ops Q (i :: r) a w := by
  unfold wpOps
  rw [ho]
  simp only [hw, Bool.false_eq_true, if_false]
  exact h
end

/-- What has changed of a state where nothing but slots was written. -/
structure Same (ops : Array Oper) (is : List Nat) (σ σ' : St) : Prop where
  objs : σ'.objs = σ.objs
  rooms : σ'.rooms = σ.rooms
  len : σ'.env.length = σ.env.length
  env : ∀ q, q ∉ is.filterMap (dstOf ops) → σ'.env[q]? = σ.env[q]?
theorem Same.refl (ops : Array Oper) (σ : St) (is : List Nat) : Same ops is σ σ := ⟨rfl, rfl, rfl, fun _ _ => rfl⟩
theorem Same.put {ops : Array Oper} {is : List Nat} {σ σ' : St} {i : Nat} {o : Oper} (ho : ops[i]? = some o) (av : AV) (h : Same ops is (Go.Qv.putD σ o.dst av) σ') : Same ops (i :: is) σ σ' := by
  have hd : dstOf ops i = o.dst := by simp [dstOf, ho]
  cases e : o.dst with
  | none =>
    rw [e] at h
    rw [e] at hd
    refine ⟨h.objs, h.rooms, h.len, fun q hq => h.env q ?_⟩
    intro hm; exact hq (by rw [List.filterMap_cons, hd]; exact hm)
  | some d =>
    rw [e] at h
    rw [e] at hd
    refine ⟨h.objs, h.rooms, by rw [h.len]; simp [Go.Qv.putD], fun q hq => ?_⟩
    rw [List.filterMap_cons, hd] at hq
    simp only [List.mem_cons, not_or] at hq
    rw [h.env q hq.2]
    simp only [Go.Qv.putD]
    rw [List.getElem?_set_ne (fun e => hq.1 e.symm)]
theorem setNos_get (ds : List Nat) (σ : St) (q : Nat) : (setNos ds σ).env[q]? = (σ.env[q]?).map fun a => if ds.contains q then .no else a := by
  simp [setNos, List.getElem?_mapIdx]
theorem Sim.setNos {F : F0} {G : Gh} {σ : St} {a : Act} {w : World} (h : Sim F G σ a w) (ds : List Nat) : Sim F G (setNos ds σ) a w :=
  { h with
    env := by
      refine RAL.ofGet (by simp [Go.Qv.setNos, h.env.len]) fun i x u hx hu => ?_
      rw [setNos_get] at hx
      obtain ⟨y, hy, hr⟩ := h.env.get' i u hu
      rw [hy] at hx
      simp only [Option.map_some, Option.some.injEq] at hx
      subst hx
      split
      · simp [RA]
      · exact hr }
theorem Same.setNos {ops : Array Oper} {is : List Nat} {σ σ' : St} (h : Same ops is σ σ') : setNos (is.filterMap (dstOf ops)) σ' = setNos (is.filterMap (dstOf ops)) σ := by
  have he : (Go.Qv.setNos (is.filterMap (dstOf ops)) σ').env = (Go.Qv.setNos (is.filterMap (dstOf ops)) σ).env := by
    apply List.ext_getElem?
    intro q
    rw [setNos_get, setNos_get]
    by_cases hq : q ∈ is.filterMap (dstOf ops)
    · have hc : (is.filterMap (dstOf ops)).contains q = true := by simpa using hq
      simp only [hc, if_true]
      have : q < σ'.env.length ↔ q < σ.env.length := by rw [h.len]
      by_cases hl : q < σ.env.length
      · simp [hl, this.2 hl]
      · simp [Nat.not_lt.1 hl, h.len ▸ Nat.not_lt.1 hl]
    · rw [h.env q hq]
  obtain ⟨e1, o1, r1⟩ := σ
  obtain ⟨e2, o2, r2⟩ := σ'
  have h1 := h.objs
  have h2 := h.rooms
  simp only at h1 h2
  subst h1 h2
  unfold Go.Qv.setNos at he ⊢
  simp only at he ⊢
  rw [he]
theorem setNos_twice (ds : List Nat) (σ : St) : setNos ds (setNos ds σ) = setNos ds σ := by
  unfold setNos
  simp only
  congr 1
  apply List.ext_getElem?
  intro q
  simp only [List.getElem?_mapIdx, Option.map_map]
  congr 1
  funext a
  simp only [Function.comp]
  split <;> rfl

/-- The operations of a group whose guard says no are passed over. -/
theorem skip_group {P : Program} {ops : Array Oper} {Q : Exit → Act → World → Prop} {j dj : Nat} {want b : Bool} (hne : b ≠ want) (hdj : dstOf ops j = some dj) : ∀ (is prev : List Nat) (a : Act) (w : World) (tail : List Nat), grpOk ops (j, want) dj is prev = true →
    yielded ops a.tmps j = some b → (∀ k, k ∈ prev → yielded ops a.tmps k = none) → (∀ a' : Act, a'.tmps.size = a.tmps.size → a'.defers = a.defers → (∀ q, q ∉ is.filterMap (dstOf ops) → a'.tmps[q]? = a.tmps[q]?) → wpOps P ops Q tail a' w) → wpOps P ops Q (is ++ tail) a w
  | [], prev, a, w, tail, _, _, _, h => h a rfl rfl fun _ _ => rfl
  | i :: is, prev, a, w, tail, hg, hy, hp, h => by
    simp only [grpOk] at hg
    split at hg
    case h_2 => cases hg
    rename_i o ho
    simp only [Bool.and_eq_true, Bool.not_eq_true'] at hg
    obtain ⟨⟨h1, h2⟩, h3⟩ := hg
    have hdi : dstOf ops i = o.dst := by simp [dstOf, ho]
    have hw : Region.wanted o (yielded ops a.tmps) = false := by
      unfold Region.wanted
      split at h1
      · rename_i g' hg'
        rw [hg']
        simp only [Bool.or_eq_true, beq_iff_eq, List.contains_iff_mem] at h1
        obtain ⟨gj, gw⟩ := g'
        rcases h1 with h1 | h1
        · cases h1
          simp [hy, hne]
        · simp [hp _ h1]
      · cases h1
    have hundef : ∀ (t : Array Value) (d : Nat), ((t.setIfInBounds d undef)[d]?) = none ∨ ((t.setIfInBounds d undef)[d]?) = some undef := by
      intro t d
      rw [Array.getElem?_setIfInBounds]
      split
      · split
        · exact .inr rfl
        · exact .inl rfl
      · rename_i hh; exact absurd rfl hh
    have hyk : ∀ k v, yielded ops a.tmps k = v → dstOf ops k ≠ o.dst → yielded ops (a.put o.dst undef).tmps k = v := by
      intro k v hv hne
      unfold yielded at hv ⊢
      unfold dstOf at hne
      cases hd : o.dst with
      | none => exact hv
      | some d =>
        rw [hd] at hne
        cases hk : (ops[k]?).bind (·.dst) with
        | none => rw [hk] at hv; exact hv
        | some dk =>
          rw [hk] at hne hv
          simp only [Act.put, Option.bind_some] at hv ⊢
          rw [Array.getElem?_setIfInBounds, if_neg (fun e => hne (by rw [e]))]
          exact hv
    have hself : ∀ k, dstOf ops k = o.dst → o.dst ≠ none → yielded ops (a.put o.dst undef).tmps k = none := by
      intro k hk hn
      unfold yielded
      unfold dstOf at hk
      rw [hk]
      cases hd : o.dst with
      | none => exact absurd hd hn
      | some d =>
        simp only [Act.put, Option.bind_some]
        rcases hundef a.tmps d with e | e <;> rw [e] <;> rfl
    refine wpOps_skip ho hw (skip_group hne hdj is (i :: prev) (a.put o.dst undef) w tail h3 ?_ ?_ ?_)
    · refine hyk j _ hy ?_
      rw [hdj]
      intro e
      rw [← e] at h2
      simp at h2
    · intro k hk
      by_cases hkd : dstOf ops k = o.dst
      · by_cases hn : o.dst = none
        · unfold yielded
          unfold dstOf at hkd
          rw [hkd, hn]; rfl
        · exact hself k hkd hn
      · rcases List.mem_cons.1 hk with rfl | hk
        · exact absurd hdi hkd
        · exact hyk k _ (hp k hk) hkd
    · intro a' e1 e2 e3
      refine h a' ?_ ?_ fun q hq => ?_
      · rw [e1]; cases o.dst <;> simp [Act.put]
      · rw [e2]; cases o.dst <;> rfl
      · rw [List.filterMap_cons, hdi] at hq
        cases hd : o.dst with
        | none =>
          rw [hd] at hq e3
          exact e3 q hq
        | some d =>
          rw [hd] at hq e3
          simp only [List.mem_cons, not_or] at hq
          rw [e3 q hq.2]
          simp only [Act.put]
          rw [Array.getElem?_setIfInBounds, if_neg (fun e => hq.1 e.symm)]

theorem bool_ne {b c : Bool} (h : ¬ b = c) : b = !c := by cases b <;> cases c <;> first | rfl | exact absurd rfl h
theorem putD_getNo {σ : St} {d : Nat} {av : AV} {q : Nat} (h : q ≠ d) : (Go.Qv.putD σ (some d) av).env[q]? = σ.env[q]? := by
  simp only [Go.Qv.putD]
  rw [List.getElem?_set_ne (fun e => h e.symm)]
theorem St.set_same {σ : St} {d : Nat} {x : AV} (h : σ.env[d]? = some x) : Go.Qv.putD σ (some d) x = σ := by
  obtain ⟨e, o, r⟩ := σ
  simp only [Go.Qv.putD] at h ⊢
  congr 1
  apply List.ext_getElem?
  intro q
  rw [List.getElem?_set]
  split
  · subst_vars
    rw [h]
    split
    · rfl
    · rename_i hl
      have := (List.getElem?_eq_some_iff.1 h).1
      omega
  · rfl
theorem grpOk_dj {ops : Array Oper} {g : Nat × Bool} {dj : Nat} : ∀ {is prev : List Nat}, grpOk ops g dj is prev = true → dj ∉ is.filterMap (dstOf ops)
  | [], _, _ => by simp
  | i :: is, prev, h => by
    simp only [grpOk] at h
    split at h
    case h_2 => cases h
    rename_i o ho
    simp only [Bool.and_eq_true, Bool.not_eq_true'] at h
    have hd : dstOf ops i = o.dst := by simp [dstOf, ho]
    rw [List.filterMap_cons, hd]
    cases e : o.dst with
    | none => exact grpOk_dj h.2
    | some d =>
      simp only [List.mem_cons, not_or]
      refine ⟨?_, grpOk_dj h.2⟩
      rintro rfl
      rw [e] at h
      simp at h
theorem pickIs_ok {P : Program} {ops : Array Oper} {F : F0} {G : Gh} {σ : St} {a : Act} {w : World} (hs : Sim F G σ a w) {o : Oper} {c x y : Operand} {r : Bool} (ho : o.op = .pick c x y) (h : pickIs σ c x y r) : (execOp a.eval o).run P w = .ok (.value (.bool r)) w := by
  unfold pickIs at h
  obtain ⟨b, hb, hu, h⟩ := asB_elim h (ev_ok hs c)
  obtain ⟨av, h1, h2⟩ := pickA_ok h (ev_ok hs x) (ev_ok hs y)
  split at h2
  · subst h2
    simp only [RA, R] at h1
    simp only [execOp, ho, hu, asBool, Sem.run_bind, Sem.run_pure, Result.andThen_ok]
    rw [h1]
  · exact h2.elim
theorem vcG_ok {P : Program} {SP : Nat → List Sp} {ops : Array Oper} {F : F0} {Q : Exit → Act → World → Prop} : ∀ (n : Nat) (top : Bool) (opn : List (Nat × Bool)) (is : List Nat) (σ : St) (K : St → Prop), vcG P SP ops n top opn is σ K →
    ∀ (G : Gh) (a : Act) (w : World) (tail : List Nat), Sim F G σ a w → (∀ σ' G' a' w', Sim F G' σ' a' w' → K σ' → (top = false → Same ops is σ σ') → wpOps P ops Q tail a' w') → wpOps P ops Q (is ++ tail) a w := by
  intro n
  induction n with
  | zero =>
    intro top opn is σ K h G a w tail hs hk
    cases is with
    | nil => simp only [vcG] at h; exact hk σ G a w hs h fun _ => Same.refl _ _ _
    | cons i is => simp only [vcG] at h
  | succ n ih =>
    intro top opn is σ K h G a w tail hs hk
    cases is with
    | nil => simp only [vcG] at h; exact hk σ G a w hs h fun _ => Same.refl _ _ _
    | cons i is =>
      simp only [vcG, forceSt_eq] at h
      split at h
      case h_1 => exact h.elim
      rename_i o ho
      split at h
      case isFalse =>
        obtain ⟨h, hw⟩ := guardSat_inv hs h
        refine wpOps_run ho hw ?_
        cases top with
        | true =>
          refine opX_ok hs h ?_
          intro av σ' G' u w' h1 h2 h3
          exact ih _ _ _ _ _ h3 G' _ w' tail (h1.putD o.dst av u h2) fun σ2 G2 a2 w2 g1 g2 g3 => hk σ2 G2 a2 w2 g1 g2 fun e => by cases e
        | false =>
          refine opQ_ok hs h ?_
          intro av G' u w' h1 h2 h3
          exact ih _ _ _ _ _ h3 G' _ w' tail (h1.putD o.dst av u h2) fun σ2 G2 a2 w2 g1 g2 g3 => hk σ2 G2 a2 w2 g1 g2 fun e => (g3 e).put ho av
      rename_i hin
      split at h
      case h_2 => exact h.elim
      rename_i j want pk rest hgd hdw
      split at h
      case h_2 => exact h.elim
      rename_i dj po hdj hpo
      split at h
      case h_2 => exact h.elim
      rename_i c x y d hpop hpd
      split at h
      case isFalse => exact h.elim
      rename_i hgo
      obtain ⟨grp, hgrp⟩ : ∃ grp, grp = (i :: is).takeWhile (inGrp opn ops) := ⟨_, rfl⟩
      rw [← hgrp] at h hgo
      have hlist : i :: is = grp ++ pk :: rest := by rw [hgrp, ← hdw]; exact (List.takeWhile_append_dropWhile).symm
      have hdjn := grpOk_dj hgo
      obtain ⟨b, hb, r, ht, hf, hrest⟩ := asB_inv h
      have hyj := gval_ok hs hb
      have hdje : σ.env[dj]? = some (.d (.bool b)) := by
        unfold gval at hb
        rw [hdj] at hb
        simp only [List.getD_eq_getElem?_getD] at hb
        cases e : σ.env[dj]? with
        | none => rw [e] at hb; cases hb
        | some z => rw [e] at hb; simp only [Option.getD_some] at hb; rw [hb]
      obtain ⟨σ0, hσ0⟩ : ∃ σ0, σ0 = setNos (grp.filterMap (dstOf ops)) σ := ⟨_, rfl⟩
      rw [← hσ0] at ht hf hrest
      have hdje0 : σ0.env[dj]? = some (.d (.bool b)) := by
        rw [hσ0, setNos_get, hdje]
        have hc : (grp.filterMap (dstOf ops)).contains dj = false := by simpa using hdjn
        simp only [Option.map_some, hc, Bool.false_eq_true, if_false]
      have hlit : putD σ0 (some dj) (.d (.bool b)) = σ0 := St.set_same hdje0
      -- what follows the pick
      have after : ∀ (G' : Gh) (a' : Act) (w' : World), Sim F G' σ0 a' w' → Region.wanted po (yielded ops a'.tmps) = true ∧ wpOps P ops Q (rest ++ tail) (a'.put po.dst (.bool r)) w' := by
        intro G' a' w' hs'
        rw [hpd]
        obtain ⟨hrest, hwant⟩ := guardSat_inv hs' hrest
        refine ⟨hwant, ?_⟩
        refine ih _ _ _ _ _ hrest G' _ w' tail (hs'.putD (some d) (.d (.bool r)) (.bool r) (by simp only [RA, R])) fun σ2 G2 a2 w2 g1 g2 g3 => hk σ2 G2 a2 w2 g1 g2 fun e => ?_
        have hsm := g3 e
        rw [hlist]
        have hpkd : dstOf ops pk = some d := by simp [dstOf, hpo, hpd]
        refine ⟨by rw [hsm.objs, hσ0]; rfl, by rw [hsm.rooms, hσ0]; rfl, by rw [hsm.len, hσ0]; show ((List.mapIdx _ σ.env).set d _).length = _; rw [List.length_set, List.length_mapIdx], fun q hq => ?_⟩
        rw [List.filterMap_append, List.filterMap_cons, hpkd] at hq
        simp only [List.mem_append, List.mem_cons, not_or] at hq
        rw [hsm.env q hq.2.2, putD_getNo hq.2.1, hσ0, setNos_get]
        have hc : (grp.filterMap (dstOf ops)).contains q = false := by simpa using hq.1
        simp only [hc, Bool.false_eq_true, if_false]
        cases σ.env[q]? <;> rfl
      rw [hlist, List.append_assoc, List.cons_append]
      by_cases hbw : b = want
      · subst hbw
        have hin := ht rfl
        rw [hlit] at hin
        have hs0 : Sim F G σ0 a w := by rw [hσ0]; exact hs.setNos _
        refine ih _ _ _ _ _ hin G a w (pk :: (rest ++ tail)) hs0 fun σ2 G2 a2 w2 g1 g2 g3 => ?_
        have hsm := g3 rfl
        have hσ2 : setNos (grp.filterMap (dstOf ops)) σ2 = σ0 := by rw [hsm.setNos, hσ0, setNos_twice]
        have hs2 : Sim F G2 σ0 a2 w2 := by rw [← hσ2]; exact g1.setNos _
        exact wpOps_run hpo (after G2 a2 w2 hs2).1 (wp_value (pickIs_ok (ops := ops) g1 hpop g2) (after G2 a2 w2 hs2).2)
      · have hb' : b = !want := bool_ne hbw
        have hpk := hf hb'
        rw [← hb', hlit] at hpk
        have hs0 : Sim F G σ0 a w := by rw [hσ0]; exact hs.setNos _
        refine skip_group hbw hdj grp [] a w (pk :: (rest ++ tail)) hgo hyj (fun k hk => by cases hk) fun a' e1 e2 e3 => ?_
        have hs' : Sim F G σ0 a' w :=
          { hs0 with
            defers := by rw [e2]; exact hs0.defers
            env := by
              refine RAL.ofGet (by rw [Array.length_toList, e1, ← Array.length_toList]; exact hs0.env.len) fun q z u hz hu => ?_
              by_cases hq : q ∈ grp.filterMap (dstOf ops)
              · rw [hσ0, setNos_get] at hz
                have hc : (grp.filterMap (dstOf ops)).contains q = true := by simpa using hq
                cases he : σ.env[q]? with
                | none => rw [he] at hz; cases hz
                | some z0 =>
                  rw [he] at hz
                  simp only [Option.map_some, hc, if_true, Option.some.injEq] at hz
                  subst hz
                  simp [RA]
              · rw [Array.getElem?_toList, e3 q hq, ← Array.getElem?_toList] at hu
                obtain ⟨u', g1, g2⟩ := hs0.env.get q z hz
                rw [hu] at g1; cases g1
                exact g2 }
        exact wpOps_run hpo (after G a' w hs').1 (wp_value (pickIs_ok (ops := ops) hs' hpop hpk) (after G a' w hs').2)
end Go.Qv
