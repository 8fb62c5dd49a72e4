/- Regions whose order is drawn: blocks of quiet operations. Over any program. -/
import Derived.Test.YtmmefmebkgcpfaaGreatDoorQvS
namespace Go.Qv
open Go

def dsts (ops : Array Oper) (U : List Nat) : List Nat := U.filterMap (dstOf ops)
def alcOf (ops : Array Oper) (i : Nat) : Option Nat := match ops[i]? with
  | some o => (match o.op with | .alloc _ => o.dst | _ => none)
  | none => none
def alcs (ops : Array Oper) (U : List Nat) : List Nat := U.filterMap (alcOf ops)
/-- The state in which the operations U have not been. -/
def mask (ops : Array Oper) (U : List Nat) (σ : St) : St := { env := (setNos (dsts ops U) σ).env, objs := σ.objs.filter fun p => !(alcs ops U).contains p.1, rooms := σ.rooms }
def notBefore (T : Array Nat) (B : List Nat) (i : Nat) : List Nat := B.filter fun j => !tst T i j
def goneB (d : Nat) (σ : St) : Bool := !AV.hasL d σ.env && (σ.objs.all (fun p => p.1 != d && !p.2.has d) && !σ.rooms.contains d)
/-- The state with a flag laid open. -/
def putG (σ : St) (ops : Array Oper) (j : Nat) (b : Bool) : St := putD σ (dstOf ops j) (.d (.bool b))
theorem putG_eq0 {σ : St} {ops : Array Oper} {j : Nat} {b : Bool} (h : gval σ ops j = .d (.bool b)) : putG σ ops j b = σ := by
  unfold gval at h
  unfold putG
  split at h
  · rename_i d hd
    rw [hd]
    rw [List.getD_eq_getElem?_getD] at h
    cases he : σ.env[d]? with
    | none => rw [he] at h; cases h
    | some x =>
      rw [he] at h
      simp only [Option.getD_some] at h
      subst h
      exact St.set_same he
  · cases h
theorem putG_eq {σ : St} {ops : Array Oper} {U : List Nat} {j : Nat} {b : Bool} (h : gval (mask ops U σ) ops j = .d (.bool b)) : putG σ ops j b = σ := by
  unfold gval at h
  unfold putG
  split at h
  · rename_i d hd
    rw [hd]
    rw [List.getD_eq_getElem?_getD] at h
    simp only [mask, setNos_get] at h
    cases he : σ.env[d]? with
    | none => rw [he] at h; simp at h
    | some x =>
      rw [he] at h
      simp only [Option.map_some, Option.getD_some] at h
      split at h
      · cases h
      · subst h
        exact St.set_same he
  · cases h
def vcB (P : Program) (ops : Array Oper) (T : Array Nat) (B : List Nat) : List Nat → St → (St → Prop) → Prop
  | [], σ, K => K σ
  | i :: is, σ, K => match ops[i]? with
    | none => False
    | some o => match o.op with
      | .alloc t => (match o.dst, o.guard with
        | some d, none => (match zeroL P t with
          | some zs => if d < 100000 then forceSt { env := σ.env.set d (.ptr d 0), objs := (d, .cells (zs.map .d)) :: σ.objs, rooms := σ.rooms } fun σ => vcB P ops T B is σ K else False
          | none => False)
        | _, _ => False)
      | _ => (match o.guard with
        | none => opQ P o (mask ops (notBefore T B i) σ) fun av => forceSt (putD σ o.dst av) fun σ => vcB P ops T B is σ K
        | some (j, want) => asB (gval (mask ops (notBefore T B i) σ) ops j) fun b => CB (b == want)
          (opQ P o (mask ops (notBefore T B i) (putG σ ops j want)) fun av => forceSt (putD (putG σ ops j want) o.dst av) fun σ => vcB P ops T B is σ K)
          (forceSt (putD (putG σ ops j (!want)) o.dst .no) fun σ => vcB P ops T B is σ K))
/-- The allocations of a block are new at its end. -/
def allocsB (ops : Array Oper) (T : Array Nat) (B : List Nat) (σ : St) : Bool := B.all fun i => match alcOf ops i with
  | some d => goneB d (mask ops (B.filter fun j => j == i || tst T j i) σ) && (σ.objs.filter fun p => p.1 == d).length == 1
  | none => true

/-! ### What the text's order tells -/
def slotIs (σ : St) (dst : Option Nat) (V : AV) : Prop := ∀ d, dst = some d → ∀ x, σ.env[d]? = some x → x = V
inductive Fact (P : Program) (ops : Array Oper) (T : Array Nat) (B : List Nat) (σe : St) (i : Nat) (o : Oper) : Prop where
  | run (V : AV) (hg : ∀ j want, o.guard = some (j, want) → gval (mask ops (notBefore T B i) σe) ops j = .d (.bool want)) (h : opQ P o (mask ops (notBefore T B i) σe) fun av => av = V) (hs : slotIs σe o.dst V) (ha : alcOf ops i = none)
  | skip (j : Nat) (want : Bool) (hg : o.guard = some (j, want)) (h : gval (mask ops (notBefore T B i) σe) ops j = .d (.bool (!want))) (hs : slotIs σe o.dst .no) (ha : alcOf ops i = none)
  | alloc (t d : Nat) (zs : List DV) (ho : o.op = .alloc t) (hd : o.dst = some d) (hg : o.guard = none) (hlt : d < 100000) (hz : zeroL P t = some zs) (hs : slotIs σe (some d) (.ptr d 0)) (hm : (d, Ob.cells (zs.map .d)) ∈ σe.objs)
structure Ext (ops : Array Oper) (is : List Nat) (σ σe : St) : Prop where
  objs : ∃ new, σe.objs = new ++ σ.objs ∧ ∀ p, p ∈ new → p.1 ∈ alcs ops is
  rooms : σe.rooms = σ.rooms
  len : σe.env.length = σ.env.length
  env : ∀ q, q ∉ dsts ops is → σe.env[q]? = σ.env[q]?
theorem mask_get (ops : Array Oper) (U : List Nat) (σ : St) (q : Nat) : (mask ops U σ).env[q]? = (σ.env[q]?).map fun a => if (dsts ops U).contains q then .no else a := setNos_get _ _ _
theorem mask_ext {ops : Array Oper} {is U : List Nat} {σ σe : St} (h : Ext ops is σ σe) (hU : ∀ i, i ∈ is → i ∈ U) : mask ops U σe = mask ops U σ := by
  obtain ⟨⟨new, h1, h2⟩, h3, h4, h5⟩ := h
  have hd : ∀ q, q ∈ dsts ops is → q ∈ dsts ops U := by
    intro q hq
    simp only [dsts, List.mem_filterMap] at hq ⊢
    obtain ⟨i, hi, e⟩ := hq
    exact ⟨i, hU i hi, e⟩
  have ha : ∀ q, q ∈ alcs ops is → q ∈ alcs ops U := by
    intro q hq
    simp only [alcs, List.mem_filterMap] at hq ⊢
    obtain ⟨i, hi, e⟩ := hq
    exact ⟨i, hU i hi, e⟩
  have e1 : (mask ops U σe).env = (mask ops U σ).env := by
    apply List.ext_getElem?
    intro q
    rw [mask_get, mask_get]
    by_cases hq : q ∈ dsts ops is
    · have hc : (dsts ops U).contains q = true := by simpa using hd q hq
      simp only [hc, if_true]
      by_cases hl : q < σ.env.length
      · simp [hl, h4]
      · simp [Nat.not_lt.1 hl, h4]
    · rw [h5 q hq]
  have e2 : (mask ops U σe).objs = (mask ops U σ).objs := by
    simp only [mask, h1, List.filter_append]
    have : new.filter (fun p => !(alcs ops U).contains p.1) = [] := by
      rw [List.filter_eq_nil_iff]
      intro p hp
      have := ha _ (h2 p hp)
      simpa using this
    rw [this, List.nil_append]
  have e3 : (mask ops U σe).rooms = (mask ops U σ).rooms := h3
  revert e1 e2 e3
  generalize mask ops U σe = A
  generalize mask ops U σ = B
  intro e1 e2 e3
  obtain ⟨a1, a2, a3⟩ := A
  obtain ⟨b1, b2, b3⟩ := B
  simp only at e1 e2 e3
  subst e1 e2 e3
  rfl
theorem Ext.refl (ops : Array Oper) (is : List Nat) (σ : St) : Ext ops is σ σ := ⟨⟨[], rfl, fun p h => by cases h⟩, rfl, rfl, fun _ _ => rfl⟩
theorem dsts_cons (ops : Array Oper) (i : Nat) (is : List Nat) (q : Nat) : q ∈ dsts ops (i :: is) ↔ dstOf ops i = some q ∨ q ∈ dsts ops is := by
  simp only [dsts, List.mem_filterMap, List.mem_cons]
  constructor
  · rintro ⟨j, rfl | h, e⟩
    · exact .inl e
    · exact .inr ⟨j, h, e⟩
  · rintro (e | ⟨j, h, e⟩)
    · exact ⟨i, .inl rfl, e⟩
    · exact ⟨j, .inr h, e⟩
theorem alcs_cons {ops : Array Oper} {i : Nat} {is : List Nat} {q : Nat} (h : q ∈ alcs ops is) : q ∈ alcs ops (i :: is) := by
  simp only [alcs, List.mem_filterMap, List.mem_cons] at h ⊢
  obtain ⟨j, h, e⟩ := h
  exact ⟨j, .inr h, e⟩
theorem Ext.put {ops : Array Oper} {i : Nat} {is : List Nat} {σ σe : St} {o : Oper} (ho : ops[i]? = some o) {V : AV} (h : Ext ops is (Go.Qv.putD σ o.dst V) σe) : Ext ops (i :: is) σ σe := by
  obtain ⟨⟨new, h1, h2⟩, h3, h4, h5⟩ := h
  have hd : dstOf ops i = o.dst := by simp [dstOf, ho]
  have p1 : (Go.Qv.putD σ o.dst V).objs = σ.objs := by cases o.dst <;> rfl
  have p2 : (Go.Qv.putD σ o.dst V).rooms = σ.rooms := by cases o.dst <;> rfl
  have p3 : (Go.Qv.putD σ o.dst V).env.length = σ.env.length := by cases o.dst <;> simp [Go.Qv.putD]
  refine ⟨⟨new, by rw [h1, p1], fun p hp => alcs_cons (h2 p hp)⟩, by rw [h3, p2], by rw [h4, p3], fun q hq => ?_⟩
  rw [dsts_cons] at hq
  simp only [not_or] at hq
  rw [h5 q hq.2]
  cases e : o.dst with
  | none => rfl
  | some d =>
    rw [hd, e] at hq
    exact putD_getNo fun e' => hq.1 (by rw [e'])
theorem slot_put {ops : Array Oper} {is : List Nat} {σ σe : St} {dst : Option Nat} {V : AV} (h : Ext ops is (Go.Qv.putD σ dst V) σe) (hn : ∀ d, dst = some d → d ∉ dsts ops is) : slotIs σe dst V := by
  intro d hd x hx
  subst hd
  rw [h.env d (hn d rfl)] at hx
  simp only [Go.Qv.putD, List.getElem?_set] at hx
  split at hx
  · split at hx
    · cases hx; rfl
    · cases hx
  · rename_i hh; simp at hh
theorem nodup_dsts {ops : Array Oper} {i : Nat} {is : List Nat} {d : Nat} (h : (dsts ops (i :: is)).Nodup) (hd : dstOf ops i = some d) : d ∉ dsts ops is ∧ (dsts ops is).Nodup := by
  simp only [dsts, List.filterMap_cons, hd, List.nodup_cons] at h
  exact h
theorem nodup_dsts' {ops : Array Oper} {i : Nat} {is : List Nat} (h : (dsts ops (i :: is)).Nodup) : (dsts ops is).Nodup := by
  simp only [dsts, List.filterMap_cons] at h
  split at h
  · exact h
  · exact (List.nodup_cons.1 h).2
theorem vcB_facts {P : Program} {ops : Array Oper} {T : Array Nat} {B : List Nat} : ∀ {is : List Nat} {σ : St} {K : St → Prop}, vcB P ops T B is σ K → (dsts ops is).Nodup → (∀ i, i ∈ is → i ∈ B) → is.Pairwise (fun i j => tst T i j = false) → (∀ i, i ∈ is → tst T i i = false) →
    ∃ σe, K σe ∧ Ext ops is σ σe ∧ ∀ i, i ∈ is → ∃ o, ops[i]? = some o ∧ Fact P ops T B σe i o
  | [], σ, K, h, _, _, _, _ => ⟨σ, h, Ext.refl _ _ _, fun i hi => by cases hi⟩
  | i :: is, σ, K, h, hnd, hB, hp, hii => by
    simp only [vcB, forceSt_eq] at h
    split at h
    · exact h.elim
    rename_i o ho
    have hdo : dstOf ops i = o.dst := by simp [dstOf, ho]
    have hU : ∀ k, k ∈ i :: is → k ∈ notBefore T B i := by
      intro k hk
      simp only [notBefore, List.mem_filter]
      refine ⟨hB k hk, ?_⟩
      rcases List.mem_cons.1 hk with rfl | hk
      · rw [hii _ (List.mem_cons_self ..)]; rfl
      · rw [(List.pairwise_cons.1 hp).1 k hk]; rfl
    have hrec := fun σ' (h' : vcB P ops T B is σ' K) => vcB_facts h' (nodup_dsts' hnd) (fun k hk => hB k (List.mem_cons_of_mem _ hk)) (List.pairwise_cons.1 hp).2 (fun k hk => hii k (List.mem_cons_of_mem _ hk))
    have hne : ∀ d, o.dst = some d → d ∉ dsts ops is := fun d hd => (nodup_dsts hnd (by rw [hdo, hd])).1
    have quiet : (∀ t, o.op ≠ .alloc t) → (∀ j want, o.guard = some (j, want) → gval (mask ops (notBefore T B i) σ) ops j = .d (.bool want)) → (opQ P o (mask ops (notBefore T B i) σ) fun av => vcB P ops T B is (putD σ o.dst av) K) →
        ∃ σe, K σe ∧ Ext ops (i :: is) σ σe ∧ ∀ k, k ∈ i :: is → ∃ o, ops[k]? = some o ∧ Fact P ops T B σe k o := by
      intro hna hg hq0
      obtain ⟨V, h, hq1⟩ := det_opQ P o _ _ hq0
      have hq := hq1 (fun av => av = V) rfl
      obtain ⟨σe, hK, he, hf⟩ := hrec _ h
      have he' := he.put ho
      have hm := mask_ext he' hU
      refine ⟨σe, hK, he', fun k hk => ?_⟩
      rcases List.mem_cons.1 hk with rfl | hk
      · refine ⟨o, ho, .run V ?_ ?_ (slot_put he hne) ?_⟩
        · rw [hm]; exact hg
        · rw [hm]; exact hq
        · simp only [alcOf, ho]
          try split
          all_goals first | rfl | (rename_i t e; exact absurd e (hna t))
      · exact hf k hk
    split at h
    · -- an allocation
      rename_i t hop
      split at h
      case h_2 => exact h.elim
      rename_i d hd hg
      split at h
      case h_2 => exact h.elim
      rename_i zs hz
      split at h
      case isFalse => exact h.elim
      rename_i hlt
      obtain ⟨σe, hK, ⟨⟨new, h1, h2⟩, h3, h4, h5⟩, hf⟩ := hrec _ h
      simp only at h1 h3 h4 h5
      refine ⟨σe, hK, ⟨⟨new ++ [(d, .cells (zs.map .d))], by rw [h1]; simp, fun p hp => ?_⟩, h3, by rw [h4]; simp, fun q hq => ?_⟩, fun k hk => ?_⟩
      · rcases List.mem_append.1 hp with hp | hp
        · exact alcs_cons (h2 p hp)
        · simp only [List.mem_singleton] at hp
          subst hp
          simp only [alcs, List.mem_filterMap]
          exact ⟨i, List.mem_cons_self .., by simp [alcOf, ho, hop, hd]⟩
      · rw [dsts_cons] at hq
        simp only [not_or] at hq
        rw [h5 q hq.2, List.getElem?_set_ne]
        rintro rfl
        exact hq.1 (by rw [hdo, hd])
      · rcases List.mem_cons.1 hk with rfl | hk
        · refine ⟨o, ho, .alloc t d zs hop hd hg hlt hz ?_ (by rw [h1]; simp)⟩
          intro d' hd' x hx
          cases hd'
          rw [h5 d (hne d hd), List.getElem?_set] at hx
          split at hx
          · split at hx
            · cases hx; rfl
            · cases hx
          · rename_i hh; simp at hh
        · exact hf k hk
    · rename_i hna
      have hna' : alcOf ops i = none := by
        simp only [alcOf, ho]
        try split
        all_goals first | rfl | (rename_i t e; exact absurd e (hna t))
      split at h
      · rename_i hg
        exact quiet (fun t e => hna t e) (fun j want e => by rw [hg] at e; cases e) h
      · rename_i j want hg
        obtain ⟨b, hb, h⟩ := asB_inv h
        have h' := CB.elim h
        split at h'
        · rename_i hbw
          have hbw : b = want := by simpa using hbw
          rw [hbw] at hb
          rw [putG_eq hb] at h'
          exact quiet (fun t e => hna t e) (fun j' want' e => by rw [hg] at e; cases e; exact hb) h'
        · rename_i hbw
          have hb' : b = !want := bool_ne (by simpa using hbw)
          rw [hb'] at hb
          rw [putG_eq hb] at h'
          obtain ⟨σe, hK, he, hf⟩ := hrec _ h'
          have he' := he.put ho
          have hm := mask_ext he' hU
          refine ⟨σe, hK, he', fun k hk => ?_⟩
          rcases List.mem_cons.1 hk with rfl | hk
          · exact ⟨o, ho, .skip j want hg (by rw [hm]; exact hb) (slot_put he hne) hna'⟩
          · exact hf k hk
end Go.Qv
