/- Regions whose order is drawn: blocks played. Over any program. -/
import Derived.Test.YtmmefmebkgcpfaaGreatDoorQvU
namespace Go.Qv
open Go

/-- Each operation's own forerunners stand ahead of it. -/
def ordOk (ops : Array Oper) : List Nat → List Nat → Bool
  | _, [] => true
  | done, i :: is => (match ops[i]? with
    | some o => (bindsOf o).all fun k => done.contains k
    | none => false) && ordOk ops (i :: done) is
def sepB (T : Array Nat) (B rest : List Nat) : Bool := rest.all fun r => B.all fun b => tst T r b
theorem ordOk_first {ops : Array Oper} {X : List Nat} : ∀ {B done : List Nat}, ordOk ops done B = true → (∀ i, i ∈ done → i ∈ X) → (∃ b, b ∈ B ∧ b ∉ X) → ∃ b o, b ∈ B ∧ b ∉ X ∧ ops[b]? = some o ∧ ∀ k, k ∈ bindsOf o → k ∈ X
  | [], done, _, _, ⟨b, hb, _⟩ => by cases hb
  | i :: is, done, h, hd, ⟨b, hb, hbX⟩ => by
    simp only [ordOk, Bool.and_eq_true] at h
    obtain ⟨h1, h2⟩ := h
    by_cases hi : i ∈ X
    · obtain ⟨b', o, g1, g2, g3⟩ := ordOk_first (X := X) h2 (fun k hk => by
        rcases List.mem_cons.1 hk with rfl | hk
        · exact hi
        · exact hd k hk) (by
        rcases List.mem_cons.1 hb with rfl | hb
        · exact absurd hi hbX
        · exact ⟨b, hb, hbX⟩)
      exact ⟨b', o, List.mem_cons_of_mem _ g1, g2, g3⟩
    · split at h1
      · rename_i o ho
        refine ⟨i, o, List.mem_cons_self .., hi, ho, fun k hk => hd k ?_⟩
        simpa using List.all_eq_true.1 h1 k hk
      · cases h1
theorem unl_nil {B X : List Nat} (h : (unl B X).length = 0) : ∀ i, i ∈ B → i ∈ X := by
  intro i hi
  by_cases hx : i ∈ X
  · exact hx
  · have : i ∈ unl B X := mem_unl.2 ⟨hi, hx⟩
    rw [List.eq_nil_of_length_eq_zero h] at this
    cases this
theorem unl_step {B X : List Nat} {i : Nat} (hi : i ∈ B) (hx : i ∉ X) : (unl B (i :: X)).length < (unl B X).length := by
  have h1 : unl B (i :: X) = (unl B X).filter fun j => j != i := by
    simp only [unl, List.filter_filter]
    congr 1
    funext j
    by_cases e : j = i
    · subst e; simp
    · simp [e]
  rw [h1]
  have hm : i ∈ unl B X := mem_unl.2 ⟨hi, hx⟩
  have := List.length_filter_lt_length_iff_exists (p := fun j => j != i) (l := unl B X)
  exact this.2 ⟨i, hm, by simp⟩
theorem one_of_len {α : Type} {l : List α} {x y : α} (h : l.length = 1) (hx : x ∈ l) (hy : y ∈ l) : x = y := by
  match l, h with
  | [z], _ =>
    simp at hx hy
    rw [hx, hy]
theorem block_ok {P : Program} {ops : Array Oper} {T : Array Nat} {F : F0} {Q : Exit → Act → World → Prop} (ht : tabOk ops T = true) {done B rest : List Nat} {σe : St} (hcov : ∀ i, i < ops.size → i ∈ done ∨ i ∈ B ∨ i ∈ rest) (hord : ordOk ops done B = true) (hsep : sepB T B rest = true)
    (facts : ∀ i, i ∈ B → ∃ o, ops[i]? = some o ∧ Fact P ops T B σe i o) (hal : allocsB ops T B σe = true)
    (next : ∀ listed X n G a w, Lst ops T listed X → (∀ i, i ∈ X ↔ i ∈ done ∨ i ∈ B) → n + X.length = ops.size → Sim F G σe a w → wpAny P .any ops Q n listed a w) :
    ∀ m listed X n G a w, (unl B X).length = m → Lst ops T listed X → (∀ i, i ∈ done → i ∈ X) → (∀ i, i ∈ X → i ∈ done ∨ i ∈ B) → n + X.length = ops.size → Sim F G (mask ops (unl B X) σe) a w → wpAny P .any ops Q n listed a w := by
  intro m
  induction m using Nat.strongRecOn with
  | _ m ih =>
  intro listed X n G a w hm hL hdX hXd hn hs
  by_cases hz : (unl B X).length = 0
  · have hall := unl_nil hz
    rw [List.eq_nil_of_length_eq_zero hz, mask_nil] at hs
    refine next listed X n G a w hL (fun i => ⟨hXd i, fun h => ?_⟩) hn hs
    rcases h with h | h
    · exact hdX i h
    · exact hall i h
  have hex : ∃ b, b ∈ B ∧ b ∉ X := by
    cases e : unl B X with
    | nil => rw [e] at hz; exact absurd rfl hz
    | cons b bs =>
      have : b ∈ unl B X := by rw [e]; exact List.mem_cons_self ..
      exact ⟨b, mem_unl.1 this⟩
  obtain ⟨b0, o0, hb0, hb0X, ho0, hd0⟩ := ordOk_first hord hdX hex
  have hb0lt : b0 < ops.size := (Array.getElem?_eq_some_iff.1 ho0).1
  refine play ht hL hn (hL.mk_ready ho0 hb0X hd0) ?_
  intro i o n' ho hiX hlt hD hL' hn'
  have hiB : i ∈ B := by
    rcases hcov i hlt with h | h | h
    · exact absurd (hdX i h) hiX
    · exact h
    · have h1 := List.all_eq_true.1 (List.all_eq_true.1 hsep i h) b0 hb0
      exact absurd (hD b0 hb0lt h1) hb0X
  have blt : ∀ j, j ∈ B → j < ops.size := fun j hj => by
    obtain ⟨o, ho, _⟩ := facts j hj
    exact (Array.getElem?_eq_some_iff.1 ho).1
  obtain ⟨o', ho', f⟩ := facts i hiB
  rw [ho] at ho'; cases ho'
  have hdo : dstOf ops i = o.dst := by simp [dstOf, ho]
  have hsmall : Sim F G (mask ops (notBefore T B i) σe) a w := hs.masks fun j hj => by
    obtain ⟨h1, h2⟩ := mem_unl.1 hj
    simp only [notBefore, List.mem_filter]
    refine ⟨h1, ?_⟩
    cases e : tst T i j
    · rfl
    · exact absurd (hD j (blt j h1) e) h2
  have go : ∀ G' V u w' (S : St), Sim F G' S a w' → S.env = (mask ops (unl B X) σe).env → (∀ p, p ∈ (mask ops (unl B (i :: X)) σe).objs → p ∈ S.objs) → S.rooms = σe.rooms → RA G' w' V u → slotIs σe o.dst V → wpAny P .any ops Q n' (listed.setIfInBounds i true) (a.put o.dst u) w' := by
    intro G' V u w' S h1 hSe hSo hSr h2 hv
    refine ih _ (by rw [← hm]; exact unl_step hiB hiX) _ (i :: X) n' G' _ w' rfl hL' (fun k hk => List.mem_cons_of_mem _ (hdX k hk)) (fun k hk => ?_) hn' (h1.ran (dst := o.dst) hSe hSo hSr (fun q hq => ?_) hv h2)
    · rcases List.mem_cons.1 hk with rfl | hk
      · exact .inr hiB
      · exact hXd k hk
    · simp only [dsts, List.mem_filterMap] at hq ⊢
      obtain ⟨j, hj, e⟩ := hq
      by_cases hji : j = i
      · subst hji; exact .inr (by rw [← hdo, e])
      · refine .inl ⟨j, mem_unl.2 ⟨(mem_unl.1 hj).1, ?_⟩, e⟩
        intro hm
        rcases List.mem_cons.1 hm with h | h
        · exact hji h
        · exact (mem_unl.1 hj).2 h
  have objsub : alcOf ops i = none → ∀ p, p ∈ (mask ops (unl B (i :: X)) σe).objs → p ∈ (mask ops (unl B X) σe).objs := by
    intro ha p hp
    simp only [mask, List.mem_filter, Bool.not_eq_true', List.contains_eq_mem, decide_eq_false_iff_not] at hp ⊢
    refine ⟨hp.1, fun hm => hp.2 ?_⟩
    simp only [alcs, List.mem_filterMap] at hm ⊢
    obtain ⟨j, hj, e⟩ := hm
    refine ⟨j, mem_unl.2 ⟨(mem_unl.1 hj).1, ?_⟩, e⟩
    intro hm
    rcases List.mem_cons.1 hm with h | h
    · subst h; rw [ha] at e; cases e
    · exact (mem_unl.1 hj).2 h
  unfold wpOp
  rw [ho]
  simp only
  cases f with
  | run V hg h hv ha =>
    have hw : Region.wanted o (yielded ops a.tmps) = true := by
      unfold Region.wanted
      split
      · rfl
      · rename_i j want hgd
        have := gval_ok hsmall (hg j want hgd)
        simp [this]
    rw [if_pos hw]
    refine .inl (opQ_ok2 hsmall hs h fun av G' u w' h1 h2 h3 => ?_)
    subst h3
    exact go G' av u w' _ h1 rfl (objsub ha) rfl h2 hv
  | skip j want hgd h hv ha =>
    have hw : Region.wanted o (yielded ops a.tmps) = false := by
      unfold Region.wanted
      rw [hgd]
      have := gval_ok hsmall h
      simp [this]
    rw [if_neg (by rw [hw]; simp)]
    exact go G .no undef w _ hs rfl (objsub ha) rfl (by simp only [RA]) hv
  | alloc t d zs hop hd hgd hdlt hz hv hmem =>
    have hw : Region.wanted o (yielded ops a.tmps) = true := by
      unfold Region.wanted
      rw [hgd]
    rw [if_pos hw]
    have hai : alcOf ops i = some d := by simp [alcOf, ho, hop, hd]
    have hali := List.all_eq_true.1 hal i hiB
    rw [hai] at hali
    simp only [Bool.and_eq_true, beq_iff_eq] at hali
    obtain ⟨hgone, hone⟩ := hali
    have hgone' := goneB_mask hgone (U' := unl B X) fun j hj => by
      simp only [List.mem_filter, Bool.or_eq_true, beq_iff_eq] at hj
      refine mem_unl.2 ⟨hj.1, fun hjX => ?_⟩
      rcases hj.2 with rfl | hj2
      · exact hiX hjX
      · exact hiX (hL.clo j hjX i hlt hj2)
    have hkill := goneB_kill hgone'
    have hva : vAlloc P t d (mask ops (unl B X) σe) fun av S => av = .ptr d 0 ∧ S = newSt (mask ops (unl B X) σe) d (.cells (zs.map .d)) := by
      unfold vAlloc
      rw [if_pos hdlt, hz]
      exact ⟨rfl, rfl⟩
    refine .inl (vAlloc_ok hs hop hva fun av S G' u w' h1 h2 h3 => ?_)
    obtain ⟨rfl, rfl⟩ := h3
    have hnew : newSt (mask ops (unl B X) σe) d (.cells (zs.map .d)) = { env := (mask ops (unl B X) σe).env, objs := (d, .cells (zs.map .d)) :: (mask ops (unl B X) σe).objs, rooms := σe.rooms } := by
      unfold newSt
      rw [hkill]
      rfl
    rw [hnew] at h1
    refine go G' (.ptr d 0) u w' _ h1 rfl (fun p hp => ?_) rfl h2 (by rw [hd]; exact hv)
    by_cases hpd : p.1 = d
    · have hp' : p ∈ σe.objs.filter fun p => p.1 == d := by
        simp only [mask, List.mem_filter] at hp ⊢
        exact ⟨hp.1, by simpa using hpd⟩
      have hq' : (d, Ob.cells (zs.map .d)) ∈ σe.objs.filter fun p => p.1 == d := by
        simp only [List.mem_filter]
        exact ⟨hmem, by simp⟩
      rw [one_of_len hone hp' hq']
      exact List.mem_cons_self ..
    · refine List.mem_cons_of_mem _ ?_
      simp only [mask, List.mem_filter, Bool.not_eq_true', List.contains_eq_mem, decide_eq_false_iff_not] at hp ⊢
      refine ⟨hp.1, fun hm => hp.2 ?_⟩
      simp only [alcs, List.mem_filterMap] at hm ⊢
      obtain ⟨j, hj, e⟩ := hm
      refine ⟨j, mem_unl.2 ⟨(mem_unl.1 hj).1, ?_⟩, e⟩
      intro hm
      rcases List.mem_cons.1 hm with h | h
      · subst h; rw [hai] at e; cases e; exact hpd rfl
      · exact (mem_unl.1 hj).2 h
end Go.Qv
