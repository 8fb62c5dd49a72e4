/- Cells read and written; what single operations come to. Over any program. -/
import Derived.Test.YtmmefmebkgcpfaaGreatDoorQvB
import Derived.Laws.Sem
import Derived.Laws.Entries
import Derived.ChangeKeysEq
namespace Go.Qv
open Go

theorem add_cell (b off j : Nat) : (⟨b, off, none⟩ : Addr).add j = ⟨b, off + j, none⟩ := by
  unfold Addr.add
  split
  · subst_vars; rfl
  · rfl
theorem run_loadCellsFrom (P : Program) (w : World) (b off : Nat) : ∀ (ys : List Value) (i : Nat) (acc : Array Value), (∀ j y, ys[j]? = some y → cl w b (off + i + j) = some y) →
    (loadCellsFrom ⟨b, off, none⟩ i ys.length acc).run P w = .ok (acc ++ ys.toArray) w
  | [], i, acc, _ => by simp [loadCellsFrom]
  | y :: ys, i, acc, h => by
    have h0 := h 0 y rfl
    simp only [cl, Nat.add_zero] at h0
    simp only [List.length_cons, loadCellsFrom, Sem.run_bind, add_cell, run_load, h0, Result.andThen_ok]
    rw [run_loadCellsFrom P w b off ys (i + 1) (acc.push y) (fun j z hz => by
      have := h (j + 1) z (by simpa using hz)
      rw [← this]; congr 1; omega)]
    congr 1
    simp
theorem run_loadCells (P : Program) (w : World) (b off : Nat) (ys : List Value) (n : Nat) (hn : ys.length = n) (h : ∀ j y, ys[j]? = some y → cl w b (off + j) = some y) :
    (loadCells ⟨b, off, none⟩ n).run P w = .ok ys.toArray w := by
  subst hn
  unfold loadCells
  rw [run_loadCellsFrom P w b off ys 0 #[] (by simpa using h)]
  simp

theorem cl_of_heap {w : World} {b : Nat} {cs : Array Value} {T : Nat} {fr : Nat × Nat} (h : w.heap[b]? = some (.cells cs T fr)) (i : Nat) : cl w b i = cs[i]? := by
  simp [cl, World.cell?, h]
theorem setCell_heap {w : World} {b : Nat} {cs : Array Value} {T : Nat} {fr : Nat × Nat} (h : w.heap[b]? = some (.cells cs T fr)) (i : Nat) (v : Value) :
    w.setCell ⟨b, i, none⟩ v = { w with heap := w.heap.setIfInBounds b (.cells (cs.setIfInBounds i v) T fr) } := by
  unfold World.setCell
  congr 1
  apply Array.ext_getElem?
  intro j
  rw [Array.getElem?_modify, Array.getElem?_setIfInBounds]
  by_cases hj : b = j
  · subst hj
    have hb := (Array.getElem?_eq_some_iff.1 h).1
    rw [if_pos rfl, if_pos rfl, if_pos hb, h]
    rfl
  · rw [if_neg hj, if_neg hj]
def withBlock (w : World) (b : Nat) (o : Obj) : World := { w with heap := w.heap.setIfInBounds b o }
theorem withBlock_at {w : World} {b : Nat} (hb : b < w.heap.size) (o : Obj) : (withBlock w b o).heap[b]? = some o := by
  simp [withBlock, hb]
theorem withBlock_ne (w : World) {b j : Nat} (o : Obj) (h : j ≠ b) : (withBlock w b o).heap[j]? = w.heap[j]? := by
  simp only [withBlock]
  rw [Array.getElem?_setIfInBounds, if_neg (fun e => h e.symm)]
theorem withBlock_size (w : World) (b : Nat) (o : Obj) : (withBlock w b o).heap.size = w.heap.size := by simp [withBlock]
theorem withBlock_twice (w : World) (b : Nat) (o o' : Obj) : withBlock (withBlock w b o) b o' = withBlock w b o' := by
  simp only [withBlock]
  congr 1
  apply Array.ext_getElem?
  intro j
  simp only [Array.getElem?_setIfInBounds, Array.size_setIfInBounds]
  split <;> rfl
theorem withBlock_self {w : World} {b : Nat} {o : Obj} (h : w.heap[b]? = some o) : withBlock w b o = w := by
  simp only [withBlock]
  congr 1
  apply Array.ext_getElem?
  intro j
  rw [Array.getElem?_setIfInBounds]
  split
  · subst_vars
    rw [if_pos (Array.getElem?_eq_some_iff.1 h).1, h]
  · rfl
theorem frozen_no {w : World} {b : Nat} {cs : Array Value} {T : Nat} (h : w.heap[b]? = some (.cells cs T (0, 0))) (i : Nat) : w.frozen? ⟨b, i, none⟩ = false := by
  simp [World.frozen?, h]
theorem run_storeCells (P : Program) (b off T : Nat) : ∀ (vs : List Value) (i : Nat) (w : World) (cs : Array Value), w.heap[b]? = some (.cells cs T (0, 0)) → off + i + vs.length ≤ cs.size → (∀ v ∈ vs, Val1 v = true) →
    ∃ cs' : Array Value, (storeCells ⟨b, off, none⟩ vs i).run P w = .ok () (withBlock w b (.cells cs' T (0, 0))) ∧ cs'.size = cs.size ∧ (∀ j v, vs[j]? = some v → cs'[off + i + j]? = some v) ∧ (∀ j, j < off + i ∨ off + i + vs.length ≤ j → cs'[j]? = cs[j]?)
  | [], i, w, cs, hw, _, _ => ⟨cs, by simp [storeCells, withBlock_self hw], rfl, fun j v h => by simp at h, fun j _ => rfl⟩
  | v :: vs, i, w, cs, hw, hl, h1 => by
    have hb := (Array.getElem?_eq_some_iff.1 hw).1
    simp only [List.length_cons] at hl
    have hc : w.cell? ⟨b, off + i, none⟩ = some (cs[off + i]'(by omega)) := by
      have := cl_of_heap hw (off + i)
      rw [cl] at this
      rw [this]; simp [show off + i < cs.size by omega]
    have hv : v.oneCell' = true := by
      have := h1 v (List.mem_cons_self ..)
      cases v <;> simp_all [Val1, Value.oneCell']
    obtain ⟨cs', hr, h2, h3, h4⟩ := run_storeCells P b off T vs (i + 1) (withBlock w b (.cells (cs.setIfInBounds (off + i) v) T (0, 0))) (cs.setIfInBounds (off + i) v) (withBlock_at hb _) (by simp; omega) (fun u hu => h1 u (List.mem_cons_of_mem _ hu))
    refine ⟨cs', ?_, by simpa using h2, ?_, ?_⟩
    · simp only [storeCells, Sem.run_bind, add_cell]
      rw [run_store P w _ _ _ hv, hc]
      simp only [frozen_no hw, Bool.false_eq_true, if_false, Result.andThen_ok]
      rw [setCell_heap hw]
      change (storeCells ⟨b, off, none⟩ vs (i + 1)).run P (withBlock w b _) = _
      rw [hr, withBlock_twice]
    · intro j u hu
      cases j with
      | zero =>
        simp at hu; subst hu
        rw [h4 (off + i + 0) (by omega)]
        simp [show off + i < cs.size by omega]
      | succ j =>
        have := h3 j u (by simpa using hu)
        rw [← this]; congr 1; omega
    · intro j hj
      simp only [List.length_cons] at hj
      rw [h4 j (by omega)]
      rw [Array.getElem?_setIfInBounds, if_neg (by omega)]

/-! ### A store into an object -/
theorem RAL.get' {G : Gh} {w : World} {as : List AV} {us : List Value} (h : RAL G w as us) (i : Nat) (u : Value) (hi : us[i]? = some u) : ∃ a, as[i]? = some a ∧ RA G w a u := by
  have hl := h.len
  have h1 := (List.getElem?_eq_some_iff.1 hi).1
  obtain ⟨u', e, hu⟩ := h.get i (as[i]'(by omega)) (by simp [show i < as.length by omega])
  rw [hi] at e; cases e
  exact ⟨_, by simp [show i < as.length by omega], hu⟩
theorem RAL.ofGet {G : Gh} {w : World} : ∀ {as : List AV} {us : List Value}, us.length = as.length → (∀ (i : Nat) (a : AV) (u : Value), as[i]? = some a → us[i]? = some u → RA G w a u) → RAL G w as us
  | [], us, hl, _ => by simp only [RAL]; exact List.eq_nil_of_length_eq_zero hl
  | a :: as, [], hl, _ => by simp at hl
  | a :: as, u :: us, hl, h => ⟨u, us, rfl, h 0 a u rfl rfl, RAL.ofGet (by simpa using hl) fun i b v hb hv => h (i + 1) b v (by simpa using hb) (by simpa using hv)⟩
/-- A list with others in its place from off on. -/
def putAt (cs : List AV) (off : Nat) (vs : List AV) : List AV := cs.take off ++ vs ++ cs.drop (off + vs.length)

theorem putAt_get (cs vs : List AV) (off : Nat) (hl : off + vs.length ≤ cs.length) (i : Nat) : (putAt cs off vs)[i]? = if i < off then cs[i]? else if i < off + vs.length then vs[i - off]? else cs[i]? := by
  unfold putAt
  have ht : (cs.take off).length = off := by rw [List.length_take]; omega
  rw [List.append_assoc]
  by_cases h1 : i < off
  · rw [if_pos h1, List.getElem?_append_left (by omega), List.getElem?_take_of_lt h1]
  · rw [if_neg h1, List.getElem?_append_right (by omega), ht]
    by_cases h2 : i < off + vs.length
    · rw [if_pos h2, List.getElem?_append_left (by omega)]
    · rw [if_neg h2, List.getElem?_append_right (by omega), List.getElem?_drop]
      congr 1; omega
theorem putAt_len (cs vs : List AV) (off : Nat) (hl : off + vs.length ≤ cs.length) : (putAt cs off vs).length = cs.length := by
  unfold putAt
  simp only [List.length_append, List.length_take, List.length_drop]
  omega

/-- A block of which nothing is protected, and which is looked after, is written anew. -/
theorem Sim.write {F : F0} {G : Gh} {σ : St} {a : Act} {w : World} (h : Sim F G σ a w) {k : Nat} (hk : Live G σ.objs σ.rooms k) (o : Obj) (hz : G.S (G.β k) = 0) : Sim F G (σ.drop k) a (withBlock w (G.β k) o) := by
  have hp : Pres w G.S (withBlock w (G.β k) o) G.S := ⟨fun _ => Nat.le_refl _, fun b i hi => by
    have e : b ≠ G.β k := by rintro rfl; rw [hz] at hi; omega
    exact cl_old (withBlock_ne w o e) i⟩
  refine (h.drop k).upd (G' := G) (fun _ => True) ⟨fun _ _ => rfl, fun _ _ => rfl, fun _ _ => rfl, rfl⟩ hp (fun _ _ => trivial) (fun _ _ => trivial) (fun _ _ => trivial) (fun _ _ => trivial) (fun j hj => ⟨withBlock_ne w o ?_, rfl⟩) ?_
  · intro e
    exact hj.drop.2 (h.ctx.inj j k hj.drop.1 hk e)
  · exact
      { os := h.fr.os, tape := h.fr.tape, output := h.fr.output
        size := by rw [withBlock_size]; exact h.fr.size
        keep := fun b hb hm => by
          have e : b ≠ G.β k := by
            rintro rfl
            rcases h.mine k hk with hm' | hs
            · exact hm hm'
            · omega
          rw [withBlock_ne w o e]
          exact h.fr.keep b hb hm
        pres := h.fr.pres.trans hp
        fin := fun b hb => h.fr.fin b (by rw [withBlock_size] at hb; exact hb) }
def setObj (σ : St) (k : Nat) (o : Ob) : St := { σ.drop k with objs := (k, o) :: (σ.drop k).objs }
theorem St.drop_no (σ : St) (k : Nat) (o : Ob) : (k, o) ∉ (σ.drop k).objs := by simp [St.drop]
theorem St.drop_noR (σ : St) (k : Nat) : k ∉ (σ.drop k).rooms := by simp [St.drop]
theorem Sim.writeO {F : F0} {G : Gh} {σ : St} {a : Act} {w : World} (h : Sim F G σ a w) {k : Nat} {o0 : Ob} (hk : (k, o0) ∈ σ.objs) (o : Obj) (ob : Ob) (hz : G.S (G.β k) = 0)
    (ho : ObjOk G (withBlock w (G.β k) o) k ob) : Sim F G (setObj σ k ob) a (withBlock w (G.β k) o) := by
  have hl : Live G σ.objs σ.rooms k := .inl ⟨o0, hk⟩
  refine (h.write hl o hz).addObj k ob ho (σ.drop_no k) (σ.drop_noR k) (fun j hj e => ?_) (h.mine k hl)
  exact hj.drop.2 (h.ctx.inj j k hj.drop.1 hl e)
theorem Sim.store {F : F0} {G : Gh} {σ : St} {a : Act} {w : World} (h : Sim F G σ a w) (P : Program) {k : Nat} {cs : List AV} (hk : (k, .cells cs) ∈ σ.objs) (off : Nat) (vs : List AV) (us : List Value)
    (hv : RAL G w vs us) (h1 : ∀ u ∈ us, Val1 u = true) (hl : off + vs.length ≤ cs.length) :
    ∃ w', (storeCells ⟨G.β k, off, none⟩ us 0).run P w = .ok () w' ∧ Sim F G (setObj σ k (.cells (putAt cs off vs))) a w' := by
  obtain ⟨ys, T, hb, hc, hc1, hz⟩ := h.ctx.okO k _ hk
  have hlen := hc.len
  have hvl := hv.len
  obtain ⟨cs', hr, hs, hw1, hw2⟩ := run_storeCells P (G.β k) off T us 0 w ys hb (by rw [← Array.length_toList, hlen]; omega) h1
  have hbl := (Array.getElem?_eq_some_iff.1 hb).1
  have hp : Pres w G.S (withBlock w (G.β k) (.cells cs' T (0, 0))) G.S := ⟨fun _ => Nat.le_refl _, fun b i hi => by
    have e : b ≠ G.β k := by rintro rfl; rw [hz] at hi; omega
    exact cl_old (withBlock_ne w _ e) i⟩
  refine ⟨_, hr, h.writeO hk _ _ hz ⟨cs', T, withBlock_at hbl _, RAL.ofGet ?_ ?_, ?_, hz⟩⟩
  · rw [putAt_len _ _ _ hl, Array.length_toList, hs, ← hlen, Array.length_toList]
  · intro i av u hi hu
    rw [putAt_get _ _ _ hl] at hi
    rw [Array.getElem?_toList] at hu
    have mono : ∀ (av : AV) (u : Value), RA G w av u → RA G (withBlock w (G.β k) (.cells cs' T (0, 0))) av u := fun av u hr => RA.mono hp (fun _ => True) ⟨fun _ _ => rfl, fun _ _ => rfl, fun _ _ => rfl, rfl⟩ av u (fun _ _ => trivial) hr
    split at hi
    · rw [hw2 i (by omega)] at hu
      obtain ⟨u', e, hu'⟩ := hc.get i av hi
      rw [Array.getElem?_toList, hu] at e; cases e
      exact mono _ _ hu'
    · split at hi
      · obtain ⟨u', e, hu'⟩ := hv.get (i - off) av hi
        have := hw1 (i - off) u' e
        rw [show off + 0 + (i - off) = i by omega, hu] at this; cases this
        exact mono _ _ hu'
      · rw [hw2 i (by omega)] at hu
        obtain ⟨u', e, hu'⟩ := hc.get i av hi
        rw [Array.getElem?_toList, hu] at e; cases e
        exact mono _ _ hu'
  · intro u hu
    obtain ⟨i, hi⟩ := List.getElem?_of_mem hu
    rw [Array.getElem?_toList] at hi
    by_cases hin : off ≤ i ∧ i < off + us.length
    · have := hw1 (i - off) (us[i - off]'(by omega)) (by simp [show i - off < us.length by omega])
      rw [show off + 0 + (i - off) = i by omega, hi] at this
      cases this
      exact h1 _ (List.getElem_mem _)
    · rw [hw2 i (by omega)] at hi
      exact hc1 u (List.mem_of_getElem? (by rw [Array.getElem?_toList]; exact hi))
end Go.Qv
