/- More operations that leave the world alone, and all of them under one word. Over any program. -/
import Derived.Test.YtmmefmebkgcpfaaGreatDoorQvE
namespace Go.Qv
open Go

/-! ### pick -/
def pickA (b : Bool) (x y : AV) (K : AV → Prop) : Prop :=
  match x, y with
  | .d (.bool p), .d (.bool q) => K (.d (.bool (cond b p q)))
  | .d p, .d q => K (.d (cond b p q))
  | x, y => match b with | true => K x | false => K y
theorem pickA_ok {G : Gh} {w : World} {b : Bool} {x y : AV} {u v : Value} {K : AV → Prop} (h : pickA b x y K) (hx : RA G w x u) (hy : RA G w y v) : ∃ av, RA G w av (if b then u else v) ∧ K av := by
  unfold pickA at h
  split at h
  · refine ⟨_, ?_, h⟩
    cases b
    · exact hy
    · exact hx
  · refine ⟨_, ?_, h⟩
    cases b
    · exact hy
    · exact hx
  · split at h
    · exact ⟨_, hx, h⟩
    · exact ⟨_, hy, h⟩

/-! ### Structs made and taken apart -/
def vParts (P : Program) (fs : List Field) : List (Nat × AV) → List AV → (List AV → Prop) → Prop
  | [], acc, K => K acc
  | (i, a) :: ps, acc, K => match fs[i]? with
    | some f => if hasT P f.type then
        (if isAg P f.type then cellsA a true (szOf P f.type) fun cs => (if f.offset + cs.length ≤ acc.length then vParts P fs ps (putAt acc f.offset cs) K else False)
         else cellsA a false (szOf P f.type) fun cs => (if f.offset + cs.length ≤ acc.length then vParts P fs ps (putAt acc f.offset cs) K else False))
      else False
    | none => False
theorem foldl_put : ∀ (vs : List Value) (off i : Nat) (cs : Array Value), off + i + vs.length ≤ cs.size →
    ((vs.zipIdx i).foldl (fun (cs : Array Value) (p : Value × Nat) => cs.setIfInBounds (off + p.2) p.1) cs).toList = cs.toList.take (off + i) ++ vs ++ cs.toList.drop (off + i + vs.length)
  | [], off, i, cs, h => by simp
  | v :: vs, off, i, cs, h => by
    simp only [List.length_cons] at h
    rw [List.zipIdx_cons, List.foldl_cons, foldl_put vs off (i + 1) _ (by simp; omega)]
    simp only [Array.toList_setIfInBounds]
    apply List.ext_getElem?
    intro j
    have hl : cs.toList.length = cs.size := Array.length_toList
    simp only [List.getElem?_append, List.length_append, List.length_take, List.length_set, hl, List.length_cons]
    by_cases h1 : j < off + i
    · rw [if_pos (by omega), if_pos (by omega), if_pos (by omega), if_pos (by omega), List.getElem?_take_of_lt (by omega), List.getElem?_take_of_lt h1, List.getElem?_set_ne (by omega)]
    · by_cases h2 : j = off + i
      · subst h2
        rw [if_pos (by omega), if_pos (by omega), if_pos (by omega), if_neg (by omega), List.getElem?_take_of_lt (by omega), List.getElem?_set_self (by omega)]
        simp [show min (off + i) cs.size = off + i by omega]
      · by_cases h3 : j < off + i + (vs.length + 1)
        · rw [if_pos (by omega), if_neg (by omega), if_pos (by omega), if_neg (by omega)]
          rw [show min (off + i) cs.size = off + i by omega, show min (off + (i + 1)) cs.size = off + i + 1 by omega]
          rw [show j - (off + i) = (j - (off + i + 1)) + 1 by omega, List.getElem?_cons_succ]
        · rw [if_neg (by omega), if_neg (by omega)]
          simp only [List.getElem?_drop]
          rw [List.getElem?_set_ne (by omega)]
          congr 1
          omega
theorem RAL.put {G : Gh} {w : World} {as vs : List AV} {us ws : List Value} (h : RAL G w as us) (k : RAL G w vs ws) (off : Nat) (hl : off + vs.length ≤ as.length) : RAL G w (putAt as off vs) (us.take off ++ ws ++ us.drop (off + vs.length)) := by
  have h1 := h.len
  have h2 := k.len
  unfold putAt
  have t : RAL G w (as.take off) (us.take off) := by simpa using h.sub 0 off
  have d : RAL G w (as.drop (off + vs.length)) (us.drop (off + vs.length)) := by
    have := h.sub (off + vs.length) as.length
    rwa [List.take_of_length_le (by simp), List.take_of_length_le (by simp; omega)] at this
  exact (t.append k).append d
theorem vParts_ok {P : Program} {G : Gh} {w : World} (fs : Array Field) (places : Array (Nat × Nat)) (hpl : ∀ (i : Nat) (f : Field), fs[i]? = some f → places[i]? = some (f.offset, szOf P f.type)) :
    ∀ (ps : List (Nat × AV)) (vs : List (Nat × Value)) (acc : List AV) (cells : Array Value) (K : List AV → Prop), vParts P fs.toList ps acc K →
      ps.map (·.1) = vs.map (·.1) → RAL G w (ps.map (·.2)) (vs.map (·.2)) → RAL G w acc cells.toList → (∀ y ∈ cells.toList, Val1 y = true) →
      ∃ (cs : List AV) (out : Array Value), Instr.fill (places[·]?) cells vs = some out ∧ RAL G w cs out.toList ∧ (∀ y ∈ out.toList, Val1 y = true) ∧ K cs
  | [], vs, acc, cells, K, h, he, hr, ha, h1 => by
    cases vs with
    | cons v vs => simp at he
    | nil => exact ⟨acc, cells, rfl, ha, h1, h⟩
  | (i, a) :: ps, vs, acc, cells, K, h, he, hr, ha, h1 => by
    cases vs with
    | nil => simp at he
    | cons v vs =>
      obtain ⟨i', v⟩ := v
      simp only [List.map_cons, List.cons.injEq] at he
      obtain ⟨rfl, he⟩ := he
      simp only [List.map_cons, RAL] at hr
      obtain ⟨u, us, e, hu, hus⟩ := hr
      simp only [List.cons.injEq] at e
      obtain ⟨rfl, rfl⟩ := e
      unfold vParts at h
      split at h
      case h_2 => exact h.elim
      rename_i f hf
      split at h
      case isFalse => exact h.elim
      rename_i hT
      have hk : ∃ cs, (if f.offset + cs.length ≤ acc.length then vParts P fs.toList ps (putAt acc f.offset cs) K else False) ∧ RAL G w cs v.cells.toList ∧ cs.length = szOf P f.type ∧ (∀ y ∈ v.cells.toList, Val1 y = true) := by
        split at h
        · exact cellsA_elim h hu
        · exact cellsA_elim h hu
      obtain ⟨cs, hk, hcs, hl, hv1⟩ := hk
      split at hk
      case isFalse => exact hk.elim
      rename_i hfit
      have hal := ha.len
      rw [Array.length_toList] at hal
      have hcl := hcs.len
      rw [Array.length_toList] at hcl
      have hp := hpl i f (by rw [← Array.getElem?_toList]; exact hf)
      have hfold := foldl_put v.cells.toList f.offset 0 cells (by rw [Array.length_toList]; omega)
      obtain ⟨cs', out, g1, g2, g3, g4⟩ := vParts_ok (P := P) (G := G) (w := w) fs places hpl ps vs (putAt acc f.offset cs) ((v.cells.zipIdx).foldl (fun (cs : Array Value) (p : Value × Nat) => cs.setIfInBounds (f.offset + p.2) p.1) cells) K hk he hus (by
          rw [← Array.foldl_toList, Array.toList_zipIdx, hfold]
          simp only [Nat.add_zero]
          rw [Array.length_toList, hcl]
          exact ha.put hcs f.offset hfit) (by
          rw [← Array.foldl_toList, Array.toList_zipIdx, hfold]
          intro y hy
          simp only [List.mem_append] at hy
          rcases hy with (hy | hy) | hy
          · exact h1 y (List.mem_of_mem_take hy)
          · exact hv1 y hy
          · exact h1 y (List.mem_of_mem_drop hy))
      refine ⟨cs', out, ?_, g2, g3, g4⟩
      unfold Instr.fill
      simp only [hp]
      rw [if_neg]
      · exact g1
      · intro hc
        simp only [Bool.or_eq_true, decide_eq_true_eq] at hc
        omega
def zeroL (P : Program) (t : Nat) : Option (List DV) := match P.info? t with
  | some i => (match i.zero with | some v => valL v.cells.toList | none => none)
  | none => none
theorem zeroL_ok {P : Program} {t : Nat} {xs : List DV} (h : zeroL P t = some xs) (w : World) (S : Nat → Nat) : ∃ v, (zeroValue t).run P w = .ok v w ∧ RList w S xs v.cells.toList ∧ ∀ y ∈ v.cells.toList, Val1 y = true := by
  unfold zeroL at h
  split at h
  case h_2 => cases h
  rename_i i hi
  split at h
  case h_2 => cases h
  rename_i v hv
  obtain ⟨a, b⟩ := valL_ok (w := w) (S := S) h
  exact ⟨v, by simp [zeroValue, typeInfo, hi, hv], a, b⟩
def structOf (P : Program) (t : Nat) : Option (List Field) := match P.underlying t with | some (.struct fs) => some fs.toList | _ => none
theorem structOf_eq {P : Program} {t : Nat} {fs : List Field} (h : structOf P t = some fs) : P.underlying t = some (.struct fs.toArray) := by
  unfold structOf at h
  split at h
  · rename_i fs' hf
    cases h
    simpa using hf
  · cases h
def vBuild (P : Program) (t : Nat) (ps : List (Nat × AV)) (K : AV → Prop) : Prop :=
  match structOf P t, zeroL P t with
  | some fs, some z => if fs.all (fun f => hasT P f.type) then vParts P fs ps (z.map .d) (fun cs => K (mkAgg cs)) else False
  | _, _ => False
theorem run_places (P : Program) (w : World) : ∀ (fs : List Field), (∀ f ∈ fs, hasT P f.type = true) → (fs.mapM fun f => do pure (f.offset, ← sizeOf f.type) : Sem (List (Nat × Nat))).run P w = .ok (fs.map fun f => (f.offset, szOf P f.type)) w
  | [], _ => by simp
  | f :: fs, h => by
    have ih := run_places P w fs (fun g hg => h g (List.mem_cons_of_mem _ hg))
    simp only [List.mapM_cons, Sem.run_bind, run_sizeOf' P f.type w (h f (List.mem_cons_self ..)), Result.andThen_ok, Sem.run_pure, List.map_cons]
    rw [ih]
    rfl
theorem vBuild_ok {P : Program} {G : Gh} {w : World} {t : Nat} {ps : List (Nat × AV)} {vs : Array (Nat × Value)} {K : AV → Prop} (h : vBuild P t ps K) (he : ps.map (·.1) = vs.toList.map (·.1)) (hr : RAL G w (ps.map (·.2)) (vs.toList.map (·.2))) :
    ∃ av v, (Instr.build t vs).run P w = .ok v w ∧ RA G w av v ∧ K av := by
  unfold vBuild at h
  split at h
  case h_2 => exact h.elim
  rename_i fs z hf hz
  split at h
  case isFalse => exact h.elim
  rename_i hall
  have hu := structOf_eq hf
  obtain ⟨zv, hzr, hz1, hz2⟩ := zeroL_ok hz w G.S
  have hpl := run_places P w fs (fun f hf => by simpa using List.all_eq_true.1 hall f hf)
  have hpa : (fs.toArray.mapM fun f => do pure (f.offset, ← sizeOf f.type) : Sem (Array (Nat × Nat))).run P w = .ok (fs.map fun f => (f.offset, szOf P f.type)).toArray w := by
    rw [List.mapM_toArray, Sem.run_map, hpl]; rfl
  obtain ⟨cs, out, g1, g2, g3, g4⟩ := vParts_ok (P := P) (G := G) (w := w) fs.toArray (fs.map fun f => (f.offset, szOf P f.type)).toArray (by intro i f hi; simp at hi; simp [hi]) ps vs.toList (z.map .d) zv.cells _ (by simpa using h) he hr (RAL.of_RList hz1) hz2
  refine ⟨_, _, ?_, mkAgg_ok g2 g3, g4⟩
  simp only [Instr.build, Sem.run_bind, hzr, Result.andThen_ok, run_underlying hu, hpa, g1, Sem.run_pure]
end Go.Qv
