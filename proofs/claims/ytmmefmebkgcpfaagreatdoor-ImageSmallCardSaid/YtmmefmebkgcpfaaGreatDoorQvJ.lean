/- Operations that make memory or write it. Over any program. -/
import Derived.Test.YtmmefmebkgcpfaaGreatDoorQvI
import Derived.Laws.Append
namespace Go.Qv
open Go

/-- What is asked of what follows an operation. -/
def Nxt (P : Program) (o : Oper) (a : Act) (F : F0) (next : Act → World → Prop) (K : AV → St → Prop) : Prop :=
  ∀ av σ' G' u w', Sim F G' σ' a w' → RA G' w' av u → K av σ' → next (a.put o.dst u) w'
theorem wp_value {P : Program} {o : Oper} {a : Act} {w w' : World} {next : Act → World → Prop} {Q : Exit → Act → World → Prop} {u : Value} (hr : (execOp a.eval o).run P w = .ok (.value u) w') (h : next (a.put o.dst u) w') : o.wp P a w next Q := by
  unfold Oper.wp
  rw [hr]
  exact h
theorem wp_skip' {P : Program} {o : Oper} {a : Act} {w w' : World} {next : Act → World → Prop} {Q : Exit → Act → World → Prop} (hr : (execOp a.eval o).run P w = .ok .skip w') (h : next (a.put o.dst undef) w') : o.wp P a w next Q := by
  unfold Oper.wp
  rw [hr]
  exact h
def newSt (σ : St) (d : Nat) (o : Ob) : St := { σ.kill d with objs := (d, o) :: (σ.kill d).objs }

/-! ### alloc, box, store -/
theorem run_newVar (P : Program) (w : World) (t : Nat) (v : Value) : (newVar t v).run P w = .ok ⟨w.heap.size, 0, none⟩ (w.alloc (.cells v.cells t)) := by
  rfl
def vAlloc (P : Program) (t d : Nat) (σ : St) (K : AV → St → Prop) : Prop :=
  if d < 100000 then (match zeroL P t with | some zs => K (.ptr d 0) (newSt σ d (.cells (zs.map .d))) | none => False) else False
theorem hasL_d (d : Nat) : ∀ zs : List DV, AV.hasL d (zs.map .d) = false
  | [] => rfl
  | z :: zs => by simp only [List.map_cons, AV.hasL, AV.has, hasL_d d zs, Bool.or_false]
theorem ptr_new {G : Gh} {w : World} {d : Nat} : RA { G with β := upto G.β d w.heap.size } (w.alloc (.cells #[] 0)) (.ptr d 0) (.pointer (some ⟨w.heap.size, 0, none⟩)) := by
  simp only [RA, upto_same]
theorem vAlloc_ok {P : Program} {F : F0} {G : Gh} {σ : St} {a : Act} {w : World} (hs : Sim F G σ a w) {o : Oper} {t d : Nat} (ho : o.op = .alloc t) {K : AV → St → Prop} {next : Act → World → Prop} {Q : Exit → Act → World → Prop} (h : vAlloc P t d σ K) (hn : Nxt P o a F next K) : o.wp P a w next Q := by
  unfold vAlloc at h
  split at h
  case isFalse => exact h.elim
  rename_i hd
  split at h
  case h_2 => exact h.elim
  rename_i zs hz
  obtain ⟨v, h1, h2, h3⟩ := zeroL_ok hz w G.S
  refine wp_value (u := .pointer (some ⟨w.heap.size, 0, none⟩)) (w' := w.alloc (.cells v.cells t)) ?_ (hn _ _ _ _ _ (hs.newObj d hd (zs.map .d) v.cells t (RAL.of_RList h2) h3 (hasL_d d zs)) ?_ h)
  · simp [execOp, ho, Instr.alloc, h1, run_newVar]
  · simp only [RA, upto_same]
def vBox (P : Program) (t d : Nat) (x : AV) (σ : St) (K : AV → St → Prop) : Prop :=
  if d < 100000 then cellsA x (isAg P t) (szOf P t) fun cs => K (.ptr d 0) (newSt σ d (.cells (AV.killL d cs))) else False
theorem vBox_ok {P : Program} {F : F0} {G : Gh} {σ : St} {a : Act} {w : World} (hs : Sim F G σ a w) {o : Oper} {t d : Nat} {x : Operand} (ho : o.op = .box t x) {K : AV → St → Prop} {next : Act → World → Prop} {Q : Exit → Act → World → Prop} (h : vBox P t d (ev σ x) σ K) (hn : Nxt P o a F next K) : o.wp P a w next Q := by
  unfold vBox at h
  split at h
  case isFalse => exact h.elim
  rename_i hd
  obtain ⟨cs, hK, h2, h3, h4⟩ := cellsA_elim h (ev_ok hs x)
  refine wp_value (u := .pointer (some ⟨w.heap.size, 0, none⟩)) (w' := w.alloc (.cells (a.eval x).cells t)) ?_ (hn _ _ _ _ _ (hs.newObj d hd _ (a.eval x).cells t (RAL.kill d _ _ h2) h4 (AV.hasL_kill d cs)) ?_ hK)
  · simp [execOp, ho, Instr.box, run_newVar]
  · simp only [RA, upto_same]
def vStore (P : Program) (t : Nat) (p x : AV) (σ : St) (K : AV → St → Prop) : Prop :=
  if hasT P t then match p with
    | .ptr k off => cellsAt σ k fun cs => cellsA x (isAg P t) (szOf P t) fun vs => if off + vs.length ≤ cs.length then K .no (setObj σ k (.cells (putAt cs off vs))) else False
    | _ => False
  else False
theorem vStore_ok {P : Program} {F : F0} {G : Gh} {σ : St} {a : Act} {w : World} (hs : Sim F G σ a w) {o : Oper} {t : Nat} {p x : Operand} (ho : o.op = .store t p x) {K : AV → St → Prop} {next : Act → World → Prop} {Q : Exit → Act → World → Prop} (h : vStore P t (ev σ p) (ev σ x) σ K) (hn : Nxt P o a F next K) : o.wp P a w next Q := by
  unfold vStore at h
  split at h
  case isFalse => exact h.elim
  rename_i hT
  have hp := ev_ok hs p
  split at h
  case h_2 => exact h.elim
  rename_i k off he
  rw [he] at hp
  simp only [RA] at hp
  obtain ⟨cs, hm, h⟩ := cellsAt_elim h
  obtain ⟨vs, h, h2, h3, h4⟩ := cellsA_elim h (ev_ok hs x)
  split at h
  case isFalse => exact h.elim
  rename_i hl
  obtain ⟨w', hr, hs'⟩ := hs.store P hm off vs _ h2 h4 hl
  refine wp_skip' (w' := w') ?_ (hn _ _ _ _ _ hs' (by simp only [RA]) h)
  have hsz : (a.eval x).cells.size = szOf P t := by rw [← Array.length_toList, h2.len, h3]
  simp [execOp, ho, Instr.storeAt, hp, Instr.sureAddr, storeVar, run_sizeOf' P t w hT, hsz, hr]

/-! ### a slice laid out -/
def elemsD (P : Program) (e : Nat) : List AV → (List DV → Prop) → Prop
  | [], K => K []
  | a :: as, K => asD a fun x => shapeD P e x fun y => elemsD P e as fun ys => K (y :: ys)
theorem shapeD_elim' {P : Program} {t : Nat} {y : DV} {K : DV → Prop} (h : shapeD P t y K) (h1 : isAg P t = false → szOf P t = 1) {w : World} {S : Nat → Nat} {u : Value} (hr : R w S y u) : K y ∧ u.cells.size = szOf P t ∧ ∀ c ∈ u.cells.toList, Val1 c = true := by
  unfold shapeD at h
  split at h
  · obtain ⟨cs, rfl, hl, h⟩ := cellsD_elim h
    simp only [R] at hr
    obtain ⟨ys, rfl, h2, h3⟩ := hr
    have := h2.len
    rw [Array.length_toList] at this
    exact ⟨h, by simp only [Value.cells]; omega, h3⟩
  · rename_i hA
    obtain ⟨hc, h⟩ := needC_iff.1 h
    obtain ⟨e1, e2⟩ := cell_of hc hr
    exact ⟨h, by rw [e1, h1 (by simpa using hA)]; rfl, by rw [e1]; simpa using e2⟩
theorem elemsD_elim {P : Program} {e : Nat} (h1 : isAg P e = false → szOf P e = 1) {G : Gh} {w : World} : ∀ {as : List AV} {us : List Value} {K : List DV → Prop}, elemsD P e as K → RAL G w as us →
    ∃ xs, K xs ∧ RList w G.S xs us ∧ ∀ u ∈ us, u.cells.size = szOf P e ∧ ∀ c ∈ u.cells.toList, Val1 c = true
  | [], us, K, h, hr => by
    simp only [RAL] at hr; subst hr
    exact ⟨[], h, by simp only [RList], by simp⟩
  | a :: as, us, K, h, hr => by
    simp only [RAL] at hr
    obtain ⟨u, us', rfl, hu, hus⟩ := hr
    simp only [elemsD] at h
    obtain ⟨x, hx, h⟩ := asD_elim h hu
    obtain ⟨h, h2, h3⟩ := shapeD_elim' h h1 hx
    obtain ⟨xs, hK, hxs, hall⟩ := elemsD_elim h1 h hus
    refine ⟨x :: xs, hK, ⟨u, us', rfl, hx, hxs⟩, fun v hv => ?_⟩
    rcases List.mem_cons.1 hv with rfl | hv
    · exact ⟨h2, h3⟩
    · exact hall v hv
def vLit (P : Program) (t len : Nat) (ps : List (Nat × AV)) (K : AV → Prop) : Prop :=
  match slElem P t with
  | some e => if hasT P e && decide (ps.map (·.1) = List.range len) && (isAg P e || decide (szOf P e = 1)) && decide (len * szOf P e ≤ 16777216) && (zeroL P e).isSome
      then elemsD P e (ps.map (·.2)) fun xs => K (.d (.sl .full (szOf P e) xs)) else False
  | none => False
theorem fill_row (size : Nat) : ∀ (us : List Value) (i : Nat) (cells : Array Value), (∀ u ∈ us, u.cells.size = size) → (i + us.length) * size ≤ cells.size →
    ∃ out : Array Value, Instr.fill (fun j => some (j * size, size)) cells ((us.zipIdx i).map fun p => (p.2, p.1)) = some out ∧ out.size = cells.size ∧ (∀ j, j < i * size → out[j]? = cells[j]?) ∧
      ∀ m u, us[m]? = some u → ∀ j, j < size → out[(i + m) * size + j]? = u.cells[j]?
  | [], i, cells, _, _ => ⟨cells, rfl, rfl, fun _ _ => rfl, fun m u h => by simp at h⟩
  | u :: us, i, cells, hu, hl => by
    have hus := hu u (List.mem_cons_self ..)
    simp only [List.length_cons] at hl
    have hb : i * size + size ≤ cells.size := by
      have : (i + 1) * size ≤ (i + (us.length + 1)) * size := Nat.mul_le_mul_right _ (by omega)
      rw [Nat.add_mul, Nat.one_mul] at this
      omega
    have hf := foldl_put u.cells.toList (i * size) 0 cells (by rw [Array.length_toList, hus]; omega)
    rw [← Array.toList_zipIdx, Array.foldl_toList] at hf
    obtain ⟨c1, hc1⟩ : ∃ c1, c1 = u.cells.zipIdx.foldl (fun (cs : Array Value) (p : Value × Nat) => cs.setIfInBounds (i * size + p.2) p.1) cells := ⟨_, rfl⟩
    rw [← hc1] at hf
    simp only [Nat.add_zero, Array.length_toList, hus] at hf
    have hsz : c1.size = cells.size := by
      rw [← Array.length_toList, hf]
      simp only [List.length_append, List.length_take, List.length_drop, Array.length_toList, hus]
      omega
    have hget : ∀ j, c1[j]? = if j < i * size then cells[j]? else if j < i * size + size then u.cells[j - i * size]? else cells[j]? := by
      intro j
      rw [← Array.getElem?_toList, hf, List.append_assoc]
      have ht : (cells.toList.take (i * size)).length = i * size := by rw [List.length_take, Array.length_toList]; omega
      by_cases h1 : j < i * size
      · rw [if_pos h1, List.getElem?_append_left (by omega), List.getElem?_take_of_lt h1, Array.getElem?_toList]
      · rw [if_neg h1, List.getElem?_append_right (by omega), ht]
        by_cases h2 : j < i * size + size
        · rw [if_pos h2, List.getElem?_append_left (by rw [Array.length_toList, hus]; omega), Array.getElem?_toList]
        · rw [if_neg h2, List.getElem?_append_right (by rw [Array.length_toList, hus]; omega), Array.length_toList, hus, List.getElem?_drop, Array.getElem?_toList]
          congr 1; omega
    obtain ⟨out, h1, h2, h3, h4⟩ := fill_row size us (i + 1) c1 (fun v hv => hu v (List.mem_cons_of_mem _ hv)) (by rw [hsz]; rw [show i + 1 + us.length = i + (us.length + 1) by omega]; exact hl)
    refine ⟨out, ?_, by omega, fun j hj => ?_, fun m v hm j hj => ?_⟩
    · rw [List.zipIdx_cons, List.map_cons]
      unfold Instr.fill
      simp only
      rw [if_neg]
      · rw [← hc1]; exact h1
      · intro hc
        simp only [Bool.or_eq_true, decide_eq_true_eq] at hc
        omega
    · rw [h3 j (by rw [Nat.add_mul]; omega), hget, if_pos hj]
    · cases m with
      | zero =>
        simp at hm; subst hm
        rw [Nat.add_zero, h3 _ (by rw [Nat.add_mul]; omega), hget, if_neg (by omega), if_pos (by omega)]
        congr 1; omega
      | succ m =>
        have := h4 m v (by simpa using hm) j hj
        rw [← this, show i + 1 + m = i + (m + 1) by omega]
theorem zip_pairs : ∀ (vs : List (Nat × Value)) (n i : Nat), vs.map (·.1) = List.range' i n → vs = ((vs.map (·.2)).zipIdx i).map fun p => (p.2, p.1)
  | [], n, i, _ => rfl
  | (j, v) :: vs, 0, i, h => by simp at h
  | (j, v) :: vs, n + 1, i, h => by
    rw [List.range'_succ] at h
    simp only [List.map_cons, List.cons.injEq] at h
    obtain ⟨rfl, h⟩ := h
    simp only [List.map_cons, List.zipIdx_cons, List.cons.injEq, true_and]
    exact zip_pairs vs n (j + 1) h
theorem vLit_ok {P : Program} {F : F0} {G : Gh} {σ σb : St} {a : Act} {w : World} (hs : Sim F G σ a w) (hb : Sim F G σb a w) {o : Oper} {t len : Nat} {ps : Array (Nat × Operand)} (ho : o.op = .buildSlice t len ps) {K : AV → Prop} {next : Act → World → Prop} {Q : Exit → Act → World → Prop}
    (h : vLit P t len (ps.toList.map fun p => (p.1, ev σ p.2)) K) (hn : ∀ av G' u w', Sim F G' σb a w' → RA G' w' av u → K av → next (a.put o.dst u) w') : o.wp P a w next Q := by
  unfold vLit at h
  split at h
  case h_2 => exact h.elim
  rename_i e he
  split at h
  case isFalse => exact h.elim
  rename_i hc
  simp only [Bool.and_eq_true, Bool.or_eq_true, decide_eq_true_eq] at hc
  obtain ⟨⟨⟨⟨hT, hrng⟩, hag⟩, hsmall⟩, hzz⟩ := hc
  have hu := slElem_eq he
  have h1 : isAg P e = false → szOf P e = 1 := fun h0 => by rcases hag with h | h; rw [h0] at h; cases h; exact h
  have hevs := RAL.evs hs (ps.toList.map (·.2))
  simp only [List.map_map, Function.comp_def] at h hrng
  simp only [List.map_map, Function.comp_def] at hevs
  obtain ⟨xs, hK, hxs, hall⟩ := elemsD_elim h1 h hevs
  obtain ⟨zs, hz⟩ := Option.isSome_iff_exists.1 hzz
  obtain ⟨zv, hz1, hz2, hz3⟩ := zeroL_ok hz w G.S
  have hsz := run_sizeOf' P e w hT
  have hlen : xs.length = len := by
    have := hxs.len
    simp only [List.length_map] at this
    have h2 := congrArg List.length hrng
    simp only [List.length_map, List.length_range] at h2
    omega
  -- the cells as they begin
  obtain ⟨c0, hc0, hrun⟩ : ∃ c0 : Array Value, c0.size = len * szOf P e ∧ ∀ (cells : Array Value), Instr.fill (fun j => some (j * szOf P e, szOf P e)) c0 (ps.toList.map fun p => (p.1, a.eval p.2)) = some cells →
      (Instr.buildSlice t len (ps.map fun p => (p.1, a.eval p.2))).run P w = .ok (.slice (some ⟨w.heap.size, 0, none⟩) len len) (w.alloc (.cells cells e)) := by
    have h24 : ¬ (len * szOf P e > 2 ^ 24) := by simpa using hsmall
    by_cases h0 : len * szOf P e = 0
    · refine ⟨(Array.range (len * szOf P e)).map (fun i => (#[] : Array Value)[i % (#[] : Array Value).size]!), by simp, fun cells hf => ?_⟩
      simp only [Instr.buildSlice, Sem.run_bind, run_underlying hu, Result.andThen_ok, hsz, if_neg h24, if_pos h0, Sem.run_pure, Array.toList_map]
      rw [hf]
      rfl
    · refine ⟨(Array.range (len * szOf P e)).map (fun i => zv.cells[i % zv.cells.size]!), by simp, fun cells hf => ?_⟩
      simp only [Instr.buildSlice, Sem.run_bind, run_underlying hu, Result.andThen_ok, hsz, if_neg h24, if_neg h0, hz1, Sem.run_pure, Array.toList_map]
      rw [hf]
      rfl
  have hvs : (ps.toList.map fun p => (p.1, a.eval p.2)) = ((ps.toList.map fun p => a.eval p.2).zipIdx 0).map fun p => (p.2, p.1) := by
    have := zip_pairs (ps.toList.map fun p => (p.1, a.eval p.2)) len 0 (by simp only [List.map_map, Function.comp_def]; rw [hrng, List.range_eq_range'])
    simpa only [List.map_map, Function.comp_def] using this
  have hul : (ps.toList.map fun p => a.eval p.2).length = len := by
    have := hxs.len; omega
  obtain ⟨out, g1, g2, g3, g4⟩ := fill_row (szOf P e) (ps.toList.map fun p => a.eval p.2) 0 c0 (fun u hu => (hall u hu).1) (by rw [hul, hc0, Nat.zero_add]; exact Nat.le_refl _)
  rw [← hvs] at g1
  refine wp_value (u := .slice (some ⟨w.heap.size, 0, none⟩) len len) (w' := w.alloc (.cells out e)) ?_ (hn _ _ _ _ (hb.allocD (.cells out e) (len * szOf P e)) ?_ hK)
  · simp only [execOp, ho, Sem.run_bind, hrun out g1, Result.andThen_ok, Sem.run_pure]
  · simp only [RA, R]
    have h0 : SM.ok .full (some ⟨w.heap.size, 0, none⟩) len len := And.intro (fun h => by cases h) (And.intro (fun h => by cases h) rfl)
    refine ⟨_, _, _, rfl, hlen.symm, Nat.le_refl _, h0, fun ad had => ?_⟩
    cases had
    refine ⟨rfl, by simp [upto_same], RRow.mk fun i d hi => ?_⟩
    obtain ⟨u, hu', hr⟩ := hxs.get i d hi
    have hmem := List.mem_of_getElem? hu'
    refine ⟨u, R.mono (Pres.alloc hs.fr.fin (.cells out e) (len * szOf P e)) d u hr, (hall u hmem).1, (hall u hmem).2, fun j hj => ?_⟩
    have := g4 i u hu' j hj
    simp only [Nat.zero_add] at this ⊢
    rw [← this]
    exact cl_of_heap (heap_alloc_at w _) _
end Go.Qv
