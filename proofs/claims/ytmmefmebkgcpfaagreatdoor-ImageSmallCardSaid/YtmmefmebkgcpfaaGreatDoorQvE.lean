/- Operations that leave the world alone, one by one. Over any program. -/
import Derived.Test.YtmmefmebkgcpfaaGreatDoorQvD
namespace Go.Qv
open Go

def isCell : DV → Bool | .agg _ => false | .tup _ => false | _ => true
def needC (x : DV) (K : Prop) : Prop := match isCell x with | true => K | false => False
theorem needC_iff {x : DV} {K : Prop} : needC x K ↔ isCell x = true ∧ K := by
  cases h : isCell x <;> simp [needC, h]
theorem cell_of {w : World} {S : Nat → Nat} {x : DV} {y : Value} (h : isCell x = true) (hr : R w S x y) : y.cells = #[y] ∧ Val1 y = true := by
  cases x <;> simp only [R] at hr <;> first | (simp [isCell] at h; done) | (subst hr; exact ⟨rfl, rfl⟩) | skip
  · obtain ⟨a, n, cap, rfl, _⟩ := hr; exact ⟨rfl, rfl⟩
  · obtain ⟨z, rfl, _⟩ := hr; exact ⟨rfl, rfl⟩

/-! ### Cells of a value -/
def cellsA (a : AV) (ag : Bool) (n : Nat) (K : List AV → Prop) : Prop :=
  if ag then
    match a with
    | .agg cs => if cs.length = n then K cs else False
    | .d x => cellsD x n fun cs => K (cs.map .d)
    | _ => False
  else if n = 1 then
    match a with
    | .d x => needC x (K [.d x])
    | .agg _ => False
    | .tup _ => False
    | .no => False
    | .opq _ => False
    | .zr .. => False
    | a => K [a]
  else False
theorem RAL.one {G : Gh} {w : World} {a : AV} {u : Value} (h : RA G w a u) : RAL G w [a] [u] := ⟨u, [], rfl, h, by simp only [RAL]⟩
theorem cellsA_elim {G : Gh} {w : World} {a : AV} {u : Value} {ag : Bool} {n : Nat} {K : List AV → Prop} (h : cellsA a ag n K) (hr : RA G w a u) :
    ∃ cs, K cs ∧ RAL G w cs u.cells.toList ∧ cs.length = n ∧ (∀ y ∈ u.cells.toList, Val1 y = true) := by
  unfold cellsA at h
  split at h
  · split at h
    · split at h
      · simp only [RA] at hr
        obtain ⟨ys, rfl, h1, h2⟩ := hr
        exact ⟨_, h, h1, by assumption, h2⟩
      · exact h.elim
    · obtain ⟨cs, rfl, h1, h2⟩ := cellsD_elim h
      simp only [RA, R] at hr
      obtain ⟨ys, rfl, h3, h4⟩ := hr
      exact ⟨_, h2, RAL.of_RList h3, by simpa using h1, h4⟩
    · exact h.elim
  · split at h
    · rename_i hn
      split at h
      · obtain ⟨h1, h2⟩ := needC_iff.1 h
        have hr' := hr
        simp only [RA] at hr'
        obtain ⟨e1, e2⟩ := cell_of h1 hr'
        refine ⟨_, h2, by rw [e1]; exact RAL.one hr, by simp [hn], by rw [e1]; simpa using e2⟩
      all_goals first | exact h.elim | skip
      rename_i h1 h2 h3 h4 h5 h6
      have e : u.cells = #[u] ∧ Val1 u = true := by
        cases a with
        | no => exact absurd rfl h4
        | d x => exact absurd rfl (h1 x)
        | agg cs => exact absurd rfl (h2 cs)
        | tup cs => exact absurd rfl (h3 cs)
        | opq m => exact absurd rfl (h5 m)
        | zr k sz m => exact absurd rfl (h6 k sz m)
        | own k sz xs =>
          simp only [RA] at hr
          rcases hr with ⟨_, rfl⟩ | ⟨off, cap, rfl, _⟩ <;> exact ⟨rfl, rfl⟩
        | ptr k o => simp only [RA] at hr; subst hr; exact ⟨rfl, rfl⟩
        | row cs => simp only [RA] at hr; obtain ⟨b, off, rfl, _⟩ := hr; exact ⟨rfl, rfl⟩
        | mp k => simp only [RA] at hr; subst hr; exact ⟨rfl, rfl⟩
        | fn f cap => simp only [RA] at hr; obtain ⟨cs, rfl, _⟩ := hr; exact ⟨rfl, rfl⟩
      refine ⟨_, h, by rw [e.1]; exact RAL.one hr, by simp [hn], by rw [e.1]; simpa using e.2⟩
    · exact h.elim

def objAt (σ : St) (k : Nat) : Option Ob := match σ.objs.find? (fun p => p.1 == k) with | some p => some p.2 | none => none
theorem objAt_mem {σ : St} {k : Nat} {o : Ob} (h : objAt σ k = some o) : (k, o) ∈ σ.objs := by
  unfold objAt at h
  split at h
  · rename_i p hp
    cases h
    have h1 := List.find?_some hp
    have h2 := List.mem_of_find?_eq_some hp
    have : p.1 = k := by simpa using h1
    subst this
    exact h2
  · cases h
def cellsAt (σ : St) (k : Nat) (K : List AV → Prop) : Prop := match objAt σ k with | some (.cells cs) => K cs | _ => False
theorem cellsAt_elim {σ : St} {k : Nat} {K : List AV → Prop} (h : cellsAt σ k K) : ∃ cs, (k, Ob.cells cs) ∈ σ.objs ∧ K cs := by
  unfold cellsAt at h
  split at h
  · rename_i cs hc; exact ⟨cs, objAt_mem hc, h⟩
  · exact h.elim

/-- An operation that leaves the world alone comes to a value. -/
def Res (P : Program) (o : Oper) (a : Act) (w : World) (G : Gh) (K : AV → Prop) : Prop :=
  ∃ av u, (execOp a.eval o).run P w = .ok (.value u) w ∧ RA G w av u ∧ K av

/-! ### load -/
def vLoad (P : Program) (t : Nat) (σ : St) (p : AV) (K : AV → Prop) : Prop :=
  if hasT P t then
    match p with
    | .ptr k off => cellsAt σ k fun cs =>
        if isAg P t then (if off + szOf P t ≤ cs.length then K (mkAgg ((cs.drop off).take (szOf P t))) else False)
        else match cs[off]? with | some c => K c | none => False
    | .row cs =>
        if isAg P t then (if szOf P t ≤ cs.length then K (.d (.agg (cs.take (szOf P t)))) else False)
        else match cs with | c :: _ => K (.d c) | [] => False
    | _ => False
  else False
theorem RAL.sub {G : Gh} {w : World} {as : List AV} {us : List Value} (h : RAL G w as us) (off n : Nat) : RAL G w ((as.drop off).take n) ((us.drop off).take n) := by
  refine RAL.ofGet ?_ fun i a u ha hu => ?_
  · simp [h.len]
  · have hi : i < n := by
      have := (List.getElem?_eq_some_iff.1 ha).1
      rw [List.length_take] at this; omega
    rw [List.getElem?_take_of_lt hi, List.getElem?_drop] at ha hu
    obtain ⟨u', e, hr⟩ := h.get _ _ ha
    rw [hu] at e; cases e
    exact hr
theorem RCells.list {w : World} {S : Nat → Nat} {b : Nat} : ∀ {cs : List DV} {off : Nat}, RCells w S cs b off → ∃ ys : List Value, RList w S cs ys ∧ ys.length = cs.length ∧ (∀ y ∈ ys, Val1 y = true) ∧ ∀ (j : Nat) (y : Value), ys[j]? = some y → cl w b (off + j) = some y
  | [], off, _ => ⟨[], by simp only [RList], rfl, by simp, by simp⟩
  | c :: cs, off, h => by
    obtain ⟨y, h1, h2, h3⟩ := h 0 c rfl
    obtain ⟨ys, g1, g2, g3, g4⟩ := RCells.list (cs := cs) (off := off + 1) (b := b) (w := w) (S := S) fun j d hj => by
      obtain ⟨z, z1, z2, z3⟩ := h (j + 1) d (by simpa using hj)
      exact ⟨z, z1, z2, by rw [← z3]; congr 1; omega⟩
    refine ⟨y :: ys, ⟨y, ys, rfl, h1, g1⟩, by simp [g2], fun z hz => ?_, fun j z hz => ?_⟩
    · rcases List.mem_cons.1 hz with rfl | hz
      · exact h2
      · exact g3 z hz
    · cases j with
      | zero => simp at hz; subst hz; simpa using h3
      | succ j =>
        have := g4 j z (by simpa using hz)
        rw [← this]; congr 1; omega
theorem RCells.take {w : World} {S : Nat → Nat} {cs : List DV} {b off : Nat} (h : RCells w S cs b off) (n : Nat) : RCells w S (cs.take n) b off := fun j d hj => by
  have hi : j < n := by
    have := (List.getElem?_eq_some_iff.1 hj).1
    rw [List.length_take] at this; omega
  rw [List.getElem?_take_of_lt hi] at hj
  exact h j d hj
theorem RCells.drop {w : World} {S : Nat → Nat} {cs : List DV} {b off : Nat} (h : RCells w S cs b off) (n : Nat) : RCells w S (cs.drop n) b (off + n) := fun j d hj => by
  rw [List.getElem?_drop] at hj
  obtain ⟨y, h1, h2, h3⟩ := h (n + j) d hj
  exact ⟨y, h1, h2, by rw [← h3]; congr 1; omega⟩
theorem vLoad_ok {P : Program} {F : F0} {G : Gh} {σ : St} {a : Act} {w : World} (hs : Sim F G σ a w) {t : Nat} {p : AV} {u : Value} {K : AV → Prop} (h : vLoad P t σ p K) (hp : RA G w p u) :
    ∃ av v, (Instr.loadAt t u).run P w = .ok v w ∧ RA G w av v ∧ K av := by
  unfold vLoad at h
  split at h
  case isFalse => exact h.elim
  rename_i ht
  have hag := run_isAgg P t w ht
  have hsz := run_sizeOf' P t w ht
  split at h
  · rename_i k off
    simp only [RA] at hp
    subst hp
    obtain ⟨cs, hm, h⟩ := cellsAt_elim h
    obtain ⟨ys, T, hb, hc, h1, _⟩ := hs.ctx.okO k _ hm
    have hl := hc.len
    rw [Array.length_toList] at hl
    unfold Instr.loadAt Instr.sureAddr loadVar
    simp only [Sem.run_bind, Sem.run_pure, Result.andThen_ok, hag]
    split at h
    · rename_i hA
      split at h
      · rename_i hle
        have hlen : (((ys.toList.drop off).take (szOf P t))).length = szOf P t := by
          rw [List.length_take, List.length_drop, Array.length_toList]; omega
        have hrl := run_loadCells P w (G.β k) off _ _ hlen (fun j y hj => by
          have hi : j < szOf P t := by
            have := (List.getElem?_eq_some_iff.1 hj).1
            rw [hlen] at this; exact this
          rw [List.getElem?_take_of_lt hi, List.getElem?_drop, Array.getElem?_toList] at hj
          rw [cl_of_heap hb]; exact hj)
        simp only [hA, if_true, Sem.run_bind, hsz, Result.andThen_ok, hrl, Sem.run_pure]
        refine ⟨_, _, rfl, mkAgg_ok (by simpa using hc.sub off (szOf P t)) (fun y hy => ?_), h⟩
        exact h1 y (List.mem_of_mem_drop (List.mem_of_mem_take (by simpa using hy)))
      · exact h.elim
    · rename_i hA
      split at h
      · rename_i c hcc
        obtain ⟨y, hy, hr⟩ := hc.get off c hcc
        rw [Array.getElem?_toList] at hy
        have hcell : w.cell? ⟨G.β k, off, none⟩ = some y := by
          have := cl_of_heap hb off
          rw [hy] at this; exact this
        simp only [hA, Bool.false_eq_true, if_false, run_load, hcell]
        exact ⟨c, y, rfl, hr, h⟩
      · exact h.elim
  · rename_i cs
    simp only [RA] at hp
    obtain ⟨b, off, rfl, hle, hc⟩ := hp
    unfold Instr.loadAt Instr.sureAddr loadVar
    simp only [Sem.run_bind, Sem.run_pure, Result.andThen_ok, hag]
    split at h
    · rename_i hA
      split at h
      · rename_i hl
        obtain ⟨ys, g1, g2, g3, g4⟩ := (hc.take (szOf P t)).list
        have hrl := run_loadCells P w b off ys (szOf P t) (by rw [g2, List.length_take]; omega) g4
        simp only [hA, if_true, Sem.run_bind, hsz, Result.andThen_ok, hrl, Sem.run_pure]
        refine ⟨_, _, rfl, ?_, h⟩
        simp only [RA, R]
        exact ⟨_, rfl, by simpa using g1, by simpa using g3⟩
      · exact h.elim
    · rename_i hA
      split at h
      · rename_i c cs'
        obtain ⟨y, h1, h2, h3⟩ := hc 0 c rfl
        have hcell : w.cell? ⟨b, off, none⟩ = some y := by simpa [cl] using h3
        simp only [hA, Bool.false_eq_true, if_false, run_load, hcell]
        exact ⟨_, y, rfl, by simpa only [RA] using h1, h⟩
      · exact h.elim
  · exact h.elim

/-! ### addresses -/
def vField (P : Program) (t i : Nat) (p : AV) (K : AV → Prop) : Prop :=
  match fieldOf P t i with
  | some f => if hasT P f.type && decide (szOf P f.type ≠ 0) then
      match p with
      | .ptr k off => K (.ptr k (off + f.offset))
      | .row cs => if f.offset ≤ cs.length then K (.row (cs.drop f.offset)) else False
      | _ => False
    else False
  | none => False
theorem vField_ok {P : Program} {G : Gh} {w : World} {t i : Nat} {p : AV} {u : Value} {K : AV → Prop} (h : vField P t i p K) (hp : RA G w p u) :
    ∃ av v, (Instr.fieldAt t u i).run P w = .ok v w ∧ RA G w av v ∧ K av := by
  unfold vField at h
  split at h
  case h_2 => exact h.elim
  rename_i f hf
  obtain ⟨fs, hu, hfi⟩ := fieldOf_eq hf
  split at h
  case isFalse => exact h.elim
  rename_i hc
  simp only [Bool.and_eq_true, decide_eq_true_eq] at hc
  have hsz := run_sizeOf' P f.type w hc.1
  split at h
  · rename_i k off
    simp only [RA] at hp
    subst hp
    refine ⟨.ptr k (off + f.offset), .pointer (some ⟨G.β k, off + f.offset, none⟩), ?_, by simp only [RA], h⟩
    simp only [Instr.fieldAt, Instr.sureAddr, fieldPlace, Sem.run_bind, run_underlying hu, Result.andThen_ok, hfi, Sem.run_pure, hsz, if_neg hc.2, add_cell]
  · rename_i cs
    split at h
    · rename_i hl
      simp only [RA] at hp
      obtain ⟨b, off, rfl, hle, hcs⟩ := hp
      refine ⟨.row (cs.drop f.offset), .pointer (some ⟨b, off + f.offset, none⟩), ?_, ?_, h⟩
      · simp only [Instr.fieldAt, Instr.sureAddr, fieldPlace, Sem.run_bind, run_underlying hu, Result.andThen_ok, hfi, Sem.run_pure, hsz, if_neg hc.2, add_cell]
      · simp only [RA]
        exact ⟨b, off + f.offset, rfl, by rw [List.length_drop]; omega, hcs.drop f.offset⟩
    · exact h.elim
  · exact h.elim
/-! ### What data of a type looks like -/
inductive DSh where
  | tb | ti (k : IntKind) | ts | tsl (sz : Nat) | tag (l : List DSh) | tany
mutual
def exSh : DSh → (DV → Prop) → Prop
  | .tb, K => ∃ t : Bool, K (.bool t)
  | .ti k, K => ∃ n : Int, K (.int k n)
  | .ts, K => ∃ s : ByteArray, K (.str s)
  | .tsl sz, K => ∃ xs : List DV, K (.sl .any sz xs)
  | .tag l, K => exShL l fun cs => K (.agg cs)
  | .tany, K => ∃ x : DV, K x
def exShL : List DSh → (List DV → Prop) → Prop
  | [], K => K []
  | s :: ss, K => exSh s fun x => exShL ss fun xs => K (x :: xs)
end
mutual
theorem exSh_elim : ∀ (s : DSh) {K : DV → Prop}, exSh s K → ∃ x, K x
  | .tb, K, ⟨x, h⟩ => ⟨_, h⟩
  | .ti k, K, ⟨x, h⟩ => ⟨_, h⟩
  | .ts, K, ⟨x, h⟩ => ⟨_, h⟩
  | .tsl sz, K, ⟨x, h⟩ => ⟨_, h⟩
  | .tag l, K, h => let ⟨_, h⟩ := exShL_elim l h; ⟨_, h⟩
  | .tany, K, ⟨x, h⟩ => ⟨_, h⟩
theorem exShL_elim : ∀ (l : List DSh) {K : List DV → Prop}, exShL l K → ∃ xs, K xs
  | [], K, h => ⟨_, h⟩
  | s :: ss, K, h => by
    simp only [exShL] at h
    obtain ⟨x, h⟩ := exSh_elim s h
    obtain ⟨xs, h⟩ := exShL_elim ss h
    exact ⟨_, h⟩
end
/-- The cells of data of a type. -/
def dshL (P : Program) : Nat → Nat → List DSh
  | 0, _ => [.tany]
  | n + 1, t => match P.underlying t with
    | some .bool => [.tb]
    | some (.int k) => [.ti k]
    | some .string => [.ts]
    | some (.slice e) => [.tsl (szOf P e)]
    | some (.struct fs) => fs.toList.flatMap fun f => dshL P n f.type
    | some (.array k e) => List.replicate (k * szOf P e) .tany
    | _ => [.tany]
def dsh (P : Program) (t : Nat) : DSh := match isAg P t with
  | true => .tag (dshL P 20 t)
  | false => (match dshL P 20 t with | [s] => s | _ => .tany)
def rowK (ag : Bool) (x : DV) (K : AV → Prop) : Prop := match ag with
  | true => (match x with | .agg cs => K (.row cs) | _ => False)
  | false => needC x (K (.row [x]))
def vIdx (P : Program) (t : Nat) (s i : AV) (K : AV → Prop) : Prop :=
  match slElem P t with
  | some e => if hasT P e then asI i fun _ n => asSl s fun _ sz xs => if sz = szOf P e ∨ xs = [] then
      0 ≤ n ∧ ∃ x, xs[n.toNat]? = some x ∧ exSh (dsh P e) fun x' => DvW x x' ∧ rowK (isAg P e) x' K else False
    else False
  | none => False
theorem vIdx_ok {P : Program} {G : Gh} {w : World} {t : Nat} {s i : AV} {u v : Value} {K : AV → Prop} (h : vIdx P t s i K) (hs : RA G w s u) (hi : RA G w i v) :
    ∃ av r, (Instr.indexAt t u v).run P w = .ok r w ∧ RA G w av r ∧ K av := by
  unfold vIdx at h
  split at h
  case h_2 => exact h.elim
  rename_i e he
  split at h
  case isFalse => exact h.elim
  rename_i hT
  obtain ⟨k, n, rfl, rfl, h⟩ := asI_elim h hi
  obtain ⟨m, sz, xs, hr, h⟩ := asSl_elim h hs
  split at h
  case isFalse => exact h.elim
  rename_i hsz'
  have hu := slElem_eq he
  have hsz := run_sizeOf' P e w hT
  simp only [R] at hr
  obtain ⟨A, len, cap, rfl, hlen, hcap, hm, hrow⟩ := hr
  have core : ∀ (x : DV), 0 ≤ n → xs[n.toNat]? = some x → sz = szOf P e ∧ ∃ ad, A = some ad ∧ ad.spot = none ∧ ad.off + len * sz ≤ G.S ad.block ∧ n.toNat < len ∧
      (Instr.indexAt t (.slice A len cap) (.int k n)).run P w = .ok (.pointer (some ⟨ad.block, ad.off + n.toNat * szOf P e, none⟩)) w ∧
      ∃ y : Value, R w G.S x y ∧ y.cells.size = sz ∧ (∀ c ∈ y.cells.toList, Val1 c = true) ∧ ∀ j, j < sz → cl w ad.block (ad.off + n.toNat * sz + j) = y.cells[j]? := by
    intro x h0 hx
    have hlt := (List.getElem?_eq_some_iff.1 hx).1
    have hne : xs ≠ [] := by rintro rfl; simp at hx
    have hsz2 : sz = szOf P e := hsz'.resolve_right hne
    refine ⟨hsz2, ?_⟩
    cases A with
    | none => have := (hm.1 rfl).1; omega
    | some ad =>
      obtain ⟨h1, h2, h3⟩ := hrow ad rfl
      refine ⟨ad, rfl, h1, h2, by omega, ?_, h3.at_ n.toNat x hx⟩
      have hn : n < (len : Int) := by omega
      obtain ⟨bb, oo, ss⟩ := ad
      simp only at h1
      subst h1
      simp only [Instr.indexAt, asIntOf, Sem.run_bind, Sem.run_pure, Result.andThen_ok, run_underlying hu, hsz, add_cell, h0, hn, and_self, if_true]
  obtain ⟨h0, x, hx, h⟩ := h
  obtain ⟨x', hle, h⟩ := exSh_elim _ h
  obtain ⟨hsz2, ad, rfl, h1, h2, hlt, hrun, y, hy0, h5, h6, h7⟩ := core _ h0 hx
  have hy := R.weak hle.le hy0
  unfold rowK at h
  split at h
  · split at h
    case h_2 => exact h.elim
    rename_i cs
    have hK := h
    refine ⟨.row cs, _, hrun, ?_, hK⟩
    simp only [R] at hy
    obtain ⟨ys, rfl, hy1, hy2⟩ := hy
    simp only [RA]
    refine ⟨_, _, rfl, ?_, ?_⟩
    · have : (n.toNat + 1) * sz ≤ len * sz := Nat.mul_le_mul_right _ hlt
      rw [Nat.add_mul, Nat.one_mul] at this
      have hl : cs.length = sz := by rw [← hy1.len, ← h5]; simp [Value.cells]
      rw [hl, ← hsz2]; omega
    · intro j d hj
      obtain ⟨z, hz1, hz2⟩ := hy1.get j d hj
      refine ⟨z, hz2, hy2 z (List.mem_of_getElem? hz1), ?_⟩
      have hjl := (List.getElem?_eq_some_iff.1 hj).1
      have hl : cs.length = sz := by rw [← hy1.len, ← h5]; simp [Value.cells]
      rw [← hsz2, h7 j (by omega)]
      simpa [Value.cells] using hz1
  · obtain ⟨hc, hK⟩ := needC_iff.1 h
    obtain ⟨e1, e2⟩ := cell_of hc hy
    have hs1 : sz = 1 := by rw [← h5, e1]; rfl
    refine ⟨.row [x'], _, hrun, ?_, hK⟩
    simp only [RA]
    refine ⟨_, _, rfl, ?_, ?_⟩
    · have : (n.toNat + 1) * sz ≤ len * sz := Nat.mul_le_mul_right _ hlt
      rw [Nat.add_mul, Nat.one_mul] at this
      simp only [List.length_singleton]
      rw [← hsz2]; omega
    · intro j d hj
      cases j with
      | zero =>
        simp at hj; subst hj
        refine ⟨y, hy, e2, ?_⟩
        rw [← hsz2, h7 0 (by omega), e1]; rfl
      | succ j => simp at hj
end Go.Qv
