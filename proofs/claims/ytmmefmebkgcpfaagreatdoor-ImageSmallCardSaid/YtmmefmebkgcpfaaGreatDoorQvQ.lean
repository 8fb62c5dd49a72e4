/- What a loop carries round. Over any program. -/
import Derived.Test.YtmmefmebkgcpfaaGreatDoorQvP
import Derived.Deep.LoopGhost
namespace Go.Qv
open Go

/-! ### Places and what they hold -/
inductive Pk where
  | int (k : IntKind) | bool | str | dv | own (k sz : Nat) | mapS | mapI (kd : IntKind)
inductive Pc where
  | slot (s : Nat) | cell (k i : Nat) | obj (k : Nat)
structure Loc where
  pc : Pc
  pk : Pk
inductive PV where
  | n (i : Int) | b (t : Bool) | s (t : ByteArray) | x (d : DV) | xs (l : List DV) | mS (es : List (ByteArray × DV)) | mI (es : List (Int × DV))

def allPV : List Loc → (List PV → Prop) → Prop
  | [], K => K []
  | l :: ls, K => match l.pk with
    | .int _ => ∀ i : Int, allPV ls fun vs => K (.n i :: vs)
    | .bool => ∀ t : Bool, allPV ls fun vs => K (.b t :: vs)
    | .str => ∀ t : ByteArray, allPV ls fun vs => K (.s t :: vs)
    | .dv => ∀ d : DV, allPV ls fun vs => K (.x d :: vs)
    | .own _ _ => ∀ l : List DV, allPV ls fun vs => K (.xs l :: vs)
    | .mapS => ∀ es : List (ByteArray × DV), allPV ls fun vs => K (.mS es :: vs)
    | .mapI _ => ∀ es : List (Int × DV), allPV ls fun vs => K (.mI es :: vs)
/-- The list fits the places' kinds. -/
def fitPV : List Loc → List PV → Prop
  | [], vs => vs = []
  | l :: ls, vs => match l.pk with
    | .int _ => ∃ i vs', vs = .n i :: vs' ∧ fitPV ls vs'
    | .bool => ∃ i vs', vs = .b i :: vs' ∧ fitPV ls vs'
    | .str => ∃ i vs', vs = .s i :: vs' ∧ fitPV ls vs'
    | .dv => ∃ i vs', vs = .x i :: vs' ∧ fitPV ls vs'
    | .own _ _ => ∃ i vs', vs = .xs i :: vs' ∧ fitPV ls vs'
    | .mapS => ∃ i vs', vs = .mS i :: vs' ∧ fitPV ls vs'
    | .mapI _ => ∃ i vs', vs = .mI i :: vs' ∧ fitPV ls vs'
theorem allPV_elim : ∀ {ls : List Loc} {K : List PV → Prop}, allPV ls K → ∀ vs, fitPV ls vs → K vs
  | [], K, h, vs, hf => by simp only [fitPV] at hf; subst hf; exact h
  | ⟨pc, pk⟩ :: ls, K, h, vs, hf => by
    cases pk <;> simp only [allPV, fitPV] at h hf <;> obtain ⟨i, vs', rfl, hf⟩ := hf <;> exact allPV_elim (h i) vs' hf

/-- Setting a place. -/
def setCellA (σ : St) (k i : Nat) (av : AV) : St := { σ with objs := σ.objs.map fun p => if p.1 == k then (match p.2 with | .cells cs => (p.1, .cells (cs.set i av)) | o => (p.1, o)) else p }
def setObA (σ : St) (k : Nat) (o : Ob) : St := { σ with objs := σ.objs.map fun p => if p.1 == k then (p.1, o) else p }
def setPc (σ : St) (pc : Pc) (av : AV) : St := match pc with
  | .slot s => { σ with env := σ.env.set s av }
  | .cell k i => setCellA σ k i av
  | .obj _ => σ
def getPc (σ : St) (pc : Pc) : AV := match pc with
  | .slot s => σ.env.getD s .no
  | .cell k i => (match objAt σ k with | some (.cells cs) => cs.getD i .no | _ => .no)
  | .obj _ => .no
def setPV (σ : St) (l : Loc) (v : PV) : St := match l.pk, v with
  | .int k, .n i => setPc σ l.pc (.d (.int k i))
  | .bool, .b t => setPc σ l.pc (.d (.bool t))
  | .str, .s t => setPc σ l.pc (.d (.str t))
  | .dv, .x d => setPc σ l.pc (.d d)
  | .own k sz, .xs xs => setPc σ l.pc (.own k sz xs)
  | .mapS, .mS es => (match l.pc with | .obj k => setObA σ k (.mapS es) | _ => σ)
  | .mapI kd, .mI es => (match l.pc with | .obj k => setObA σ k (.mapI kd es) | _ => σ)
  | _, _ => σ
def setPVs : St → List Loc → List PV → St
  | σ, l :: ls, v :: vs => setPVs (setPV σ l v) ls vs
  | σ, _, _ => σ
/-- Reading a place. -/
def getPV (σ : St) (l : Loc) (K : PV → Prop) : Prop := match l.pk with
  | .int k => (match getPc σ l.pc with | .d (.int k' n) => if k' = k then K (.n n) else False | _ => False)
  | .bool => (match getPc σ l.pc with | .d (.bool t) => K (.b t) | _ => False)
  | .str => (match getPc σ l.pc with | .d (.str t) => K (.s t) | _ => False)
  | .dv => asD (getPc σ l.pc) fun d => ∃ d' : DV, DvW d d' ∧ K (.x d')
  | .own k sz => (match getPc σ l.pc with | .own k' sz' xs => if k' = k ∧ sz' = sz then K (.xs xs) else False | _ => False)
  | .mapS => (match l.pc with | .obj k => (match objAt σ k with | some (.mapS es) => K (.mS es) | _ => False) | _ => False)
  | .mapI kd => (match l.pc with | .obj k => (match objAt σ k with | some (.mapI kd' es) => if kd' = kd then K (.mI es) else False | _ => False) | _ => False)
def getPVs (σ : St) : List Loc → (List PV → Prop) → Prop
  | [], K => K []
  | l :: ls, K => getPV σ l fun v => getPVs σ ls fun vs => K (v :: vs)
theorem getPV_fit {σ : St} {l : Loc} {K : PV → Prop} (h : getPV σ l K) : ∃ v, K v ∧ ∀ ls vs, fitPV ls vs → fitPV (l :: ls) (v :: vs) := by
  obtain ⟨pc, pk⟩ := l
  unfold getPV at h
  cases pk <;> simp only at h
  case int =>
    split at h
    · split at h
      · exact ⟨_, h, fun ls vs hf => ⟨_, _, rfl, hf⟩⟩
      · exact h.elim
    · exact h.elim
  case bool =>
    split at h
    · exact ⟨_, h, fun ls vs hf => ⟨_, _, rfl, hf⟩⟩
    · exact h.elim
  case str =>
    split at h
    · exact ⟨_, h, fun ls vs hf => ⟨_, _, rfl, hf⟩⟩
    · exact h.elim
  case dv =>
    unfold asD at h
    split at h
    · obtain ⟨d', _, h⟩ := h
      exact ⟨_, h, fun ls vs hf => ⟨_, _, rfl, hf⟩⟩
    · obtain ⟨d', _, h⟩ := h
      exact ⟨_, h, fun ls vs hf => ⟨_, _, rfl, hf⟩⟩
    · split at h
      · obtain ⟨d', _, h⟩ := h
        exact ⟨_, h, fun ls vs hf => ⟨_, _, rfl, hf⟩⟩
      · exact h.elim
    · exact h.elim
  case own =>
    split at h
    · split at h
      · exact ⟨_, h, fun ls vs hf => ⟨_, _, rfl, hf⟩⟩
      · exact h.elim
    · exact h.elim
  case mapS =>
    split at h
    · split at h
      · exact ⟨_, h, fun ls vs hf => ⟨_, _, rfl, hf⟩⟩
      · exact h.elim
    · exact h.elim
  case mapI =>
    split at h
    · split at h
      · split at h
        · exact ⟨_, h, fun ls vs hf => ⟨_, _, rfl, hf⟩⟩
        · exact h.elim
      · exact h.elim
    · exact h.elim
theorem getPVs_fit {σ : St} : ∀ {ls : List Loc} {K : List PV → Prop}, getPVs σ ls K → ∃ vs, K vs ∧ fitPV ls vs
  | [], K, h => ⟨[], h, rfl⟩
  | l :: ls, K, h => by
    simp only [getPVs] at h
    obtain ⟨v, h, hv⟩ := getPV_fit h
    obtain ⟨vs, h, hf⟩ := getPVs_fit h
    exact ⟨v :: vs, h, hv ls vs hf⟩

/-! ### A state that says less -/
def resLe1 (x y : AV) : Prop := match y with
  | .d z => asD x fun q => DvW q z
  | .no => True
  | y => x = y
def resLeL : List AV → List AV → Prop
  | [], [] => True
  | x :: xs, y :: ys => (match y with | .no => resLeL xs ys | y => resLe1 x y ∧ resLeL xs ys)
  | _, _ => False
theorem resLe1_ok {G : Gh} {w : World} {x y : AV} {v : Value} (h : resLe1 x y) (hr : RA G w x v) : RA G w y v := by
  unfold resLe1 at h
  split at h
  · obtain ⟨q, hq, e⟩ := asD_elim h hr
    exact R.weak e.le hq
  · simp only [RA]
  · rw [← h]; exact hr
theorem resLeL_ok {G : Gh} {w : World} : ∀ {xs ys : List AV} {vs : List Value}, resLeL xs ys → RAL G w xs vs → RAL G w ys vs
  | [], [], vs, _, hr => hr
  | [], y :: ys, vs, h, _ => by simp [resLeL] at h
  | x :: xs, [], vs, h, _ => by simp [resLeL] at h
  | x :: xs, y :: ys, vs, h, hr => by
    simp only [resLeL] at h
    simp only [RAL] at hr ⊢
    obtain ⟨u, us, rfl, h1, h2⟩ := hr
    split at h
    · exact ⟨u, us, rfl, by simp only [RA], resLeL_ok h h2⟩
    · exact ⟨u, us, rfl, resLe1_ok h.1 h1, resLeL_ok h.2 h2⟩
def objLe (o' o : Ob) : Prop := match o with
  | .cells ys => (match o' with | .cells xs => resLeL xs ys | _ => False)
  | o => o' = o
theorem objLe_ok {G : Gh} {w : World} {k : Nat} {o' o : Ob} (h : objLe o' o) (hr : ObjOk G w k o') : ObjOk G w k o := by
  unfold objLe at h
  split at h
  · split at h
    · obtain ⟨ys, T, h1, h2, h3⟩ := hr
      exact ⟨ys, T, h1, resLeL_ok h h2, h3⟩
    · exact h.elim
  · rw [← h]; exact hr
def objsLe (σ : St) : List (Nat × Ob) → Prop
  | [] => True
  | (k, o) :: os => (match objAt σ k with | some o' => objLe o' o | none => False) ∧ objsLe σ os
def keysB : List (Nat × Ob) → Bool
  | [] => true
  | p :: os => os.all (fun q => q.1 != p.1) && keysB os
def roomsLe (σ : St) (os : List (Nat × Ob)) (rs : List Nat) : Bool := rs.all (fun k => σ.rooms.contains k) && keysB os
theorem objsLe_mem {σ : St} : ∀ {os : List (Nat × Ob)}, objsLe σ os → ∀ k o, (k, o) ∈ os → ∃ o', (k, o') ∈ σ.objs ∧ objLe o' o
  | (k', o') :: os, h, k, o, hm => by
    simp only [objsLe] at h
    rcases List.mem_cons.1 hm with e | hm
    · cases e
      obtain ⟨h, _⟩ := h
      split at h
      · rename_i o2 ho
        exact ⟨o2, objAt_mem ho, h⟩
      · exact h.elim
    · exact objsLe_mem h.2 k o hm
theorem keysB_uniq : ∀ {os : List (Nat × Ob)}, keysB os = true → ∀ k o o', (k, o) ∈ os → (k, o') ∈ os → o = o'
  | p :: os, h, k, o, o', h1, h2 => by
    simp only [keysB, Bool.and_eq_true, List.all_eq_true, bne_iff_ne, ne_eq] at h
    rcases List.mem_cons.1 h1 with e1 | g1 <;> rcases List.mem_cons.1 h2 with e2 | g2
    · rw [← e1] at e2; cases e2; rfl
    · subst e1; exact (h.1 (k, o') g2 rfl).elim
    · subst e2; exact (h.1 (k, o) g1 rfl).elim
    · exact keysB_uniq h.2 k o o' g1 g2
def leSt (σ h : St) : Prop := resLeL σ.env h.env ∧ objsLe σ h.objs ∧ roomsLe σ h.objs h.rooms = true
theorem Sim.le {F : F0} {G : Gh} {σ h : St} {a : Act} {w : World} (hs : Sim F G σ a w) (hle : leSt σ h) : Sim F G h a w := by
  obtain ⟨h1, h2, h3⟩ := hle
  simp only [roomsLe, Bool.and_eq_true] at h3
  have hr : ∀ k, k ∈ h.rooms → k ∈ σ.rooms := by
    intro k hk
    simpa using List.all_eq_true.1 h3.1 k hk
  have hl : ∀ k, Live G h.objs h.rooms k → Live G σ.objs σ.rooms k := by
    rintro k (⟨o, ho⟩ | ⟨hk, hz⟩)
    · obtain ⟨o', ho', _⟩ := objsLe_mem h2 k o ho
      exact .inl ⟨o', ho'⟩
    · exact .inr ⟨hr k hk, hz⟩
  exact
    { env := resLeL_ok h1 hs.env, defers := hs.defers, fr := hs.fr, old := hs.old, ov := hs.ov, mine := fun k hk => hs.mine k (hl k hk)
      ctx := { okO := fun k o ho => by
                 obtain ⟨o', ho', hle⟩ := objsLe_mem h2 k o ho
                 exact objLe_ok hle (hs.ctx.okO k o' ho')
               okR := fun k hk => hs.ctx.okR k (hr k hk), inj := fun k k' hk hk' e => hs.ctx.inj k k' (hl k hk) (hl k' hk') e
               uniq := keysB_uniq h3.2, dis := fun k o hk ho => by
                 obtain ⟨o', ho', _⟩ := objsLe_mem h2 k o ho
                 exact hs.ctx.dis k o' (hr k hk) ho' } }
/-- What is kept at a loop's head, besides the places that it turns. -/
structure LAnn where
  locs : List Loc
  slots : List Nat
  objs : List Nat
  rooms : List Nat
def headBase (A : LAnn) (σ : St) : St :=
  { env := σ.env.mapIdx fun i a => if A.slots.contains i then (match a with | .own k sz xs => if A.rooms.contains k then .own k sz xs else .d (.sl .any sz xs) | a => a) else .no
    objs := A.objs.filterMap fun k => match objAt σ k with | some o => some (k, o) | none => none
    rooms := A.rooms ++ A.locs.filterMap fun l => match l.pk with | .own k _ => some k | _ => none }
def headSt (A : LAnn) (σ : St) (vs : List PV) : St := setPVs (headBase A σ) A.locs vs

/-! ### A place that is to be owned -/
theorem own_cast {F : F0} {G : Gh} {σ : St} {a : Act} {w : World} (hs : Sim F G σ a w) {s : AV} {sz d : Nat} {v : Value} {K : Option Nat → List DV → Prop} (h0 : 0 < sz) (hd : d < 100000) (h : appSrc s sz σ K) (hr : RA G w s v) :
    ∃ k xs G', K k xs ∧ Sim F G' (appSt σ k d) a w ∧ RA G' w (.own d sz xs) v ∧ ∀ j, j ≠ d → G'.β j = G.β j := by
  obtain ⟨k, xs, hK, ⟨A, cap, rfl, hcap, hnil, hrow, hown⟩⟩ := appSrc_ok hs h0 h hr
  refine ⟨k, xs, ?_⟩
  obtain ⟨σ1, hσ1⟩ : ∃ σ1, σ1 = (match k with | some k => (σ.kill k).kill d | none => σ.kill d) := ⟨_, rfl⟩
  have hs1 : Sim F G σ1 a w := by
    subst hσ1
    cases k with
    | none => exact hs.kill d
    | some k => exact (hs.kill k).kill d
  have hσ2 : appSt σ k d = { σ1 with rooms := d :: σ1.rooms } := by
    subst hσ1
    cases k <;> rfl
  have nd1 : ∀ j, AV.hasL j σ1.env = true → j ≠ d := by subst hσ1; cases k <;> exact fun j hj => St.kill_env _ d j hj
  have nd2 : ∀ j, hasO j σ1.objs → j ≠ d := by
    subst hσ1
    cases k with
    | none => exact fun j hj => St.kill_objs hs d j hj
    | some k => exact fun j hj => St.kill_objs (hs.kill k) d j hj
  have nd3 : ∀ j, j ∈ σ1.rooms → j ≠ d := by subst hσ1; cases k <;> exact fun j hj => St.kill_rooms _ d j hj
  have nd4 : ∀ o', (d, o') ∉ σ1.objs := by subst hσ1; cases k <;> exact fun o' => St.kill_no _ d o'
  have hlive : ∀ j, Live G σ1.objs σ1.rooms j → Live G σ.objs σ.rooms j ∧ j ≠ d ∧ ∀ i, k = some i → j ≠ i := by
    subst hσ1
    exact fun j hj => appSt_live hj
  rw [hσ2]
  have finish : ∀ (b E Z : Nat), (Z = E ∨ ((∃ (cs : Array Value) (T : Nat), w.heap[b]? = some (.cells cs T (0, 0)) ∧ cs.size = Z ∧ G.S b = E) ∧ (∀ j, Live G σ1.objs σ1.rooms j → G.β j ≠ b) ∧ (F.M b ∨ F.w.heap.size ≤ b))) →
      RA { β := upto G.β d b, E := upto G.E d E, Z := upto G.Z d Z, S := G.S, ov := G.ov } w (.own d sz xs) (.slice A xs.length cap) → ∃ G', K k xs ∧ Sim F G' { σ1 with rooms := d :: σ1.rooms } a w ∧ RA G' w (.own d sz xs) (.slice A xs.length cap) ∧ ∀ j, j ≠ d → G'.β j = G.β j := by
    intro b E Z hroom hra
    have hG : G.But { β := upto G.β d b, E := upto G.E d E, Z := upto G.Z d Z, S := G.S, ov := G.ov } (fun j => j ≠ d) := ⟨fun j hj => upto_ne _ _ hj, fun j hj => upto_ne _ _ hj, fun j hj => upto_ne _ _ hj, rfl⟩
    have hs2 : Sim F { β := upto G.β d b, E := upto G.E d E, Z := upto G.Z d Z, S := G.S, ov := G.ov } σ1 a w := hs1.upd (fun j => j ≠ d) hG (Pres.refl _ _) nd1 nd2 nd3 (fun j hj => by omega) (fun j _ => ⟨rfl, rfl⟩) hs1.fr
    refine ⟨_, hK, hs2.addRoom d ?_ nd4 (fun hr => nd3 d hr rfl) ?_ ?_, hra, fun j hj => upto_ne _ _ hj⟩
    · unfold RoomOk
      simp only [upto_same]
      rcases hroom with e | ⟨⟨cs, T, g1, g2, g3⟩, _⟩
      · exact .inl e
      · exact .inr ⟨cs, T, g1, g2, g3⟩
    · simp only [upto_same]
      intro hne j hj
      have l1 := Live.But hG (fun j hj => nd3 j hj) hj
      rw [upto_ne _ _ (hlive j l1).2.1]
      rcases hroom with e | ⟨_, g, _⟩
      · exact absurd e hne
      · exact g j l1
    · simp only [upto_same]
      intro hne
      rcases hroom with e | ⟨_, _, g⟩
      · exact absurd e hne
      · exact g
  rcases hown with hce | ⟨j, off, cs, T, rfl, hlj, rfl, hoff, hheap, hcs⟩
  · cases A with
    | none =>
      obtain ⟨hx0, hc0⟩ := hnil rfl
      subst hx0 hc0
      refine finish 0 0 0 (.inl rfl) ?_
      simp [RA]
    | some ad =>
      obtain ⟨e1, e2, e3⟩ := hrow ad rfl
      obtain ⟨bb, oo, ss⟩ := ad
      simp only at e1 e2 e3
      subst e1
      refine finish bb (oo + xs.length * sz) (oo + xs.length * sz) (.inl rfl) ?_
      simp only [RA, upto_same]
      exact .inr ⟨oo, cap, rfl, hcap, rfl, by rw [hce]; exact Nat.le_refl _, e2, e3⟩
  · obtain ⟨_, e2, e3⟩ := hrow _ rfl
    simp only at e2 e3
    refine finish (G.β j) (off + xs.length * sz) cs.size (.inr ⟨⟨cs, T, hheap, rfl, hoff.symm⟩, fun q hq e => (hlive q hq).2.2 j rfl (hs.ctx.inj q j (hlive q hq).1 hlj e), hs.mine j hlj⟩) ?_
    simp only [RA, upto_same]
    exact .inr ⟨off, cap, rfl, hcap, rfl, hcs, e2, e3⟩
/-- A place said anew. -/
theorem Sim.setPc {F : F0} {G : Gh} {σ : St} {a : Act} {w : World} (hs : Sim F G σ a w) (pc : Pc) (av : AV) (v : Value) (hr : RA G w av v)
    (hv : match pc with | .slot s => a.tmps[s]? = none ∨ a.tmps[s]? = some v | .cell k i => ∀ ys T, w.heap[G.β k]? = some (.cells ys T (0, 0)) → ys[i]? = none ∨ ys[i]? = some v | .obj _ => True) : Sim F G (setPc σ pc av) a w := by
  cases pc with
  | slot s =>
    refine { hs with env := ?_, defers := hs.defers }
    refine RAL.ofGet (by simp [Go.Qv.setPc, hs.env.len]) fun i x u hx hu => ?_
    simp only [Go.Qv.setPc, List.getElem?_set] at hx
    split at hx
    · subst_vars
      split at hx
      · simp only [Option.some.injEq] at hx
        subst hx
        rw [Array.getElem?_toList] at hu
        rcases hv with e | e <;> rw [hu] at e <;> cases e
        exact hr
      · cases hx
    · obtain ⟨u', e, h⟩ := hs.env.get i x hx
      rw [hu] at e; cases e
      exact h
  | obj k => exact hs
  | cell k i =>
    have hmem : ∀ j o, (j, o) ∈ (setCellA σ k i av).objs → ∃ o', (j, o') ∈ σ.objs ∧ (j ≠ k ∧ o = o' ∨ j = k ∧ (match o' with | .cells cs => o = .cells (cs.set i av) | o' => o = o')) := by
      intro j o h
      simp only [setCellA, List.mem_map] at h
      obtain ⟨⟨j', o'⟩, h1, h2⟩ := h
      by_cases e : j' = k
      · subst e
        simp only [beq_self_eq_true, if_true] at h2
        cases o' <;> simp only at h2 <;> cases h2 <;> exact ⟨_, h1, .inr ⟨rfl, rfl⟩⟩
      · have : (j' == k) = false := by simpa using e
        simp only [this, Bool.false_eq_true, if_false] at h2
        cases h2
        exact ⟨_, h1, .inl ⟨e, rfl⟩⟩
    have hlive : ∀ j, Live G (setCellA σ k i av).objs (setCellA σ k i av).rooms j → Live G σ.objs σ.rooms j := by
      rintro j (⟨o, ho⟩ | h)
      · obtain ⟨o', h1, _⟩ := hmem j o ho
        exact .inl ⟨o', h1⟩
      · exact .inr h
    refine { env := hs.env, defers := hs.defers, fr := hs.fr, old := hs.old, ov := hs.ov, mine := fun j hj => hs.mine j (hlive j hj), ctx := { okO := ?_, okR := hs.ctx.okR, inj := fun j j' hj hj' e => hs.ctx.inj j j' (hlive j hj) (hlive j' hj') e, uniq := ?_, dis := ?_ } }
    · intro j o ho
      obtain ⟨o', h1, h2⟩ := hmem j o ho
      rcases h2 with ⟨_, rfl⟩ | ⟨rfl, h2⟩
      · exact hs.ctx.okO j o h1
      · have hok := hs.ctx.okO j o' h1
        cases o' with
        | cells cs =>
          simp only at h2; subst h2
          obtain ⟨ys, T, g1, g2, g3, g4⟩ := hok
          refine ⟨ys, T, g1, RAL.ofGet (by rw [List.length_set]; exact g2.len) fun q x u hx hu => ?_, g3, g4⟩
          rw [List.getElem?_set] at hx
          split at hx
          · subst_vars
            split at hx
            · simp only [Option.some.injEq] at hx
              subst hx
              rw [Array.getElem?_toList] at hu
              rcases hv ys T g1 with e | e <;> rw [hu] at e <;> cases e
              exact hr
            · cases hx
          · obtain ⟨u', e, h⟩ := g2.get q x hx
            rw [hu] at e; cases e
            exact h
        | mapS es => simp only at h2; subst h2; exact hok
        | mapI kd es => simp only at h2; subst h2; exact hok
        | mit m s n l => simp only at h2; subst h2; exact hok
        | mitN => simp only at h2; subst h2; exact hok
        | unk => simp only at h2; subst h2; exact hok
        | sit s p => simp only at h2; subst h2; exact hok
    · intro j o1 o2 h1 h2
      obtain ⟨p1, a1, b1⟩ := hmem j o1 h1
      obtain ⟨p2, a2, b2⟩ := hmem j o2 h2
      have := hs.ctx.uniq j p1 p2 a1 a2
      subst this
      rcases b1 with ⟨c1, rfl⟩ | ⟨c1, b1⟩ <;> rcases b2 with ⟨c2, rfl⟩ | ⟨c2, b2⟩
      · rfl
      · exact absurd c2 c1
      · exact absurd c1 c2
      · cases p1 <;> simp only at b1 b2 <;> rw [b1, b2]
    · intro j o hj ho
      obtain ⟨o', h1, _⟩ := hmem j o ho
      exact hs.ctx.dis j o' hj h1
def castOk (d sz : Nat) (pc : Pc) : Bool := decide (0 < sz) && (decide (d < 100000) && (match pc with | .cell k _ => decide (k ≠ d) | _ => true))
def castOwn (l : Loc) (σ : St) (K : St → Prop) : Prop := match l.pk with
  | .own d sz => if castOk d sz l.pc then appSrc (getPc σ l.pc) sz σ fun k xs => K (Go.Qv.setPc (appSt σ k d) l.pc (.own d sz xs)) else False
  | _ => K σ
def castOwns : List Loc → St → (St → Prop) → Prop
  | [], σ, K => K σ
  | l :: ls, σ, K => castOwn l σ fun σ' => castOwns ls σ' K
theorem castOwn_ok {F : F0} {G : Gh} {σ : St} {a : Act} {w : World} (hs : Sim F G σ a w) {l : Loc} {K : St → Prop} (h : castOwn l σ K) : ∃ σ' G', Sim F G' σ' a w ∧ K σ' := by
  unfold castOwn at h
  split at h
  case h_2 => exact ⟨σ, G, hs, h⟩
  rename_i d sz hpk
  split at h
  case isFalse => exact h.elim
  rename_i hc
  simp only [castOk, Bool.and_eq_true, decide_eq_true_eq] at hc
  have hne : getPc σ l.pc ≠ .no := by intro e; rw [e] at h; exact h
  cases hpc : l.pc with
  | obj k => rw [hpc] at hne; exact absurd rfl hne
  | slot s =>
    rw [hpc] at h hne
    simp only [getPc, List.getD_eq_getElem?_getD] at hne h
    cases e : σ.env[s]? with
    | none => rw [e] at hne; exact absurd rfl hne
    | some x =>
      rw [e] at h
      simp only [Option.getD_some] at h
      obtain ⟨u, hu, hr⟩ := hs.env.get s x e
      rw [Array.getElem?_toList] at hu
      obtain ⟨k, xs, G', hK, hs', hr', _⟩ := own_cast hs hc.1 hc.2.1 h hr
      exact ⟨_, G', hs'.setPc (.slot s) _ u hr' (.inr hu), hK⟩
  | cell k i =>
    rw [hpc] at h hne
    simp only [getPc] at hne h
    cases ho : objAt σ k with
    | none => rw [ho] at hne; exact absurd rfl hne
    | some o =>
      cases o with
      | cells cs =>
        rw [ho] at h hne
        simp only [List.getD_eq_getElem?_getD] at h hne
        cases e : cs[i]? with
        | none => rw [e] at hne; exact absurd rfl hne
        | some x =>
          rw [e] at h
          simp only [Option.getD_some] at h
          obtain ⟨ys, T, g1, g2, g3, g4⟩ := hs.ctx.okO k _ (objAt_mem ho)
          obtain ⟨u, hu, hr⟩ := g2.get i x e
          rw [Array.getElem?_toList] at hu
          obtain ⟨j, xs, G', hK, hs', hr', hβ⟩ := own_cast hs hc.1 hc.2.1 h hr
          have hkd : k ≠ d := by have := hc.2.2; rw [hpc] at this; simpa using this
          refine ⟨_, G', hs'.setPc (.cell k i) _ u hr' ?_, hK⟩
          intro ys' T' hy
          rw [hβ k hkd, g1] at hy
          cases hy
          exact .inr hu
      | mapS es => rw [ho] at hne; exact absurd rfl hne
      | mapI kd es => rw [ho] at hne; exact absurd rfl hne
      | mit m s n l => rw [ho] at hne; exact absurd rfl hne
      | mitN => rw [ho] at hne; exact absurd rfl hne
      | unk => rw [ho] at hne; exact absurd rfl hne
      | sit s p => rw [ho] at hne; exact absurd rfl hne
end Go.Qv
