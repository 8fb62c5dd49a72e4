/- The state of a walk, and how it holds of a frame and a world. No program. -/
import Derived.Test.YtmmefmebkgcpfaaGreatDoorQvA
import Derived.Laws.World
namespace Go.Qv
open Go

inductive Ob where
  | cells (cs : List AV)
  | mapS (es : List (ByteArray × DV))
  | mapI (kd : IntKind) (es : List (Int × DV))
  /-- An iterator over the map m: its clock as it began, what has been seen, the clock at the last step. -/
  | mit (m since : Nat) (seen : List Nat) (last : Nat)
  | mitN
  | unk
  | sit (s : ByteArray) (pos : Nat)

structure St where
  env : List AV
  objs : List (Nat × Ob)
  rooms : List Nat

def REnts {α : Type} (w : World) (S : Nat → Nat) (kp : α → Value) : List (α × DV) → List MapEntry → Prop
  | [], es => es = []
  | (k, v) :: ds, es => ∃ e es', es = e :: es' ∧ e.key = kp k ∧ R w S v e.val ∧ REnts w S kp ds es'
theorem REnts.mono {α : Type} {kp : α → Value} {w w' : World} {S S' : Nat → Nat} (h : Pres w S w' S') : ∀ {ds : List (α × DV)} {es : List MapEntry}, REnts w S kp ds es → REnts w' S' kp ds es
  | [], _, hr => hr
  | (k, v) :: ds, es, hr => by
    simp only [REnts] at hr ⊢
    obtain ⟨e, es', he, h1, h2, h3⟩ := hr
    exact ⟨e, es', he, h1, R.mono h _ _ h2, h3.mono h⟩
def MapOk {α : Type} (G : Gh) (w : World) (k : Nat) (kp : α → Value) (es : List (α × DV)) : Prop :=
  ∃ (ents : Array MapEntry) (clock : Nat), w.heap[G.β k]? = some (.map ents clock) ∧ REnts w G.S kp es ents.toList ∧ (∀ e ∈ ents.toList, e.born < clock) ∧ (ents.toList.map (·.born)).Nodup ∧ G.S (G.β k) = 0

def ObjOk (G : Gh) (w : World) (k : Nat) : Ob → Prop
  | .cells cs => ∃ (ys : Array Value) (T : Nat), w.heap[G.β k]? = some (.cells ys T (0, 0)) ∧ RAL G w cs ys.toList ∧ (∀ y ∈ ys.toList, Val1 y = true) ∧ G.S (G.β k) = 0
  | .mapS es => MapOk G w k Value.string es
  | .mapI kd es => MapOk G w k (Value.int kd) es
  | .mit m since seen last => w.heap[G.β k]? = some (.mapIter (some (G.β m)) since seen.toArray last) ∧ G.S (G.β k) = 0
  | .mitN => w.heap[G.β k]? = some (.mapIter none 0 #[] 0) ∧ G.S (G.β k) = 0
  | .unk => (∃ o, w.heap[G.β k]? = some o) ∧ G.S (G.β k) = 0
  | .sit s pos => w.heap[G.β k]? = some (.stringIter s pos) ∧ G.S (G.β k) = 0
def RoomOk (G : Gh) (w : World) (k : Nat) : Prop :=
  G.Z k = G.E k ∨ ∃ (ys : Array Value) (T : Nat), w.heap[G.β k]? = some (.cells ys T (0, 0)) ∧ ys.size = G.Z k ∧ G.S (G.β k) = G.E k

def Ob.has (k : Nat) : Ob → Bool
  | .cells cs => AV.hasL k cs
  | .mit m _ _ _ => m == k
  | _ => false
def Ob.kill (k : Nat) : Ob → Ob
  | .cells cs => .cells (AV.killL k cs)
  | .mit m s n l => if m = k then .unk else .mit m s n l
  | o => o

def hasO (k : Nat) (objs : List (Nat × Ob)) : Prop := ∃ k' o, (k', o) ∈ objs ∧ (k' = k ∨ o.has k = true)
def Live (G : Gh) (objs : List (Nat × Ob)) (rooms : List Nat) (k : Nat) : Prop := (∃ o, (k, o) ∈ objs) ∨ (k ∈ rooms ∧ G.Z k ≠ G.E k)

structure Ctx (G : Gh) (w : World) (objs : List (Nat × Ob)) (rooms : List Nat) : Prop where
  okO : ∀ k o, (k, o) ∈ objs → ObjOk G w k o
  okR : ∀ k, k ∈ rooms → RoomOk G w k
  inj : ∀ k k', Live G objs rooms k → Live G objs rooms k' → G.β k = G.β k' → k = k'
  uniq : ∀ k o o', (k, o) ∈ objs → (k, o') ∈ objs → o = o'
  dis : ∀ k o, k ∈ rooms → (k, o) ∉ objs

structure F0 where
  w : World
  G : Gh
  M : Nat → Prop

structure Fr (F : F0) (w : World) (S : Nat → Nat) : Prop where
  os : w.os = F.w.os
  tape : w.tape = F.w.tape
  output : w.output = F.w.output
  size : F.w.heap.size ≤ w.heap.size
  keep : ∀ b, b < F.w.heap.size → ¬ F.M b → w.heap[b]? = F.w.heap[b]? ∧ S b = F.G.S b
  pres : Pres F.w F.G.S w S
  fin : ∀ b, w.heap.size ≤ b → S b = 0

structure Sim (F : F0) (G : Gh) (σ : St) (a : Act) (w : World) : Prop where
  env : RAL G w σ.env a.tmps.toList
  defers : a.defers = []
  ctx : Ctx G w σ.objs σ.rooms
  fr : Fr F w G.S
  mine : ∀ k, Live G σ.objs σ.rooms k → F.M (G.β k) ∨ F.w.heap.size ≤ G.β k
  old : ∀ k, 100000 ≤ k → G.β k = F.G.β k ∧ G.E k = F.G.E k ∧ G.Z k = F.G.Z k
  ov : G.ov = F.G.ov

theorem ObjOk.mono {w w' : World} {G G' : Gh} {k : Nat} {o : Ob} (h : Pres w G.S w' G'.S) {P : Nat → Prop} (hG : G.But G' P) (hk : P k) (ho : ∀ j, o.has j = true → P j)
    (hb : w'.heap[G.β k]? = w.heap[G.β k]?) (hs : G'.S (G.β k) = G.S (G.β k)) (hr : ObjOk G w k o) : ObjOk G' w' k o := by
  cases o with
  | cells cs =>
    obtain ⟨ys, T, h1, h2, h3, h4⟩ := hr
    refine ⟨ys, T, ?_, RAL.mono h P hG cs _ (fun j hj => ho j hj) h2, h3, ?_⟩
    · rw [hG.β k hk, hb]; exact h1
    · rw [hG.β k hk, hs]; exact h4
  | mapS es =>
    obtain ⟨ents, clock, h1, h2, h3, h4, h5⟩ := hr
    refine ⟨ents, clock, ?_, h2.mono h, h3, h4, ?_⟩
    · rw [hG.β k hk, hb]; exact h1
    · rw [hG.β k hk, hs]; exact h5
  | mapI kd es =>
    obtain ⟨ents, clock, h1, h2, h3, h4, h5⟩ := hr
    refine ⟨ents, clock, ?_, h2.mono h, h3, h4, ?_⟩
    · rw [hG.β k hk, hb]; exact h1
    · rw [hG.β k hk, hs]; exact h5
  | mit m s n l =>
    obtain ⟨h1, h2⟩ := hr
    refine ⟨?_, by rw [hG.β k hk, hs]; exact h2⟩
    rw [hG.β k hk, hb, hG.β m (ho m (by simp [Ob.has]))]; exact h1
  | mitN =>
    obtain ⟨h1, h2⟩ := hr
    exact ⟨by rw [hG.β k hk, hb]; exact h1, by rw [hG.β k hk, hs]; exact h2⟩
  | unk =>
    obtain ⟨⟨o, h1⟩, h2⟩ := hr
    exact ⟨⟨o, by rw [hG.β k hk, hb]; exact h1⟩, by rw [hG.β k hk, hs]; exact h2⟩
  | sit s p =>
    obtain ⟨h1, h2⟩ := hr
    exact ⟨by rw [hG.β k hk, hb]; exact h1, by rw [hG.β k hk, hs]; exact h2⟩
theorem RoomOk.mono {w w' : World} {G G' : Gh} {k : Nat} {P : Nat → Prop} (hG : G.But G' P) (hk : P k)
    (hb : G.Z k ≠ G.E k → w'.heap[G.β k]? = w.heap[G.β k]? ∧ G'.S (G.β k) = G.S (G.β k)) (hr : RoomOk G w k) : RoomOk G' w' k := by
  unfold RoomOk at hr ⊢
  rw [hG.β k hk, hG.E k hk, hG.Z k hk]
  rcases hr with hr | ⟨ys, T, h1, h2, h3⟩
  · exact .inl hr
  · by_cases hz : G.Z k = G.E k
    · exact .inl hz
    · obtain ⟨e1, e2⟩ := hb hz
      exact .inr ⟨ys, T, by rw [e1]; exact h1, h2, by rw [e2]; exact h3⟩

theorem Live.But {G G' : Gh} {P : Nat → Prop} (hG : G.But G' P) {objs : List (Nat × Ob)} {rooms : List Nat} (hr : ∀ k, k ∈ rooms → P k) {k : Nat} (h : Live G' objs rooms k) : Live G objs rooms k := by
  rcases h with h | ⟨h, hz⟩
  · exact .inl h
  · exact .inr ⟨h, by rw [← hG.E k (hr k h), ← hG.Z k (hr k h)]; exact hz⟩

/-- The world moves on, and the ghost with it; what the state names keeps its blocks. -/
theorem Sim.upd {F : F0} {G : Gh} {σ : St} {a : Act} {w : World} (h : Sim F G σ a w) {G' : Gh} {w' : World} (P : Nat → Prop) (hG : G.But G' P) (hp : Pres w G.S w' G'.S)
    (hP1 : ∀ k, AV.hasL k σ.env = true → P k) (hP2 : ∀ k, hasO k σ.objs → P k) (hP3 : ∀ k, k ∈ σ.rooms → P k) (hP4 : ∀ k, 100000 ≤ k → P k)
    (hl : ∀ k, Live G σ.objs σ.rooms k → w'.heap[G.β k]? = w.heap[G.β k]? ∧ G'.S (G.β k) = G.S (G.β k)) (hfr : Fr F w' G'.S) : Sim F G' σ a w' where
  env := RAL.mono hp P hG _ _ hP1 h.env
  defers := h.defers
  ctx :=
    { okO := fun k o ho => ObjOk.mono hp hG (hP2 k ⟨k, o, ho, .inl rfl⟩) (fun j hj => hP2 j ⟨k, o, ho, .inr hj⟩) (hl k (.inl ⟨o, ho⟩)).1 (hl k (.inl ⟨o, ho⟩)).2 (h.ctx.okO k o ho)
      okR := fun k hk => RoomOk.mono hG (hP3 k hk) (fun hz => hl k (.inr ⟨hk, hz⟩)) (h.ctx.okR k hk)
      inj := fun k k' hk hk' e => by
        have l1 := hk.But hG hP3
        have l2 := hk'.But hG hP3
        have p1 : P k := by rcases hk with ⟨o, ho⟩ | ⟨hr, _⟩; exact hP2 k ⟨k, o, ho, .inl rfl⟩; exact hP3 k hr
        have p2 : P k' := by rcases hk' with ⟨o, ho⟩ | ⟨hr, _⟩; exact hP2 k' ⟨k', o, ho, .inl rfl⟩; exact hP3 k' hr
        exact h.ctx.inj k k' l1 l2 (by rw [← hG.β k p1, ← hG.β k' p2]; exact e)
      uniq := h.ctx.uniq
      dis := h.ctx.dis }
  fr := hfr
  mine := fun k hk => by
    have l1 := hk.But hG hP3
    have p1 : P k := by rcases hk with ⟨o, ho⟩ | ⟨hr, _⟩; exact hP2 k ⟨k, o, ho, .inl rfl⟩; exact hP3 k hr
    rw [hG.β k p1]
    exact h.mine k l1
  old := fun k hk => by rw [hG.β k (hP4 k hk), hG.E k (hP4 k hk), hG.Z k (hP4 k hk)]; exact h.old k hk
  ov := hG.ov.trans h.ov

/-! ### The small moves of a state -/
theorem Sim.set {F : F0} {G : Gh} {σ : St} {a : Act} {w : World} (h : Sim F G σ a w) (t : Nat) (av : AV) (u : Value) (hu : RA G w av u) :
    Sim F G { σ with env := σ.env.set t av } { a with tmps := a.tmps.setIfInBounds t u } w :=
  { h with env := by simpa using h.env.set t av u hu, defers := h.defers }
/-- An object or a room that is not looked after any more; what names it stays. -/
def St.drop (σ : St) (k : Nat) : St := { σ with objs := σ.objs.filter (fun p => p.1 != k), rooms := σ.rooms.filter (· != k) }
theorem Live.drop {G : Gh} {σ : St} {k j : Nat} (h : Live G (σ.drop k).objs (σ.drop k).rooms j) : Live G σ.objs σ.rooms j ∧ j ≠ k := by
  rcases h with ⟨o, ho⟩ | ⟨hr, hz⟩
  · simp only [St.drop, List.mem_filter] at ho
    exact ⟨.inl ⟨o, ho.1⟩, by simpa using ho.2⟩
  · simp only [St.drop, List.mem_filter] at hr
    exact ⟨.inr ⟨hr.1, hz⟩, by simpa using hr.2⟩
theorem Sim.drop {F : F0} {G : Gh} {σ : St} {a : Act} {w : World} (h : Sim F G σ a w) (k : Nat) : Sim F G (σ.drop k) a w where
  env := h.env
  defers := h.defers
  ctx :=
    { okO := fun j o ho => h.ctx.okO j o (by simp only [St.drop, List.mem_filter] at ho; exact ho.1)
      okR := fun j hj => h.ctx.okR j (by simp only [St.drop, List.mem_filter] at hj; exact hj.1)
      inj := fun j j' hj hj' e => h.ctx.inj j j' hj.drop.1 hj'.drop.1 e
      uniq := fun j o o' ho ho' => h.ctx.uniq j o o' (by simp only [St.drop, List.mem_filter] at ho; exact ho.1) (by simp only [St.drop, List.mem_filter] at ho'; exact ho'.1)
      dis := fun j o hj ho => h.ctx.dis j o (by simp only [St.drop, List.mem_filter] at hj; exact hj.1) (by simp only [St.drop, List.mem_filter] at ho; exact ho.1) }
  fr := h.fr
  mine := fun j hj => h.mine j hj.drop.1
  old := h.old
  ov := h.ov
/-- A new object is looked after. -/
theorem Sim.addObj {F : F0} {G : Gh} {σ : St} {a : Act} {w : World} (h : Sim F G σ a w) (k : Nat) (o : Ob) (ho : ObjOk G w k o) (hn : ∀ o', (k, o') ∉ σ.objs) (hr : k ∉ σ.rooms)
    (hi : ∀ j, Live G σ.objs σ.rooms j → G.β j ≠ G.β k) (hm : F.M (G.β k) ∨ F.w.heap.size ≤ G.β k) : Sim F G { σ with objs := (k, o) :: σ.objs } a w where
  env := h.env
  defers := h.defers
  ctx :=
    { okO := fun j o' hj => by
        rcases List.mem_cons.1 hj with e | hj
        · cases e; exact ho
        · exact h.ctx.okO j o' hj
      okR := h.ctx.okR
      inj := fun j j' hj hj' e => by
        have key : ∀ j, Live G ((k, o) :: σ.objs) σ.rooms j → j = k ∨ Live G σ.objs σ.rooms j := by
          intro j hj
          rcases hj with ⟨o', hj⟩ | hj
          · rcases List.mem_cons.1 hj with e | hj
            · cases e; exact .inl rfl
            · exact .inr (.inl ⟨o', hj⟩)
          · exact .inr (.inr hj)
        rcases key j hj with rfl | l1 <;> rcases key j' hj' with rfl | l2
        · rfl
        · exact absurd e.symm (hi j' l2)
        · exact absurd e (hi j l1)
        · exact h.ctx.inj j j' l1 l2 e
      uniq := fun j o1 o2 h1 h2 => by
        rcases List.mem_cons.1 h1 with e | h1
        · cases e
          rcases List.mem_cons.1 h2 with e | h2
          · cases e; rfl
          · exact absurd h2 (hn o2)
        · rcases List.mem_cons.1 h2 with e | h2
          · cases e; exact absurd h1 (hn o1)
          · exact h.ctx.uniq j o1 o2 h1 h2
      dis := fun j o' hj ho' => by
        rcases List.mem_cons.1 ho' with e | ho'
        · cases e; exact hr hj
        · exact h.ctx.dis j o' hj ho' }
  fr := h.fr
  mine := fun j hj => by
    rcases hj with ⟨o', hj⟩ | hj
    · rcases List.mem_cons.1 hj with e | hj
      · cases e; exact hm
      · exact h.mine j (.inl ⟨o', hj⟩)
    · exact h.mine j (.inr hj)
  old := h.old
  ov := h.ov
theorem Sim.addRoom {F : F0} {G : Gh} {σ : St} {a : Act} {w : World} (h : Sim F G σ a w) (k : Nat) (ho : RoomOk G w k) (hn : ∀ o', (k, o') ∉ σ.objs) (hr : k ∉ σ.rooms)
    (hi : G.Z k ≠ G.E k → ∀ j, Live G σ.objs σ.rooms j → G.β j ≠ G.β k) (hm : G.Z k ≠ G.E k → F.M (G.β k) ∨ F.w.heap.size ≤ G.β k) : Sim F G { σ with rooms := k :: σ.rooms } a w where
  env := h.env
  defers := h.defers
  ctx :=
    { okO := h.ctx.okO
      okR := fun j hj => by
        rcases List.mem_cons.1 hj with e | hj
        · cases e; exact ho
        · exact h.ctx.okR j hj
      inj := fun j j' hj hj' e => by
        have key : ∀ j, Live G σ.objs (k :: σ.rooms) j → (j = k ∧ G.Z k ≠ G.E k) ∨ Live G σ.objs σ.rooms j := by
          intro j hj
          rcases hj with hj | ⟨hj, hz⟩
          · exact .inr (.inl hj)
          · rcases List.mem_cons.1 hj with e | hj
            · cases e; exact .inl ⟨rfl, hz⟩
            · exact .inr (.inr ⟨hj, hz⟩)
        rcases key j hj with ⟨rfl, z1⟩ | l1 <;> rcases key j' hj' with ⟨rfl, z2⟩ | l2
        · rfl
        · exact absurd e.symm (hi z1 j' l2)
        · exact absurd e (hi z2 j l1)
        · exact h.ctx.inj j j' l1 l2 e
      uniq := h.ctx.uniq
      dis := fun j o' hj ho' => by
        rcases List.mem_cons.1 hj with e | hj
        · cases e; exact hn o' ho'
        · exact h.ctx.dis j o' hj ho' }
  fr := h.fr
  mine := fun j hj => by
    rcases hj with hj | ⟨hj, hz⟩
    · exact h.mine j (.inl hj)
    · rcases List.mem_cons.1 hj with e | hj
      · cases e; exact hm hz
      · exact h.mine j (.inr ⟨hj, hz⟩)
  old := h.old
  ov := h.ov

/-- Given up: dropped, and nothing names it any more. -/
def St.kill (σ : St) (k : Nat) : St :=
  { env := AV.killL k σ.env, objs := (σ.objs.filter (fun p => p.1 != k)).map (fun p => (p.1, p.2.kill k)), rooms := σ.rooms.filter (· != k) }
theorem ObjOk.kill {G : Gh} {w : World} {j : Nat} {o : Ob} (k : Nat) (h : ObjOk G w j o) : ObjOk G w j (o.kill k) := by
  cases o with
  | cells cs =>
    obtain ⟨ys, T, h1, h2, h3⟩ := h
    exact ⟨ys, T, h1, RAL.kill k cs _ h2, h3⟩
  | mapS es => exact h
  | mapI kd es => exact h
  | mit m s n l =>
    simp only [Ob.kill]
    split
    · exact ⟨⟨_, h.1⟩, h.2⟩
    · exact h
  | mitN => exact h
  | unk => exact h
  | sit s p => exact h
theorem St.kill_mem {σ : St} {k j : Nat} {o : Ob} (h : (j, o) ∈ (σ.kill k).objs) : ∃ o', (j, o') ∈ σ.objs ∧ o = o'.kill k ∧ j ≠ k := by
  simp only [St.kill, List.mem_map, List.mem_filter] at h
  obtain ⟨⟨j', o'⟩, ⟨h1, h2⟩, h3⟩ := h
  simp only [Prod.mk.injEq] at h3
  obtain ⟨rfl, rfl⟩ := h3
  exact ⟨o', h1, rfl, by simpa using h2⟩
theorem Live.kill {G : Gh} {σ : St} {k j : Nat} (h : Live G (σ.kill k).objs (σ.kill k).rooms j) : Live G σ.objs σ.rooms j ∧ j ≠ k := by
  rcases h with ⟨o, ho⟩ | ⟨hr, hz⟩
  · obtain ⟨o', h1, _, h3⟩ := St.kill_mem ho
    exact ⟨.inl ⟨o', h1⟩, h3⟩
  · simp only [St.kill, List.mem_filter] at hr
    exact ⟨.inr ⟨hr.1, hz⟩, by simpa using hr.2⟩
theorem Sim.kill {F : F0} {G : Gh} {σ : St} {a : Act} {w : World} (h : Sim F G σ a w) (k : Nat) : Sim F G (σ.kill k) a w where
  env := RAL.kill k _ _ h.env
  defers := h.defers
  ctx :=
    { okO := fun j o ho => by
        obtain ⟨o', h1, rfl, _⟩ := St.kill_mem ho
        exact (h.ctx.okO j o' h1).kill k
      okR := fun j hj => h.ctx.okR j (by simp only [St.kill, List.mem_filter] at hj; exact hj.1)
      inj := fun j j' hj hj' e => h.ctx.inj j j' hj.kill.1 hj'.kill.1 e
      uniq := fun j o o' ho ho' => by
        obtain ⟨p, h1, rfl, _⟩ := St.kill_mem ho
        obtain ⟨q, h2, rfl, _⟩ := St.kill_mem ho'
        rw [h.ctx.uniq j p q h1 h2]
      dis := fun j o hj ho => by
        obtain ⟨p, h1, _, _⟩ := St.kill_mem ho
        exact h.ctx.dis j p (by simp only [St.kill, List.mem_filter] at hj; exact hj.1) h1 }
  fr := h.fr
  mine := fun j hj => h.mine j hj.kill.1
  old := h.old
  ov := h.ov
theorem St.kill_env (σ : St) (k j : Nat) (h : AV.hasL j (σ.kill k).env = true) : j ≠ k := by
  rintro rfl
  simp [St.kill, AV.hasL_kill] at h
theorem Ob.has_kill (k : Nat) (o : Ob) : (o.kill k).has k = false := by
  cases o with
  | cells cs => exact AV.hasL_kill k cs
  | mapS => rfl
  | mapI => rfl
  | mit m s n l =>
    simp only [Ob.kill]
    split
    · rfl
    · simpa [Ob.has]
  | mitN => rfl
  | unk => rfl
  | sit => rfl
theorem St.kill_objs {F : F0} {G : Gh} {σ : St} {a : Act} {w : World} (hs : Sim F G σ a w) (k j : Nat) (h : hasO j (σ.kill k).objs) : j ≠ k := by
  obtain ⟨k', o, ho, h⟩ := h
  obtain ⟨o', h1, rfl, h3⟩ := St.kill_mem ho
  rcases h with rfl | h
  · exact h3
  · rintro rfl
    rw [Ob.has_kill j o'] at h
    cases h
theorem St.kill_rooms (σ : St) (k j : Nat) (h : j ∈ (σ.kill k).rooms) : j ≠ k := by
  simp only [St.kill, List.mem_filter] at h
  simpa using h.2

/-! ### The world's moves -/
theorem Live.lt {F : F0} {G : Gh} {σ : St} {a : Act} {w : World} (h : Sim F G σ a w) {k : Nat} (hk : Live G σ.objs σ.rooms k) : G.β k < w.heap.size := by
  rcases hk with ⟨o, ho⟩ | ⟨hr, hz⟩
  · have := h.ctx.okO k o ho
    cases o with
    | cells cs => obtain ⟨ys, T, h1, _⟩ := this; exact (Array.getElem?_eq_some_iff.1 h1).1
    | mapS es => obtain ⟨ys, T, h1, _⟩ := this; exact (Array.getElem?_eq_some_iff.1 h1).1
    | mapI kd es => obtain ⟨ys, T, h1, _⟩ := this; exact (Array.getElem?_eq_some_iff.1 h1).1
    | mit m s n l => exact (Array.getElem?_eq_some_iff.1 this.1).1
    | mitN => exact (Array.getElem?_eq_some_iff.1 this.1).1
    | unk => obtain ⟨⟨o, h1⟩, _⟩ := this; exact (Array.getElem?_eq_some_iff.1 h1).1
    | sit s p => exact (Array.getElem?_eq_some_iff.1 this.1).1
  · rcases h.ctx.okR k hr with e | ⟨ys, T, h1, _⟩
    · exact absurd e hz
    · exact (Array.getElem?_eq_some_iff.1 h1).1
def upto (f : Nat → Nat) (b n : Nat) : Nat → Nat := fun i => if i = b then n else f i
theorem cl_old {w w' : World} {b : Nat} (h : w'.heap[b]? = w.heap[b]?) (i : Nat) : cl w' b i = cl w b i := by
  unfold cl World.cell?
  simp only [h]
theorem upto_same (f : Nat → Nat) (b n : Nat) : upto f b n b = n := if_pos rfl
theorem upto_ne (f : Nat → Nat) {b i : Nat} (n : Nat) (h : i ≠ b) : upto f b n i = f i := if_neg h
theorem heap_alloc_old (w : World) (o : Obj) (b : Nat) (h : b ≠ w.heap.size) : (w.alloc o).heap[b]? = w.heap[b]? := by
  show (w.heap.push o)[b]? = _
  rw [Array.getElem?_push, if_neg h]
theorem heap_alloc_at (w : World) (o : Obj) : (w.alloc o).heap[w.heap.size]? = some o := by
  show (w.heap.push o)[w.heap.size]? = _
  rw [Array.getElem?_push, if_pos rfl]
theorem heap_alloc_size (w : World) (o : Obj) : (w.alloc o).heap.size = w.heap.size + 1 := by
  show (w.heap.push o).size = _
  simp
theorem Pres.alloc {w : World} {S : Nat → Nat} (hf : ∀ b, w.heap.size ≤ b → S b = 0) (o : Obj) (n : Nat) : Pres w S (w.alloc o) (upto S w.heap.size n) where
  le := fun b => by
    by_cases e : b = w.heap.size
    · subst e; rw [hf _ (Nat.le_refl _)]; exact Nat.zero_le _
    · rw [upto_ne _ _ e]; exact Nat.le_refl _
  cell := fun b i hi => by
    have e : b ≠ w.heap.size := by rintro rfl; rw [hf _ (Nat.le_refl _)] at hi; omega
    exact cl_old (heap_alloc_old w o b e) i
theorem Fr.alloc {F : F0} {w : World} {S : Nat → Nat} (h : Fr F w S) (o : Obj) (n : Nat) : Fr F (w.alloc o) (upto S w.heap.size n) where
  os := h.os
  tape := h.tape
  output := h.output
  size := by rw [heap_alloc_size]; have := h.size; omega
  keep := fun b hb hm => by
    have e : b ≠ w.heap.size := by have := h.size; omega
    rw [heap_alloc_old w o b e, upto_ne _ _ e]
    exact h.keep b hb hm
  pres := h.pres.trans (Pres.alloc h.fin o n)
  fin := fun b hb => by
    rw [heap_alloc_size] at hb
    rw [upto_ne _ _ (by omega)]
    exact h.fin b (by omega)
/-- A new block that nobody may write: data. -/
theorem Sim.allocD {F : F0} {G : Gh} {σ : St} {a : Act} {w : World} (h : Sim F G σ a w) (o : Obj) (n : Nat) :
    Sim F { G with S := upto G.S w.heap.size n } σ a (w.alloc o) :=
  h.upd (fun _ => True) (Gh.But.all G _) (Pres.alloc h.fr.fin o n) (fun _ _ => trivial) (fun _ _ => trivial) (fun _ _ => trivial) (fun _ _ => trivial)
    (fun k hk => ⟨heap_alloc_old w o _ (Nat.ne_of_lt (hk.lt h)), upto_ne _ _ (Nat.ne_of_lt (hk.lt h))⟩) (h.fr.alloc o n)
/-- A new block under the number d. -/
theorem Sim.allocO {F : F0} {G : Gh} {σ : St} {a : Act} {w : World} (h : Sim F G σ a w) (d : Nat) (hd : d < 100000) (o : Obj) :
    Sim F { G with β := upto G.β d w.heap.size } (σ.kill d) a (w.alloc o) := by
  have hz : upto G.S w.heap.size 0 = G.S := by
    funext b
    by_cases e : b = w.heap.size
    · subst e; rw [upto_same, h.fr.fin _ (Nat.le_refl _)]
    · rw [upto_ne _ _ e]
  have h1 := h.kill d
  have hp := Pres.alloc h.fr.fin o 0
  have hf := h.fr.alloc o 0
  rw [hz] at hp hf
  refine h1.upd (G' := { G with β := upto G.β d w.heap.size }) (fun k => k ≠ d) ⟨fun k hk => upto_ne _ _ hk, fun _ _ => rfl, fun _ _ => rfl, rfl⟩ hp (fun k hk => σ.kill_env d k hk) (fun k hk => St.kill_objs h d k hk) (fun k hk => σ.kill_rooms d k hk) (fun k hk => by omega)
    (fun k hk => ⟨heap_alloc_old w o _ (Nat.ne_of_lt (hk.lt h1)), rfl⟩) hf
theorem St.kill_no (σ : St) (k : Nat) (o : Ob) : (k, o) ∉ (σ.kill k).objs := by
  intro h
  obtain ⟨_, _, _, h⟩ := St.kill_mem h
  exact h rfl
/-- A new object of cells. -/
theorem Sim.newObj {F : F0} {G : Gh} {σ : St} {a : Act} {w : World} (h : Sim F G σ a w) (d : Nat) (hd : d < 100000) (cs : List AV) (ys : Array Value) (T : Nat) (hc : RAL G w cs ys.toList) (h1 : ∀ y ∈ ys.toList, Val1 y = true) (hn : AV.hasL d cs = false) :
    Sim F { G with β := upto G.β d w.heap.size } { σ.kill d with objs := (d, .cells cs) :: (σ.kill d).objs } a (w.alloc (.cells ys T)) := by
  have h2 := h.allocO d hd (.cells ys T)
  refine h2.addObj d (.cells cs) ⟨ys, T, ?_, ?_, h1, ?_⟩ (fun o' => σ.kill_no d o') (fun hr => σ.kill_rooms d d hr rfl) (fun j hj => ?_) (.inr ?_)
  · rw [show ({ G with β := upto G.β d w.heap.size } : Gh).β d = w.heap.size from upto_same _ _ _]; exact heap_alloc_at w _
  · have hp := Pres.alloc h.fr.fin (.cells ys T) 0
    have hz : upto G.S w.heap.size 0 = G.S := by
      funext b
      by_cases e : b = w.heap.size
      · subst e; rw [upto_same, h.fr.fin _ (Nat.le_refl _)]
      · rw [upto_ne _ _ e]
    rw [hz] at hp
    exact RAL.mono (G' := { G with β := upto G.β d w.heap.size }) hp (fun k => k ≠ d) ⟨fun k hk => upto_ne _ _ hk, fun _ _ => rfl, fun _ _ => rfl, rfl⟩ cs _ (fun k hk => by rintro rfl; rw [hn] at hk; cases hk) hc
  · rw [show ({ G with β := upto G.β d w.heap.size } : Gh).β d = w.heap.size from upto_same _ _ _]; exact h.fr.fin _ (Nat.le_refl _)
  · rw [show ({ G with β := upto G.β d w.heap.size } : Gh).β d = w.heap.size from upto_same _ _ _]
    have l1 : Live G (σ.kill d).objs (σ.kill d).rooms j := Live.But (G := G) (G' := { G with β := upto G.β d w.heap.size }) (P := fun k => k ≠ d) ⟨fun k hk => upto_ne _ _ hk, fun _ _ => rfl, fun _ _ => rfl, rfl⟩ (fun k hk => σ.kill_rooms d k hk) hj
    have hne : j ≠ d := l1.kill.2
    rw [show ({ G with β := upto G.β d w.heap.size } : Gh).β j = G.β j from upto_ne _ _ hne]
    exact Nat.ne_of_lt (l1.lt (h.kill d))
  · rw [show ({ G with β := upto G.β d w.heap.size } : Gh).β d = w.heap.size from upto_same _ _ _]; exact h.fr.size
end Go.Qv
