/- Calls by contracts. Over any program. -/
import Derived.Test.YtmmefmebkgcpfaaGreatDoorQvK2
namespace Go.Qv
open Go

def entM (G : Gh) (objs : List (Nat × Ob)) (rooms : List Nat) : Nat → Prop := fun b => ∃ k, Live G objs rooms k ∧ G.β k = b
/-- The contract of a function: what it is handed, what it answers, what becomes of the objects. -/
def AFn (P : Program) (f : Nat) (args : List AV) (objs : List (Nat × Ob)) (rooms : List Nat) (r : AV) (objs' : List (Nat × Ob)) (rooms' : List Nat) : Prop :=
  ∀ (G : Gh) (w : World) (vs : List Value), (∀ b, w.heap.size ≤ b → G.S b = 0) → Ctx G w objs rooms → RAL G w args vs →
    Calls P f vs.toArray w fun e w' => ∃ v G', e = .returned v ∧ RA G' w' r v ∧ Ctx G' w' objs' rooms' ∧ Fr ⟨w, G, entM G objs rooms⟩ w' G'.S ∧
      (∀ k, Live G' objs' rooms' k → entM G objs rooms (G'.β k) ∨ w.heap.size ≤ G'.β k) ∧ (∀ k, 100000 ≤ k → G'.β k = G.β k ∧ G'.E k = G.E k ∧ G'.Z k = G.Z k) ∧ G'.ov = G.ov
/-- A function over data alone. -/
def PFn (P : Program) (f : Nat) (args : List DV) (r : DV) : Prop := AFn P f (args.map .d) [] [] (.d r) [] []

mutual
def AV.ren (f : Nat → Option Nat) : AV → AV
  | .own k sz xs => match f k with | some c => .own c sz xs | none => .d (.sl .any sz xs)
  | .ptr k o => match f k with | some c => .ptr c o | none => .no
  | .mp k => match f k with | some c => .mp c | none => .no
  | .fn g cap => .fn g (AV.renL f cap)
  | .agg cs => .agg (AV.renL f cs)
  | .tup cs => .tup (AV.renL f cs)
  | .opq n => .opq n
  | .zr k sz n => match f k with | some c => .zr c sz n | none => .no
  | .no => .no
  | .d x => .d x
  | .row cs => .row cs
def AV.renL (f : Nat → Option Nat) : List AV → List AV
  | [] => []
  | a :: as => a.ren f :: AV.renL f as
end
def Ob.ren (f : Nat → Option Nat) : Ob → Ob
  | .cells cs => .cells (AV.renL f cs)
  | .mit m s n l => (match f m with | some c => .mit c s n l | none => .unk)
  | o => o
structure RenOk (f : Nat → Option Nat) (G G2 : Gh) : Prop where
  β : ∀ k c, f k = some c → G2.β c = G.β k
  E : ∀ k c, f k = some c → G2.E c = G.E k
  Z : ∀ k c, f k = some c → G2.Z c = G.Z k
  S : G2.S = G.S
  ov : G2.ov = G.ov
mutual
theorem RA.ren {f : Nat → Option Nat} {G G2 : Gh} {w : World} (h : RenOk f G G2) : ∀ (a : AV) (v : Value), RA G w a v → RA G2 w (a.ren f) v
  | .no, _, hr => hr
  | .d x, v, hr => by simp only [RA, AV.ren] at hr ⊢; rw [h.S]; exact hr
  | .own k sz xs, v, hr => by
    simp only [AV.ren]
    split
    · rename_i c hc
      simp only [RA] at hr ⊢
      rw [h.β k c hc, h.E k c hc, h.Z k c hc, h.S]
      exact hr
    · simp only [RA]; rw [h.S]; exact R_of_own (S := G.S) hr
  | .ptr k o, v, hr => by
    simp only [AV.ren]
    split
    · rename_i c hc
      simp only [RA] at hr ⊢
      rw [h.β k c hc]; exact hr
    · simp [RA]
  | .row cs, v, hr => by
    simp only [RA, AV.ren] at hr ⊢
    rw [h.S]; exact hr
  | .mp k, v, hr => by
    simp only [AV.ren]
    split
    · rename_i c hc
      simp only [RA] at hr ⊢
      rw [h.β k c hc]; exact hr
    · simp [RA]
  | .fn g cap, v, hr => by
    simp only [RA, AV.ren] at hr ⊢
    obtain ⟨cs, hu, hr⟩ := hr
    exact ⟨cs, hu, RAL.ren h cap _ hr⟩
  | .agg cs, v, hr => by
    simp only [RA, AV.ren] at hr ⊢
    obtain ⟨ys, hu, hr, h1⟩ := hr
    exact ⟨ys, hu, RAL.ren h cs _ hr, h1⟩
  | .tup cs, v, hr => by
    simp only [RA, AV.ren] at hr ⊢
    obtain ⟨ys, hu, hr⟩ := hr
    exact ⟨ys, hu, RAL.ren h cs _ hr⟩
  | .opq n, v, hr => by
    simp only [RA, AV.ren] at hr ⊢
    rw [h.ov]; exact hr
  | .zr k sz n, v, hr => by
    simp only [AV.ren]
    split
    · rename_i c hc
      simp only [RA] at hr ⊢
      rw [h.β k c hc, h.E k c hc, h.Z k c hc]; exact hr
    · simp [RA]
theorem RAL.ren {f : Nat → Option Nat} {G G2 : Gh} {w : World} (h : RenOk f G G2) : ∀ (as : List AV) (vs : List Value), RAL G w as vs → RAL G2 w (AV.renL f as) vs
  | [], _, hr => hr
  | a :: as, vs, hr => by
    simp only [RAL, AV.renL] at hr ⊢
    obtain ⟨u, us, rfl, h1, h2⟩ := hr
    exact ⟨u, us, rfl, RA.ren h a u h1, RAL.ren h as us h2⟩
end
theorem ObjOk.ren {f : Nat → Option Nat} {G G2 : Gh} {w : World} (h : RenOk f G G2) {k c : Nat} (hc : f k = some c) {o : Ob} (hr : ObjOk G w k o) : ObjOk G2 w c (o.ren f) := by
  have hb := h.β k c hc
  cases o with
  | cells cs =>
    obtain ⟨ys, T, h1, h2, h3, h4⟩ := hr
    exact ⟨ys, T, by rw [hb]; exact h1, RAL.ren h _ _ h2, h3, by rw [hb, h.S]; exact h4⟩
  | mapS es =>
    obtain ⟨ents, cl, h1, h2, h3, h4, h5⟩ := hr
    exact ⟨ents, cl, by rw [hb]; exact h1, by rw [h.S]; exact h2, h3, h4, by rw [hb, h.S]; exact h5⟩
  | mapI kd es =>
    obtain ⟨ents, cl, h1, h2, h3, h4, h5⟩ := hr
    exact ⟨ents, cl, by rw [hb]; exact h1, by rw [h.S]; exact h2, h3, h4, by rw [hb, h.S]; exact h5⟩
  | mit m s n l =>
    simp only [Ob.ren]
    split
    · rename_i d hd
      exact ⟨by rw [hb, h.β m d hd]; exact hr.1, by rw [hb, h.S]; exact hr.2⟩
    · exact ⟨⟨_, by rw [hb]; exact hr.1⟩, by rw [hb, h.S]; exact hr.2⟩
  | mitN => exact ⟨by rw [hb]; exact hr.1, by rw [hb, h.S]; exact hr.2⟩
  | unk =>
    obtain ⟨⟨o, h1⟩, h2⟩ := hr
    exact ⟨⟨o, by rw [hb]; exact h1⟩, by rw [hb, h.S]; exact h2⟩
  | sit s p => exact ⟨by rw [hb]; exact hr.1, by rw [hb, h.S]; exact hr.2⟩
theorem RoomOk.ren {f : Nat → Option Nat} {G G2 : Gh} {w : World} (h : RenOk f G G2) {k c : Nat} (hc : f k = some c) (hr : RoomOk G w k) : RoomOk G2 w c := by
  unfold RoomOk at hr ⊢
  rw [h.β k c hc, h.E k c hc, h.Z k c hc, h.S]
  exact hr

/-! ### The numbers of a call: pairs (the callee's, the caller's) -/
def fw (m : List (Nat × Nat)) (c : Nat) : Option Nat := match m.find? (fun p => p.1 == c) with | some p => some p.2 | none => none
def bw (m : List (Nat × Nat)) (k : Nat) : Option Nat := match m.find? (fun p => p.2 == k) with | some p => some p.1 | none => none
theorem fw_mem {m : List (Nat × Nat)} {c k : Nat} (h : fw m c = some k) : (c, k) ∈ m := by
  unfold fw at h
  split at h
  · rename_i p hp
    cases h
    have h1 := List.find?_some hp
    have h2 := List.mem_of_find?_eq_some hp
    have : p.1 = c := by simpa using h1
    subst this; exact h2
  · cases h
theorem bw_mem {m : List (Nat × Nat)} {c k : Nat} (h : bw m k = some c) : (c, k) ∈ m := by
  unfold bw at h
  split at h
  · rename_i p hp
    cases h
    have h1 := List.find?_some hp
    have h2 := List.mem_of_find?_eq_some hp
    have : p.2 = k := by simpa using h1
    subst this; exact h2
  · cases h
theorem bw_none {m : List (Nat × Nat)} {k : Nat} (h : bw m k = none) (c : Nat) : (c, k) ∉ m := by
  intro hm
  unfold bw at h
  split at h
  · cases h
  · rename_i hn
    have := List.find?_eq_none.1 hn (c, k) hm
    simp at this
/-- Both columns hold each number once; the callee's numbers of what it is handed are great, the new ones of the caller are small. -/
def pairsOk (m nw : List (Nat × Nat)) : Bool :=
  decide ((m ++ nw).map (·.1)).Nodup && decide ((m ++ nw).map (·.2)).Nodup && m.all (fun p => decide (100000 ≤ p.1)) && nw.all (fun p => decide (p.2 < 100000))
theorem nodup_fst {m : List (Nat × Nat)} (h : (m.map (·.1)).Nodup) {c k k' : Nat} (h1 : (c, k) ∈ m) (h2 : (c, k') ∈ m) : k = k' := by
  induction m with
  | nil => cases h1
  | cons p m ih =>
    simp only [List.map_cons, List.nodup_cons, List.mem_map] at h
    rcases List.mem_cons.1 h1 with e1 | g1 <;> rcases List.mem_cons.1 h2 with e2 | g2
    · rw [← e1] at e2; cases e2; rfl
    · rw [← e1] at h; exact absurd ⟨_, g2, rfl⟩ h.1
    · rw [← e2] at h; exact absurd ⟨_, g1, rfl⟩ h.1
    · exact ih h.2 g1 g2
theorem nodup_snd {m : List (Nat × Nat)} (h : (m.map (·.2)).Nodup) {c c' k : Nat} (h1 : (c, k) ∈ m) (h2 : (c', k) ∈ m) : c = c' := by
  induction m with
  | nil => cases h1
  | cons p m ih =>
    simp only [List.map_cons, List.nodup_cons, List.mem_map] at h
    rcases List.mem_cons.1 h1 with e1 | g1 <;> rcases List.mem_cons.1 h2 with e2 | g2
    · rw [← e1] at e2; cases e2; rfl
    · rw [← e1] at h; exact absurd ⟨_, g2, rfl⟩ h.1
    · rw [← e2] at h; exact absurd ⟨_, g1, rfl⟩ h.1
    · exact ih h.2 g1 g2

def preObjs (σ : St) (m : List (Nat × Nat)) : List (Nat × Ob) := m.filterMap fun p => match objAt σ p.2 with | some o => some (p.1, o.ren (bw m)) | none => none
def preRooms (σ : St) (m : List (Nat × Nat)) : List Nat := m.filterMap fun p => if σ.rooms.contains p.2 then some p.1 else none
def St.killA (σ : St) : List (Nat × Nat) → St
  | [] => σ
  | p :: ps => (σ.kill p.2).killA ps
def St.dropA (σ : St) : List (Nat × Nat) → St
  | [] => σ
  | p :: ps => (σ.drop p.2).dropA ps
def postObjs (objs : List (Nat × Ob)) (m : List (Nat × Nat)) : List (Nat × Ob) := objs.filterMap fun p => match fw m p.1 with | some k => some (k, p.2.ren (fw m)) | none => none
def postRooms (rooms : List Nat) (m : List (Nat × Nat)) : List Nat := rooms.filterMap (fw m)
def callSt (σ : St) (m nw : List (Nat × Nat)) (objs' : List (Nat × Ob)) (rooms' : List Nat) : St :=
  let σ0 := (σ.dropA m).killA nw
  { env := σ0.env, objs := postObjs objs' (m ++ nw) ++ σ0.objs, rooms := postRooms rooms' (m ++ nw) ++ σ0.rooms }
theorem Sim.killA {F : F0} {G : Gh} {a : Act} {w : World} : ∀ (ps : List (Nat × Nat)) {σ : St}, Sim F G σ a w → Sim F G (σ.killA ps) a w
  | [], σ, h => h
  | p :: ps, σ, h => Sim.killA ps (h.kill p.2)
theorem Sim.dropA {F : F0} {G : Gh} {a : Act} {w : World} : ∀ (ps : List (Nat × Nat)) {σ : St}, Sim F G σ a w → Sim F G (σ.dropA ps) a w
  | [], σ, h => h
  | p :: ps, σ, h => Sim.dropA ps (h.drop p.2)
theorem live_dropA {G : Gh} {j : Nat} : ∀ (ps : List (Nat × Nat)) {σ : St}, Live G (σ.dropA ps).objs (σ.dropA ps).rooms j → Live G σ.objs σ.rooms j ∧ ∀ c, (c, j) ∉ ps
  | [], σ, h => ⟨h, fun c hc => by cases hc⟩
  | p :: ps, σ, h => by
    obtain ⟨h1, h2⟩ := live_dropA ps h
    obtain ⟨h3, h4⟩ := h1.drop
    refine ⟨h3, fun c hc => ?_⟩
    rcases List.mem_cons.1 hc with rfl | hc
    · exact h4 rfl
    · exact h2 c hc
theorem live_killA {G : Gh} {j : Nat} : ∀ (ps : List (Nat × Nat)) {σ : St}, Live G (σ.killA ps).objs (σ.killA ps).rooms j → Live G σ.objs σ.rooms j ∧ ∀ c, (c, j) ∉ ps
  | [], σ, h => ⟨h, fun c hc => by cases hc⟩
  | p :: ps, σ, h => by
    obtain ⟨h1, h2⟩ := live_killA ps h
    obtain ⟨h3, h4⟩ := h1.kill
    refine ⟨h3, fun c hc => ?_⟩
    rcases List.mem_cons.1 hc with rfl | hc
    · exact h4 rfl
    · exact h2 c hc
/-- A number that nothing names. -/
def Gone (σ : St) (j : Nat) : Prop := AV.hasL j σ.env = false ∧ ¬ hasO j σ.objs ∧ j ∉ σ.rooms
mutual
theorem AV.kill_has (k j : Nat) : ∀ a : AV, (a.kill k).has j = true → a.has j = true
  | .no, h => h
  | .d _, h => h
  | .own k' sz xs, h => by
    simp only [AV.kill] at h
    split at h
    · simp [AV.has] at h
    · exact h
  | .ptr k' o, h => by
    simp only [AV.kill] at h
    split at h
    · simp [AV.has] at h
    · exact h
  | .row _, h => h
  | .mp k', h => by
    simp only [AV.kill] at h
    split at h
    · simp [AV.has] at h
    · exact h
  | .fn f cap, h => by simp only [AV.kill, AV.has] at h ⊢; exact AV.killL_has k j cap h
  | .agg cs, h => by simp only [AV.kill, AV.has] at h ⊢; exact AV.killL_has k j cs h
  | .tup cs, h => by simp only [AV.kill, AV.has] at h ⊢; exact AV.killL_has k j cs h
  | .opq _, h => h
  | .zr k' sz n, h => by
    simp only [AV.kill] at h
    split at h
    · simp [AV.has] at h
    · exact h
theorem AV.killL_has (k j : Nat) : ∀ as : List AV, AV.hasL j (AV.killL k as) = true → AV.hasL j as = true
  | [], h => h
  | a :: as, h => by
    simp only [AV.killL, AV.hasL, Bool.or_eq_true] at h ⊢
    rcases h with h | h
    · exact .inl (AV.kill_has k j a h)
    · exact .inr (AV.killL_has k j as h)
end
theorem Gone.kill {σ : St} {j : Nat} (h : Gone σ j) (k : Nat) : Gone (σ.kill k) j := by
  obtain ⟨h1, h2, h3⟩ := h
  refine ⟨?_, ?_, ?_⟩
  · cases hc : AV.hasL j (σ.kill k).env
    · rfl
    · rw [AV.killL_has k j _ hc] at h1; cases h1
  · rintro ⟨k', o, ho, hh⟩
    obtain ⟨o', g1, rfl, g3⟩ := St.kill_mem ho
    refine h2 ⟨k', o', g1, ?_⟩
    rcases hh with hh | hh
    · exact .inl hh
    · refine .inr ?_
      cases o' with
      | cells cs => exact AV.killL_has k j cs hh
      | mapS => exact hh
      | mapI => exact hh
      | mit m s n l =>
        simp only [Ob.kill] at hh
        split at hh
        · cases hh
        · exact hh
      | mitN => exact hh
      | unk => exact hh
      | sit => exact hh
  · intro hr
    simp only [St.kill, List.mem_filter] at hr
    exact h3 hr.1
theorem gone_kill {F : F0} {G : Gh} {σ : St} {a : Act} {w : World} (h : Sim F G σ a w) (k : Nat) : Gone (σ.kill k) k := by
  refine ⟨?_, fun hh => St.kill_objs h k k hh rfl, fun hr => St.kill_rooms σ k k hr rfl⟩
  cases hc : AV.hasL k (σ.kill k).env
  · rfl
  · exact absurd rfl (St.kill_env σ k k hc)
theorem gone_killA {F : F0} {G : Gh} {a : Act} {w : World} {j : Nat} : ∀ (ps : List (Nat × Nat)) {σ : St}, Sim F G σ a w → ((∃ c, (c, j) ∈ ps) ∨ Gone σ j) → Gone (σ.killA ps) j
  | [], σ, h, hj => by
    rcases hj with ⟨c, hc⟩ | hj
    · cases hc
    · exact hj
  | p :: ps, σ, h, hj => by
    refine gone_killA ps (h.kill p.2) ?_
    rcases hj with ⟨c, hc⟩ | hj
    · rcases List.mem_cons.1 hc with rfl | hc
      · exact .inr (gone_kill h _)
      · exact .inl ⟨c, hc⟩
    · exact .inr (hj.kill p.2)

/-! ### The rule of a call -/
theorem mem_postObjs {objs : List (Nat × Ob)} {m : List (Nat × Nat)} {k : Nat} {o : Ob} (h : (k, o) ∈ postObjs objs m) : ∃ c o', (c, o') ∈ objs ∧ fw m c = some k ∧ o = o'.ren (fw m) := by
  simp only [postObjs, List.mem_filterMap] at h
  obtain ⟨⟨c, o'⟩, h1, h2⟩ := h
  simp only at h2
  split at h2
  · rename_i k' hk
    cases h2
    exact ⟨c, o', h1, hk, rfl⟩
  · cases h2
theorem mem_postRooms {rooms : List Nat} {m : List (Nat × Nat)} {k : Nat} (h : k ∈ postRooms rooms m) : ∃ c, c ∈ rooms ∧ fw m c = some k := by
  simp only [postRooms, List.mem_filterMap] at h
  exact h
theorem mem_preObjs {σ : St} {m : List (Nat × Nat)} {c : Nat} {o : Ob} (h : (c, o) ∈ preObjs σ m) : ∃ k o', (c, k) ∈ m ∧ (k, o') ∈ σ.objs ∧ objAt σ k = some o' ∧ o = o'.ren (bw m) := by
  simp only [preObjs, List.mem_filterMap] at h
  obtain ⟨⟨c', k⟩, h1, h2⟩ := h
  simp only at h2
  split at h2
  · rename_i o' ho
    cases h2
    exact ⟨k, o', h1, objAt_mem ho, ho, rfl⟩
  · cases h2
theorem mem_preRooms {σ : St} {m : List (Nat × Nat)} {c : Nat} (h : c ∈ preRooms σ m) : ∃ k, (c, k) ∈ m ∧ k ∈ σ.rooms := by
  simp only [preRooms, List.mem_filterMap] at h
  obtain ⟨⟨c', k⟩, h1, h2⟩ := h
  simp only at h2
  split at h2
  · rename_i hc
    cases h2
    exact ⟨k, h1, by simpa using hc⟩
  · cases h2
theorem call_ok {P : Program} {F : F0} {G : Gh} {σ : St} {a : Act} {w : World} (hs : Sim F G σ a w) {f : Nat} {m nw : List (Nat × Nat)} (hm : pairsOk m nw = true) {args : List AV} {vs : List Value} (hargs : RAL G w args vs)
    {r : AV} {objs' : List (Nat × Ob)} {rooms' : List Nat} (hf : AFn P f (AV.renL (bw m) args) (preObjs σ m) (preRooms σ m) r objs' rooms') :
    Calls P f vs.toArray w fun e w' => ∃ v G', e = .returned v ∧ Sim F G' (callSt σ m nw objs' rooms') a w' ∧ RA G' w' (r.ren (fw (m ++ nw))) v := by
  unfold pairsOk at hm
  simp only [Bool.and_eq_true, decide_eq_true_eq, List.all_eq_true] at hm
  obtain ⟨⟨⟨n1, n2⟩, hm1⟩, hm2⟩ := hm
  have nm1 : (m.map (·.1)).Nodup := by rw [List.map_append] at n1; exact (List.nodup_append.1 n1).1
  have nm2 : (m.map (·.2)).Nodup := by rw [List.map_append] at n2; exact (List.nodup_append.1 n2).1
  have inm : ∀ {p}, p ∈ m → p ∈ m ++ nw := fun h => List.mem_append_left _ h
  have inn : ∀ {p}, p ∈ nw → p ∈ m ++ nw := fun h => List.mem_append_right _ h
  -- the callee's ghost
  obtain ⟨Gc, hGc⟩ : ∃ Gc : Gh, Gc = { β := fun c => match fw m c with | some k => G.β k | none => 0, E := fun c => match fw m c with | some k => G.E k | none => 0, Z := fun c => match fw m c with | some k => G.Z k | none => 0, S := G.S, ov := G.ov } := ⟨_, rfl⟩
  have hfw : ∀ c k, (c, k) ∈ m → fw m c = some k := by
    intro c k h
    cases e : fw m c with
    | none =>
      unfold fw at e
      split at e
      · cases e
      · rename_i hn
        have := List.find?_eq_none.1 hn (c, k) h
        simp at this
    | some k' => rw [nodup_fst nm1 (fw_mem e) h]
  have hren : RenOk (bw m) G Gc := by
    subst hGc
    refine ⟨fun k c h => ?_, fun k c h => ?_, fun k c h => ?_, rfl, rfl⟩ <;> simp only [hfw c k (bw_mem h)]
  have hbwm : ∀ c k, (c, k) ∈ m → bw m k = some c := by
    intro c k h
    cases e : bw m k with
    | none => exact absurd h (bw_none e c)
    | some c' => rw [nodup_snd nm2 (bw_mem e) h]
  have lift : ∀ c, Live Gc (preObjs σ m) (preRooms σ m) c → ∃ k, (c, k) ∈ m ∧ Live G σ.objs σ.rooms k ∧ Gc.β c = G.β k := by
    intro c hc
    rcases hc with ⟨o, ho⟩ | ⟨hr, hz⟩
    · obtain ⟨k, o', h1, h2, _, _⟩ := mem_preObjs ho
      exact ⟨k, h1, .inl ⟨o', h2⟩, hren.β k c (hbwm c k h1)⟩
    · obtain ⟨k, h1, h2⟩ := mem_preRooms hr
      refine ⟨k, h1, .inr ⟨h2, ?_⟩, hren.β k c (hbwm c k h1)⟩
      rw [← hren.Z k c (hbwm c k h1), ← hren.E k c (hbwm c k h1)]; exact hz
  have hctx : Ctx Gc w (preObjs σ m) (preRooms σ m) :=
    { okO := fun c o ho => by
        obtain ⟨k, o', h1, h2, _, rfl⟩ := mem_preObjs ho
        exact (hs.ctx.okO k o' h2).ren hren (hbwm c k h1)
      okR := fun c hc => by
        obtain ⟨k, h1, h2⟩ := mem_preRooms hc
        exact (hs.ctx.okR k h2).ren hren (hbwm c k h1)
      inj := fun c c' hc hc' e => by
        obtain ⟨k, h1, h2, h3⟩ := lift c hc
        obtain ⟨k', h1', h2', h3'⟩ := lift c' hc'
        have : k = k' := hs.ctx.inj k k' h2 h2' (by rw [← h3, ← h3']; exact e)
        subst this
        exact nodup_snd nm2 h1 h1'
      uniq := fun c o o' ho ho' => by
        obtain ⟨k, p, h1, _, h2, rfl⟩ := mem_preObjs ho
        obtain ⟨k', p', h1', _, h2', rfl⟩ := mem_preObjs ho'
        have := nodup_fst nm1 h1 h1'
        subst this
        rw [h2] at h2'; cases h2'; rfl
      dis := fun c o hc ho => by
        obtain ⟨k, p, h1, h2, _, _⟩ := mem_preObjs ho
        obtain ⟨k', h1', h2'⟩ := mem_preRooms hc
        have := nodup_fst nm1 h1 h1'
        subst this
        exact hs.ctx.dis k p h2' h2 }
  refine (hf Gc w vs (by subst hGc; exact hs.fr.fin) hctx (RAL.ren hren _ _ hargs)).mono ?_
  rintro e w' ⟨v, G', he, hr, hc', hfr, hmine, hold, hov⟩
  -- the caller's new ghost
  obtain ⟨G2, hG2⟩ : ∃ G2 : Gh, G2 = { β := fun k => match bw nw k with | some c => G'.β c | none => G.β k, E := fun k => match bw nw k with | some c => G'.E c | none => G.E k, Z := fun k => match bw nw k with | some c => G'.Z c | none => G.Z k, S := G'.S, ov := G.ov } := ⟨_, rfl⟩
  have hbn : ∀ c k, (c, k) ∈ m → bw nw k = none := by
    intro c k h
    cases e : bw nw k with
    | none => rfl
    | some c' =>
      exfalso
      have := nodup_snd n2 (inm h) (inn (bw_mem e))
      subst this
      rw [List.map_append, List.nodup_append] at n1
      exact n1.2.2 c (List.mem_map.2 ⟨_, h, rfl⟩) c (List.mem_map.2 ⟨_, bw_mem e, rfl⟩) rfl
  have hbn2 : ∀ c k, (c, k) ∈ nw → bw nw k = some c := by
    intro c k h
    cases e : bw nw k with
    | none => exact absurd h (bw_none e c)
    | some c' =>
      have := nodup_snd n2 (inn (bw_mem e)) (inn h)
      rw [this]
  have hGcm : ∀ c k, (c, k) ∈ m → G'.β c = G.β k ∧ G'.E c = G.E k ∧ G'.Z c = G.Z k := by
    intro c k h
    obtain ⟨h1, h2, h3⟩ := hold c (by simpa using hm1 _ h)
    rw [h1, h2, h3]
    exact ⟨hren.β k c (hbwm c k h), hren.E k c (hbwm c k h), hren.Z k c (hbwm c k h)⟩
  have hren2 : RenOk (fw (m ++ nw)) G' G2 := by
    have key : ∀ c k, fw (m ++ nw) c = some k → G2.β k = G'.β c ∧ G2.E k = G'.E c ∧ G2.Z k = G'.Z c := by
      intro c k h
      rcases List.mem_append.1 (fw_mem h) with h | h
      · obtain ⟨h1, h2, h3⟩ := hGcm c k h
        subst hG2
        simp only [hbn c k h]
        exact ⟨h1.symm, h2.symm, h3.symm⟩
      · subst hG2
        simp only [hbn2 c k h]
        exact ⟨trivial, trivial, trivial⟩
    exact ⟨fun c k h => (key c k h).1, fun c k h => (key c k h).2.1, fun c k h => (key c k h).2.2, by subst hG2; rfl, by subst hG2; subst hGc; exact hov.symm⟩
  -- what the call left alone
  obtain ⟨σ0, hσ0⟩ : ∃ σ0, σ0 = (σ.dropA m).killA nw := ⟨_, rfl⟩
  have hs0 : Sim F G σ0 a w := by subst hσ0; exact (hs.dropA m).killA nw
  have hl0 : ∀ j, Live G σ0.objs σ0.rooms j → Live G σ.objs σ.rooms j ∧ (∀ c, (c, j) ∉ m) ∧ ∀ c, (c, j) ∉ nw := by
    subst hσ0
    intro j hj
    obtain ⟨h1, h2⟩ := live_killA nw hj
    obtain ⟨h3, h4⟩ := live_dropA m h1
    exact ⟨h3, h4, h2⟩
  have hgone : ∀ c k, (c, k) ∈ nw → Gone σ0 k := by
    subst hσ0
    exact fun c k h => gone_killA nw (hs.dropA m) (.inl ⟨c, h⟩)
  have hentM : ∀ b, entM Gc (preObjs σ m) (preRooms σ m) b → ∃ c k, (c, k) ∈ m ∧ Live G σ.objs σ.rooms k ∧ G.β k = b := by
    rintro b ⟨c, hc, rfl⟩
    obtain ⟨k, h1, h2, h3⟩ := lift c hc
    exact ⟨c, k, h1, h2, h3.symm⟩
  have hkeep : ∀ j, Live G σ0.objs σ0.rooms j → w'.heap[G.β j]? = w.heap[G.β j]? ∧ G'.S (G.β j) = G.S (G.β j) := by
    intro j hj
    obtain ⟨h1, h2, h3⟩ := hl0 j hj
    have := hfr.keep (G.β j) (hj.lt hs0) (fun hb => by
      obtain ⟨c, k, g1, g2, g3⟩ := hentM _ hb
      have := hs.ctx.inj k j g2 h1 g3
      subst this
      exact h2 c g1)
    subst hGc
    exact this
  have hfr' : Fr F w' G'.S :=
    { os := hfr.os.trans hs.fr.os, tape := hfr.tape.trans hs.fr.tape, output := hfr.output.trans hs.fr.output
      size := Nat.le_trans hs.fr.size hfr.size
      keep := fun b hb hM => by
        obtain ⟨h1, h2⟩ := hfr.keep b (Nat.lt_of_lt_of_le hb hs.fr.size) (fun hb' => by
          obtain ⟨c, k, g1, g2, g3⟩ := hentM _ hb'
          subst g3
          rcases hs.mine k g2 with h | h
          · exact hM h
          · omega)
        obtain ⟨h3, h4⟩ := hs.fr.keep b hb hM
        subst hGc
        exact ⟨h1.trans h3, h2.trans h4⟩
      pres := by subst hGc; exact hs.fr.pres.trans hfr.pres
      fin := hfr.fin }
  have hpres : Pres w G.S w' G'.S := by subst hGc; exact hfr.pres
  have hG2S : G2.S = G'.S := by subst hG2; rfl
  have hbut : G.But G2 (fun j => ∀ c, (c, j) ∉ nw) := by
    have key : ∀ j, (∀ c, (c, j) ∉ nw) → bw nw j = none := by
      intro j hj
      cases e : bw nw j with
      | none => rfl
      | some c => exact absurd (bw_mem e) (hj c)
    subst hG2
    exact ⟨fun j hj => by simp only [key j hj], fun j hj => by simp only [key j hj], fun j hj => by simp only [key j hj], rfl⟩
  have hs1 : Sim F G2 σ0 a w' := by
    refine hs0.upd (fun j => ∀ c, (c, j) ∉ nw) hbut (by rw [hG2S]; exact hpres) (fun j hj c hc => ?_) (fun j hj c hc => (hgone c j hc).2.1 hj) (fun j hj c hc => (hgone c j hc).2.2 hj) (fun j hj c hc => ?_) (fun j hj => ?_) (by rw [hG2S]; exact hfr')
    · rw [(hgone c j hc).1] at hj; cases hj
    · have := hm2 _ hc
      simp at this; omega
    · rw [hG2S]; exact hkeep j hj
  -- the objects that come back
  have hnewlive : ∀ k, Live G2 (postObjs objs' (m ++ nw)) (postRooms rooms' (m ++ nw)) k → ∃ c, (c, k) ∈ m ++ nw ∧ Live G' objs' rooms' c ∧ G2.β k = G'.β c := by
    intro k hk
    rcases hk with ⟨o, ho⟩ | ⟨hr, hz⟩
    · obtain ⟨c, o', h1, h2, _⟩ := mem_postObjs ho
      exact ⟨c, fw_mem h2, .inl ⟨o', h1⟩, hren2.β c k h2⟩
    · obtain ⟨c, h1, h2⟩ := mem_postRooms hr
      exact ⟨c, fw_mem h2, .inr ⟨h1, by rw [← hren2.Z c k h2, ← hren2.E c k h2]; exact hz⟩, hren2.β c k h2⟩
  have hnot : ∀ c k, (c, k) ∈ m ++ nw → (∀ o, (k, o) ∉ σ0.objs) ∧ k ∉ σ0.rooms := by
    intro c k h
    have hd : ∀ (k : Nat), (∃ c, (c, k) ∈ m) → (∀ o, (k, o) ∉ σ0.objs) ∧ k ∉ σ0.rooms := by
      rintro k ⟨c, hc⟩
      subst hσ0
      have h1 : ∀ (ps : List (Nat × Nat)) (σ : St), (∀ o, (k, o) ∉ σ.objs) ∧ k ∉ σ.rooms → (∀ o, (k, o) ∉ (σ.killA ps).objs) ∧ k ∉ (σ.killA ps).rooms := by
        intro ps
        induction ps with
        | nil => exact fun σ h => h
        | cons p ps ih =>
          intro σ h
          refine ih _ ⟨fun o ho => ?_, fun hr => ?_⟩
          · obtain ⟨o', g, _⟩ := St.kill_mem ho
            exact h.1 o' g
          · simp only [St.kill, List.mem_filter] at hr
            exact h.2 hr.1
      have h2 : ∀ (ps : List (Nat × Nat)) (σ : St), ((∃ c, (c, k) ∈ ps) ∨ ((∀ o, (k, o) ∉ σ.objs) ∧ k ∉ σ.rooms)) → (∀ o, (k, o) ∉ (σ.dropA ps).objs) ∧ k ∉ (σ.dropA ps).rooms := by
        intro ps
        induction ps with
        | nil =>
          intro σ h
          rcases h with ⟨c, hc⟩ | h
          · cases hc
          · exact h
        | cons p ps ih =>
          intro σ h
          refine ih _ ?_
          rcases h with ⟨c, hc⟩ | h
          · rcases List.mem_cons.1 hc with rfl | hc
            · exact .inr ⟨fun o => St.drop_no σ k o, St.drop_noR σ k⟩
            · exact .inl ⟨c, hc⟩
          · refine .inr ⟨fun o ho => ?_, fun hr => ?_⟩
            · simp only [St.drop, List.mem_filter] at ho
              exact h.1 o ho.1
            · simp only [St.drop, List.mem_filter] at hr
              exact h.2 hr.1
      exact h1 nw _ (h2 m σ (.inl ⟨c, hc⟩))
    rcases List.mem_append.1 h with h | h
    · exact hd k ⟨c, h⟩
    · refine ⟨fun o ho => (hgone c k h).2.1 ⟨k, o, ho, .inl rfl⟩, (hgone c k h).2.2⟩
  have hcross : ∀ k j, Live G2 (postObjs objs' (m ++ nw)) (postRooms rooms' (m ++ nw)) k → Live G2 σ0.objs σ0.rooms j → G2.β k ≠ G2.β j := by
    intro k j hk hj e
    obtain ⟨c, h1, h2, h3⟩ := hnewlive k hk
    have hj' : Live G σ0.objs σ0.rooms j := Live.But hbut (fun q hq c hc => (hgone c q hc).2.2 hq) hj
    have hjn : ∀ c, (c, j) ∉ nw := (hl0 j hj').2.2
    rw [h3, hbut.β j hjn] at e
    rcases hmine c h2 with hM | hge
    · obtain ⟨c', k', g1, g2, g3⟩ := hentM _ hM
      have := hs.ctx.inj k' j g2 (hl0 j hj').1 (by rw [g3]; exact e)
      subst this
      exact (hl0 k' hj').2.1 c' g1
    · have := hj'.lt hs0
      omega
  refine ⟨v, G2, he, ?_, RA.ren hren2 r v hr⟩
  have hst : callSt σ m nw objs' rooms' = { env := σ0.env, objs := postObjs objs' (m ++ nw) ++ σ0.objs, rooms := postRooms rooms' (m ++ nw) ++ σ0.rooms } := by subst hσ0; rfl
  have split : ∀ k, Live G2 (postObjs objs' (m ++ nw) ++ σ0.objs) (postRooms rooms' (m ++ nw) ++ σ0.rooms) k → Live G2 (postObjs objs' (m ++ nw)) (postRooms rooms' (m ++ nw)) k ∨ Live G2 σ0.objs σ0.rooms k := by
    intro k hk
    rcases hk with ⟨o, ho⟩ | ⟨hr, hz⟩
    · rcases List.mem_append.1 ho with h | h
      · exact .inl (.inl ⟨o, h⟩)
      · exact .inr (.inl ⟨o, h⟩)
    · rcases List.mem_append.1 hr with h | h
      · exact .inl (.inr ⟨h, hz⟩)
      · exact .inr (.inr ⟨h, hz⟩)
  rw [hst]
  exact
    { env := hs1.env, defers := hs1.defers, fr := hs1.fr, old := hs1.old, ov := hs1.ov
      mine := fun k hk => by
        rcases split k hk with h | h
        · obtain ⟨c, h1, h2, h3⟩ := hnewlive k h
          rw [h3]
          rcases hmine c h2 with hM | hge
          · obtain ⟨c', k', g1, g2, g3⟩ := hentM _ hM
            rw [← g3]; exact hs.mine k' g2
          · exact .inr (Nat.le_trans hs.fr.size hge)
        · exact hs1.mine k h
      ctx :=
        { okO := fun k o ho => by
            rcases List.mem_append.1 ho with h | h
            · obtain ⟨c, o', h1, h2, rfl⟩ := mem_postObjs h
              exact (hc'.okO c o' h1).ren hren2 h2
            · exact hs1.ctx.okO k o h
          okR := fun k hk => by
            rcases List.mem_append.1 hk with h | h
            · obtain ⟨c, h1, h2⟩ := mem_postRooms h
              exact (hc'.okR c h1).ren hren2 h2
            · exact hs1.ctx.okR k h
          inj := fun k k' hk hk' e => by
            rcases split k hk with h | h <;> rcases split k' hk' with h' | h'
            · obtain ⟨c, h1, h2, h3⟩ := hnewlive k h
              obtain ⟨c', h1', h2', h3'⟩ := hnewlive k' h'
              have := hc'.inj c c' h2 h2' (by rw [← h3, ← h3']; exact e)
              subst this
              exact nodup_fst n1 h1 h1'
            · exact absurd e (hcross k k' h h')
            · exact absurd e.symm (hcross k' k h' h)
            · exact hs1.ctx.inj k k' h h' e
          uniq := fun k o o' ho ho' => by
            rcases List.mem_append.1 ho with h | h <;> rcases List.mem_append.1 ho' with h' | h'
            · obtain ⟨c, p, h1, h2, rfl⟩ := mem_postObjs h
              obtain ⟨c', p', h1', h2', rfl⟩ := mem_postObjs h'
              have := nodup_snd n2 (fw_mem h2) (fw_mem h2')
              subst this
              rw [hc'.uniq c p p' h1 h1']
            · obtain ⟨c, p, h1, h2, _⟩ := mem_postObjs h
              exact absurd h' ((hnot c k (fw_mem h2)).1 o')
            · obtain ⟨c, p, h1, h2, _⟩ := mem_postObjs h'
              exact absurd h ((hnot c k (fw_mem h2)).1 o)
            · exact hs1.ctx.uniq k o o' h h'
          dis := fun k o hk ho => by
            rcases List.mem_append.1 hk with h | h <;> rcases List.mem_append.1 ho with h' | h'
            · obtain ⟨c, h1, h2⟩ := mem_postRooms h
              obtain ⟨c', p', h1', h2', _⟩ := mem_postObjs h'
              have := nodup_snd n2 (fw_mem h2) (fw_mem h2')
              subst this
              exact hc'.dis c p' h1 h1'
            · obtain ⟨c, h1, h2⟩ := mem_postRooms h
              exact (hnot c k (fw_mem h2)).1 o h'
            · obtain ⟨c, p, h1, h2, _⟩ := mem_postObjs h'
              exact (hnot c k (fw_mem h2)).2 h
            · exact hs1.ctx.dis k o h h' } }
end Go.Qv
