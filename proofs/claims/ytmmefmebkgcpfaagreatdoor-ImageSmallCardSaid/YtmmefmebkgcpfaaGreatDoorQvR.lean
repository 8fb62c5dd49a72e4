/- Code: sequences, choices, blocks, loops; functions. Over any program. -/
import Derived.Test.YtmmefmebkgcpfaaGreatDoorQvW2
namespace Go.Qv
open Go

inductive Ex where
  | nrm | exit (id : Nat) | ret
def Ex.out : Ex → Exit
  | .nrm => .normal
  | .exit id => .exit id
  | .ret => .ret
structure Ann where
  loop : Nat → LAnn
  /-- How often a loop is merely unrolled; 0: it is turned by its places. -/
  unroll : Nat → Nat
  /-- Blocks whose ends meet by places. -/
  join : Nat → Option LAnn
  /-- Drawn regions: operations that count as quiet; whether the flags' ways meet at the end. -/
  quiet : Nat → List Nat
  /-- Drawn regions: what must be done ahead of what (bits). -/
  tab : Nat → Array Nat
  /-- Drawn regions that are gone through in every order. -/
  enum : Nat → Bool
  /-- Regions that are not drawn, whose guards part the ways. -/
  split : Nat → Bool
  meet : Nat → Bool
def loopU (ls : List Loc) (f : St → (Ex → St → Prop) → Prop) : Nat → St → (Ex → St → Prop) → Prop
  | 0, _, _ => False
  | n + 1, σ, K => castOwns ls σ fun σ => forceSt σ fun σ => f σ fun e σ' => match e with | .nrm => loopU ls f n σ' K | e => K e σ'
/-- A loop by its places: what holds of them at its head, and what falls. -/
def loopI (f : St → (Ex → St → Prop) → Prop) (A : LAnn) (σ : St) (K : Ex → St → Prop) : Prop :=
  castOwns A.locs σ fun σ0 => forceSt σ0 fun σ0 => ∃ (I : List PV → Prop) (μ : List PV → Nat),
    (getPVs σ0 A.locs fun vs => I vs ∧ leSt σ0 (headSt A σ0 vs)) ∧
    allPV A.locs fun vs => I vs → forceSt (headSt A σ0 vs) fun σ => f σ fun e σ' => match e with
      | .nrm => castOwns A.locs σ' fun σ1 => getPVs σ1 A.locs fun vs' => I vs' ∧ μ vs' < μ vs ∧ leSt σ1 (headSt A σ0 vs')
      | e => K e σ'
/-- The ends of a block meet: what holds of the places there. -/
def joinK (A : LAnn) (σ0 : St) (I : List PV → Prop) (σ : St) : Prop := castOwns A.locs σ fun σ1 => getPVs σ1 A.locs fun vs => I vs ∧ leSt σ1 (headSt A σ0 vs)
def vc (P : Program) (SP : Nat → List Sp) (An : Ann) : Nat → Code → St → (Ex → St → Prop) → Prop
  | _, .skip, σ, K => K .nrm σ
  | _, .region id ops false, σ, K => (match An.split id with
    | true => vcS P SP ops (List.range ops.size) σ (K .nrm)
    | false => vcG P SP ops (2 * ops.size + 2) true [] (List.range ops.size) σ (K .nrm))
  | _, .region id ops true, σ, K => vcDE P SP ops (An.tab id) (An.quiet id) (An.meet id) (An.enum id) σ (K .nrm)
  | b, .seq x y, σ, K => vc P SP An b x σ fun e σ' => match e with | .nrm => vc P SP An b y σ' K | e => K e σ'
  | b, .cond c x y, σ, K => asB (ev σ c) fun t => CB t (vc P SP An b x σ K) (vc P SP An b y σ K)
  | _, .block id c, σ, K => (match An.join id with
    | none => vc P SP An id c σ fun e σ' => match e with | .exit i => if i = id then K .nrm σ' else K (.exit i) σ' | e => K e σ'
    | some A => ∃ I : List PV → Prop, (vc P SP An id c σ fun e σ' => match e with
        | .exit i => if i = id then joinK A σ I σ' else K (.exit i) σ'
        | .nrm => joinK A σ I σ'
        | e => K e σ') ∧ allPV A.locs fun vs => I vs → forceSt (headSt A σ vs) (K .nrm))
  | b, .loop c, σ, K => if An.unroll b = 0 then loopI (fun σ K => vc P SP An b c σ K) (An.loop b) σ K else loopU (An.loop b).locs (fun σ K => vc P SP An b c σ K) (An.unroll b) σ K
  | _, .exit id, σ, K => K (.exit id) σ
  | _, .ret, σ, K => K .ret σ
  | _, _, _, _ => False

def Post (F : F0) (K : Ex → St → Prop) : Exit → Act → World → Prop := fun e a w => ∃ ex σ G, e = ex.out ∧ Sim F G σ a w ∧ K ex σ
theorem Sim.castOwns {F : F0} {a : Act} {w : World} : ∀ {ls : List Loc} {G : Gh} {σ : St} {K : St → Prop}, Sim F G σ a w → Go.Qv.castOwns ls σ K → ∃ σ' G', Sim F G' σ' a w ∧ K σ'
  | [], G, σ, K, hs, h => ⟨σ, G, hs, h⟩
  | l :: ls, G, σ, K, hs, h => by
    simp only [Go.Qv.castOwns] at h
    obtain ⟨σ1, G1, h1, h2⟩ := castOwn_ok hs h
    exact Sim.castOwns h1 h2
theorem vc_ok {P : Program} {SP : Nat → List Sp} {An : Ann} {F : F0} : ∀ (c : Code) (b : Nat) (σ : St) (K : Ex → St → Prop), vc P SP An b c σ K → ∀ (G : Gh) (a : Act) (w : World), Sim F G σ a w → c.wp P (Post F K) a w := by
  intro c
  induction c with
  | skip =>
    intro b σ K h G a w hs
    simp only [vc] at h
    exact wp_skip ⟨.nrm, σ, G, rfl, hs, h⟩
  | region id ops draw =>
    intro b σ K h G a w hs
    cases draw with
    | true =>
      simp only [vc] at h
      refine vcDE_ok (Q := Post F K) ?_ h hs fun σ' G' a' w' h1 h2 => ⟨.nrm, σ', G', rfl, h1, h2⟩
      rintro c a w ⟨ex, _, _, e, _⟩
      cases ex <;> cases e
    | false =>
      simp only [vc] at h
      refine wp_region ?_
      split at h
      · exact vcS_ok (fun σ' G' a' w' h1 h2 => ⟨.nrm, σ', G', rfl, h1, h2⟩) _ _ h G a w hs
      have := vcG_ok (Q := Post F K) _ _ _ _ _ _ h G a w [] hs (fun σ' G' a' w' h1 h2 _ => by
        show Post F K .normal a' w'
        exact ⟨.nrm, σ', G', rfl, h1, h2⟩)
      rwa [List.append_nil] at this
  | seq x y ihx ihy =>
    intro b σ K h G a w hs
    simp only [vc] at h
    refine wp_seq (wp_mono (ihx b σ _ h G a w hs) ?_)
    rintro e a' w' ⟨ex, σ', G', rfl, h1, h2⟩
    cases ex with
    | nrm => exact ihy b σ' K h2 G' a' w' h1
    | exit id => exact ⟨.exit id, σ', G', rfl, h1, h2⟩
    | ret => exact ⟨.ret, σ', G', rfl, h1, h2⟩
  | cond c x y ihx ihy =>
    intro b σ K h G a w hs
    simp only [vc] at h
    obtain ⟨t, ht, hu, h⟩ := asB_elim h (ev_ok hs c)
    have h := CB.elim h
    refine wp_cond (t := t) hu ?_
    cases t
    · exact ihy b σ K h G a w hs
    · exact ihx b σ K h G a w hs
  | block id c ih =>
    intro b σ K h G a w hs
    simp only [vc] at h
    refine wp_block ?_
    split at h
    · refine wp_mono (ih id σ _ h G a w hs) ?_
      rintro e a' w' ⟨ex, σ', G', rfl, h1, h2⟩
      cases ex with
      | nrm => exact ⟨.nrm, σ', G', rfl, h1, h2⟩
      | exit i =>
        simp only at h2
        show if i = id then Post F K .normal a' w' else Post F K (.exit i) a' w'
        split
        · rename_i e; rw [if_pos e] at h2; exact ⟨.nrm, σ', G', rfl, h1, h2⟩
        · rename_i e; rw [if_neg e] at h2; exact ⟨.exit i, σ', G', rfl, h1, h2⟩
      | ret => exact ⟨.ret, σ', G', rfl, h1, h2⟩
    · rename_i A hA
      simp only [forceSt_eq] at h
      obtain ⟨I, h, hK⟩ := h
      have join : ∀ G' σ' a' w', Sim F G' σ' a' w' → joinK A σ I σ' → Post F K .normal a' w' := by
        intro G' σ' a' w' h1 h2
        obtain ⟨σ1, G1, hs1, h2⟩ := h1.castOwns h2
        obtain ⟨vs, ⟨hI, hle⟩, hf⟩ := getPVs_fit h2
        exact ⟨.nrm, _, G1, rfl, hs1.le hle, allPV_elim hK vs hf hI⟩
      refine wp_mono (ih id σ _ h G a w hs) ?_
      rintro e a' w' ⟨ex, σ', G', rfl, h1, h2⟩
      cases ex with
      | nrm => exact join G' σ' a' w' h1 h2
      | exit i =>
        simp only at h2
        show if i = id then Post F K .normal a' w' else Post F K (.exit i) a' w'
        split
        · rename_i e; rw [if_pos e] at h2; exact join G' σ' a' w' h1 h2
        · rename_i e; rw [if_neg e] at h2; exact ⟨.exit i, σ', G', rfl, h1, h2⟩
      | ret => exact ⟨.ret, σ', G', rfl, h1, h2⟩
  | loop c ih =>
    intro b σ K h G a w hs
    simp only [vc] at h
    split at h
    · unfold loopI at h
      simp only [forceSt_eq] at h
      obtain ⟨A, hA⟩ : ∃ A, A = An.loop b := ⟨_, rfl⟩
      rw [← hA] at h
      obtain ⟨σ0, G0, hs0, I, μ, h1, h2⟩ := hs.castOwns h
      obtain ⟨vs, ⟨hI, hle⟩, hf⟩ := getPVs_fit h1
      refine wp_loop_ghost (fun n a w => ∃ vs G, fitPV A.locs vs ∧ I vs ∧ μ vs = n ∧ Sim F G (headSt A σ0 vs) a w) (μ vs) ⟨vs, G0, hf, hI, rfl, hs0.le hle⟩ ?_
      rintro n a w ⟨vs, G, hf, hI, rfl, hs⟩
      refine wp_mono (ih b _ _ (allPV_elim h2 vs hf hI) G a w hs) ?_
      rintro e a' w' ⟨ex, σ', G', rfl, g1, g2⟩
      cases ex with
      | nrm =>
        simp only at g2
        obtain ⟨σ1, G1, hs1, g2⟩ := g1.castOwns g2
        obtain ⟨vs', ⟨hI', hμ, hle'⟩, hf'⟩ := getPVs_fit g2
        exact ⟨μ vs', hμ, vs', G1, hf', hI', rfl, hs1.le hle'⟩
      | exit i => exact ⟨.exit i, σ', G', rfl, g1, g2⟩
      | ret => exact ⟨.ret, σ', G', rfl, g1, g2⟩
    · refine wp_loop_ghost (fun n a w => ∃ σ G, Sim F G σ a w ∧ loopU (An.loop b).locs (fun σ K => vc P SP An b c σ K) n σ K) _ ⟨σ, G, hs, h⟩ ?_
      rintro n a w ⟨σ, G, hs, h⟩
      cases n with
      | zero => exact h.elim
      | succ n =>
        simp only [loopU, forceSt_eq] at h
        obtain ⟨σ, G, hs, h⟩ := hs.castOwns h
        refine wp_mono (ih b _ _ h G a w hs) ?_
        rintro e a' w' ⟨ex, σ', G', rfl, g1, g2⟩
        cases ex with
        | nrm => exact ⟨n, Nat.lt_succ_self n, σ', G', g1, g2⟩
        | exit i => exact ⟨.exit i, σ', G', rfl, g1, g2⟩
        | ret => exact ⟨.ret, σ', G', rfl, g1, g2⟩
  | exit id =>
    intro b σ K h G a w hs
    simp only [vc] at h
    exact wp_exit ⟨.exit id, σ, G, rfl, hs, h⟩
  | ret =>
    intro b σ K h G a w hs
    simp only [vc] at h
    exact wp_ret ⟨.ret, σ, G, rfl, hs, h⟩
  | rangeFunc f ps x y _ _ => intro b σ K h; simp only [vc] at h
  | scope x _ => intro b σ K h; simp only [vc] at h
  | label l => intro b σ K h; simp only [vc] at h
  | goto l => intro b σ K h; simp only [vc] at h
  | refuse s => intro b σ K h; simp only [vc] at h

/-! ### A function -/
def resVarA (P : Program) (σ : St) : ResultVar → (AV → Prop) → Prop
  | .tmp t, K => K (σ.env.getD t .no)
  | .cell c t, K => vLoad P t σ (σ.env.getD c .no) K
def resVars (P : Program) (σ : St) : List ResultVar → (List AV → Prop) → Prop
  | [], K => K []
  | r :: rs, K => resVarA P σ r fun x => resVars P σ rs fun xs => K (x :: xs)
def resLe (xs : List AV) (r : AV) : Prop := match xs with
  | [x] => resLe1 x r
  | xs => (match r with | .tup ys => resLeL xs ys | _ => False)
/-- What a function answers; the places are owned under the contract's numbers first. -/
def retK (P : Program) (fn : Func) (ls : List Loc) (r : AV) (objs : List (Nat × Ob)) (rooms : List Nat) : Ex → St → Prop
  | .exit _, _ => False
  | _, σ => castOwns ls σ fun σ => resVars P σ fn.results.toList fun xs => resLe xs r ∧ objsLe σ objs ∧ roomsLe σ objs rooms = true

def resOne (tmps : Array Value) : ResultVar → Sem Value
  | .tmp t => pure (tmps.getD t undef)
  | .cell a t => do loadVar t (← asAddr (tmps.getD a undef))
theorem getD_ok {F : F0} {G : Gh} {σ : St} {a : Act} {w : World} (hs : Sim F G σ a w) (t : Nat) : RA G w (σ.env.getD t .no) (a.tmps.getD t undef) := by
  have := ev_ok hs (.tmp t)
  simpa [ev, Act.eval] using this
theorem resVarA_ok {P : Program} {F : F0} {G : Gh} {σ : St} {a : Act} {w : World} (hs : Sim F G σ a w) {r : ResultVar} {K : AV → Prop} (h : resVarA P σ r K) : ∃ x v, K x ∧ RA G w x v ∧ (resOne a.tmps r).run P w = .ok v w := by
  cases r with
  | tmp t => exact ⟨_, _, h, getD_ok hs t, rfl⟩
  | cell c t =>
    simp only [resVarA] at h
    obtain ⟨av, v, h1, h2, h3⟩ := vLoad_ok hs h (getD_ok hs c)
    refine ⟨av, v, h3, h2, ?_⟩
    simp only [resOne]
    revert h1
    unfold Instr.loadAt
    generalize a.tmps.getD c undef = u
    intro h1
    cases u with
    | pointer p =>
      cases p with
      | some ad => simpa [Instr.sureAddr, asAddr] using h1
      | none => simp [Instr.sureAddr, stuck] at h1
    | _ => simp [Instr.sureAddr, stuck] at h1
theorem resVars_ok {P : Program} {F : F0} {G : Gh} {σ : St} {a : Act} {w : World} (hs : Sim F G σ a w) : ∀ {rs : List ResultVar} {K : List AV → Prop}, resVars P σ rs K → ∃ xs vs, K xs ∧ RAL G w xs vs ∧ (rs.mapM (resOne a.tmps)).run P w = .ok vs w
  | [], K, h => ⟨[], [], h, rfl, rfl⟩
  | r :: rs, K, h => by
    simp only [resVars] at h
    obtain ⟨x, v, h, hr, hv⟩ := resVarA_ok hs h
    obtain ⟨xs, vs, h, hrs, hvs⟩ := resVars_ok hs h
    refine ⟨x :: xs, v :: vs, h, ⟨v, vs, rfl, hr, hrs⟩, ?_⟩
    rw [List.mapM_cons]
    simp only [Sem.run_bind, hv, Result.andThen_ok, hvs, Sem.run_pure]
theorem resLe_ok {G : Gh} {w : World} {xs : List AV} {r : AV} {vs : List Value} (h : resLe xs r) (hr : RAL G w xs vs) : RA G w r (if h : vs.toArray.size = 1 then vs.toArray[0] else .tuple vs.toArray) := by
  unfold resLe at h
  split at h
  · simp only [RAL] at hr
    obtain ⟨u, us, rfl, h1, rfl⟩ := hr
    exact resLe1_ok h h1
  · rename_i hne
    split at h
    · rename_i ys
      have hl := hr.len
      rw [dif_neg]
      · simp only [RA]
        exact ⟨_, rfl, resLeL_ok h hr⟩
      · simp only [List.size_toArray]
        intro e
        rw [e] at hl
        match xs, hl with
        | [x], _ => exact hne x rfl
    · exact h.elim
theorem results_ok {P : Program} {fn : Func} {F : F0} {G : Gh} {σ : St} {a : Act} {w : World} (hs : Sim F G σ a w) {r : AV} {K : List AV → Prop} (h : resVars P σ fn.results.toList fun xs => resLe xs r ∧ K xs) : ∃ v xs, K xs ∧ RA G w r v ∧ (results fn a.tmps).run P w = .ok v w := by
  obtain ⟨xs, vs, ⟨h1, h2⟩, hr, hv⟩ := resVars_ok hs h
  refine ⟨_, xs, h2, resLe_ok h1 hr, ?_⟩
  have hm : (fn.results.mapM (resOne a.tmps)).run P w = .ok vs.toArray w := by
    rw [Array.mapM_eq_mapM_toList]
    rw [← bind_pure_comp]
    simp only [Sem.run_bind, hv, Result.andThen_ok, Function.comp]
    rfl
  have he : results fn a.tmps = (do let vs ← fn.results.mapM (resOne a.tmps); pure (if h : vs.size = 1 then vs[0] else .tuple vs)) := by
    unfold results
    congr 2
  rw [he]
  simp only [Sem.run_bind, hm, Result.andThen_ok, Sem.run_pure]

/-- A function's contract by its conditions. -/
def fnSt (fn : Func) (args : List AV) (objs : List (Nat × Ob)) (rooms : List Nat) : St := { env := args ++ List.replicate (fn.ntmps - args.length) .no, objs, rooms }
theorem RAL.nos {G : Gh} {w : World} : ∀ (n : Nat) (us : List Value), us.length = n → RAL G w (List.replicate n .no) us
  | 0, us, h => by rw [List.eq_nil_of_length_eq_zero h]; rfl
  | n + 1, [], h => by simp at h
  | n + 1, u :: us, h => ⟨u, us, rfl, trivial, RAL.nos n us (by simpa using h)⟩
theorem fn_ok {P : Program} {SP : Nat → List Sp} {An : Ann} {f : Nat} {fn : Func} {c : Code} (hf : P.funcs[f]? = some fn) (hb : fn.body = some c) {args : List AV} {objs : List (Nat × Ob)} {rooms : List Nat} {r : AV} {objs' : List (Nat × Ob)} {rooms' : List Nat}
    {ls : List Loc} (h : vc P SP An 0 c (fnSt fn args objs rooms) (retK P fn ls r objs' rooms')) : AFn P f args objs rooms r objs' rooms' := by
  intro G w vs hfin hctx hargs
  have hs : Sim ⟨w, G, entM G objs rooms⟩ G (fnSt fn args objs rooms) { tmps := vs.toArray ++ Array.replicate (fn.ntmps - vs.toArray.size) undef, defers := [] } w :=
    { env := by
        have hl := hargs.len
        simp only [fnSt, List.size_toArray, Array.toList_append, Array.toList_replicate, hl]
        exact RAL.append hargs (RAL.nos _ _ (by simp))
      defers := rfl
      ctx := hctx
      fr := { os := rfl, tape := rfl, output := rfl, size := Nat.le_refl _, keep := fun _ _ _ => ⟨rfl, rfl⟩, pres := Pres.refl _ _, fin := hfin }
      mine := fun k hk => .inl ⟨k, hk, rfl⟩
      old := fun _ _ => ⟨rfl, rfl, rfl⟩
      ov := rfl }
  refine calls_of_wp hf hb (wp_mono (vc_ok c 0 _ _ h G _ w hs) ?_)
  rintro e a' w' ⟨ex, σ', G', rfl, hs', hK⟩
  have fin : (castOwns ls σ' fun σ' => resVars P σ' fn.results.toList fun xs => resLe xs r ∧ objsLe σ' objs' ∧ roomsLe σ' objs' rooms' = true) → a'.defers = [] ∧ ∃ v, (results fn a'.tmps).run P w' = .ok v w' ∧ ∃ v' G'', Ending.returned v = .returned v' ∧ RA G'' w' r v' ∧ Ctx G'' w' objs' rooms' ∧ Fr ⟨w, G, entM G objs rooms⟩ w' G''.S ∧
      (∀ k, Live G'' objs' rooms' k → entM G objs rooms (G''.β k) ∨ w.heap.size ≤ G''.β k) ∧ (∀ k, 100000 ≤ k → G''.β k = G.β k ∧ G''.E k = G.E k ∧ G''.Z k = G.Z k) ∧ G''.ov = G.ov := by
    intro h
    obtain ⟨σ1, G1, hs1, h⟩ := hs'.castOwns h
    obtain ⟨v, xs, ⟨h1, h2⟩, hr, hv⟩ := results_ok hs1 h
    have hs2 : Sim ⟨w, G, entM G objs rooms⟩ G1 { env := σ1.env.map fun _ => .no, objs := objs', rooms := rooms' } a' w' := by
      refine hs1.le ⟨?_, h1, h2⟩
      simp only
      generalize σ1.env = xs
      induction xs with
      | nil => trivial
      | cons x xs ih => exact ih
    exact ⟨hs'.defers, v, hv, v, G1, rfl, hr, hs2.ctx, hs2.fr, hs2.mine, hs2.old, hs2.ov⟩
  cases ex with
  | nrm => exact fin hK
  | exit i => exact hK.elim
  | ret => exact fin hK
end Go.Qv
