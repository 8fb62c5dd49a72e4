/- Maps made and written; calls; all operations under one word; regions. Over any program. -/
import Derived.Test.YtmmefmebkgcpfaaGreatDoorQvL
namespace Go.Qv
open Go

/-! ### Shapes of what a function is handed and answers -/
inductive PA where
  | any | d | t (s : DSh) | own (c sz : Nat) | ptr (c : Nat) | mp (c : Nat) | tup (ps : List PA) | fn (f : Nat) (cap : List PA)
inductive OSh where
  | cells (ps : List PA) | mapS | mapI (kd : IntKind)
structure Sp where
  args : List PA
  objs : List (Nat × OSh)
  res : PA
  objs' : List (Nat × OSh)
  rooms' : List Nat
  new : List Nat
mutual
def matchA : PA → AV → Option (List (Nat × Nat))
  | .any, _ => some []
  | .d, _ => some []
  | .t _, _ => some []
  | .own c sz, .own k sz' _ => if sz = sz' then some [(c, k)] else none
  | .ptr c, .ptr k o => if o = 0 then some [(c, k)] else none
  | .mp c, .mp k => some [(c, k)]
  | .fn f cap, .fn g cs => if f = g then matchL cap cs else none
  | _, _ => none
def matchL : List PA → List AV → Option (List (Nat × Nat))
  | [], [] => some []
  | p :: ps, a :: as => match matchA p a, matchL ps as with | some m, some n => some (m ++ n) | _, _ => none
  | _, _ => none
end
def addNew (m n : List (Nat × Nat)) : List (Nat × Nat) := n.foldl (fun m p => if m.any (fun q => q.1 == p.1 && q.2 == p.2) then m else m ++ [p]) m
def matchO (σ : St) : List (Nat × OSh) → List (Nat × Nat) → Option (List (Nat × Nat))
  | [], m => some m
  | (c, sh) :: os, m => match fw m c with
    | some k => (match sh, objAt σ k with
      | .cells ps, some (.cells cs) => (match matchL ps cs with | some n => matchO σ os (addNew m n) | none => none)
      | .mapS, some (.mapS _) => matchO σ os m
      | .mapI kd, some (.mapI kd' _) => if kd = kd' then matchO σ os m else none
      | _, _ => none)
    | none => none
def matchSp (sp : Sp) (args : List AV) (σ : St) : Option (List (Nat × Nat)) := match matchL sp.args args with
  | some m => matchO σ sp.objs (addNew [] m)
  | none => none
mutual
def exPA : PA → (AV → Prop) → Prop
  | .any, K => K .no
  | .d, K => ∃ x : DV, K (.d x)
  | .t s, K => exSh s fun x => K (.d x)
  | .own c sz, K => ∃ xs : List DV, K (.own c sz xs)
  | .ptr c, K => K (.ptr c 0)
  | .mp c, K => K (.mp c)
  | .tup ps, K => exPL ps fun as => K (.tup as)
  | .fn f cap, K => exPL cap fun as => K (.fn f as)
def exPL : List PA → (List AV → Prop) → Prop
  | [], K => K []
  | p :: ps, K => exPA p fun a => exPL ps fun as => K (a :: as)
end
def exOb : OSh → (Ob → Prop) → Prop
  | .cells ps, K => exPL ps fun as => K (.cells as)
  | .mapS, K => ∃ es : List (ByteArray × DV), K (.mapS es)
  | .mapI kd, K => ∃ es : List (Int × DV), K (.mapI kd es)
def exObs : List (Nat × OSh) → (List (Nat × Ob) → Prop) → Prop
  | [], K => K []
  | (c, sh) :: os, K => exOb sh fun o => exObs os fun obs => K ((c, o) :: obs)
mutual
theorem exPA_elim : ∀ (p : PA) {K : AV → Prop}, exPA p K → ∃ a, K a
  | .any, K, h => ⟨_, h⟩
  | .d, K, ⟨x, h⟩ => ⟨_, h⟩
  | .t s, K, h => let ⟨_, h⟩ := exSh_elim s h; ⟨_, h⟩
  | .own c sz, K, ⟨x, h⟩ => ⟨_, h⟩
  | .ptr c, K, h => ⟨_, h⟩
  | .mp c, K, h => ⟨_, h⟩
  | .tup ps, K, h => let ⟨_, h⟩ := exPL_elim ps h; ⟨_, h⟩
  | .fn f cap, K, h => let ⟨_, h⟩ := exPL_elim cap h; ⟨_, h⟩
theorem exPL_elim : ∀ (p : List PA) {K : List AV → Prop}, exPL p K → ∃ a, K a
  | [], K, h => ⟨_, h⟩
  | p :: ps, K, h => by
    simp only [exPL] at h
    obtain ⟨a, h⟩ := exPA_elim p h
    obtain ⟨as, h⟩ := exPL_elim ps h
    exact ⟨_, h⟩
end
theorem exOb_elim : ∀ (p : OSh) {K : Ob → Prop}, exOb p K → ∃ a, K a
  | .cells ps, K, h => let ⟨_, h⟩ := exPL_elim ps h; ⟨_, h⟩
  | .mapS, K, ⟨_, h⟩ => ⟨_, h⟩
  | .mapI kd, K, ⟨_, h⟩ => ⟨_, h⟩
theorem exObs_elim : ∀ (p : List (Nat × OSh)) {K : List (Nat × Ob) → Prop}, exObs p K → ∃ a, K a
  | [], K, h => ⟨_, h⟩
  | (c, sh) :: os, K, h => by
    simp only [exObs] at h
    obtain ⟨o, h⟩ := exOb_elim sh h
    obtain ⟨obs, h⟩ := exObs_elim os h
    exact ⟨_, h⟩
/-- Arguments that are data are laid as data. -/
def normL : List PA → List AV → (List AV → Prop) → Prop
  | [], [], K => K []
  | .any :: ps, _ :: as, K => normL ps as fun ys => K (.no :: ys)
  | .d :: ps, a :: as, K => asD a fun x => normL ps as fun ys => K (.d x :: ys)
  | .t _ :: ps, a :: as, K => asD a fun x => normL ps as fun ys => K (.d x :: ys)
  | _ :: ps, a :: as, K => normL ps as fun ys => K (a :: ys)
  | _, _, _ => False
theorem normL_elim {G : Gh} {w : World} : ∀ {ps : List PA} {as : List AV} {us : List Value} {K : List AV → Prop}, normL ps as K → RAL G w as us → ∃ bs, K bs ∧ RAL G w bs us
  | [], [], us, K, h, hr => ⟨[], h, hr⟩
  | [], a :: as, us, K, h, hr => by simp [normL] at h
  | p :: ps, [], us, K, h, hr => by cases p <;> simp [normL] at h
  | p :: ps, a :: as, us, K, h, hr => by
    have hr' := hr
    simp only [RAL] at hr
    obtain ⟨u, us', rfl, h1, h2⟩ := hr
    cases p with
    | d =>
      simp only [normL] at h
      obtain ⟨x, hx, h⟩ := asD_elim h h1
      obtain ⟨bs, hK, hb⟩ := normL_elim h h2
      exact ⟨_, hK, u, us', rfl, by simpa only [RA] using hx, hb⟩
    | t s =>
      simp only [normL] at h
      obtain ⟨x, hx, h⟩ := asD_elim h h1
      obtain ⟨bs, hK, hb⟩ := normL_elim h h2
      exact ⟨_, hK, u, us', rfl, by simpa only [RA] using hx, hb⟩
    | any =>
      simp only [normL] at h
      obtain ⟨bs, hK, hb⟩ := normL_elim h h2
      exact ⟨_, hK, u, us', rfl, by simp only [RA], hb⟩
    | own c sz => simp only [normL] at h; obtain ⟨bs, hK, hb⟩ := normL_elim h h2; exact ⟨_, hK, u, us', rfl, h1, hb⟩
    | ptr c => simp only [normL] at h; obtain ⟨bs, hK, hb⟩ := normL_elim h h2; exact ⟨_, hK, u, us', rfl, h1, hb⟩
    | mp c => simp only [normL] at h; obtain ⟨bs, hK, hb⟩ := normL_elim h h2; exact ⟨_, hK, u, us', rfl, h1, hb⟩
    | tup c => simp only [normL] at h; obtain ⟨bs, hK, hb⟩ := normL_elim h h2; exact ⟨_, hK, u, us', rfl, h1, hb⟩
    | fn f c => simp only [normL] at h; obtain ⟨bs, hK, hb⟩ := normL_elim h h2; exact ⟨_, hK, u, us', rfl, h1, hb⟩
def newIds (d : Nat) : List Nat → Nat → List (Nat × Nat)
  | [], _ => []
  | c :: cs, i => (c, 10000 + 16 * d + i) :: newIds d cs (i + 1)
def vCallS (P : Program) (f d : Nat) (args : List AV) (σ : St) (K : AV → St → Prop) : List Sp → Prop
  | [] => False
  | sp :: sps => match matchSp sp args σ with
    | some m => if pairsOk m (newIds d sp.new 0) then normL sp.args args fun args => exPA sp.res fun r => exObs sp.objs' fun objs' =>
        AFn P f (AV.renL (bw m) args) (preObjs σ m) (preRooms σ m) r objs' sp.rooms' ∧ K (r.ren (fw (m ++ newIds d sp.new 0))) (callSt σ m (newIds d sp.new 0) objs' sp.rooms') else False
    | none => vCallS P f d args σ K sps
def callable (P : Program) (f : Nat) : Bool := match P.funcs[f]? with | some fn => !(fn.name == "runtime.NumGoroutine") && fn.body.isSome | none => false
def pureSp (n : Nat) (r : PA) : Sp := { args := List.replicate n .d, objs := [], res := r, objs' := [], rooms' := [], new := [] }
def resPA (P : Program) (f : Nat) : PA := match P.funcs[f]? with | some fn => (match fn.resultTypes.toList with | [t] => .t (dsh P t) | ts => .tup (ts.map fun t => .t (dsh P t))) | none => .d
def vCall (P : Program) (SP : Nat → List Sp) (f d : Nat) (args : List AV) (σ : St) (K : AV → St → Prop) : Prop :=
  if callable P f then vCallS P f d args σ K (SP f ++ [pureSp args.length (resPA P f)]) else False
theorem vCallS_ok {P : Program} {F : F0} {G : Gh} {σ : St} {a : Act} {w : World} (hs : Sim F G σ a w) {f d : Nat} {args : List AV} {vs : List Value} (hargs : RAL G w args vs) {K : AV → St → Prop} : ∀ {sps : List Sp}, vCallS P f d args σ K sps →
    Calls P f vs.toArray w fun e w' => ∃ v G' av σ', e = .returned v ∧ Sim F G' σ' a w' ∧ RA G' w' av v ∧ K av σ'
  | [], h => h.elim
  | sp :: sps, h => by
    simp only [vCallS] at h
    split at h
    · rename_i m hm
      split at h
      case isFalse => exact h.elim
      rename_i hp
      obtain ⟨bs, h, hb⟩ := normL_elim h hargs
      obtain ⟨r, h⟩ := exPA_elim _ h
      obtain ⟨objs', hf, hK⟩ := exObs_elim _ h
      refine (call_ok hs hp hb hf).mono ?_
      rintro e w' ⟨v, G', h1, h2, h3⟩
      exact ⟨v, G', _, _, h1, h2, h3, hK⟩
    · exact vCallS_ok hs hargs h
theorem callable_ok {P : Program} {f : Nat} (h : callable P f = true) (w : World) (args : Array Value) : (callFunc f args).run P w = .ok (.enter f args) w := by
  unfold callable at h
  split at h
  · rename_i fn hf
    simp only [Bool.and_eq_true, Bool.not_eq_true'] at h
    obtain ⟨h1, h2⟩ := h
    have h3 : fn.body.isNone = false := by
      cases hb : fn.body with
      | none => rw [hb] at h2; cases h2
      | some c => rfl
    simp only [callFunc, Sem.run_bind, run_program, Result.andThen_ok, hf, h1, Bool.false_eq_true, if_false, h3, Sem.run_pure]
  · cases h
theorem wp_enter {P : Program} {o : Oper} {a : Act} {w w' : World} {next : Act → World → Prop} {Q : Exit → Act → World → Prop} {f : Nat} {args : Array Value} (hr : (execOp a.eval o).run P w = .ok (.enter f args) w')
    (h : Calls P f args w' fun e w'' => ∃ v, e = .returned v ∧ next (a.put o.dst v) w'') : o.wp P a w next Q := by
  unfold Oper.wp
  rw [hr]
  simp only [Oper.upon_enter]
  refine h.mono ?_
  rintro e w'' ⟨v, rfl, h⟩
  exact h
def vCallOp (P : Program) (SP : Nat → List Sp) (d : Nat) (g : AV) (args : List AV) (σ : St) (K : AV → St → Prop) : Prop :=
  match g with
  | .fn f cap => vCall P SP f d (args ++ cap) σ K
  | _ => False
theorem vCallOp_ok {P : Program} {SP : Nat → List Sp} {F : F0} {G : Gh} {σ : St} {a : Act} {w : World} (hs : Sim F G σ a w) {o : Oper} {d : Nat} {c : Call} {fo : Operand} (ho : o.op = .call c) (hc : c.callee = .value fo) {K : AV → St → Prop} {next : Act → World → Prop} {Q : Exit → Act → World → Prop}
    (h : vCallOp P SP d (ev σ fo) (c.args.toList.map (ev σ)) σ K) (hn : Nxt P o a F next K) : o.wp P a w next Q := by
  have hg := ev_ok hs fo
  unfold vCallOp at h
  split at h
  case h_2 => exact h.elim
  rename_i f cap he
  rw [he] at hg
  simp only [RA] at hg
  obtain ⟨cs, hg, hcs⟩ := hg
  unfold vCall at h
  split at h
  case isFalse => exact h.elim
  rename_i hcall
  have hargs := (RAL.evs hs c.args.toList).append hcs
  refine wp_enter (f := f) (args := (c.args.toList.map a.eval ++ cs.toList).toArray) ?_ ((vCallS_ok hs hargs h).mono ?_)
  · simp only [execOp, ho, Sem.run_bind, resolve, hc, Deferred.ofValue, hg, Sem.run_pure, Result.andThen_ok, invoke, callable_ok hcall]
    congr 2
    simp
  · rintro e w' ⟨v, G', av, σ', h1, h2, h3, h4⟩
    exact ⟨v, h1, hn _ _ _ _ _ h2 h3 h4⟩

/-! ### Maps -/
def newMap (P : Program) (t : Nat) : Option Ob := match P.underlying t with
  | some (.map kt _) => (match P.underlying kt with | some .string => some (.mapS []) | some (.int kd) => some (.mapI kd []) | _ => none)
  | _ => none
def vMakeMap (P : Program) (t d : Nat) (σ : St) (K : AV → St → Prop) : Prop :=
  if d < 100000 then (match newMap P t with | some o => K (.mp d) (newSt σ d o) | none => False) else False
theorem vMakeMap_ok {P : Program} {F : F0} {G : Gh} {σ : St} {a : Act} {w : World} (hs : Sim F G σ a w) {o : Oper} {t d : Nat} (ho : o.op = .makeMap t none) {K : AV → St → Prop} {next : Act → World → Prop} {Q : Exit → Act → World → Prop} (h : vMakeMap P t d σ K) (hn : Nxt P o a F next K) : o.wp P a w next Q := by
  unfold vMakeMap at h
  split at h
  case isFalse => exact h.elim
  rename_i hd
  split at h
  case h_2 => exact h.elim
  rename_i ob hob
  have h2 := hs.allocO d hd (.map #[] 0)
  have hβ : ({ G with β := upto G.β d w.heap.size } : Gh).β d = w.heap.size := upto_same _ _ _
  have hmap : ObjOk { G with β := upto G.β d w.heap.size } (w.alloc (.map #[] 0)) d ob := by
    unfold newMap at hob
    split at hob
    case h_2 => cases hob
    split at hob
    · cases hob
      exact ⟨#[], 0, by rw [hβ]; exact heap_alloc_at w _, by simp [REnts], by simp, by simp, by rw [hβ]; exact hs.fr.fin _ (Nat.le_refl _)⟩
    · cases hob
      exact ⟨#[], 0, by rw [hβ]; exact heap_alloc_at w _, by simp [REnts], by simp, by simp, by rw [hβ]; exact hs.fr.fin _ (Nat.le_refl _)⟩
    · cases hob
  refine wp_value (u := .map (some w.heap.size)) (w' := w.alloc (.map #[] 0)) ?_ (hn _ _ _ _ _ (h2.addObj d ob hmap (fun o' => σ.kill_no d o') (fun hr => σ.kill_rooms d d hr rfl) (fun j hj => ?_) (.inr ?_)) ?_ h)
  · simp [execOp, ho, Instr.makeMap]
  · rw [hβ]
    have l1 : Live G (σ.kill d).objs (σ.kill d).rooms j := Live.But (G := G) (G' := { G with β := upto G.β d w.heap.size }) (P := fun k => k ≠ d) ⟨fun k hk => upto_ne _ _ hk, fun _ _ => rfl, fun _ _ => rfl, rfl⟩ (fun k hk => σ.kill_rooms d k hk) hj
    rw [show ({ G with β := upto G.β d w.heap.size } : Gh).β j = G.β j from upto_ne _ _ l1.kill.2]
    exact Nat.ne_of_lt (l1.lt (hs.kill d))
  · rw [hβ]; exact hs.fr.size
  · simp only [RA, upto_same]
/-! ### Iterators -/
def CB (b : Bool) (A B : Prop) : Prop := match b with
  | true => A
  | false => B
theorem CB.elim {b : Bool} {A B : Prop} (h : CB b A B) : if b then A else B := by
  cases b
  · exact h
  · exact h
theorem CB.mk {b : Bool} {A B : Prop} (h : b = true → A) (k : b = false → B) : CB b A B := by
  cases b
  · exact k rfl
  · exact h rfl
def isMapT (P : Program) (t : Nat) : Bool := match P.underlying t with | some (.map _ _) => true | _ => false
def isStrT (P : Program) (t : Nat) : Bool := match P.underlying t with | some .string => true | _ => false
def vRange (P : Program) (t d : Nat) (x : AV) (σ : St) (K : AV → St → Prop) : Prop :=
  if d < 100000 then match x with
    | .d (.str s) => if isStrT P t then K (.ptr d 0) (newSt σ d (.sit s 0)) else False
    | .d .nilM => if isMapT P t then K (.ptr d 0) (newSt σ d .mitN) else False
    | .mp m => if isMapT P t && !(m == d) then (match objAt σ m with
      | some (.mapS _) => ∀ c : Nat, K (.ptr d 0) (newSt σ d (.mit m c [] c))
      | some (.mapI _ _) => ∀ c : Nat, K (.ptr d 0) (newSt σ d (.mit m c [] c))
      | _ => False) else False
    | _ => False
  else False
theorem Sim.newIt {F : F0} {G : Gh} {σ : St} {a : Act} {w : World} (hs : Sim F G σ a w) {d : Nat} (hd : d < 100000) (o : Obj) (ob : Ob) (hob : ObjOk { G with β := upto G.β d w.heap.size } (w.alloc o) d ob) :
    Sim F { G with β := upto G.β d w.heap.size } (newSt σ d ob) a (w.alloc o) := by
  have h2 := hs.allocO d hd o
  have hβ : ({ G with β := upto G.β d w.heap.size } : Gh).β d = w.heap.size := upto_same _ _ _
  refine h2.addObj d ob hob (fun o' => σ.kill_no d o') (fun hr => σ.kill_rooms d d hr rfl) (fun j hj => ?_) (.inr ?_)
  · rw [hβ]
    have l1 : Live G (σ.kill d).objs (σ.kill d).rooms j := Live.But (G := G) (G' := { G with β := upto G.β d w.heap.size }) (P := fun k => k ≠ d) ⟨fun k hk => upto_ne _ _ hk, fun _ _ => rfl, fun _ _ => rfl, rfl⟩ (fun k hk => σ.kill_rooms d k hk) hj
    rw [show ({ G with β := upto G.β d w.heap.size } : Gh).β j = G.β j from upto_ne _ _ l1.kill.2]
    exact Nat.ne_of_lt (l1.lt (hs.kill d))
  · rw [hβ]; exact hs.fr.size
theorem vRange_ok {P : Program} {F : F0} {G : Gh} {σ : St} {a : Act} {w : World} (hs : Sim F G σ a w) {o : Oper} {t d : Nat} {x : Operand} (ho : o.op = .range t x) {K : AV → St → Prop} {next : Act → World → Prop} {Q : Exit → Act → World → Prop} (h : vRange P t d (ev σ x) σ K) (hn : Nxt P o a F next K) : o.wp P a w next Q := by
  unfold vRange at h
  split at h
  case isFalse => exact h.elim
  rename_i hd
  have hx := ev_ok hs x
  have hβ : ({ G with β := upto G.β d w.heap.size } : Gh).β d = w.heap.size := upto_same _ _ _
  have fin : ∀ (ob : Obj) (o1 : Ob), (Instr.range t (a.eval x)).run P w = .ok (.pointer (some ⟨w.heap.size, 0, none⟩)) (w.alloc ob) → ObjOk { G with β := upto G.β d w.heap.size } (w.alloc ob) d o1 → K (.ptr d 0) (newSt σ d o1) → o.wp P a w next Q := by
    intro ob o1 hrun hok hK
    refine wp_value (u := .pointer (some ⟨w.heap.size, 0, none⟩)) (w' := w.alloc ob) ?_ (hn _ _ _ _ _ (hs.newIt hd ob o1 hok) ?_ hK)
    · simp [execOp, ho, hrun]
    · simp only [RA, upto_same]
  have hmap : ∀ {t}, isMapT P t = true → ∃ k v, P.underlying t = some (.map k v) := by
    intro t ht
    unfold isMapT at ht
    split at ht
    · rename_i k v hh; exact ⟨k, v, hh⟩
    · cases ht
  split at h
  · rename_i s he
    rw [he] at hx
    simp only [RA, R] at hx
    split at h
    case isFalse => exact h.elim
    rename_i hT
    have hu : P.underlying t = some .string := by
      unfold isStrT at hT
      split at hT
      · assumption
      · cases hT
    refine fin (.stringIter s 0) (.sit s 0) ?_ ⟨by rw [hβ]; exact heap_alloc_at w _, by rw [hβ]; exact hs.fr.fin _ (Nat.le_refl _)⟩ h
    rw [hx]
    simp [Instr.range, run_underlying hu]
  · rename_i he
    rw [he] at hx
    simp only [RA, R] at hx
    split at h
    case isFalse => exact h.elim
    rename_i hT
    obtain ⟨k, v, hu⟩ := hmap hT
    refine fin (.mapIter none 0 #[] 0) .mitN ?_ ⟨by rw [hβ]; exact heap_alloc_at w _, by rw [hβ]; exact hs.fr.fin _ (Nat.le_refl _)⟩ h
    rw [hx]
    simp [Instr.range, run_underlying hu]
  · rename_i m he
    rw [he] at hx
    simp only [RA] at hx
    split at h
    case isFalse => exact h.elim
    rename_i hc
    simp only [Bool.and_eq_true, Bool.not_eq_true', beq_eq_false_iff_ne, ne_eq] at hc
    obtain ⟨hT, hmd⟩ := hc
    obtain ⟨k, v, hu⟩ := hmap hT
    have key : (∃ (ents : Array MapEntry) (clock : Nat), w.heap[G.β m]? = some (.map ents clock)) → (∀ c : Nat, K (.ptr d 0) (newSt σ d (.mit m c [] c))) → o.wp P a w next Q := by
      rintro ⟨ents, clock, hb⟩ h
      refine fin (.mapIter (some (G.β m)) clock #[] clock) (.mit m clock [] clock) ?_ ⟨?_, by rw [hβ]; exact hs.fr.fin _ (Nat.le_refl _)⟩ (h clock)
      · rw [hx]
        simp [Instr.range, run_underlying hu, getObj, Sem.run, hb]
      · rw [hβ, show ({ G with β := upto G.β d w.heap.size } : Gh).β m = G.β m from upto_ne _ _ hmd]
        exact heap_alloc_at w _
    split at h
    · rename_i es ho
      obtain ⟨ents, clock, hb, _⟩ := hs.ctx.okO m _ (objAt_mem ho)
      exact key ⟨ents, clock, hb⟩ h
    · rename_i kd es ho
      obtain ⟨ents, clock, hb, _⟩ := hs.ctx.okO m _ (objAt_mem ho)
      exact key ⟨ents, clock, hb⟩ h
    · exact h.elim
  · exact h.elim
def vNext (d : Nat) (it : AV) (isS : Bool) (σ : St) (K : AV → St → Prop) : Prop := match it with
  | .ptr k off => if off = 0 then (match isS, objAt σ k with
    | true, some (.sit s pos) => CB (decide (pos < s.size))
        (K (.tup [.d (.bool true), .d (.int .i64 pos), .d (.int .i32 (Utf8.decode s pos).1)]) (setObj σ k (.sit s (pos + (Utf8.decode s pos).2))))
        (K (.tup [.d (.bool false)]) σ)
    | false, some .mitN => K (.tup [.d (.bool false)]) σ
    | false, some (.mit m _ _ _) => (match objAt σ m with
      | some (.mapS es) => (match es.isEmpty with | true => K (.tup [.d (.bool false)]) σ | false => False)
      | some (.mapI _ es) => (match es.isEmpty with | true => K (.tup [.d (.bool false)]) σ | false => False)
      | _ => False)
    | _, _ => False) else False
  | _ => False
theorem RA_over {G : Gh} {w : World} : RA G w (.tup [.d (.bool false)]) (.tuple #[.bool false]) := by
  simp only [RA, RAL, R]
  exact ⟨_, rfl, _, _, rfl, rfl, rfl⟩
theorem REnts.nil_of {α : Type} {w : World} {S : Nat → Nat} {kp : α → Value} {es : List (α × DV)} {ents : Array MapEntry} (h : REnts w S kp es ents.toList) (he : es.isEmpty = true) : ents = #[] := by
  cases es with
  | nil =>
    simp only [REnts] at h
    exact Array.toList_inj.1 (by rw [h])
  | cons e es => cases he
theorem run_next_none {P : Program} {w : World} {r m since last : Nat} {seen : Array Nat} {clock ty : Nat} (h1 : w.heap[r]? = some (.mapIter (some m) since seen last)) (h2 : w.heap[m]? = some (.map #[] clock)) : (Instr.next (.pointer (some ⟨r, 0, none⟩)) false ty).run P w = .ok (.tuple #[.bool false]) w := by
  simp [Instr.next, getObj, Sem.run, h1, h2, choose, Question.forced]
theorem vNext_ok {P : Program} {F : F0} {G : Gh} {σ : St} {a : Act} {w : World} (hs : Sim F G σ a w) {o : Oper} {d : Nat} {x : Operand} {isS : Bool} (ho : o.op = .next x isS) {K : AV → St → Prop} {next : Act → World → Prop} {Q : Exit → Act → World → Prop} (h : vNext d (ev σ x) isS σ K) (hn : Nxt P o a F next K) : o.wp P a w next Q := by
  unfold vNext at h
  have hx := ev_ok hs x
  split at h
  case h_2 => exact h.elim
  rename_i k off he
  rw [he] at hx
  simp only [RA] at hx
  split at h
  case isFalse => exact h.elim
  rename_i hoff
  subst hoff
  have over : (Instr.next (a.eval x) isS o.type).run P w = .ok (.tuple #[.bool false]) w → K (.tup [.d (.bool false)]) σ → o.wp P a w next Q := by
    intro hrun hK
    exact wp_value (u := .tuple #[.bool false]) (w' := w) (by simp [execOp, ho, hrun]) (hn _ _ _ _ _ hs RA_over hK)
  have hnone : ∀ (m since last : Nat) (seen : List Nat), isS = false → (k, Ob.mit m since seen last) ∈ σ.objs → (∃ clock, w.heap[G.β m]? = some (.map #[] clock)) → K (.tup [.d (.bool false)]) σ → o.wp P a w next Q := by
    rintro m since last seen rfl hm ⟨clock, hb⟩ hK
    refine over ?_ hK
    rw [hx]
    exact run_next_none (hs.ctx.okO k _ hm).1 hb
  split at h
  · rename_i s pos hob
    obtain ⟨hb, hz⟩ := hs.ctx.okO k _ (objAt_mem hob)
    have hbl := (Array.getElem?_eq_some_iff.1 hb).1
    have h := CB.elim h
    split at h
    · rename_i hlt
      have hlt : pos < s.size := by simpa using hlt
      refine wp_value (u := .tuple #[.bool true, goInt pos, .int .i32 (Utf8.decode s pos).1]) (w' := withBlock w (G.β k) (.stringIter s (pos + (Utf8.decode s pos).2))) ?_ (hn _ _ _ _ _ (hs.writeO (objAt_mem hob) _ (.sit s (pos + (Utf8.decode s pos).2)) hz ⟨withBlock_at hbl _, hz⟩) ?_ h)
      · simp [execOp, ho, hx, Instr.next, getObj, Go.setObj, Sem.run, hb, hlt, withBlock]
      · simp only [RA, RAL, R, goInt]
        exact ⟨_, rfl, _, _, rfl, rfl, _, _, rfl, rfl, _, _, rfl, rfl, rfl⟩
    · rename_i hlt
      have hlt : ¬ pos < s.size := by simpa using hlt
      refine over ?_ h
      rw [hx]
      simp [Instr.next, getObj, Sem.run, hb, hlt]
  · rename_i hob
    obtain ⟨hb, hz⟩ := hs.ctx.okO k _ (objAt_mem hob)
    refine over ?_ h
    rw [hx]
    simp [Instr.next, getObj, Sem.run, hb]
  · rename_i m since seen last hob
    split at h
    · rename_i es hm
      split at h
      case h_2 => exact h.elim
      rename_i hemp
      obtain ⟨ents, clock, hb, hr, _⟩ := hs.ctx.okO m _ (objAt_mem hm)
      have := hr.nil_of hemp
      subst this
      exact hnone m since last seen rfl (objAt_mem hob) ⟨clock, hb⟩ h
    · rename_i kd es hm
      split at h
      case h_2 => exact h.elim
      rename_i hemp
      obtain ⟨ents, clock, hb, hr, _⟩ := hs.ctx.okO m _ (objAt_mem hm)
      have := hr.nil_of hemp
      subst this
      exact hnone m since last seen rfl (objAt_mem hob) ⟨clock, hb⟩ h
    · exact h.elim
  · exact h.elim
def putK {α : Type} [BEq α] (es : List (α × DV)) (k : α) (v : DV) : List (α × DV) := match es with
  | [] => [(k, v)]
  | (k', v') :: es => if k == k' then (k', v) :: es else (k', v') :: putK es k v
end Go.Qv
