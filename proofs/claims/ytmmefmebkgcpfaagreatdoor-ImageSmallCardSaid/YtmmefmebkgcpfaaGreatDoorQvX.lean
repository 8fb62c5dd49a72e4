/- What an operation comes to does not hang on what is asked of it. Over any program. -/
import Derived.Test.YtmmefmebkgcpfaaGreatDoorQvO
namespace Go.Qv
open Go

def DetC {α : Type} (T : (α → Prop) → Prop) : Prop := ∀ K, T K → ∃ x, K x ∧ ∀ K' : α → Prop, K' x → T K'
namespace DetC
variable {α β : Type}
theorem leaf (v : α) : DetC (fun K : α → Prop => K v) := fun K h => ⟨v, h, fun _ h => h⟩
theorem ff : DetC (fun _ : α → Prop => False) := fun _ h => h.elim
theorem and {p : Prop} {T : (α → Prop) → Prop} (h : DetC T) : DetC (fun K => p ∧ T K) := fun K ⟨hp, hT⟩ => by
  obtain ⟨x, h1, h2⟩ := h K hT
  exact ⟨x, h1, fun K' hk => ⟨hp, h2 K' hk⟩⟩
theorem ex {γ : Type} {T : γ → (α → Prop) → Prop} (h : ∀ c, DetC (T c)) : DetC (fun K => ∃ c, T c K) := fun K ⟨c, hT⟩ => by
  obtain ⟨x, h1, h2⟩ := h c K hT
  exact ⟨x, h1, fun K' hk => ⟨c, h2 K' hk⟩⟩
theorem ite {c : Prop} [Decidable c] {T U : (α → Prop) → Prop} (h : DetC T) (k : DetC U) : DetC (fun K => if c then T K else U K) := by
  by_cases hc : c
  · simp only [hc, if_true]; exact h
  · simp only [hc, if_false]; exact k
theorem bind {T : (α → Prop) → Prop} {U : α → (β → Prop) → Prop} (h : DetC T) (k : ∀ x, DetC (U x)) : DetC (fun K => T fun x => U x K) := fun K hT => by
  obtain ⟨x, h1, h2⟩ := h _ hT
  obtain ⟨y, g1, g2⟩ := k x K h1
  exact ⟨y, g1, fun K' hk => h2 _ (g2 K' hk)⟩
theorem map {T : (α → Prop) → Prop} (h : DetC T) (f : α → β) : DetC (fun K : β → Prop => T fun x => K (f x)) := bind h fun x => leaf (f x)
theorem curry2 {α γ : Type} {T : (α → γ → Prop) → Prop} (h : DetC fun K : α × γ → Prop => T fun a c => K (a, c)) {U : α → γ → (β → Prop) → Prop} (k : ∀ a c, DetC (U a c)) : DetC (fun K => T fun a c => U a c K) :=
  bind (U := fun p => U p.1 p.2) h fun p => k p.1 p.2
end DetC
open DetC
theorem det_asB (a : AV) : DetC (asB a) := by
  cases a with
  | d x => cases x <;> first | exact leaf _ | exact ff
  | _ => exact ff
theorem det_asI {β : Type} (a : AV) {U : IntKind → Int → (β → Prop) → Prop} (k : ∀ i n, DetC (U i n)) : DetC (fun K => asI a fun i n => U i n K) := by
  cases a with
  | d x => cases x <;> first | exact k _ _ | exact ff
  | _ => exact ff
theorem det_asS (a : AV) : DetC (asS a) := by
  cases a with
  | d x => cases x <;> first | exact leaf _ | exact ff
  | _ => exact ff
theorem det_asSl {β : Type} (a : AV) {U : SM → Nat → List DV → (β → Prop) → Prop} (k : ∀ m s x, DetC (U m s x)) : DetC (fun K => asSl a fun m s x => U m s x K) := by
  cases a with
  | d x => cases x <;> first | exact k _ _ _ | exact ff
  | own _ _ _ => exact k _ _ _
  | _ => exact ff
theorem det_asD (a : AV) : DetC (asD a) := by
  cases a with
  | d x => exact leaf _
  | own _ _ _ => exact leaf _
  | agg cs =>
    show DetC fun K : DV → Prop => (match allD cs with | some xs => K (.agg xs) | none => False)
    cases allD cs with
    | none => exact ff
    | some xs => exact leaf _
  | _ => exact ff
theorem det_needC {T : (AV → Prop) → Prop} (x : DV) (h : DetC T) : DetC (fun K => needC x (T K)) := by
  unfold needC
  cases isCell x
  · exact ff
  · exact h
theorem det_needC' {β : Type} {T : (β → Prop) → Prop} (x : DV) (h : DetC T) : DetC (fun K => needC x (T K)) := by
  unfold needC
  cases isCell x
  · exact ff
  · exact h
theorem det_exL : ∀ n : Nat, DetC (exL n)
  | 0 => leaf _
  | n + 1 => ex fun c => map (det_exL n) (fun cs => c :: cs)
theorem det_exL' {β : Type} (n : Nat) {U : List DV → (β → Prop) → Prop} (k : ∀ cs, DetC (U cs)) : DetC (fun K => exL n fun cs => U cs K) := bind (det_exL n) k
theorem det_cellsD (x : DV) (n : Nat) : DetC (cellsD x n) := by
  unfold cellsD
  cases x with
  | agg cs => exact ite (leaf _) ff
  | _ => exact det_exL' n fun cs => and (leaf _)
theorem det_cellsA (a : AV) (ag : Bool) (n : Nat) : DetC (cellsA a ag n) := by
  unfold cellsA
  refine ite ?_ (ite ?_ ff)
  · cases a with
    | agg cs => exact ite (leaf _) ff
    | d x => exact map (det_cellsD x n) _
    | _ => exact ff
  · cases a with
    | d x => exact det_needC' x (leaf _)
    | _ => first | exact ff | exact leaf _
theorem det_binI (op : BinOp) (k : IntKind) (a b : Int) : DetC (binI op k a b) := by
  unfold binI
  cases op <;> first | exact leaf _ | exact and (leaf _) | exact ff
theorem det_shiftI (op : BinOp) (k : IntKind) (a b : Int) : DetC (shiftI op k a b) := by
  unfold shiftI
  cases op <;> first | exact and (leaf _) | exact ff
theorem det_binS (op : BinOp) (a b : ByteArray) : DetC (binS op a b) := by
  unfold binS
  cases op <;> first | exact leaf _ | exact and (leaf _) | exact ff
theorem det_vNil (a : AV) : DetC (vNil a) := by
  cases a <;> first | exact leaf _ | exact ff
theorem det_vUn (op : UnOp) (a : AV) : DetC (vUn op a) := by
  unfold vUn
  cases op <;> cases a with
  | d x => cases x <;> first | exact leaf _ | exact ff
  | _ => exact ff
theorem det_vMkI (P : Program) (t : Nat) (a : AV) : DetC (vMkI P t a) := by
  unfold vMkI
  cases P.underlying t with
  | none => exact ff
  | some d => cases d <;> first | exact ff | exact map (det_asD a) _
theorem det_vExt (a : AV) (i : Nat) : DetC (vExt a i) := by
  unfold vExt
  cases a with
  | d x =>
    cases x with
    | tup xs =>
      show DetC fun K : AV → Prop => (match xs[i]? with | some x => K (.d x) | none => False)
      cases xs[i]? <;> first | exact leaf _ | exact ff
    | _ => exact ff
  | tup as =>
    show DetC fun K : AV → Prop => (match as[i]? with | some x => K x | none => False)
    cases as[i]? <;> first | exact leaf _ | exact ff
  | _ => exact ff
theorem det_pickA (b : Bool) (x y : AV) : DetC (pickA b x y) := by
  unfold pickA
  cases x with
  | d p =>
    cases y with
    | d q => cases p <;> first | exact leaf _ | (cases q <;> exact leaf _)
    | _ => cases p <;> cases b <;> exact leaf _
  | _ => cases b <;> exact leaf _
theorem det_vField (P : Program) (t i : Nat) (p : AV) : DetC (vField P t i p) := by
  unfold vField
  cases fieldOf P t i with
  | none => exact ff
  | some f =>
    refine ite ?_ ff
    cases p <;> first | exact leaf _ | exact ite (leaf _) ff | exact ff
mutual
theorem det_exSh : ∀ s : DSh, DetC (exSh s)
  | .tb => ex fun t => leaf _
  | .ti k => ex fun t => leaf _
  | .ts => ex fun t => leaf _
  | .tsl sz => ex fun t => leaf _
  | .tag l => map (det_exShL l) _
  | .tany => ex fun t => leaf _
theorem det_exShL : ∀ l : List DSh, DetC (exShL l)
  | [] => leaf _
  | s :: ss => DetC.bind (U := fun x K => exShL ss fun xs => K (x :: xs)) (det_exSh s) fun x => DetC.map (det_exShL ss) _
end
theorem det_rowK (ag : Bool) (x : DV) : DetC (rowK ag x) := by
  unfold rowK
  cases ag
  · exact det_needC' x (leaf _)
  · cases x <;> first | exact leaf _ | exact ff
theorem det_lookOut (sh : DSh) (ok : Bool) (z : DV) (o : Option DV) : DetC fun K => lookOut sh ok z K o := by
  show DetC fun K => exSh sh fun x => DvW (o.getD z) x ∧ if ok then K (AV.d (.tup [x, .bool o.isSome])) else K (AV.d x)
  exact bind (U := fun x K => DvW (o.getD z) x ∧ if ok then K (AV.d (.tup [x, .bool o.isSome])) else K (AV.d x)) (det_exSh _) fun x => and (ite (leaf _) (leaf _))
theorem det_vIdx (P : Program) (t : Nat) (s i : AV) : DetC (vIdx P t s i) := by
  unfold vIdx
  cases slElem P t with
  | none => exact ff
  | some e =>
    exact ite (det_asI i fun _ n => det_asSl s fun _ sz xs => ite (and (ex fun x => and (bind (U := fun x' K => DvW x x' ∧ rowK (isAg P e) x' K) (det_exSh _) fun x' => and (det_rowK _ _)))) ff) ff
theorem det_vIx (P : Program) (t : Nat) (a i : AV) : DetC (vIx P t a i) := by
  unfold vIx
  cases P.underlying t with
  | none => exact ff
  | some d => cases d <;> first | exact bind (det_asS a) fun s => det_asI i fun _ n => and (and (leaf _)) | exact ff
theorem det_vLen (P : Program) (t : Nat) (σ : St) (a : AV) : DetC (vLen P t σ a) := by
  unfold vLen
  cases P.underlying t with
  | none => exact ff
  | some d =>
    cases d <;> try exact ff
    all_goals cases a <;> try exact ff
    all_goals try exact leaf _
    all_goals first
      | (rename_i x; cases x <;> first | exact leaf _ | exact ff)
      | skip
    rename_i k
    show DetC fun K : AV → Prop => (match objAt σ k with | some (.mapS es) => K (.d (.int .i64 (es.length : Int))) | some (.mapI _ es) => K (.d (.int .i64 (es.length : Int))) | _ => False)
    cases objAt σ k with
    | none => exact ff
    | some o => cases o <;> first | exact leaf _ | exact ff
theorem det_vCap (P : Program) (t : Nat) (a : AV) : DetC (vCap P t a) := by
  unfold vCap
  cases P.underlying t with
  | none => exact ff
  | some d =>
    cases d <;> try exact ff
    all_goals cases a <;> try exact ff
    rename_i x
    cases x <;> try exact ff
    rename_i m sz xs
    cases m <;> first | exact leaf _ | exact ff
theorem det_vMM (m : Bool) (a b : AV) : DetC (vMM m a b) := by
  unfold vMM
  cases a with
  | d x =>
    cases b with
    | d y =>
      cases x <;> try exact ff
      cases y <;> first | exact ff | exact ite (leaf _) ff
    | _ => cases x <;> exact ff
  | _ => exact ff
theorem det_vConv (P : Program) (s d : Nat) (a : AV) : DetC (vConv P s d a) := by
  unfold vConv
  cases P.underlying s with
  | none => exact ff
  | some x =>
    cases P.underlying d with
    | none => cases x <;> exact ff
    | some y =>
      cases x <;> try exact ff
      all_goals cases y <;> try exact ff
      all_goals cases a <;> try exact ff
      all_goals (rename_i z; cases z <;> first | exact leaf _ | exact ff)
theorem det_shapeD (P : Program) (t : Nat) (y : DV) : DetC (shapeD P t y) := by
  unfold shapeD
  exact ite (map (det_cellsD y _) _) (det_needC' y (leaf _))
theorem det_vTA (P : Program) (t : Nat) (ok : Bool) (x : DV) : DetC (vTA P t ok x) := by
  have z : DetC fun K : AV → Prop => (if ok = true then (match zeroD P t with | some z => K (.d (.tup [z, .bool false])) | none => False) else False) := by
    refine ite ?_ ff
    cases zeroD P t <;> first | exact leaf _ | exact ff
  unfold vTA
  refine ite ?_ ff
  cases x <;> first | exact z | skip
  all_goals try exact ff
  exact ite (bind (det_shapeD P t _) fun y => leaf _) z
theorem det_vFld (P : Program) (t i : Nat) (a : AV) : DetC (vFld P t i a) := by
  unfold vFld
  cases fieldOf P t i with
  | none => exact ff
  | some f =>
    refine ite ?_ ff
    cases a with
    | d x =>
      cases x with
      | agg cs =>
        refine ite (ite (leaf _) ff) ?_
        cases cs[f.offset]? <;> first | exact leaf _ | exact ff
      | _ => first | exact ff | exact ite (det_exL' _ fun cs => and (ite (leaf _) ff)) (det_exL' _ fun cs => and (ite (leaf _) ff))
    | agg cs =>
      refine ite (ite (leaf _) ff) ?_
      cases cs[f.offset]? <;> first | exact leaf _ | exact ff
    | _ => exact ff
theorem det_vLoad (P : Program) (t : Nat) (σ : St) (p : AV) : DetC (vLoad P t σ p) := by
  unfold vLoad
  refine ite ?_ ff
  cases p with
  | ptr k off =>
    show DetC fun K => cellsAt σ k fun cs => _
    unfold cellsAt
    cases objAt σ k with
    | none => exact ff
    | some o =>
      cases o with
      | cells cs =>
        refine ite (ite (leaf _) ff) ?_
        cases cs[off]? <;> first | exact leaf _ | exact ff
      | _ => exact ff
  | row cs =>
    refine ite (ite (leaf _) ff) ?_
    cases cs <;> first | exact leaf _ | exact ff
  | _ => exact ff
theorem det_optI {β : Type} (a : Option AV) (z : Int) {U : Int → (β → Prop) → Prop} (k : ∀ n, DetC (U n)) : DetC (fun K => optI a z fun n => U n K) := by
  unfold optI
  cases a with
  | none => exact k _
  | some a => exact det_asI a fun _ n => k n
theorem det_nilB {β : Type} (x : DV) {U : Bool → (β → Prop) → Prop} (k : ∀ n, DetC (U n)) : DetC (fun K => nilB x fun n => U n K) := by
  unfold nilB
  cases isIfD x
  · exact ff
  · exact k _
theorem det_vBin (P : Program) (op : BinOp) (t : Nat) (x y : Operand) (ax ay : AV) : DetC (vBin P op t x y ax ay) := by
  have two : DetC fun K : DV → Prop => (match ax, ay with
    | .d (.int k a), .d (.int k' b) => if isShift op then shiftI op k a b K else if k = k' then binI op k a b K else False
    | .d (.str a), .d (.str b) => binS op a b K
    | .d (.bool a), .d (.bool b) => binB P op t a b K
    | _, _ => False) := by
    cases ax with
    | d p =>
      cases ay with
      | d q =>
        cases p with
        | bool u =>
          cases q with
          | bool v =>
            show DetC fun K : DV → Prop => binB P op t _ _ K
            unfold binB
            cases P.underlying t with
            | none => exact ff
            | some d => cases d <;> cases op <;> first | exact leaf _ | exact ff
          | _ => exact ff
        | int k n =>
          cases q with
          | int k' n' => exact DetC.ite (det_shiftI _ _ _ _) (DetC.ite (det_binI _ _ _ _) ff)
          | _ => exact ff
        | str u =>
          cases q with
          | str v => exact det_binS _ _ _
          | _ => exact ff
        | _ => exact ff
      | _ => cases p <;> exact ff
    | _ => exact ff
  unfold vBin
  cases ay <;> try exact two
  rename_i q
  cases q <;> try exact two
  refine ite ?_ ff
  refine bind (det_asD ax) fun dx => ?_
  show DetC fun K : DV → Prop => binN op dx K
  unfold binN
  cases op <;> first | exact det_nilB dx fun b => leaf _ | exact ff
theorem det_vCutD (P : Program) (t : Nat) (a : AV) (lo hi mx : Option AV) : DetC (vCutD P t a lo hi mx) := by
  unfold vCutD
  cases P.underlying t with
  | none => exact ff
  | some d =>
    cases d <;> cases mx <;> try exact ff
    · exact bind (det_asS a) fun s => det_optI _ _ fun l => det_optI _ _ fun h => and (and (and (leaf _)))
    · exact ite (det_asSl a fun m sz xs => ite (det_optI _ _ fun l => det_optI _ _ fun h => and (and (and (leaf _)))) ff) ff
    · exact ite (det_asSl a fun m sz xs => ite (det_optI _ _ fun l => det_asI _ fun _ q => det_optI _ _ fun h => and (and (and (and (and (leaf _)))))) ff) ff
theorem det_vCutZ (P : Program) (t : Nat) (a : AV) (lo hi mx : Option AV) : DetC (vCutZ P t a lo hi mx) := by
  unfold vCutZ
  cases P.underlying t with
  | none => exact ff
  | some d =>
    cases d <;> try exact ff
    cases a <;> try exact ff
    cases lo <;> try exact ff
    cases hi <;> try exact ff
    cases mx <;> try exact ff
    exact ite (det_asI _ fun _ q => and (leaf _)) ff
theorem det_vCut (P : Program) (t : Nat) (a : AV) (lo hi mx : Option AV) : DetC (vCut P t a lo hi mx) := by
  unfold vCut
  cases isZr a
  · exact det_vCutD P t a lo hi mx
  · exact det_vCutZ P t a lo hi mx
theorem det_vParts (P : Program) (fs : List Field) : ∀ (ps : List (Nat × AV)) (acc : List AV), DetC (vParts P fs ps acc)
  | [], acc => leaf _
  | (i, a) :: ps, acc => by
    show DetC fun K => vParts P fs ((i, a) :: ps) acc K
    simp only [vParts]
    cases fs[i]? with
    | none => exact ff
    | some f => exact ite (ite (bind (det_cellsA a true _) fun cs => ite (det_vParts P fs ps _) ff) (bind (det_cellsA a false _) fun cs => ite (det_vParts P fs ps _) ff)) ff
theorem det_vBuild (P : Program) (t : Nat) (ps : List (Nat × AV)) : DetC (vBuild P t ps) := by
  unfold vBuild
  cases structOf P t with
  | none => exact ff
  | some fs =>
    cases zeroL P t with
    | none => exact ff
    | some z => exact ite (map (det_vParts P fs ps _) _) ff
theorem det_lookAt (P : Program) (kt : Nat) (σ : St) (m k : AV) : DetC (vLookAt P kt σ m k) := by
  unfold vLookAt
  cases m with
  | d x =>
    cases x <;> try exact ff
    cases P.underlying kt with
    | none => exact ff
    | some d => cases d <;> first | exact bind (det_asS k) fun _ => leaf _ | exact det_asI k fun _ _ => ite (leaf _) ff | exact ff
  | mp j =>
    show DetC fun K : Option DV → Prop => (match objAt σ j, P.underlying kt with
      | some (.mapS es), some .string => asS k fun s => K (luK es s)
      | some (.mapI kd es), some (.int kd') => if kd = kd' then asI k fun k' n => if k' = kd then K (luK es n) else False else False
      | _, _ => False)
    cases objAt σ j with
    | none => exact ff
    | some o =>
      cases o <;> try exact ff
      all_goals cases P.underlying kt <;> try exact ff
      all_goals (rename_i d; cases d <;> try exact ff)
      · exact bind (det_asS k) fun _ => leaf _
      · exact ite (det_asI k fun _ _ => ite (leaf _) ff) ff
  | _ => exact ff
theorem det_vLook (P : Program) (t : Nat) (σ : St) (m k : AV) (ok : Bool) : DetC (vLook P t σ m k ok) := by
  unfold vLook
  cases P.underlying t with
  | none => exact ff
  | some d =>
    cases d <;> try exact ff
    rename_i kt et
    show DetC fun K : AV → Prop => (match zeroD P et with
      | some z => vLookAt P kt σ m k (lookOut (dsh P et) ok z K)
      | none => False)
    cases zeroD P et with
    | none => exact ff
    | some z => exact bind (U := fun o K => lookOut (dsh P et) ok z K o) (det_lookAt P kt σ m k) fun o => det_lookOut _ _ _ _
theorem det_opV (P : Program) (o : Oper) (σ : St) : DetC (opV P o σ) := by
  unfold opV
  cases o.op with
  | move x => exact leaf _
  | assign x => exact leaf _
  | pick c x y => exact DetC.bind (U := fun b => pickA b (ev σ x) (ev σ y)) (det_asB _) fun b => det_pickA _ _ _
  | nilCheck x => exact det_vNil _
  | load t x => exact det_vLoad _ _ _ _
  | binOp op t x y ty => exact DetC.map (det_vBin P op t x y _ _) _
  | unOp op t x => exact det_vUn _ _
  | convert s d x => exact det_vConv _ _ _ _
  | makeInterface t x => exact det_vMkI _ _ _
  | typeAssert x a b ok => exact DetC.bind (U := fun d => vTA P b ok d) (det_asD _) fun d => det_vTA _ _ _ _
  | extract x i => exact det_vExt _ _
  | field t x i => exact det_vFld _ _ _ _
  | fieldAddr t x i => exact det_vField _ _ _ _
  | indexAddr t x i => exact det_vIdx _ _ _ _
  | index t x i => exact det_vIx _ _ _ _
  | slice t x lo hi mx => exact det_vCut _ _ _ _ _ _
  | build t ps => exact det_vBuild _ _ _
  | lookup t m k ok => exact det_vLook _ _ _ _ _ _
  | makeFunc fn first cap => cases fn <;> first | exact DetC.ite (leaf _) ff | exact ff
  | call c =>
    show DetC fun K : AV → Prop => (match c.callee, c.args.toList, c.argTypes.toList with
      | .builtin .len, [x], [t] => vLen P t σ (ev σ x) K
      | .builtin .cap, [x], [t] => vCap P t (ev σ x) K
      | .builtin .max, [x, y], _ => vMM true (ev σ x) (ev σ y) K
      | .builtin .min, [x, y], _ => vMM false (ev σ x) (ev σ y) K
      | _, _, _ => False)
    generalize c.callee = cc
    generalize c.args.toList = as
    generalize c.argTypes.toList = ts
    cases cc <;> try exact ff
    rename_i b
    cases b <;> try exact ff
    all_goals (rcases as with _ | ⟨x, _ | ⟨y, _ | ⟨z, r⟩⟩⟩ <;> try exact ff)
    all_goals first
      | exact det_vMM _ _ _
      | (rcases ts with _ | ⟨t, _ | ⟨t', ts⟩⟩ <;> first | exact ff | exact det_vLen _ _ _ _ | exact det_vCap _ _ _)
  | _ => exact ff
theorem det_elemsD (P : Program) (e : Nat) : ∀ as : List AV, DetC (elemsD P e as)
  | [] => leaf _
  | a :: as => DetC.bind (U := fun x K => shapeD P e x fun y => elemsD P e as fun ys => K (y :: ys)) (det_asD a) fun x => DetC.bind (U := fun y K => elemsD P e as fun ys => K (y :: ys)) (det_shapeD P e x) fun y => DetC.map (det_elemsD P e as) _
theorem det_vLit (P : Program) (t len : Nat) (ps : List (Nat × AV)) : DetC (vLit P t len ps) := by
  unfold vLit
  cases slElem P t with
  | none => exact ff
  | some e => exact ite (map (det_elemsD P e _) _) ff
theorem det_appArg (P : Program) (x : AV) (t2 e sz : Nat) : DetC (appArg P x t2 e sz) := by
  unfold appArg
  cases P.underlying t2 with
  | none => exact ff
  | some d =>
    cases d <;> try exact ff
    all_goals cases x <;> try exact ff
    all_goals first
      | exact ite (leaf _) ff
      | (rename_i y; cases y <;> first | exact ite (leaf _) ff | exact ff)
theorem det_vAppQ (P : Program) (t t2 : Nat) (s x : AV) : DetC (vAppQ P t t2 s x) := by
  unfold vAppQ
  cases slElem P t with
  | none => exact ff
  | some e =>
    cases s <;> try exact ff
    rename_i y
    cases y <;> first | exact ite (bind (det_appArg _ _ _ _ _) fun ys => and (leaf _)) ff | exact ff
theorem det_normL : ∀ (ps : List PA) (as : List AV), DetC (normL ps as)
  | [], [] => leaf _
  | [], a :: as => ff
  | p :: ps, [] => by cases p <;> exact ff
  | p :: ps, a :: as => by
    cases p <;> first
      | exact DetC.map (det_normL ps as) _
      | exact DetC.bind (U := fun x K => normL ps as fun ys => K (.d x :: ys)) (det_asD a) fun x => DetC.map (det_normL ps as) _
mutual
theorem det_exPA : ∀ p : PA, DetC (exPA p)
  | .any => leaf _
  | .d => ex fun x => leaf _
  | .t s => map (det_exSh s) _
  | .own c sz => ex fun x => leaf _
  | .ptr c => leaf _
  | .mp c => leaf _
  | .tup ps => map (det_exPL ps) _
  | .fn f cap => map (det_exPL cap) _
theorem det_exPL : ∀ p : List PA, DetC (exPL p)
  | [] => leaf _
  | p :: ps => DetC.bind (U := fun a K => exPL ps fun as => K (a :: as)) (det_exPA p) fun a => DetC.map (det_exPL ps) _
end
theorem det_vCallQ (P : Program) (f d : Nat) (args : List AV) (σ : St) (n : Nat) (k : PA) : DetC fun K : AV → Prop => vCallS P f d args σ (fun av _ => K av) [pureSp n k] := by
  show DetC fun K : AV → Prop => (match matchSp (pureSp n k) args σ with
    | some m => if pairsOk m (newIds d (pureSp n k).new 0) then normL (pureSp n k).args args fun args => exPA (pureSp n k).res fun r => exObs (pureSp n k).objs' fun objs' =>
        AFn P f (AV.renL (bw m) args) (preObjs σ m) (preRooms σ m) r objs' (pureSp n k).rooms' ∧ K (r.ren (fw (m ++ newIds d (pureSp n k).new 0))) else False
    | none => vCallS P f d args σ (fun av _ => K av) [])
  cases matchSp (pureSp n k) args σ with
  | none => exact ff
  | some m => exact ite (bind (det_normL _ _) fun as => bind (det_exPA _) fun r => and (leaf _)) ff
theorem det_opQ (P : Program) (o : Oper) (σ : St) : DetC (opQ P o σ) := by
  unfold opQ
  split
  · exact det_vLit _ _ _ _
  · rename_i c hop
    split
    · split
      · exact det_vAppQ _ _ _ _ _
      · exact ff
    · rename_i fo hc
      show DetC fun K : AV → Prop => (match ev σ fo with
        | .fn f cap => if callable P f then vCallS P f (o.dst.getD 0) (c.args.toList.map (ev σ) ++ cap) σ (fun av _ => K av) [pureSp (c.args.toList.map (ev σ) ++ cap).length (resPA P f)] else False
        | _ => False)
      cases ev σ fo <;> try exact ff
      exact ite (det_vCallQ _ _ _ _ _ _ _) ff
    · exact det_opV _ _ _
  · exact det_opV _ _ _
end Go.Qv
