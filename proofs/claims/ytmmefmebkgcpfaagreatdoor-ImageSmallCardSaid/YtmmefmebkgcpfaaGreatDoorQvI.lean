/- Look-ups in maps; all quiet operations under one word. Over any program. -/
import Derived.Test.YtmmefmebkgcpfaaGreatDoorQvH
namespace Go.Qv
open Go

def luK {α : Type} [BEq α] (es : List (α × DV)) (k : α) : Option DV := match es.find? (fun p => k == p.1) with | some p => some p.2 | none => none
def lookOut (sh : DSh) (ok : Bool) (z : DV) (K : AV → Prop) (o : Option DV) : Prop := exSh sh fun x => DvW (o.getD z) x ∧ if ok then K (.d (.tup [x, .bool o.isSome])) else K (.d x)
def vLookAt (P : Program) (kt : Nat) (σ : St) (m k : AV) (out : Option DV → Prop) : Prop :=
  match m with
  | .d .nilM => (match P.underlying kt with | some .string => asS k fun _ => out none | some (.int kd) => asI k fun k' _ => if k' = kd then out none else False | _ => False)
  | .mp j => (match objAt σ j, P.underlying kt with
    | some (.mapS es), some .string => asS k fun s => out (luK es s)
    | some (.mapI kd es), some (.int kd') => if kd = kd' then asI k fun k' n => if k' = kd then out (luK es n) else False else False
    | _, _ => False)
  | _ => False
def vLook (P : Program) (t : Nat) (σ : St) (m k : AV) (ok : Bool) (K : AV → Prop) : Prop :=
  match P.underlying t with
  | some (.map kt et) => (match zeroD P et with
    | some z => vLookAt P kt σ m k (lookOut (dsh P et) ok z K)
    | none => False)
  | _ => False
theorem findNow_S {w : World} {S : Nat → Nat} (s : ByteArray) : ∀ (es : List (ByteArray × DV)) (ents : List MapEntry) (i : Nat), REnts w S Value.string es ents →
    (luK es s = none ∧ Instr.findNow .string (.string s) ents i = some none) ∨ ∃ d v j, luK es s = some d ∧ Instr.findNow .string (.string s) ents i = some (some (j, v)) ∧ R w S d v
  | [], ents, i, h => by simp only [REnts] at h; subst h; exact .inl ⟨rfl, rfl⟩
  | (k, d) :: es, ents, i, h => by
    simp only [REnts] at h
    obtain ⟨e, es', rfl, he, hv, h⟩ := h
    simp only [Instr.findNow, he, Instr.sameNow, luK, List.find?_cons]
    by_cases hk : (s == k) = true
    · simp only [hk]
      exact .inr ⟨d, _, _, rfl, rfl, hv⟩
    · simp only [Bool.not_eq_true] at hk
      simp only [hk]
      exact findNow_S s es es' (i + 1) h
theorem findNow_I {w : World} {S : Nat → Nat} (kd : IntKind) (s : Int) : ∀ (es : List (Int × DV)) (ents : List MapEntry) (i : Nat), REnts w S (Value.int kd) es ents →
    (luK es s = none ∧ Instr.findNow (.int kd) (.int kd s) ents i = some none) ∨ ∃ d v j, luK es s = some d ∧ Instr.findNow (.int kd) (.int kd s) ents i = some (some (j, v)) ∧ R w S d v
  | [], ents, i, h => by simp only [REnts] at h; subst h; exact .inl ⟨rfl, rfl⟩
  | (k, d) :: es, ents, i, h => by
    simp only [REnts] at h
    obtain ⟨e, es', rfl, he, hv, h⟩ := h
    simp only [Instr.findNow, he, Instr.sameNow, luK, List.find?_cons, if_true]
    by_cases hk : (s == k) = true
    · simp only [hk]
      exact .inr ⟨d, _, _, rfl, rfl, hv⟩
    · simp only [Bool.not_eq_true] at hk
      simp only [hk]
      exact findNow_I kd s es es' (i + 1) h
theorem run_checkKey {P : Program} {w : World} {kt : Nat} {d : TypeDesc} (hu : P.underlying kt = some d) (hd : d = .string ∨ ∃ kd, d = .int kd) (b : Bool) (v : Value) : (Instr.checkKey b 10000 kt v).run P w = .ok () w := by
  have h : ∀ n, (Instr.checkKey b (n + 1) kt v).run P w = .ok () w := by
    intro n
    rcases hd with rfl | ⟨kd, rfl⟩ <;> simp only [Instr.checkKey, Sem.run_bind, run_underlying hu, Result.andThen_ok, Sem.run_pure]
  exact h 9999
theorem vLook_ok {P : Program} {F : F0} {G : Gh} {σ : St} {ac : Act} {w : World} (hs : Sim F G σ ac w) {t : Nat} {m k : AV} {ok : Bool} {u v : Value} {K : AV → Prop} (h : vLook P t σ m k ok K) (hm : RA G w m u) (hk : RA G w k v) :
    ∃ av r, (Instr.lookup t u v ok).run P w = .ok r w ∧ RA G w av r ∧ K av := by
  unfold vLook at h
  split at h
  case h_2 => exact h.elim
  rename_i kt et hu
  split at h
  case h_2 => exact h.elim
  rename_i z hz
  obtain ⟨zv, hz1, hz2⟩ := zeroD_ok hz w G.S
  have done : ∀ (o : Option DV) (ov : Option Value), (match o, ov with | none, none => True | some d, some x => R w G.S d x | _, _ => False) → lookOut (dsh P et) ok z K o →
      ∃ av, RA G w av (if ok then .tuple #[ov.getD zv, .bool o.isSome] else ov.getD zv) ∧ K av := by
    intro o ov ho hK
    have hd : R w G.S (o.getD z) (ov.getD zv) := by
      cases o <;> cases ov <;> first | exact ho.elim | exact hz2 | exact ho
    unfold lookOut at hK
    obtain ⟨x', hle, hK⟩ := exSh_elim _ hK
    have hd := R.weak hle.le hd
    cases ok
    · exact ⟨.d x', by simp only [RA, Bool.false_eq_true, if_false]; exact hd, by simpa using hK⟩
    · refine ⟨_, ?_, by simpa using hK⟩
      simp only [RA, R, if_true]
      exact ⟨_, rfl, by simp only [RList, R]; exact ⟨_, _, rfl, hd, _, _, rfl, rfl, rfl⟩⟩
  unfold vLookAt at h
  split at h
  · simp only [RA, R] at hm
    subst hm
    split at h
    · rename_i hkt
      obtain ⟨s, rfl, rfl, h⟩ := asS_elim h hk
      obtain ⟨av, h1, h2⟩ := done none none trivial h
      refine ⟨av, _, ?_, h1, h2⟩
      simp [Instr.lookup, run_underlying hu, run_underlying hkt, run_checkKey hkt (.inl rfl), Instr.findKey, Instr.findNow, hz1]
    · rename_i kd hkt
      obtain ⟨k', n, rfl, rfl, h⟩ := asI_elim h hk
      split at h
      case isFalse => exact h.elim
      obtain ⟨av, h1, h2⟩ := done none none trivial h
      refine ⟨av, _, ?_, h1, h2⟩
      simp [Instr.lookup, run_underlying hu, run_underlying hkt, run_checkKey hkt (.inr ⟨_, rfl⟩), Instr.findKey, Instr.findNow, hz1]
    · exact h.elim
  · rename_i j
    simp only [RA] at hm
    subst hm
    split at h
    · rename_i es ho hkt
      obtain ⟨s, rfl, rfl, h⟩ := asS_elim h hk
      obtain ⟨ents, clock, g1, g2, _⟩ := hs.ctx.okO j _ (objAt_mem ho)
      rcases findNow_S (w := w) (S := G.S) s es ents.toList 0 g2 with ⟨e1, e2⟩ | ⟨d, x, i, e1, e2, e3⟩
      · rw [e1] at h
        obtain ⟨av, h1, h2⟩ := done none none trivial h
        refine ⟨av, _, ?_, h1, h2⟩
        simp [Instr.lookup, run_underlying hu, run_underlying hkt, run_checkKey hkt (.inl rfl), Instr.findKey, e2, hz1, getObj, Sem.run, g1]
      · rw [e1] at h
        obtain ⟨av, h1, h2⟩ := done (some d) (some x) e3 h
        refine ⟨av, _, ?_, h1, h2⟩
        simp [Instr.lookup, run_underlying hu, run_underlying hkt, run_checkKey hkt (.inl rfl), Instr.findKey, e2, hz1, getObj, Sem.run, g1]
    · rename_i kd es kd' ho hkt
      split at h
      case isFalse => exact h.elim
      rename_i e
      subst e
      obtain ⟨k', n, rfl, rfl, h9⟩ := asI_elim h hk
      clear h
      split at h9
      case isFalse => exact h9.elim
      rename_i e
      subst e
      obtain ⟨ents, clock, g1, g2, _⟩ := hs.ctx.okO j _ (objAt_mem ho)
      rcases findNow_I (w := w) (S := G.S) k' n es ents.toList 0 g2 with ⟨e1, e2⟩ | ⟨d, x, i, e1, e2, e3⟩
      · rw [e1] at h9
        obtain ⟨av, h1, h2⟩ := done none none trivial h9
        refine ⟨av, _, ?_, h1, h2⟩
        simp [Instr.lookup, run_underlying hu, run_underlying hkt, run_checkKey hkt (.inr ⟨_, rfl⟩), Instr.findKey, e2, hz1, getObj, Sem.run, g1]
      · rw [e1] at h9
        obtain ⟨av, h1, h2⟩ := done (some d) (some x) e3 h9
        refine ⟨av, _, ?_, h1, h2⟩
        simp [Instr.lookup, run_underlying hu, run_underlying hkt, run_checkKey hkt (.inr ⟨_, rfl⟩), Instr.findKey, e2, hz1, getObj, Sem.run, g1]
    · exact h.elim
  · exact h.elim

/-! ### All of them -/
def opV (P : Program) (o : Oper) (σ : St) (K : AV → Prop) : Prop :=
  match o.op with
  | .move x => K (ev σ x)
  | .assign x => K (ev σ x)
  | .pick c x y => asB (ev σ c) fun b => pickA b (ev σ x) (ev σ y) K
  | .nilCheck x => vNil (ev σ x) K
  | .load t x => vLoad P t σ (ev σ x) K
  | .binOp op t x y _ => vBin P op t x y (ev σ x) (ev σ y) fun d => K (.d d)
  | .unOp op _ x => vUn op (ev σ x) K
  | .convert s d x => vConv P s d (ev σ x) K
  | .makeInterface t x => vMkI P t (ev σ x) K
  | .makeFunc (.func f) first cap => if first.size = 0 then K (.fn f (cap.toList.map (ev σ))) else False
  | .typeAssert x _ t ok => asD (ev σ x) fun d => vTA P t ok d K
  | .extract x i => vExt (ev σ x) i K
  | .field t x i => vFld P t i (ev σ x) K
  | .fieldAddr t x i => vField P t i (ev σ x) K
  | .indexAddr t x i => vIdx P t (ev σ x) (ev σ i) K
  | .index t x i => vIx P t (ev σ x) (ev σ i) K
  | .slice t x lo hi mx => vCut P t (ev σ x) (lo.map (ev σ)) (hi.map (ev σ)) (mx.map (ev σ)) K
  | .build t ps => vBuild P t (ps.toList.map fun p => (p.1, ev σ p.2)) K
  | .lookup t m k ok => vLook P t σ (ev σ m) (ev σ k) ok K
  | .call c => match c.callee, c.args.toList, c.argTypes.toList with
    | .builtin .len, [x], [t] => vLen P t σ (ev σ x) K
    | .builtin .cap, [x], [t] => vCap P t (ev σ x) K
    | .builtin .max, [x, y], _ => vMM true (ev σ x) (ev σ y) K
    | .builtin .min, [x, y], _ => vMM false (ev σ x) (ev σ y) K
    | _, _, _ => False
  | _ => False
theorem RAL.evs {F : F0} {G : Gh} {σ : St} {a : Act} {w : World} (hs : Sim F G σ a w) : ∀ (xs : List Operand), RAL G w (xs.map (ev σ)) (xs.map a.eval)
  | [] => by simp [RAL]
  | x :: xs => ⟨_, _, rfl, ev_ok hs x, RAL.evs hs xs⟩
theorem optV_ev {F : F0} {G : Gh} {σ : St} {a : Act} {w : World} (hs : Sim F G σ a w) (x : Option Operand) : optV G w (x.map (ev σ)) (x.map a.eval) := by
  cases x with
  | none => trivial
  | some x => exact ev_ok hs x
theorem opV_ok {P : Program} {F : F0} {G : Gh} {σ : St} {a : Act} {w : World} (hs : Sim F G σ a w) {o : Oper} {K : AV → Prop} (h : opV P o σ K) : Res P o a w G K := by
  have still : ∀ (s : Sem Value), (∃ av v, s.run P w = .ok v w ∧ RA G w av v ∧ K av) → ∃ av u, (do pure (.value (← s)) : Sem Next).run P w = .ok (.value u) w ∧ RA G w av u ∧ K av := by
    rintro s ⟨av, v, h1, h2, h3⟩
    exact ⟨av, v, by simp only [Sem.run_bind, h1, Result.andThen_ok, Sem.run_pure], h2, h3⟩
  unfold Res
  unfold opV at h
  split at h
  case _ x hop => simp only [execOp, hop]; exact ⟨_, _, rfl, ev_ok hs x, h⟩
  case _ x hop => simp only [execOp, hop]; exact ⟨_, _, rfl, ev_ok hs x, h⟩
  case _ c x y hop =>
    obtain ⟨b, hb, hu, h⟩ := asB_elim h (ev_ok hs c)
    obtain ⟨av, h1, h2⟩ := pickA_ok h (ev_ok hs x) (ev_ok hs y)
    simp only [execOp, hop, hu, asBool, Sem.run_bind, Sem.run_pure, Result.andThen_ok]
    exact ⟨av, _, rfl, h1, h2⟩
  case _ x hop =>
    have hx := ev_ok hs x
    unfold vNil at h
    split at h
    case h_4 => exact h.elim
    · rename_i k off he
      rw [he] at hx
      have hx' := hx
      simp only [RA] at hx'
      simp only [execOp, hop, hx']
      exact ⟨_, _, rfl, by rw [← hx']; exact hx, h⟩
    · rename_i cs he
      rw [he] at hx
      have hx' := hx
      simp only [RA] at hx'
      obtain ⟨b, off, hx', _⟩ := hx'
      simp only [execOp, hop, hx']
      exact ⟨_, _, rfl, by rw [← hx']; exact hx, h⟩
    · rename_i f c he
      rw [he] at hx
      have hx' := hx
      simp only [RA] at hx'
      obtain ⟨cs, hx', _⟩ := hx'
      simp only [execOp, hop, hx']
      exact ⟨_, _, rfl, by rw [← hx']; exact hx, h⟩
  case _ t x hop => simp only [execOp, hop]; exact still _ (vLoad_ok hs h (ev_ok hs x))
  case _ op t x y yt hop =>
    simp only [execOp, hop]
    obtain ⟨d, r, h1, h2, h3⟩ := vBin_ok h (ev_ok hs x) (ev_ok hs y)
    exact still _ ⟨.d d, r, h1, by simpa only [RA] using h2, h3⟩
  case _ op t x hop => simp only [execOp, hop]; exact still _ (vUn_ok h (ev_ok hs x))
  case _ s d x hop => simp only [execOp, hop]; exact still _ (vConv_ok h (ev_ok hs x))
  case _ t x hop => simp only [execOp, hop]; exact still _ (vMkI_ok h (ev_ok hs x))
  case _ f first cap hop =>
    split at h
    case isFalse => exact h.elim
    rename_i h0
    have h0' : first = #[] := Array.eq_empty_of_size_eq_zero h0
    subst h0'
    simp only [execOp, hop]
    refine still _ ⟨_, _, rfl, ?_, h⟩
    simp only [RA]
    refine ⟨cap.map a.eval, by simp, ?_⟩
    have := RAL.evs hs cap.toList
    simpa using this
  case _ x xt t ok hop =>
    obtain ⟨d, hd, h⟩ := asD_elim h (ev_ok hs x)
    simp only [execOp, hop]; exact still _ (vTA_ok h hd)
  case _ x i hop => simp only [execOp, hop]; exact still _ (vExt_ok h (ev_ok hs x))
  case _ t x i hop => simp only [execOp, hop]; exact still _ (vFld_ok h (ev_ok hs x))
  case _ t x i hop => simp only [execOp, hop]; exact still _ (vField_ok h (ev_ok hs x))
  case _ t x i hop => simp only [execOp, hop]; exact still _ (vIdx_ok h (ev_ok hs x) (ev_ok hs i))
  case _ t x i hop => simp only [execOp, hop]; exact still _ (vIx_ok h (ev_ok hs x) (ev_ok hs i))
  case _ t x lo hi mx hop => simp only [execOp, hop]; exact still _ (vCut_ok h (ev_ok hs x) (optV_ev hs lo) (optV_ev hs hi) (optV_ev hs mx))
  case _ t ps hop =>
    simp only [execOp, hop]
    refine still _ (vBuild_ok h ?_ ?_)
    · simp [Function.comp_def]
    · have := RAL.evs hs (ps.toList.map (·.2))
      simpa [Function.comp_def] using this
  case _ t m k ok hop => simp only [execOp, hop]; exact still _ (vLook_ok hs h (ev_ok hs m) (ev_ok hs k))
  case _ c hop =>
    simp only [execOp, hop, resolve]
    split at h
    · rename_i x t hc ha ht
      have ha' : c.args = #[x] := by rw [← ha]
      have ht' : c.argTypes = #[t] := by rw [← ht]
      simp only [hc, ha', ht', Sem.run_bind, Sem.run_pure, Result.andThen_ok, invoke, builtin]
      have := still _ (vLen_ok (ty := o.type) hs h (ev_ok hs x))
      simpa using this
    · rename_i x t hc ha ht
      have ha' : c.args = #[x] := by rw [← ha]
      have ht' : c.argTypes = #[t] := by rw [← ht]
      simp only [hc, ha', ht', Sem.run_bind, Sem.run_pure, Result.andThen_ok, invoke, builtin]
      have := still _ (vCap_ok (P := P) (ty := o.type) h (ev_ok hs x))
      simpa using this
    · rename_i x y hc ha
      have ha' : c.args = #[x, y] := by rw [← ha]
      simp only [hc, ha', Sem.run_bind, Sem.run_pure, Result.andThen_ok, invoke, builtin]
      have := still _ (vMax_ok (P := P) (ts := c.argTypes) (ty := o.type) h (ev_ok hs x) (ev_ok hs y))
      simpa using this
    · rename_i x y hc ha
      have ha' : c.args = #[x, y] := by rw [← ha]
      simp only [hc, ha', Sem.run_bind, Sem.run_pure, Result.andThen_ok, invoke, builtin]
      have := still _ (vMin_ok (P := P) (ts := c.argTypes) (ty := o.type) h (ev_ok hs x) (ev_ok hs y))
      simpa using this
    · exact h.elim
  case _ => exact h.elim
end Go.Qv
