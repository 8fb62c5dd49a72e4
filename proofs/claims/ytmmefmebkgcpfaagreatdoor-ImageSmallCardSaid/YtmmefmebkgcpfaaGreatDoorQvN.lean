/- A store into a map; all operations under one word; regions without a draw. Over any program. -/
import Derived.Test.YtmmefmebkgcpfaaGreatDoorQvM
namespace Go.Qv
open Go

theorem baeq (a b : ByteArray) : (a == b) = true ↔ a = b := by
  obtain ⟨x⟩ := a
  obtain ⟨y⟩ := b
  constructor
  · intro h
    have e : x = y := by simpa using (show (x == y) = true from h)
    rw [e]
  · intro h
    cases h
    show (x == x) = true
    simp
theorem findNow_put_S {w : World} {S : Nat → Nat} (s : ByteArray) (v : DV) (u : Value) (hu : R w S v u) : ∀ (es : List (ByteArray × DV)) (ents : List MapEntry) (i : Nat), REnts w S Value.string es ents →
    (luK es s = none ∧ Instr.findNow .string (.string s) ents i = some none ∧ putK es s v = es ++ [(s, v)]) ∨
    ∃ x j e, luK es s ≠ none ∧ Instr.findNow .string (.string s) ents i = some (some (i + j, x)) ∧ ents[j]? = some e ∧ e.key = .string s ∧ REnts w S Value.string (putK es s v) (ents.set j { e with key := .string s, val := u })
  | [], ents, i, h => by simp only [REnts] at h; subst h; exact .inl ⟨rfl, rfl, rfl⟩
  | (k, d) :: es, ents, i, h => by
    simp only [REnts] at h
    obtain ⟨e, es', rfl, he, hv, h⟩ := h
    simp only [Instr.findNow, he, Instr.sameNow, luK, List.find?_cons, putK]
    by_cases hk : (s == k) = true
    · have hk' : s = k := (baeq s k).1 hk
      subst hk'
      simp only [hk, if_true]
      refine .inr ⟨e.val, 0, e, by simp, by simp, rfl, he, ?_⟩
      simp only [List.set_cons_zero, REnts]
      exact ⟨_, es', rfl, rfl, hu, h⟩
    · simp only [Bool.not_eq_true] at hk
      simp only [hk]
      rcases findNow_put_S s v u hu es es' (i + 1) h with ⟨h1, h2, h3⟩ | ⟨x, j, e', h1, h2, h3, h4, h5⟩
      · exact .inl ⟨h1, h2, by simp [h3]⟩
      · refine .inr ⟨x, j + 1, e', h1, by rw [h2]; congr 2; simp; omega, by simpa using h3, h4, ?_⟩
        simp only [List.set_cons_succ, Bool.false_eq_true, if_false, REnts]
        exact ⟨e, _, rfl, he, hv, h5⟩
theorem findNow_put_I {w : World} {S : Nat → Nat} (kd : IntKind) (s : Int) (v : DV) (u : Value) (hu : R w S v u) : ∀ (es : List (Int × DV)) (ents : List MapEntry) (i : Nat), REnts w S (Value.int kd) es ents →
    (luK es s = none ∧ Instr.findNow (.int kd) (.int kd s) ents i = some none ∧ putK es s v = es ++ [(s, v)]) ∨
    ∃ x j e, luK es s ≠ none ∧ Instr.findNow (.int kd) (.int kd s) ents i = some (some (i + j, x)) ∧ ents[j]? = some e ∧ e.key = .int kd s ∧ REnts w S (Value.int kd) (putK es s v) (ents.set j { e with key := .int kd s, val := u })
  | [], ents, i, h => by simp only [REnts] at h; subst h; exact .inl ⟨rfl, rfl, rfl⟩
  | (k, d) :: es, ents, i, h => by
    simp only [REnts] at h
    obtain ⟨e, es', rfl, he, hv, h⟩ := h
    simp only [Instr.findNow, he, Instr.sameNow, luK, List.find?_cons, putK, if_true]
    by_cases hk : (s == k) = true
    · have hk' : s = k := by simpa using hk
      subst hk'
      simp only [hk, if_true]
      refine .inr ⟨e.val, 0, e, by simp, by simp, rfl, he, ?_⟩
      simp only [List.set_cons_zero, REnts]
      exact ⟨_, es', rfl, rfl, hu, h⟩
    · simp only [Bool.not_eq_true] at hk
      simp only [hk]
      rcases findNow_put_I kd s v u hu es es' (i + 1) h with ⟨h1, h2, h3⟩ | ⟨x, j, e', h1, h2, h3, h4, h5⟩
      · exact .inl ⟨h1, h2, by simp [h3]⟩
      · refine .inr ⟨x, j + 1, e', h1, by rw [h2]; congr 2; simp; omega, by simpa using h3, h4, ?_⟩
        simp only [List.set_cons_succ, Bool.false_eq_true, if_false, REnts]
        exact ⟨e, _, rfl, he, hv, h5⟩
theorem REnts.snoc {α : Type} {kp : α → Value} {w : World} {S : Nat → Nat} {k : α} {v : DV} {u : Value} {e : MapEntry} (hk : e.key = kp k) (hv : e.val = u) (hu : R w S v u) : ∀ {ds : List (α × DV)} {es : List MapEntry}, REnts w S kp ds es → REnts w S kp (ds ++ [(k, v)]) (es ++ [e])
  | [], es, h => by
    simp only [REnts] at h; subst h
    simp only [List.nil_append, REnts]
    exact ⟨e, [], rfl, hk, by rw [hv]; exact hu, rfl⟩
  | (k', v') :: ds, es, h => by
    simp only [REnts, List.cons_append] at h ⊢
    obtain ⟨e', es', rfl, h1, h2, h3⟩ := h
    exact ⟨e', es' ++ [e], rfl, h1, h2, h3.snoc hk hv hu⟩
/-- What a store into a map leaves, whatever its keys are. -/
theorem run_mapUpdate {α : Type} [BEq α] {P : Program} {G : Gh} {w : World} {t kt et j : Nat} (hu : P.underlying t = some (.map kt et)) {kd : TypeDesc} (hkt : P.underlying kt = some kd) (hkd : kd = .string ∨ ∃ q, kd = .int q) {kp : α → Value} {es : List (α × DV)} (hm : MapOk G w j kp es) {k : α} {v : DV} {u : Value} (hv : R w G.S v u)
    (hput : ∀ (ents : List MapEntry) (i : Nat), REnts w G.S kp es ents → (luK es k = none ∧ Instr.findNow kd (kp k) ents i = some none ∧ putK es k v = es ++ [(k, v)]) ∨
      ∃ x j e, luK es k ≠ none ∧ Instr.findNow kd (kp k) ents i = some (some (i + j, x)) ∧ ents[j]? = some e ∧ e.key = kp k ∧ REnts w G.S kp (putK es k v) (ents.set j { e with key := kp k, val := u }))
    (hsame : Instr.sameBits 10000 (kp k) (kp k) = true) :
    ∃ ob, (Instr.mapUpdate t (.map (some (G.β j))) (kp k) u).run P w = .ok () (withBlock w (G.β j) ob) ∧ ∀ w', Pres w G.S w' G.S → w'.heap[G.β j]? = some ob → MapOk G w' j kp (putK es k v) := by
  obtain ⟨ents, clock, h1, h2, h3, h4, h5⟩ := hm
  rcases hput ents.toList 0 h2 with ⟨g1, g2, g3⟩ | ⟨x, i, e, g1, g2, g3, g4, g5⟩
  · refine ⟨.map (ents.push { key := kp k, val := u, born := clock }) (clock + 1), ?_, fun w' hp hw => ⟨_, _, hw, ?_, ?_, ?_, h5⟩⟩
    · simp [Instr.mapUpdate, run_underlying hu, run_underlying hkt, run_checkKey hkt hkd, Instr.findKey, g2, getObj, Go.setObj, Sem.run, h1, withBlock]
    · rw [g3, Array.toList_push]
      exact (REnts.snoc (kp := kp) (k := k) (u := u) (e := { key := kp k, val := u, born := clock }) rfl rfl hv h2).mono hp
    · intro e he
      simp only [Array.toList_push, List.mem_append, List.mem_singleton] at he
      rcases he with he | rfl
      · have := h3 e he; omega
      · simp
    · rw [Array.toList_push, List.map_append, List.nodup_append]
      refine ⟨h4, by simp, fun a ha b hb => ?_⟩
      simp only [List.map_cons, List.map_nil, List.mem_singleton] at hb
      subst hb
      obtain ⟨e, he, rfl⟩ := List.mem_map.1 ha
      have := h3 e he; omega
  · have hlt : i < ents.size := by
      have := (List.getElem?_eq_some_iff.1 g3).1
      simpa using this
    have hei : ents[i]? = some e := by rw [← Array.getElem?_toList]; exact g3
    have hmod : (ents.modify i fun e => { e with key := kp k, val := u }).toList = ents.toList.set i { e with key := kp k, val := u } := by
      apply List.ext_getElem?
      intro q
      rw [Array.getElem?_toList, Array.getElem?_modify, List.getElem?_set]
      by_cases hq : i = q
      · subst hq
        rw [if_pos rfl, if_pos rfl, if_pos (by simpa using hlt), hei]; rfl
      · rw [if_neg hq, if_neg hq, Array.getElem?_toList]
    refine ⟨.map (ents.modify i fun e => { e with key := kp k, val := u }) clock, ?_, fun w' hp hw => ⟨_, _, hw, ?_, ?_, ?_, h5⟩⟩
    · simp only [Nat.zero_add] at g2
      simp [Instr.mapUpdate, run_underlying hu, run_underlying hkt, run_checkKey hkt hkd, Instr.findKey, g2, getObj, Go.setObj, Sem.run, h1, withBlock, hei, g4, Instr.keyThatStays, hsame]
    · rw [hmod]; exact g5.mono hp
    · intro e' he'
      rw [hmod] at he'
      rcases List.mem_or_eq_of_mem_set he' with he' | rfl
      · exact h3 e' he'
      · exact h3 e (List.mem_of_getElem? g3)
    · rw [hmod, List.map_set]
      have : (ents.toList.map (·.born)).set i e.born = ents.toList.map (·.born) := by
        apply List.ext_getElem?
        intro q
        rw [List.getElem?_set]
        split
        · subst_vars
          split
          · simp [g3]
          · rename_i hh; simp at hh; omega
        · rfl
      simp only
      rw [this]
      exact h4
def vMapUp (P : Program) (t : Nat) (m k v : AV) (σ : St) (K : AV → St → Prop) : Prop :=
  match P.underlying t, m with
  | some (.map kt _), .mp j => (match objAt σ j, P.underlying kt with
    | some (.mapS es), some .string => asS k fun s => asD v fun x => K .no (setObj σ j (.mapS (putK es s x)))
    | some (.mapI kd es), some (.int kd') => if kd = kd' then asI k fun k' n => asD v fun x => if k' = kd then K .no (setObj σ j (.mapI kd (putK es n x))) else False else False
    | _, _ => False)
  | _, _ => False
theorem vMapUp_ok {P : Program} {F : F0} {G : Gh} {σ : St} {a : Act} {w : World} (hs : Sim F G σ a w) {o : Oper} {t : Nat} {m k v : Operand} (ho : o.op = .mapUpdate t m k v ∨ o.op = .insert t m k v) {K : AV → St → Prop} {next : Act → World → Prop} {Q : Exit → Act → World → Prop} (h : vMapUp P t (ev σ m) (ev σ k) (ev σ v) σ K) (hn : Nxt P o a F next K) : o.wp P a w next Q := by
  have hm := ev_ok hs m
  have hexec : ∀ w', (Instr.mapUpdate t (a.eval m) (a.eval k) (a.eval v)).run P w = .ok () w' → (execOp a.eval o).run P w = .ok .skip w' := by
    intro w' h
    rcases ho with ho | ho <;> simp [execOp, ho, h]
  unfold vMapUp at h
  split at h
  case h_2 => exact h.elim
  rename_i kt et j hu he
  rw [he] at hm
  simp only [RA] at hm
  have fin : ∀ (ob : Obj) (o' : Ob), (Instr.mapUpdate t (a.eval m) (a.eval k) (a.eval v)).run P w = .ok () (withBlock w (G.β j) ob) → (∃ o0, (j, o0) ∈ σ.objs) → G.S (G.β j) = 0 → (∀ w', Pres w G.S w' G.S → w'.heap[G.β j]? = some ob → ObjOk G w' j o') → K .no (setObj σ j o') → o.wp P a w next Q := by
    rintro ob o' hrun ⟨o0, hj⟩ hz hob hK
    have hl : G.β j < w.heap.size := (show Live G σ.objs σ.rooms j from .inl ⟨o0, hj⟩).lt hs
    have hp : Pres w G.S (withBlock w (G.β j) ob) G.S := ⟨fun _ => Nat.le_refl _, fun b i hi => by
      have e : b ≠ G.β j := by rintro rfl; rw [hz] at hi; omega
      exact cl_old (withBlock_ne w ob e) i⟩
    exact wp_skip' (hexec _ hrun) (hn _ _ _ _ _ (hs.writeO hj ob o' hz (hob _ hp (withBlock_at hl ob))) (by simp only [RA]) hK)
  split at h
  · rename_i es hob hkt
    obtain ⟨s, hke, hkv, h⟩ := asS_elim h (ev_ok hs k)
    obtain ⟨x, hx, h⟩ := asD_elim h (ev_ok hs v)
    have hmo := hs.ctx.okO j _ (objAt_mem hob)
    obtain ⟨ob, h1, h2⟩ := run_mapUpdate hu hkt (.inl rfl) hmo hx (fun ents i hh => findNow_put_S s x _ hx es ents i hh) (by simp [Instr.sameBits, (baeq s s).2 rfl])
    refine fin ob (.mapS (putK es s x)) (by rw [hm, hkv]; exact h1) ⟨_, objAt_mem hob⟩ (by obtain ⟨_, _, _, _, _, _, h5⟩ := hmo; exact h5) (fun w' hp hw => h2 w' hp hw) h
  · rename_i kd es kd' hob hkt
    split at h
    case isFalse => exact h.elim
    rename_i e
    subst e
    obtain ⟨k', n, hke, hkv, h⟩ := asI_elim h (ev_ok hs k)
    obtain ⟨x, hx, h9⟩ := asD_elim h (ev_ok hs v)
    split at h9
    case isFalse => exact h9.elim
    rename_i e
    subst e
    have hmo := hs.ctx.okO j _ (objAt_mem hob)
    obtain ⟨ob, h1, h2⟩ := run_mapUpdate hu hkt (.inr ⟨_, rfl⟩) hmo hx (fun ents i hh => findNow_put_I k' n x _ hx es ents i hh) (by simp [Instr.sameBits])
    refine fin ob (.mapI k' (putK es n x)) (by rw [hm, hkv]; exact h1) ⟨_, objAt_mem hob⟩ (by obtain ⟨_, _, _, _, _, _, h5⟩ := hmo; exact h5) (fun w' hp hw => h2 w' hp hw) h9
  · exact h.elim

/-! ### All operations -/
def isIntT (P : Program) (t : Nat) : Bool := match P.underlying t with | some (.int _) => true | _ => false
def opX (P : Program) (SP : Nat → List Sp) (o : Oper) (σ : St) (K : AV → St → Prop) : Prop :=
  match o.op with
  | .alloc t => vAlloc P t (o.dst.getD 0) σ K
  | .box t x => vBox P t (o.dst.getD 0) (ev σ x) σ K
  | .store t p x => vStore P t (ev σ p) (ev σ x) σ K
  | .buildSlice t len ps => vLit P t len (ps.toList.map fun p => (p.1, ev σ p.2)) fun av => K av σ
  | .makeMap t none => vMakeMap P t (o.dst.getD 0) σ K
  | .mapUpdate t m k v => vMapUp P t (ev σ m) (ev σ k) (ev σ v) σ K
  | .insert t m k v => vMapUp P t (ev σ m) (ev σ k) (ev σ v) σ K
  | .range t x => vRange P t (o.dst.getD 0) (ev σ x) σ K
  | .makeSlice t l c => vMkSl P t (ev σ l) (ev σ c) fun av => K av σ
  | .next x s => vNext (o.dst.getD 0) (ev σ x) s σ K
  | .call c => match c.callee, c.args.toList, c.argTypes.toList with
    | .builtin .append, [s, x], [t, t2] => if isIntT P t2 then vAppMk P t t2 (o.dst.getD 0) (ev σ s) (ev σ x) σ K else vApp P t t2 (o.dst.getD 0) (ev σ s) (ev σ x) σ K
    | .value fo, args, _ => vCallOp P SP (o.dst.getD 0) (ev σ fo) (args.map (ev σ)) σ K
    | _, _, _ => opV P o σ fun av => K av σ
  | _ => opV P o σ fun av => K av σ
theorem opX_ok {P : Program} {SP : Nat → List Sp} {F : F0} {G : Gh} {σ : St} {a : Act} {w : World} (hs : Sim F G σ a w) {o : Oper} {K : AV → St → Prop} {next : Act → World → Prop} {Q : Exit → Act → World → Prop} (h : opX P SP o σ K) (hn : Nxt P o a F next K) : o.wp P a w next Q := by
  have quiet : opV P o σ (fun av => K av σ) → o.wp P a w next Q := by
    intro h
    obtain ⟨av, u, h1, h2, h3⟩ := opV_ok hs h
    exact wp_value h1 (hn _ _ _ _ _ hs h2 h3)
  unfold opX at h
  split at h
  · rename_i hop; exact vAlloc_ok hs hop h hn
  · rename_i hop; exact vBox_ok hs hop h hn
  · rename_i hop; exact vStore_ok hs hop h hn
  · rename_i hop; exact vLit_ok hs hs hop h (fun av G' u w' h1 h2 h3 => hn av σ G' u w' h1 h2 h3)
  · rename_i hop; exact vMakeMap_ok hs hop h hn
  · rename_i hop; exact vMapUp_ok hs (.inl hop) h hn
  · rename_i hop; exact vMapUp_ok hs (.inr hop) h hn
  · rename_i hop; exact vRange_ok hs hop h hn
  · rename_i hop; exact vMkSl_ok hs hs hop h (fun av G' u w' h1 h2 h3 => hn av σ G' u w' h1 h2 h3)
  · rename_i hop; exact vNext_ok hs hop h hn
  · rename_i c hop
    split at h
    · rename_i s x t t2 hc ha ht
      have hop' : o.op = .call { callee := .builtin .append, args := #[s, x], argTypes := #[t, t2] } := by
        rw [hop]
        obtain ⟨cc, ca, ct⟩ := c
        simp only at hc ha ht
        rw [hc, show ca = #[s, x] by rw [← ha], show ct = #[t, t2] by rw [← ht]]
      split at h
      · exact vAppMk_ok hs hop' h hn
      · exact vApp_ok hs hop' h hn
    · rename_i fo hc
      exact vCallOp_ok hs hop hc h hn
    · exact quiet h
  · exact quiet h
end Go.Qv
