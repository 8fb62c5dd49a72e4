/- The remaining operations that leave the world alone; all of them under one word. Over any program. -/
import Derived.Test.YtmmefmebkgcpfaaGreatDoorQvF
namespace Go.Qv
open Go

/-! ### nilCheck, unary, conversions, interface values -/
def vNil (a : AV) (K : AV → Prop) : Prop := match a with
  | .ptr k o => K (.ptr k o)
  | .row cs => K (.row cs)
  | .fn f c => K (.fn f c)
  | _ => False
def vUn (op : UnOp) (a : AV) (K : AV → Prop) : Prop := match op, a with
  | .not, .d (.bool b) => K (.d (.bool (!b)))
  | .neg, .d (.int k n) => K (.d (.int k (k.wrap (0 - n))))
  | .xor, .d (.int k n) => K (.d (.int k (bitsI .xor k (if k.signed then -1 else k.max) n)))
  | _, _ => False
def vConv (P : Program) (src dst : Nat) (a : AV) (K : AV → Prop) : Prop :=
  match P.underlying src, P.underlying dst, a with
  | some (.int _), some (.int k), .d (.int _ n) => K (.d (.int k (k.wrap n)))
  | some .string, some .string, .d (.str s) => K (.d (.str s))
  | _, _, _ => False
def vMkI (P : Program) (t : Nat) (a : AV) (K : AV → Prop) : Prop :=
  match P.underlying t with
  | some (.interface _) => False
  | none => False
  | some _ => asD a fun x => K (.d (.iface t x))
theorem vUn_ok {P : Program} {G : Gh} {w : World} {op : UnOp} {a : AV} {u : Value} {K : AV → Prop} (h : vUn op a K) (hr : RA G w a u) : ∃ av v, (Op.unary op u).run P w = .ok v w ∧ RA G w av v ∧ K av := by
  unfold vUn at h
  split at h
  · simp only [RA, R] at hr; subst hr
    exact ⟨_, .bool _, rfl, by simp only [RA, R], h⟩
  · simp only [RA, R] at hr; subst hr
    exact ⟨_, .int _ _, rfl, by simp only [RA, R], h⟩
  · simp only [RA, R] at hr; subst hr
    exact ⟨_, .int _ _, rfl, by simp only [RA, R]; rfl, h⟩
  · exact h.elim
theorem vConv_ok {P : Program} {G : Gh} {w : World} {src dst : Nat} {a : AV} {u : Value} {K : AV → Prop} (h : vConv P src dst a K) (hr : RA G w a u) : ∃ av v, (convert src dst u).run P w = .ok v w ∧ RA G w av v ∧ K av := by
  unfold vConv at h
  split at h
  · rename_i h1 h2
    simp only [RA, R] at hr; subst hr
    exact ⟨_, .int _ _, by simp only [convert, Sem.run_bind, run_underlying h1, run_underlying h2, Result.andThen_ok]; rfl, by simp only [RA, R], h⟩
  · rename_i h1 h2
    simp only [RA, R] at hr; subst hr
    exact ⟨_, .string _, by simp only [convert, Sem.run_bind, run_underlying h1, run_underlying h2, Result.andThen_ok]; rfl, by simp only [RA, R], h⟩
  · exact h.elim
theorem vMkI_ok {P : Program} {G : Gh} {w : World} {t : Nat} {a : AV} {u : Value} {K : AV → Prop} (h : vMkI P t a K) (hr : RA G w a u) : ∃ av v, (Instr.makeInterface t u).run P w = .ok v w ∧ RA G w av v ∧ K av := by
  unfold vMkI at h
  split at h
  · exact h.elim
  · exact h.elim
  · rename_i d hd hu
    obtain ⟨x, hx, h⟩ := asD_elim h hr
    refine ⟨_, .iface t u, ?_, ?_, h⟩
    · simp only [Instr.makeInterface, Sem.run_bind, run_underlying hu, Result.andThen_ok]
      cases d <;> first | rfl | exact absurd rfl (hd _)
    · simp only [RA, R]; exact ⟨u, rfl, hx⟩

/-! ### a value's dynamic type -/
def zeroD (P : Program) (t : Nat) : Option DV := match P.info? t with
  | some i => (match i.zero with | some v => valDV v | none => none)
  | none => none
theorem zeroD_ok {P : Program} {t : Nat} {x : DV} (h : zeroD P t = some x) (w : World) (S : Nat → Nat) : ∃ v, (zeroValue t).run P w = .ok v w ∧ R w S x v := by
  unfold zeroD at h
  split at h
  case h_2 => cases h
  rename_i i hi
  split at h
  case h_2 => cases h
  rename_i v hv
  exact ⟨v, by simp [zeroValue, typeInfo, hi, hv], valDV_ok h⟩
def concrete (P : Program) (t : Nat) : Bool := match P.underlying t with | some (.interface _) => false | none => false | some _ => true
/-- The value itself, laid open as its type asks. -/
def shapeD (P : Program) (t : Nat) (y : DV) (K : DV → Prop) : Prop :=
  if isAg P t then cellsD y (szOf P t) fun cs => K (.agg cs) else needC y (K y)
theorem shapeD_elim {P : Program} {t : Nat} {y : DV} {K : DV → Prop} (h : shapeD P t y K) : K y := by
  unfold shapeD at h
  split at h
  · obtain ⟨cs, rfl, _, h⟩ := cellsD_elim h; exact h
  · exact (needC_iff.1 h).2
def vTA (P : Program) (t : Nat) (ok : Bool) (x : DV) (K : AV → Prop) : Prop :=
  if concrete P t then
    match x with
    | .iface q y => if q = t then shapeD P t y fun y => K (if ok then .d (.tup [y, .bool true]) else .d y)
        else if ok then (match zeroD P t with | some z => K (.d (.tup [z, .bool false])) | none => False) else False
    | .nilI => if ok then (match zeroD P t with | some z => K (.d (.tup [z, .bool false])) | none => False) else False
    | _ => False
  else False
theorem vTA_ok {P : Program} {G : Gh} {w : World} {xt t : Nat} {ok : Bool} {x : DV} {u : Value} {K : AV → Prop} (h : vTA P t ok x K) (hr : R w G.S x u) :
    ∃ av v, (Instr.typeAssert u xt t ok).run P w = .ok v w ∧ RA G w av v ∧ K av := by
  unfold vTA at h
  split at h
  case isFalse => exact h.elim
  rename_i hc
  unfold concrete at hc
  split at hc
  · cases hc
  · cases hc
  rename_i d hd hu
  have fails : ∀ (z : DV), zeroD P t = some z → K (.d (.tup [z, .bool false])) → ∃ av v, ((do pure (.tuple #[← zeroValue t, .bool false]) : Sem Value)).run P w = .ok v w ∧ RA G w av v ∧ K av := by
    intro z hz hK
    obtain ⟨v, h1, h2⟩ := zeroD_ok hz w G.S
    refine ⟨_, .tuple #[v, .bool false], by simp only [Sem.run_bind, h1, Result.andThen_ok, Sem.run_pure], ?_, hK⟩
    simp only [RA, R]
    exact ⟨_, rfl, by simp only [RList, R]; exact ⟨_, _, rfl, h2, _, _, rfl, rfl, rfl⟩⟩
  split at h
  · rename_i q y
    simp only [R] at hr
    obtain ⟨y', rfl, hy⟩ := hr
    split at h
    · rename_i e
      subst e
      have hK := shapeD_elim h
      cases ok
      · refine ⟨.d y, y', ?_, by simpa only [RA] using hy, by simpa using hK⟩
        simp only [Instr.typeAssert, Sem.run_bind, run_underlying hu, Result.andThen_ok]
        cases d <;> first | (simp; done) | exact absurd rfl (hd _)
      · refine ⟨.d (.tup [y, .bool true]), .tuple #[y', .bool true], ?_, ?_, by simpa using hK⟩
        · simp only [Instr.typeAssert, Sem.run_bind, run_underlying hu, Result.andThen_ok]
          cases d <;> first | (simp; done) | exact absurd rfl (hd _)
        · simp only [RA, R]
          exact ⟨_, rfl, by simp only [RList, R]; exact ⟨_, _, rfl, hy, _, _, rfl, rfl, rfl⟩⟩
    · rename_i hne
      cases ok
      · exact absurd h (by simp)
      · simp only [if_true] at h
        split at h
        case h_2 => exact h.elim
        rename_i z hz
        obtain ⟨av, v, h1, h2, h3⟩ := fails z hz h
        refine ⟨av, v, ?_, h2, h3⟩
        simp only [Instr.typeAssert, Sem.run_bind, run_underlying hu, Result.andThen_ok]
        cases d <;> first | (simp only [if_neg hne, if_true]; exact h1) | exact absurd rfl (hd _)
  · simp only [R] at hr
    subst hr
    cases ok
    · exact absurd h (by simp)
    · simp only [if_true] at h
      split at h
      case h_2 => exact h.elim
      rename_i z hz
      obtain ⟨av, v, h1, h2, h3⟩ := fails z hz h
      refine ⟨av, v, ?_, h2, h3⟩
      simp only [Instr.typeAssert, Sem.run_bind, run_underlying hu, Result.andThen_ok]
      cases d <;> first | (simp only [if_true]; exact h1) | exact absurd rfl (hd _)
  · exact h.elim

/-! ### parts -/
def vExt (a : AV) (i : Nat) (K : AV → Prop) : Prop := match a with
  | .d (.tup xs) => (match xs[i]? with | some x => K (.d x) | none => False)
  | .tup as => (match as[i]? with | some x => K x | none => False)
  | _ => False
theorem vExt_ok {P : Program} {G : Gh} {w : World} {a : AV} {i : Nat} {u : Value} {K : AV → Prop} (h : vExt a i K) (hr : RA G w a u) : ∃ av v, (Instr.extract u i).run P w = .ok v w ∧ RA G w av v ∧ K av := by
  unfold vExt at h
  split at h
  · split at h
    · rename_i xs x hx
      simp only [RA, R] at hr
      obtain ⟨ys, rfl, hl⟩ := hr
      obtain ⟨v, hv, hr⟩ := hl.get i x hx
      rw [Array.getElem?_toList] at hv
      exact ⟨_, v, by simp [Instr.extract, hv], by simpa only [RA] using hr, h⟩
    · exact h.elim
  · split at h
    · rename_i xs x hx
      simp only [RA] at hr
      obtain ⟨ys, rfl, hl⟩ := hr
      obtain ⟨v, hv, hr⟩ := hl.get i x hx
      rw [Array.getElem?_toList] at hv
      exact ⟨_, v, by simp [Instr.extract, hv], hr, h⟩
    · exact h.elim
  · exact h.elim
def vFld (P : Program) (t i : Nat) (a : AV) (K : AV → Prop) : Prop :=
  match fieldOf P t i with
  | some f => if hasT P f.type then
      match a with
      | .d (.agg cs) => if isAg P f.type then (if f.offset + szOf P f.type ≤ cs.length then K (.d (.agg ((cs.drop f.offset).take (szOf P f.type)))) else False)
          else (match cs[f.offset]? with | some c => K (.d c) | none => False)
      | .agg cs => if isAg P f.type then (if f.offset + szOf P f.type ≤ cs.length then K (mkAgg ((cs.drop f.offset).take (szOf P f.type))) else False)
          else (match cs[f.offset]? with | some c => K c | none => False)
      | _ => False
    else False
  | none => False
theorem RList.sub {w : World} {S : Nat → Nat} : ∀ {ds : List DV} {us : List Value} (h : RList w S ds us) (off n : Nat), RList w S ((ds.drop off).take n) ((us.drop off).take n)
  | [], us, h, off, n => by simp only [RList] at h; subst h; simp [RList]
  | x :: xs, us, h, 0, 0 => by simp [RList]
  | x :: xs, us, h, 0, n + 1 => by
    simp only [RList] at h
    obtain ⟨y, ys, rfl, hy, h⟩ := h
    simp only [List.drop_zero, List.take_succ_cons, RList]
    exact ⟨y, _, rfl, hy, by simpa using h.sub 0 n⟩
  | x :: xs, us, h, off + 1, n => by
    simp only [RList] at h
    obtain ⟨y, ys, rfl, hy, h⟩ := h
    simpa using h.sub off n
theorem vFld_ok {P : Program} {G : Gh} {w : World} {t i : Nat} {a : AV} {u : Value} {K : AV → Prop} (h : vFld P t i a K) (hr : RA G w a u) : ∃ av v, (Instr.field t u i).run P w = .ok v w ∧ RA G w av v ∧ K av := by
  unfold vFld at h
  split at h
  case h_2 => exact h.elim
  rename_i f hf
  obtain ⟨fs, hu, hfi⟩ := fieldOf_eq hf
  split at h
  case isFalse => exact h.elim
  rename_i hT
  have hag := run_isAgg P f.type w hT
  have hsz := run_sizeOf' P f.type w hT
  split at h
  · rename_i cs
    simp only [RA, R] at hr
    obtain ⟨ys, rfl, hl, h1⟩ := hr
    have hlen := hl.len
    simp only [Instr.field, Sem.run_bind, run_underlying hu, Result.andThen_ok, hfi, asAgg, Sem.run_pure, part, hag]
    split at h
    · rename_i hA
      split at h
      · rename_i hle
        refine ⟨_, .agg (ys.extract f.offset (f.offset + szOf P f.type)), by simp only [hA, if_true, Sem.run_bind, hsz, Result.andThen_ok, Sem.run_pure], ?_, h⟩
        simp only [RA, R]
        refine ⟨_, rfl, ?_, fun y hy => h1 y ?_⟩
        · have := hl.sub f.offset (szOf P f.type)
          simpa [List.extract_eq_take_drop] using this
        · rw [Array.toList_extract, List.extract_eq_take_drop] at hy
          exact List.mem_of_mem_drop (List.mem_of_mem_take hy)
      · exact h.elim
    · rename_i hA
      split at h
      · rename_i c hc
        obtain ⟨v, hv, hr⟩ := hl.get f.offset c hc
        rw [Array.getElem?_toList] at hv
        exact ⟨_, v, by simp [hA, hv], by simpa only [RA] using hr, h⟩
      · exact h.elim
  · rename_i cs
    simp only [RA] at hr
    obtain ⟨ys, rfl, hl, h1⟩ := hr
    simp only [Instr.field, Sem.run_bind, run_underlying hu, Result.andThen_ok, hfi, asAgg, Sem.run_pure, part, hag]
    split at h
    · rename_i hA
      split at h
      · rename_i hle
        refine ⟨_, .agg (ys.extract f.offset (f.offset + szOf P f.type)), by simp only [hA, if_true, Sem.run_bind, hsz, Result.andThen_ok, Sem.run_pure], ?_, h⟩
        refine mkAgg_ok ?_ fun y hy => h1 y ?_
        · have := hl.sub f.offset (szOf P f.type)
          simpa [List.extract_eq_take_drop] using this
        · rw [Array.toList_extract, List.extract_eq_take_drop] at hy
          exact List.mem_of_mem_drop (List.mem_of_mem_take hy)
      · exact h.elim
    · rename_i hA
      split at h
      · rename_i c hc
        obtain ⟨v, hv, hr⟩ := hl.get f.offset c hc
        rw [Array.getElem?_toList] at hv
        exact ⟨_, v, by simp [hA, hv], hr, h⟩
      · exact h.elim
  · exact h.elim

/-! ### strings, lengths, cuts -/
def byteAt (s : ByteArray) (n : Int) : Int := match s[n.toNat]? with | some b => (b.toNat : Int) | none => 0
def vIx (P : Program) (t : Nat) (a i : AV) (K : AV → Prop) : Prop :=
  match P.underlying t with
  | some .string => asS a fun s => asI i fun _ n => 0 ≤ n ∧ n < s.size ∧ K (.d (.int .u8 (byteAt s n)))
  | _ => False
theorem vIx_ok {P : Program} {G : Gh} {w : World} {t : Nat} {a i : AV} {u v : Value} {K : AV → Prop} (h : vIx P t a i K) (hr : RA G w a u) (hi : RA G w i v) : ∃ av r, (Instr.index t u v).run P w = .ok r w ∧ RA G w av r ∧ K av := by
  unfold vIx at h
  split at h
  · rename_i hu
    obtain ⟨s, rfl, rfl, h⟩ := asS_elim h hr
    obtain ⟨k, n, rfl, rfl, h0, h1, h⟩ := asI_elim h hi
    have hlt : n.toNat < s.size := by omega
    refine ⟨_, .int .u8 (byteAt s n), ?_, by simp only [RA, R], h⟩
    have he : s[n.toNat]? = some (s[n.toNat]'hlt) := by simp [hlt]
    simp only [Instr.index, asIntOf, Sem.run_bind, Sem.run_pure, Result.andThen_ok, run_underlying hu, h0, if_true, he, byteAt]
  · exact h.elim
def vLen (P : Program) (t : Nat) (σ : St) (a : AV) (K : AV → Prop) : Prop :=
  match P.underlying t, a with
  | some .string, .d (.str s) => K (.d (.int .i64 (s.size : Int)))
  | some (.slice _), .d (.sl _ _ xs) => K (.d (.int .i64 (xs.length : Int)))
  | some (.slice _), .own _ _ xs => K (.d (.int .i64 (xs.length : Int)))
  | some (.map _ _), .d .nilM => K (.d (.int .i64 0))
  | some (.map _ _), .mp k => (match objAt σ k with | some (.mapS es) => K (.d (.int .i64 (es.length : Int))) | some (.mapI _ es) => K (.d (.int .i64 (es.length : Int))) | _ => False)
  | _, _ => False
theorem REnts.len {α : Type} {kp : α → Value} {w : World} {S : Nat → Nat} : ∀ {ds : List (α × DV)} {es : List MapEntry}, REnts w S kp ds es → es.length = ds.length
  | [], es, h => by simp only [REnts] at h; subst h; rfl
  | (k, v) :: ds, es, h => by
    simp only [REnts] at h
    obtain ⟨e, es', rfl, _, _, h⟩ := h
    simp [h.len]
theorem vLen_ok {P : Program} {F : F0} {G : Gh} {σ : St} {ac : Act} {w : World} (hs : Sim F G σ ac w) {t ty : Nat} {a : AV} {u : Value} {K : AV → Prop} (h : vLen P t σ a K) (hr : RA G w a u) : ∃ av v, (Builtin.len_ #[t] ty #[u]).run P w = .ok v w ∧ RA G w av v ∧ K av := by
  unfold vLen at h
  split at h
  · rename_i hu
    simp only [RA, R] at hr; subst hr
    exact ⟨_, .int .i64 _, by simp [Builtin.len_, run_underlying hu, goInt]; rfl, by simp only [RA, R], h⟩
  · rename_i e m sz xs hu
    simp only [RA, R] at hr
    obtain ⟨a, n, cap, rfl, hn, _⟩ := hr
    subst hn
    exact ⟨_, .int .i64 _, by simp [Builtin.len_, run_underlying hu, goInt]; rfl, by simp only [RA, R], h⟩
  · rename_i e k sz xs hu
    have hr' := R_of_own (S := G.S) hr
    simp only [R] at hr'
    obtain ⟨a, n, cap, rfl, hn, _⟩ := hr'
    subst hn
    exact ⟨_, .int .i64 _, by simp [Builtin.len_, run_underlying hu, goInt]; rfl, by simp only [RA, R], h⟩
  · rename_i a b hu
    simp only [RA, R] at hr; subst hr
    exact ⟨_, .int .i64 _, by simp [Builtin.len_, run_underlying hu, goInt]; rfl, by simp only [RA, R], h⟩
  · rename_i a b k hu
    simp only [RA] at hr; subst hr
    split at h
    · rename_i es he
      obtain ⟨ents, clock, h1, h2, _⟩ := hs.ctx.okO k _ (objAt_mem he)
      have hl := h2.len
      rw [Array.length_toList] at hl
      rw [← hl] at h
      refine ⟨_, .int .i64 (ents.size : Int), ?_, by simp only [RA, R], h⟩
      simp [Builtin.len_, run_underlying hu, goInt, getObj, Sem.run, h1]
    · rename_i kd es he
      obtain ⟨ents, clock, h1, h2, _⟩ := hs.ctx.okO k _ (objAt_mem he)
      have hl := h2.len
      rw [Array.length_toList] at hl
      rw [← hl] at h
      refine ⟨_, .int .i64 (ents.size : Int), ?_, by simp only [RA, R], h⟩
      simp [Builtin.len_, run_underlying hu, goInt, getObj, Sem.run, h1]
    · exact h.elim
  · exact h.elim
def vCap (P : Program) (t : Nat) (a : AV) (K : AV → Prop) : Prop :=
  match P.underlying t, a with
  | some (.slice _), .d (.sl .nil _ _) => K (.d (.int .i64 0))
  | some (.slice _), .d (.sl .full _ xs) => K (.d (.int .i64 (xs.length : Int)))
  | some (.slice _), .d (.sl .cap0 _ xs) => K (.d (.int .i64 (xs.length : Int)))
  | _, _ => False
theorem vCap_ok {P : Program} {G : Gh} {w : World} {t ty : Nat} {a : AV} {u : Value} {K : AV → Prop} (h : vCap P t a K) (hr : RA G w a u) : ∃ av v, (Builtin.cap_ #[t] ty #[u]).run P w = .ok v w ∧ RA G w av v ∧ K av := by
  unfold vCap at h
  split at h
  · rename_i e sz xs hu
    simp only [RA, R] at hr
    obtain ⟨a, n, cap, rfl, hn, _, hm, _⟩ := hr
    obtain ⟨hm1, hm2⟩ := hm
    simp only at hm2
    obtain ⟨_, rfl⟩ := hm1 hm2
    exact ⟨_, .int .i64 _, by simp [Builtin.cap_, run_underlying hu, goInt]; rfl, by simp only [RA, R], h⟩
  · rename_i e sz xs hu
    simp only [RA, R] at hr
    obtain ⟨a, n, cap, rfl, hn, _, hm, _⟩ := hr
    obtain ⟨hm1, hm2, hm3⟩ := hm
    subst hm3 hn
    exact ⟨_, .int .i64 _, by simp [Builtin.cap_, run_underlying hu, goInt]; rfl, by simp only [RA, R], h⟩
  · rename_i e sz xs hu
    simp only [RA, R] at hr
    obtain ⟨a, n, cap, rfl, hn, _, hm, _⟩ := hr
    obtain ⟨hm1, hm2⟩ := hm
    simp only at hm2
    subst hm2 hn
    exact ⟨_, .int .i64 _, by simp [Builtin.cap_, run_underlying hu, goInt]; rfl, by simp only [RA, R], h⟩
  · exact h.elim
def vMM (max : Bool) (a b : AV) (K : AV → Prop) : Prop := match a, b with
  | .d (.int k x), .d (.int k' y) => if k = k' then K (.d (.int k (if max then (if y > x then y else x) else (if y < x then y else x)))) else False
  | _, _ => False
theorem vMax_ok {P : Program} {G : Gh} {w : World} {ts : Array Nat} {ty : Nat} {a b : AV} {u v : Value} {K : AV → Prop} (h : vMM true a b K) (hr : RA G w a u) (hi : RA G w b v) : ∃ av r, (Builtin.max_ ts ty #[u, v]).run P w = .ok r w ∧ RA G w av r ∧ K av := by
  unfold vMM at h
  split at h
  · split at h
    · simp only [RA, R] at hr hi; subst hr hi
      rename_i k x k' y e
      subst e
      refine ⟨.d (.int k (if true = true then (if y > x then y else x) else (if y < x then y else x))), .int k (if y > x then y else x), ?_, ?_, h⟩
      · simp [Builtin.max_, Builtin.max2]
      · simp only [RA, R]; rfl
    · exact h.elim
  · exact h.elim
theorem vMin_ok {P : Program} {G : Gh} {w : World} {ts : Array Nat} {ty : Nat} {a b : AV} {u v : Value} {K : AV → Prop} (h : vMM false a b K) (hr : RA G w a u) (hi : RA G w b v) : ∃ av r, (Builtin.min_ ts ty #[u, v]).run P w = .ok r w ∧ RA G w av r ∧ K av := by
  unfold vMM at h
  split at h
  · split at h
    · simp only [RA, R] at hr hi; subst hr hi
      rename_i k x k' y e
      subst e
      refine ⟨.d (.int k (if false = true then (if y > x then y else x) else (if y < x then y else x))), .int k (if y < x then y else x), ?_, ?_, h⟩
      · simp [Builtin.min_, Builtin.min2]
      · simp only [RA, R]; rfl
    · exact h.elim
  · exact h.elim
end Go.Qv
