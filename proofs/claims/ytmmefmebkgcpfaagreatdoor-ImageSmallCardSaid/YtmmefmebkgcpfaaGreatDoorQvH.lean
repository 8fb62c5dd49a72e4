/- Cuts of strings and slices, look-ups in maps; all quiet operations under one word. Over any program. -/
import Derived.Test.YtmmefmebkgcpfaaGreatDoorQvG
import Derived.Laws.BytesString
namespace Go.Qv
open Go

def optI (a : Option AV) (z : Int) (K : Int → Prop) : Prop := match a with | none => K z | some a => asI a fun _ n => K n
def optV (G : Gh) (w : World) : Option AV → Option Value → Prop
  | none, none => True
  | some a, some v => RA G w a v
  | _, _ => False
theorem optI_elim {G : Gh} {w : World} {a : Option AV} {v : Option Value} {z : Int} {K : Int → Prop} (h : optI a z K) (hr : optV G w a v) : ∃ n, K n ∧ ((v = none ∧ n = z) ∨ ∃ k, v = some (.int k n)) := by
  unfold optI at h
  split at h
  · cases v with
    | none => exact ⟨z, h, .inl ⟨rfl, rfl⟩⟩
    | some v => exact hr.elim
  · cases v with
    | none => exact hr.elim
    | some v =>
      obtain ⟨k, n, rfl, rfl, h⟩ := asI_elim h hr
      exact ⟨n, h, .inr ⟨k, rfl⟩⟩
theorem run_bound (P : Program) (w : World) (k : IntKind) (n : Int) (y : Nat) (c : BoundsCode) (h0 : 0 ≤ n) (h1 : n ≤ y) : (Instr.sliceBound (.int k n) y c).run P w = .ok n.toNat w := by
  simp [Instr.sliceBound, asIntOf, h0, h1]
def cutMode (m : SM) (three : Bool) : SM := match three, m with
  | _, .nil => .nil
  | true, .nn => .full
  | true, .full => .full
  | true, _ => .cap0
  | false, .nn => .nn
  | false, .full => .nn
  | false, _ => .any
def vCutZ (P : Program) (t : Nat) (a : AV) (lo hi mx : Option AV) (K : AV → Prop) : Prop := match P.underlying t, a, lo, hi, mx with
  | some (.slice e), .zr k sz n, none, some h, none => if hasT P e && decide (sz = szOf P e) then asI h fun _ q => q = 0 ∧ K (.own k sz []) else False
  | _, _, _, _, _ => False
def isZr : AV → Bool | .zr .. => true | _ => false
def vCutD (P : Program) (t : Nat) (a : AV) (lo hi mx : Option AV) (K : AV → Prop) : Prop :=
  match P.underlying t, mx with
  | some .string, none => asS a fun s => optI lo 0 fun l => optI hi (s.size : Int) fun h => 0 ≤ l ∧ l ≤ h ∧ h ≤ (s.size : Int) ∧ K (.d (.str (s.extract l.toNat h.toNat)))
  | some (.slice e), none => if hasT P e then asSl a fun m sz xs => if sz = szOf P e ∨ xs = [] then optI lo 0 fun l => optI hi (xs.length : Int) fun h => 0 ≤ l ∧ l ≤ h ∧ h ≤ (xs.length : Int) ∧ K (.d (.sl (cutMode m false) sz ((xs.take h.toNat).drop l.toNat))) else False else False
  | some (.slice e), some mx => if hasT P e then asSl a fun m sz xs => if sz = szOf P e ∨ xs = [] then optI lo 0 fun l => asI mx fun _ q => optI hi q fun h => h = q ∧ hi.isSome = true ∧ 0 ≤ l ∧ l ≤ h ∧ h ≤ (xs.length : Int) ∧ K (.d (.sl (cutMode m true) sz ((xs.take h.toNat).drop l.toNat))) else False else False
  | _, _ => False
theorem RRow.take {w : World} {S : Nat → Nat} {ds : List DV} {sz b off : Nat} (h : RRow w S ds sz b off) (n : Nat) : RRow w S (ds.take n) sz b off := RRow.mk fun i d hi => by
  have hlt : i < n := by
    have := (List.getElem?_eq_some_iff.1 hi).1
    rw [List.length_take] at this; omega
  rw [List.getElem?_take_of_lt hlt] at hi
  exact h.at_ i d hi
theorem RRow.drop {w : World} {S : Nat → Nat} {ds : List DV} {sz b off : Nat} (h : RRow w S ds sz b off) (n : Nat) : RRow w S (ds.drop n) sz b (off + n * sz) := RRow.mk fun i d hi => by
  rw [List.getElem?_drop] at hi
  obtain ⟨y, h1, h2, h3, h4⟩ := h.at_ (n + i) d hi
  refine ⟨y, h1, h2, h3, fun j hj => ?_⟩
  rw [← h4 j hj, Nat.add_mul]
  congr 1; omega
theorem SM.ok_cut {m : SM} {three : Bool} {a : Option Addr} {n cap : Nat} (h : m.ok a n cap) {A' : Option Addr} {n' cap' : Nat} (h0 : A' = none ↔ a = none) (h1 : a = none → n' = 0 ∧ cap' = 0) (h2 : three = true → cap' = n') : (cutMode m three).ok A' n' cap' := by
  obtain ⟨g0, g1⟩ := h
  refine ⟨fun e => h1 (h0.1 e), ?_⟩
  cases m <;> cases three <;> simp_all [cutMode]
theorem cut_row {P : Program} {G : Gh} {w : World} {e sz : Nat} {m : SM} {xs : List DV} {u : Value} (hT : hasT P e = true) (hsz : sz = szOf P e ∨ xs = []) (hr : R w G.S (.sl m sz xs) u) (l h : Int) (h0 : 0 ≤ l) (h1 : l ≤ h) (h2 : h ≤ (xs.length : Int)) :
    ∃ A len cap, u = .slice A len cap ∧ len = xs.length ∧ len ≤ cap ∧ ∀ (q : Nat) (three : Bool), (three = true → (q : Int) = h) → (three = false → q = cap) → h ≤ (q : Int) → q ≤ cap →
      R w G.S (.sl (cutMode m three) sz ((xs.take h.toNat).drop l.toNat)) (.slice (if q = l.toNat then A else A.map (·.add (l.toNat * szOf P e))) (h.toNat - l.toNat) (q - l.toNat)) := by
  simp only [R] at hr
  obtain ⟨A, len, cap, rfl, hn, hc, hm, hx⟩ := hr
  refine ⟨A, len, cap, rfl, hn, hc, fun q three t1 t2 t3 t4 => ?_⟩
  simp only [R]
  refine ⟨_, _, _, rfl, ?_, by omega, ?_, ?_⟩
  · simp only [List.length_drop, List.length_take]; omega
  · refine SM.ok_cut hm ?_ (fun ha => ?_) (fun ht => ?_)
    · split
      · exact Iff.rfl
      · cases A <;> simp
    · have := hm.1 ha; omega
    · have := t1 ht; omega
  · intro ad had
    cases A with
    | none => simp at had
    | some a0 =>
      obtain ⟨h3, h4, h5⟩ := hx a0 rfl
      split at had
      · rename_i hq
        cases had
        have e0 : (xs.take h.toNat).drop l.toNat = [] := by
          apply List.eq_nil_of_length_eq_zero
          simp only [List.length_drop, List.length_take]; omega
        rw [e0]
        refine ⟨h3, ?_, by simp only [RRow]⟩
        rw [show h.toNat - l.toNat = 0 by omega, Nat.zero_mul]
        have : 0 ≤ len * sz := Nat.zero_le _
        omega
      · simp only [Option.map_some, Option.some.injEq] at had
        obtain ⟨bb, oo, ss⟩ := a0
        simp only at h3
        subst h3
        rw [add_cell] at had
        cases had
        rcases hsz with rfl | rfl
        · refine ⟨rfl, ?_, (h5.take h.toNat).drop l.toNat⟩
          have hle : h.toNat * szOf P e ≤ len * szOf P e := Nat.mul_le_mul_right _ (by omega)
          have hs : (h.toNat - l.toNat) * szOf P e + l.toNat * szOf P e = h.toNat * szOf P e := by rw [← Nat.add_mul]; congr 1; omega
          simp only at h4 ⊢
          omega
        · simp only [List.length_nil] at hn h2
          have z1 : l.toNat = 0 := by omega
          have z2 : h.toNat = 0 := by omega
          refine ⟨rfl, ?_, ?_⟩
          · simp only [z1, z2, Nat.zero_mul, Nat.add_zero, Nat.sub_zero]
            simp only [hn, Nat.zero_mul, Nat.add_zero] at h4
            exact h4
          · simp [RRow]
def vCut (P : Program) (t : Nat) (a : AV) (lo hi mx : Option AV) (K : AV → Prop) : Prop := match isZr a with
  | true => vCutZ P t a lo hi mx K
  | false => vCutD P t a lo hi mx K
theorem vCutD_ok {P : Program} {G : Gh} {w : World} {t : Nat} {a : AV} {lo hi mx : Option AV} {u : Value} {vlo vhi vmx : Option Value} {K : AV → Prop} (h : vCutD P t a lo hi mx K) (hr : RA G w a u) (h1 : optV G w lo vlo) (h2 : optV G w hi vhi) (h3 : optV G w mx vmx) :
    ∃ av v, (Instr.sliceAt t u vlo vhi vmx).run P w = .ok v w ∧ RA G w av v ∧ K av := by
  unfold vCutD at h
  split at h
  · rename_i hu
    cases vmx with
    | some v => exact h3.elim
    | none =>
    obtain ⟨s, rfl, rfl, h⟩ := asS_elim h hr
    obtain ⟨l, h, hl⟩ := optI_elim h h1
    obtain ⟨q, h, hq⟩ := optI_elim h h2
    obtain ⟨g0, g1, g2, hK⟩ := h
    refine ⟨_, .string (s.extract l.toNat q.toNat), ?_, by simp only [RA, R], hK⟩
    simp only [Instr.sliceAt, Instr.slice, Sem.run_bind, run_underlying hu, Result.andThen_ok, Option.isSome_none, Bool.false_eq_true, if_false, Instr.sliceBounds, Sem.run_pure]
    rcases hq with ⟨rfl, rfl⟩ | ⟨k, rfl⟩ <;> rcases hl with ⟨rfl, rfl⟩ | ⟨k', rfl⟩
    · simp
    · simp [run_bound P w k' l s.size _ g0 (by omega)]
    · simp [run_bound P w k q s.size _ (by omega) g2]
    · simp only [Sem.run_bind, run_bound P w k q s.size _ (by omega) g2, Result.andThen_ok, Sem.run_pure]
      rw [run_bound P w k' l q.toNat _ g0 (by omega)]
      rfl
  · rename_i e hu
    split at h
    case isFalse => exact h.elim
    rename_i hT
    obtain ⟨m, sz, xs, hr', h⟩ := asSl_elim h hr
    split at h
    case isFalse => exact h.elim
    rename_i hsz
    cases vmx with
    | some v => exact h3.elim
    | none =>
    obtain ⟨l, h, hl⟩ := optI_elim h h1
    obtain ⟨q, h, hq⟩ := optI_elim h h2
    obtain ⟨g0, g1, g2, hK⟩ := h
    obtain ⟨A, len, cap, rfl, hn, hc, hcut⟩ := cut_row hT hsz hr' l q g0 g1 g2
    refine ⟨_, _, ?_, by simp only [RA]; exact hcut cap false (by simp) (fun _ => rfl) (by omega) (Nat.le_refl _), hK⟩
    simp only [Instr.sliceAt, Instr.slice, Sem.run_bind, run_underlying hu, Result.andThen_ok, Instr.sliceBounds, Sem.run_pure]
    have hz := run_sizeOf' P e w hT
    rcases hq with ⟨rfl, rfl⟩ | ⟨k, rfl⟩ <;> rcases hl with ⟨rfl, rfl⟩ | ⟨k', rfl⟩
    · simp [hz, hn]
    · simp only [Sem.run_bind, Sem.run_pure, Result.andThen_ok]
      rw [run_bound P w k' l len _ g0 (by omega)]
      simp [hz, hn]
    · simp only [Sem.run_bind, Sem.run_pure, Result.andThen_ok]
      rw [run_bound P w k q cap _ (by omega) (by omega)]
      simp [hz]
    · simp only [Sem.run_bind, Sem.run_pure, Result.andThen_ok]
      simp only [if_true]
      rw [run_bound P w k q cap _ (by omega) (by omega)]
      simp only [Sem.run_bind, Sem.run_pure, Result.andThen_ok]
      rw [run_bound P w k' l q.toNat _ g0 (by omega)]
      simp [hz]
  · rename_i e mx' hu
    split at h
    case isFalse => exact h.elim
    rename_i hT
    obtain ⟨m, sz, xs, hr', h⟩ := asSl_elim h hr
    split at h
    case isFalse => exact h.elim
    rename_i hsz
    cases vmx with
    | none => exact h3.elim
    | some vm =>
    obtain ⟨l, h, hl⟩ := optI_elim h h1
    obtain ⟨kq, q, rfl, rfl, h⟩ := asI_elim h h3
    obtain ⟨hh, h, hq⟩ := optI_elim h h2
    obtain ⟨rfl, hsome, g0, g1, g2, hK⟩ := h
    obtain ⟨A, len, cap, rfl, hn, hc, hcut⟩ := cut_row hT hsz hr' l hh g0 g1 g2
    refine ⟨_, _, ?_, by simp only [RA]; exact hcut hh.toNat true (fun _ => by omega) (by simp) (by omega) (by omega), hK⟩
    have hz := run_sizeOf' P e w hT
    cases hi with
    | none => simp at hsome
    | some hi' =>
    rcases hq with ⟨rfl, _⟩ | ⟨k, rfl⟩
    · exact h2.elim
    simp only [Instr.sliceAt, Instr.slice, Sem.run_bind, run_underlying hu, Result.andThen_ok, Instr.sliceBounds, Sem.run_pure, if_true]
    rw [run_bound P w kq hh cap _ (by omega) (by omega)]
    simp only [Result.andThen_ok]
    rw [run_bound P w k hh hh.toNat _ (by omega) (by omega)]
    simp only [Result.andThen_ok]
    rcases hl with ⟨rfl, rfl⟩ | ⟨k', rfl⟩
    · simp [hz]
    · simp only [Sem.run_bind, Sem.run_pure, Result.andThen_ok]
      rw [run_bound P w k' l hh.toNat _ g0 (by omega)]
      simp [hz]
  · exact h.elim
theorem vCut_ok {P : Program} {G : Gh} {w : World} {t : Nat} {a : AV} {lo hi mx : Option AV} {u : Value} {vlo vhi vmx : Option Value} {K : AV → Prop} (h : vCut P t a lo hi mx K) (hr : RA G w a u) (h1 : optV G w lo vlo) (h2 : optV G w hi vhi) (h3 : optV G w mx vmx) :
    ∃ av v, (Instr.sliceAt t u vlo vhi vmx).run P w = .ok v w ∧ RA G w av v ∧ K av := by
  unfold vCut at h
  split at h
  case h_2 => exact vCutD_ok h hr h1 h2 h3
  unfold vCutZ at h
  split at h
  case h_2 => exact h.elim
  rename_i e k sz n hop hu hzr
  split at h
  case isFalse => exact h.elim
  rename_i hc
  simp only [Bool.and_eq_true, decide_eq_true_eq] at hc
  obtain ⟨hT, rfl⟩ := hc
  cases vhi with
  | none => exact h2.elim
  | some vh =>
  cases vlo with
  | some v => exact h1.elim
  | none =>
  cases vmx with
  | some v => exact h3.elim
  | none =>
  obtain ⟨kd, q, rfl, rfl, rfl, hK⟩ := asI_elim h h2
  simp only [RA] at hr
  obtain ⟨cap, rfl, hE, hZ⟩ := hr
  refine ⟨.own k (szOf P e) [], .slice (some ⟨G.β k, 0, none⟩) 0 cap, ?_, ?_, hK⟩
  · have hs := run_sizeOf' P e w hT
    by_cases hcz : cap = 0
    · subst hcz
      simp [Instr.sliceAt, Instr.slice, run_underlying hu, Instr.sliceBounds, run_bound P w kd 0 0 _ (by omega) (by omega), hs, Addr.add]
    · simp [Instr.sliceAt, Instr.slice, run_underlying hu, Instr.sliceBounds, run_bound P w kd 0 cap _ (by omega) (by omega), hs, Addr.add]
  · simp only [RA]
    refine .inr ⟨0, cap, rfl, Nat.zero_le _, by simp [hE], by omega, by omega, ?_⟩
    simp [RRow]
end Go.Qv
