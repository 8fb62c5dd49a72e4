/- Operations that leave the world alone: what they come to on abstract values. Over any program. -/
import Derived.Test.YtmmefmebkgcpfaaGreatDoorQvC
namespace Go.Qv
open Go

/-! ### Constants and operands -/
def valS : Value → Option DV
  | .bool b => some (.bool b)
  | .int k n => some (.int k n)
  | .string s => some (.str s)
  | .slice none 0 0 => some (.sl .nil 0 [])
  | .pointer none => some .nilP
  | .map none => some .nilM
  | .nilFunc => some .nilF
  | .nilIface => some .nilI
  | _ => none
def valL : List Value → Option (List DV)
  | [] => some []
  | v :: vs => match valS v, valL vs with
    | some x, some xs => some (x :: xs)
    | _, _ => none
def valDV : Value → Option DV
  | .agg cs => match valL cs.toList with
    | some xs => some (.agg xs)
    | none => none
  | v => valS v
theorem valS_ok {w : World} {S : Nat → Nat} {v : Value} {x : DV} (h : valS v = some x) : R w S x v ∧ Val1 v = true := by
  unfold valS at h
  split at h <;> first | (cases h; refine ⟨?_, rfl⟩; first | rfl | skip) | cases h
  · simp only [R]
    have h0 : SM.ok .nil none 0 0 := And.intro (fun _ => And.intro rfl rfl) rfl
    exact ⟨none, 0, 0, rfl, rfl, Nat.le_refl _, h0, fun ad h => by cases h⟩
theorem valL_ok {w : World} {S : Nat → Nat} : ∀ {vs : List Value} {xs : List DV}, valL vs = some xs → RList w S xs vs ∧ ∀ v ∈ vs, Val1 v = true
  | [], xs, h => by
    simp only [valL, Option.some.injEq] at h; subst h
    exact ⟨by simp only [RList], fun v hv => by simp at hv⟩
  | v :: vs, xs, h => by
    simp only [valL] at h
    split at h
    · rename_i y ys h1 h2
      cases h
      obtain ⟨a, b⟩ := valL_ok (w := w) (S := S) h2
      refine ⟨⟨v, vs, rfl, (valS_ok h1).1, a⟩, fun u hu => ?_⟩
      rcases List.mem_cons.1 hu with rfl | hu
      · exact (valS_ok (w := w) (S := S) h1).2
      · exact b u hu
    · cases h
theorem valDV_ok {w : World} {S : Nat → Nat} {v : Value} {x : DV} (h : valDV v = some x) : R w S x v := by
  unfold valDV at h
  split at h
  · rename_i cs
    split at h
    · rename_i xs h1
      cases h
      obtain ⟨a, b⟩ := valL_ok (w := w) (S := S) h1
      simp only [R]
      exact ⟨cs, rfl, a, b⟩
    · cases h
  · exact (valS_ok h).1
def ev (σ : St) : Operand → AV
  | .tmp t => σ.env.getD t .no
  | .const v => match valDV v with
    | some x => .d x
    | none => .no
  | .global _ => .no
  | .func f => .fn f []
theorem ev_ok {F : F0} {G : Gh} {σ : St} {a : Act} {w : World} (h : Sim F G σ a w) (x : Operand) : RA G w (ev σ x) (a.eval x) := by
  cases x with
  | tmp t =>
    simp only [ev, Act.eval, List.getD_eq_getElem?_getD]
    cases e : σ.env[t]? with
    | none => simp [RA]
    | some av =>
      obtain ⟨u, hu, hr⟩ := h.env.get t av e
      simp only [Option.getD_some]
      rw [Array.getD_eq_getD_getElem?, ← Array.getElem?_toList, hu]
      exact hr
  | const v =>
    simp only [ev, Act.eval]
    split
    · rename_i x hx
      simp only [RA]
      exact valDV_ok hx
    · simp [RA]
  | global g => simp [ev, RA]
  | func f => exact ⟨#[], rfl, by simp [RAL]⟩

/-! ### Looking at values -/
def asB (a : AV) (K : Bool → Prop) : Prop := match a with | .d (.bool b) => K b | _ => False
def asI (a : AV) (K : IntKind → Int → Prop) : Prop := match a with | .d (.int k n) => K k n | _ => False
def asN (a : AV) (K : Int → Prop) : Prop := match a with | .d (.int .i64 n) => K n | _ => False
def asS (a : AV) (K : ByteArray → Prop) : Prop := match a with | .d (.str s) => K s | _ => False
def asSl (a : AV) (K : SM → Nat → List DV → Prop) : Prop := match a with | .d (.sl m sz xs) => K m sz xs | .own _ sz xs => K .any sz xs | _ => False
def allD : List AV → Option (List DV)
  | [] => some []
  | .d x :: as => match allD as with | some xs => some (x :: xs) | none => none
  | .own _ sz ys :: as => match allD as with | some xs => some (.sl .any sz ys :: xs) | none => none
  | _ => none
def mkAgg (cs : List AV) : AV := match allD cs with | some xs => .d (.agg xs) | none => .agg cs
def asD (a : AV) (K : DV → Prop) : Prop := match a with
  | .d x => K x
  | .own _ sz xs => K (.sl .any sz xs)
  | .agg cs => (match allD cs with | some xs => K (.agg xs) | none => False)
  | _ => False
/-- A struct of n cells, its cells laid open. -/
def exL : Nat → (List DV → Prop) → Prop
  | 0, K => K []
  | n + 1, K => ∃ c, exL n fun cs => K (c :: cs)
theorem exL_iff : ∀ (n : Nat) (K : List DV → Prop), exL n K ↔ ∃ cs : List DV, cs.length = n ∧ K cs
  | 0, K => ⟨fun h => ⟨[], rfl, h⟩, fun ⟨cs, h1, h2⟩ => by rw [List.eq_nil_of_length_eq_zero h1] at h2; exact h2⟩
  | n + 1, K => by
    simp only [exL]
    constructor
    · rintro ⟨c, h⟩
      obtain ⟨cs, h1, h2⟩ := (exL_iff n _).1 h
      exact ⟨c :: cs, by simp [h1], h2⟩
    · rintro ⟨cs, h1, h2⟩
      cases cs with
      | nil => simp at h1
      | cons c cs => exact ⟨c, (exL_iff n _).2 ⟨cs, by simpa using h1, h2⟩⟩
def cellsD : DV → Nat → (List DV → Prop) → Prop
  | .agg cs, n, K => if cs.length = n then K cs else False
  | x, n, K => exL n fun cs => x = .agg cs ∧ K cs
theorem cellsD_elim {x : DV} {n : Nat} {K : List DV → Prop} (h : cellsD x n K) : ∃ cs : List DV, x = .agg cs ∧ cs.length = n ∧ K cs := by
  unfold cellsD at h
  split at h
  · split at h
    · rename_i h1; exact ⟨_, rfl, h1, h⟩
    · exact h.elim
  · obtain ⟨cs, h1, h2, h3⟩ := (exL_iff _ _).1 h
    exact ⟨cs, h2, h1, h3⟩
section
variable {G : Gh} {w : World} {u : Value} {a : AV}
theorem asB_elim {K : Bool → Prop} (h : asB a K) (hr : RA G w a u) : ∃ b, a = .d (.bool b) ∧ u = .bool b ∧ K b := by
  unfold asB at h
  split at h
  · simp only [RA, R] at hr; exact ⟨_, rfl, hr, h⟩
  · exact h.elim
theorem asI_elim {K : IntKind → Int → Prop} (h : asI a K) (hr : RA G w a u) : ∃ k n, a = .d (.int k n) ∧ u = .int k n ∧ K k n := by
  unfold asI at h
  split at h
  · simp only [RA, R] at hr; exact ⟨_, _, rfl, hr, h⟩
  · exact h.elim
theorem asN_elim {K : Int → Prop} (h : asN a K) (hr : RA G w a u) : ∃ n, a = .d (.int .i64 n) ∧ u = .int .i64 n ∧ K n := by
  unfold asN at h
  split at h
  · simp only [RA, R] at hr; exact ⟨_, rfl, hr, h⟩
  · exact h.elim
theorem asS_elim {K : ByteArray → Prop} (h : asS a K) (hr : RA G w a u) : ∃ s, a = .d (.str s) ∧ u = .string s ∧ K s := by
  unfold asS at h
  split at h
  · simp only [RA, R] at hr; exact ⟨_, rfl, hr, h⟩
  · exact h.elim
theorem asSl_elim {K : SM → Nat → List DV → Prop} (h : asSl a K) (hr : RA G w a u) : ∃ m sz xs, R w G.S (.sl m sz xs) u ∧ K m sz xs := by
  unfold asSl at h
  split at h
  · simp only [RA] at hr; exact ⟨_, _, _, hr, h⟩
  · exact ⟨_, _, _, R_of_own (S := G.S) hr, h⟩
  · exact h.elim
end
theorem allD_ok {G : Gh} {w : World} : ∀ {as : List AV} {us : List Value} {xs : List DV}, allD as = some xs → RAL G w as us → RList w G.S xs us
  | [], us, xs, h, hr => by
    simp only [allD, Option.some.injEq] at h; subst h
    simpa only [RList, RAL] using hr
  | a :: as, us, xs, h, hr => by
    simp only [RAL] at hr
    obtain ⟨u, us', rfl, h1, h2⟩ := hr
    unfold allD at h
    split at h
    · rename_i heq
      cases heq
    · rename_i x as' heq
      cases heq
      split at h
      · rename_i xs' hx
        cases h
        simp only [RList]
        exact ⟨u, us', rfl, by simpa only [RA] using h1, allD_ok hx h2⟩
      · cases h
    · rename_i k sz ys as' heq
      cases heq
      split at h
      · rename_i xs' hx
        cases h
        simp only [RList]
        exact ⟨u, us', rfl, R_of_own (S := G.S) h1, allD_ok hx h2⟩
      · cases h
    · cases h
theorem mkAgg_ok {G : Gh} {w : World} {cs : List AV} {ys : Array Value} (h : RAL G w cs ys.toList) (h1 : ∀ y ∈ ys.toList, Val1 y = true) : RA G w (mkAgg cs) (.agg ys) := by
  unfold mkAgg
  split
  · rename_i xs hx
    simp only [RA, R]
    exact ⟨ys, rfl, allD_ok hx h, h1⟩
  · simp only [RA]
    exact ⟨ys, rfl, h, h1⟩
theorem asD_elim {G : Gh} {w : World} {u : Value} {a : AV} {K : DV → Prop} (h : asD a K) (hr : RA G w a u) : ∃ x, R w G.S x u ∧ K x := by
  unfold asD at h
  split at h
  · simp only [RA] at hr; exact ⟨_, hr, h⟩
  · exact ⟨_, R_of_own (S := G.S) hr, h⟩
  · split at h
    · rename_i xs hx
      simp only [RA] at hr
      obtain ⟨ys, rfl, h1, h2⟩ := hr
      refine ⟨_, ?_, h⟩
      simp only [R]
      exact ⟨ys, rfl, allD_ok hx h1, h2⟩
    · exact h.elim
  · exact h.elim

/-! ### Types -/
def szOf (P : Program) (t : Nat) : Nat := match P.info? t with | some i => i.size | none => 0
def isAg (P : Program) (t : Nat) : Bool := match P.underlying t with | some (.struct _) => true | some (.array _ _) => true | _ => false
def hasT (P : Program) (t : Nat) : Bool := (P.underlying t).isSome && (P.info? t).isSome
theorem run_isAgg (P : Program) (t : Nat) (w : World) (h : hasT P t = true) : (Go.isAgg t).run P w = .ok (isAg P t) w := by
  unfold hasT at h
  simp only [Bool.and_eq_true, Option.isSome_iff_exists] at h
  obtain ⟨⟨d, hd⟩, _⟩ := h
  unfold Go.isAgg isAg
  simp only [Sem.run_bind, run_underlying hd, Result.andThen_ok, hd]
  cases d <;> rfl
theorem run_sizeOf' (P : Program) (t : Nat) (w : World) (h : hasT P t = true) : (sizeOf t).run P w = .ok (szOf P t) w := by
  unfold hasT at h
  simp only [Bool.and_eq_true, Option.isSome_iff_exists] at h
  obtain ⟨_, i, hi⟩ := h
  unfold szOf sizeOf
  simp [typeInfo, hi]
def slElem (P : Program) (t : Nat) : Option Nat := match P.underlying t with | some (.slice e) => some e | _ => none
theorem slElem_eq {P : Program} {t e : Nat} (h : slElem P t = some e) : P.underlying t = some (.slice e) := by
  unfold slElem at h
  split at h
  · cases h; assumption
  · cases h
def fieldOf (P : Program) (t i : Nat) : Option Field := match P.underlying t with | some (.struct fs) => fs[i]? | _ => none
theorem fieldOf_eq {P : Program} {t i : Nat} {f : Field} (h : fieldOf P t i = some f) : ∃ fs, P.underlying t = some (.struct fs) ∧ fs[i]? = some f := by
  unfold fieldOf at h
  split at h
  · exact ⟨_, by assumption, h⟩
  · cases h

/-! ### Two operands -/
def bitsI (op : BinOp) (k : IntKind) (x y : Int) : Int :=
  k.wrap (match op with
    | .and => BitVec.toNat (BitVec.ofInt k.bits x &&& BitVec.ofInt k.bits y)
    | .or => BitVec.toNat (BitVec.ofInt k.bits x ||| BitVec.ofInt k.bits y)
    | .xor => BitVec.toNat (BitVec.ofInt k.bits x ^^^ BitVec.ofInt k.bits y)
    | _ => BitVec.toNat (BitVec.ofInt k.bits x &&& ~~~(BitVec.ofInt k.bits y)) : Nat)
def strEq (a b : ByteArray) : Bool := a.toList == b.toList
def strLt (a b : ByteArray) : Bool := Op.bytesLess a.toList b.toList
def binI (op : BinOp) (k : IntKind) (a b : Int) (K : DV → Prop) : Prop :=
  match op with
  | .add => K (.int k (k.wrap (a + b)))
  | .sub => K (.int k (k.wrap (a - b)))
  | .mul => K (.int k (k.wrap (a * b)))
  | .quo => b ≠ 0 ∧ K (.int k (k.wrap (a.tdiv b)))
  | .rem => b ≠ 0 ∧ K (.int k (a.tmod b))
  | .and => K (.int k (bitsI .and k a b))
  | .or => K (.int k (bitsI .or k a b))
  | .xor => K (.int k (bitsI .xor k a b))
  | .andNot => K (.int k (bitsI .andNot k a b))
  | .eql => K (.bool (a == b))
  | .neq => K (.bool (a != b))
  | .lss => K (.bool (decide (a < b)))
  | .leq => K (.bool (decide (a ≤ b)))
  | .gtr => K (.bool (decide (a > b)))
  | .geq => K (.bool (decide (a ≥ b)))
  | _ => False
def shiftI (op : BinOp) (k : IntKind) (a b : Int) (K : DV → Prop) : Prop :=
  match op with
  | .shl => 0 ≤ b ∧ K (.int k (k.wrap (a * 2 ^ (min b.toNat k.bits))))
  | .shr => 0 ≤ b ∧ K (.int k (a.fdiv (2 ^ (min b.toNat k.bits))))
  | _ => False
def isShift : BinOp → Bool | .shl | .shr => true | _ => false
def binS (op : BinOp) (a b : ByteArray) (K : DV → Prop) : Prop :=
  match op with
  | .add => a.size + b.size ≤ 9223372036854775807 ∧ K (.str (a ++ b))
  | .eql => K (.bool (strEq a b))
  | .neq => K (.bool (!strEq a b))
  | .lss => K (.bool (strLt a b))
  | .leq => K (.bool (strLt a b || strEq a b))
  | .gtr => K (.bool (!(strLt a b || strEq a b)))
  | .geq => K (.bool (!strLt a b))
  | _ => False
def isNilD : DV → Bool | .nilI => true | _ => false
def isIfD : DV → Bool | .nilI => true | .iface _ _ => true | _ => false
def nilB (x : DV) (K : Bool → Prop) : Prop := match isIfD x with | true => K (isNilD x) | false => False
def isC : Operand → Bool | .const _ => true | _ => false
def isIf (P : Program) (t : Nat) : Bool := match P.underlying t with | some (.interface _) => true | _ => false
/-- An interface value held against nil. -/
def binN (op : BinOp) (x : DV) (K : DV → Prop) : Prop :=
  match op with
  | .eql => nilB x fun b => K (.bool b)
  | .neq => nilB x fun b => K (.bool (!b))
  | _ => False
def binB (P : Program) (op : BinOp) (t : Nat) (a b : Bool) (K : DV → Prop) : Prop :=
  match P.underlying t, op with
  | some .bool, .eql => K (.bool (a == b))
  | some .bool, .neq => K (.bool (!(a == b)))
  | _, _ => False
def vBin (P : Program) (op : BinOp) (t : Nat) (x y : Operand) (ax ay : AV) (K : DV → Prop) : Prop :=
  match ay with
  | .d .nilI => if isIf P t && isC y then asD ax fun dx => binN op dx K else False
  | _ => match ax, ay with
    | .d (.int k a), .d (.int k' b) => if isShift op then shiftI op k a b K else if k = k' then binI op k a b K else False
    | .d (.str a), .d (.str b) => binS op a b K
    | .d (.bool a), .d (.bool b) => binB P op t a b K
    | _, _ => False

theorem binI_ok {P : Program} {w : World} {op : BinOp} {k : IntKind} {a b : Int} {K : DV → Prop} (t : Nat) (h : binI op k a b K) : ∃ x v, (binOp op t (.int k a) (.int k b)).run P w = .ok v w ∧ K x ∧ ∀ S, R w S x v := by
  unfold binI at h
  cases op <;> simp only at h
  all_goals first | exact h.elim | skip
  all_goals simp only [binOp, Op.intArith, Op.intDiv, Op.intBits, Op.intCmp, ne_eq, not_true_eq_false, if_false]
  case quo => exact ⟨_, _, by simp only [if_neg h.1]; rfl, h.2, fun _ => rfl⟩
  case rem => exact ⟨_, _, by simp only [if_neg h.1]; rfl, h.2, fun _ => rfl⟩
  all_goals exact ⟨_, _, rfl, h, fun _ => rfl⟩
theorem shiftI_ok {P : Program} {w : World} {op : BinOp} {k k' : IntKind} {a b : Int} {K : DV → Prop} (t : Nat) (h : shiftI op k a b K) : ∃ x v, (binOp op t (.int k a) (.int k' b)).run P w = .ok v w ∧ K x ∧ ∀ S, R w S x v := by
  unfold shiftI at h
  cases op <;> simp only at h
  all_goals first | exact h.elim | skip
  all_goals
    obtain ⟨h0, h⟩ := h
    have h0' : ¬ (b < 0) := by omega
    simp only [binOp, Op.shift, if_neg h0']
    exact ⟨_, _, rfl, h, fun _ => rfl⟩
theorem binS_ok {P : Program} {w : World} {op : BinOp} {a b : ByteArray} {K : DV → Prop} (t : Nat) (h : binS op a b K) : ∃ x v, (binOp op t (.string a) (.string b)).run P w = .ok v w ∧ K x ∧ ∀ S, R w S x v := by
  unfold binS at h
  cases op <;> simp only at h
  all_goals first | exact h.elim | skip
  all_goals simp only [binOp, Op.stringOp]
  case add =>
    have hm : ¬ (((a.size + b.size : Nat) : Int) > IntKind.i64.max) := by
      have : IntKind.i64.max = 9223372036854775807 := by decide
      rw [this]; omega
    rw [if_neg hm]
    exact ⟨_, _, rfl, h.2, fun _ => rfl⟩
  all_goals exact ⟨_, _, rfl, h, fun _ => rfl⟩
theorem guard_no {P : Program} {w : World} {op : BinOp} {t : Nat} {x y : Operand} {a b : Value} (h : (∀ c d, ¬ (a = .agg c ∧ b = .agg d)) ∧ (¬ (a = .nilIface ∧ b = .nilIface) ∨ isC y = true)) : (eqGuard op t x y a b).run P w = .ok () w := by
  unfold eqGuard
  cases op <;> simp only [Bool.not_true, Bool.not_false, Bool.false_eq_true, if_false, if_true, Sem.run_pure]
  all_goals
    split
    · rcases h.2 with h | h
      · exact absurd ⟨rfl, rfl⟩ h
      · unfold isC at h
        split at h
        · simp
        · cases h
    · exact absurd ⟨rfl, rfl⟩ (h.1 _ _)
    · rfl
theorem isIf_eq {P : Program} {t : Nat} (h : isIf P t = true) : ∃ ms, P.underlying t = some (.interface ms) := by
  unfold isIf at h
  split at h
  · exact ⟨_, by assumption⟩
  · cases h
theorem run_equalIn_nil {P : Program} {t : Nat} {ms : Array (String × TypeId)} (hms : P.underlying t = some (.interface ms)) (d : Nat) (w : World) : (Op.equalIn (d + 1) t .nilIface .nilIface).run P w = .ok true w := by
  simp only [Op.equalIn, Sem.run_bind, run_underlying hms, Result.andThen_ok, Sem.run_pure]
theorem run_equalIn_held {P : Program} {t : Nat} {ms : Array (String × TypeId)} (hms : P.underlying t = some (.interface ms)) (d : Nat) (w : World) (q : Nat) (v : Value) : (Op.equalIn (d + 1) t (.iface q v) .nilIface).run P w = .ok false w := by
  simp only [Op.equalIn, Sem.run_bind, run_underlying hms, Result.andThen_ok, Sem.run_pure]
theorem run_equalIn_bool {P : Program} {t : Nat} (hu : P.underlying t = some .bool) (d : Nat) (w : World) (a b : Bool) : (Op.equalIn (d + 1) t (.bool a) (.bool b)).run P w = .ok (a == b) w := by
  simp only [Op.equalIn, Sem.run_bind, run_underlying hu, Result.andThen_ok, Sem.run_pure]
theorem run_eq_nil {P : Program} {t : Nat} {ms : Array (String × TypeId)} (hms : P.underlying t = some (.interface ms)) (w : World) : (Op.equal t .nilIface .nilIface).run P w = .ok true w := run_equalIn_nil hms 9999 w
theorem run_eq_held {P : Program} {t : Nat} {ms : Array (String × TypeId)} (hms : P.underlying t = some (.interface ms)) (w : World) (q : Nat) (v : Value) : (Op.equal t (.iface q v) .nilIface).run P w = .ok false w := run_equalIn_held hms 9999 w q v
theorem run_eq_bool {P : Program} {t : Nat} (hu : P.underlying t = some .bool) (w : World) (a b : Bool) : (Op.equal t (.bool a) (.bool b)).run P w = .ok (a == b) w := run_equalIn_bool hu 9999 w a b
theorem vBin_ok {P : Program} {G : Gh} {w : World} {op : BinOp} {t : Nat} {x y : Operand} {ax ay : AV} {u v : Value} {K : DV → Prop} (h : vBin P op t x y ax ay K) (hx : RA G w ax u) (hy : RA G w ay v) :
    ∃ d r, (do eqGuard op t x y u v; binOp op t u v : Sem Value).run P w = .ok r w ∧ R w G.S d r ∧ K d := by
  unfold vBin at h
  split at h
  · split at h
    · rename_i hc
      simp only [Bool.and_eq_true] at hc
      obtain ⟨ms, hms⟩ := isIf_eq hc.1
      simp only [RA, R] at hy
      subst hy
      obtain ⟨dx, hdx, h⟩ := asD_elim h hx
      have hg : (eqGuard op t x y u .nilIface).run P w = .ok () w := guard_no (And.intro (fun c d e => nomatch e.2) (Or.inr hc.2))
      simp only [Sem.run_bind, hg, Result.andThen_ok]
      unfold binN at h
      cases op <;> simp only at h
      all_goals first | exact h.elim | skip
      all_goals
        unfold nilB at h
        split at h
        case h_2 => exact h.elim
        rename_i hif
        cases dx <;> first | (simp [isIfD] at hif; done) | skip
        all_goals simp only [isNilD] at h
        · simp only [R] at hdx
          obtain ⟨y', rfl, _⟩ := hdx
          simp only [binOp, Sem.run_bind, run_eq_held hms, Result.andThen_ok, Sem.run_pure]
          exact ⟨_, _, rfl, by simp only [R], h⟩
        · simp only [R] at hdx
          subst hdx
          simp only [binOp, Sem.run_bind, run_eq_nil hms, Result.andThen_ok, Sem.run_pure]
          exact ⟨_, _, rfl, by simp only [R], h⟩
    · exact h.elim
  · split at h
    · simp only [RA, R] at hx hy
      subst hx hy
      have hg : ∀ k k' a b, (eqGuard op t x y (.int k a) (.int k' b)).run P w = .ok () w := fun _ _ _ _ => guard_no (And.intro (fun c d e => nomatch e.1) (Or.inl fun e => nomatch e.1))
      simp only [Sem.run_bind, hg, Result.andThen_ok]
      split at h
      · obtain ⟨d, r, h1, h2, h3⟩ := shiftI_ok (P := P) (w := w) t h
        exact ⟨d, r, h1, h3 _, h2⟩
      · split at h
        · rename_i e
          subst e
          obtain ⟨d, r, h1, h2, h3⟩ := binI_ok (P := P) (w := w) t h
          exact ⟨d, r, h1, h3 _, h2⟩
        · exact h.elim
    · simp only [RA, R] at hx hy
      subst hx hy
      have hg : ∀ a b, (eqGuard op t x y (.string a) (.string b)).run P w = .ok () w := fun _ _ => guard_no (And.intro (fun c d e => nomatch e.1) (Or.inl fun e => nomatch e.1))
      simp only [Sem.run_bind, hg, Result.andThen_ok]
      obtain ⟨d, r, h1, h2, h3⟩ := binS_ok (P := P) (w := w) t h
      exact ⟨d, r, h1, h3 _, h2⟩
    · simp only [RA, R] at hx hy
      subst hx hy
      have hg : ∀ a b, (eqGuard op t x y (.bool a) (.bool b)).run P w = .ok () w := fun _ _ => guard_no (And.intro (fun c d e => nomatch e.1) (Or.inl fun e => nomatch e.1))
      simp only [Sem.run_bind, hg, Result.andThen_ok]
      unfold binB at h
      split at h
      · rename_i hu
        simp only [binOp, Sem.run_bind, run_eq_bool hu, Result.andThen_ok, Sem.run_pure]
        exact ⟨_, _, rfl, by simp only [R], h⟩
      · rename_i hu
        simp only [binOp, Sem.run_bind, run_eq_bool hu, Result.andThen_ok, Sem.run_pure]
        exact ⟨_, _, rfl, by simp only [R], h⟩
      · exact h.elim
    · exact h.elim
end Go.Qv
