/- Regions whose order is drawn: phases. Over any program. -/
import Derived.Test.YtmmefmebkgcpfaaGreatDoorQvV
namespace Go.Qv
open Go

def opIsT (SP : Nat → List Sp) (o : Oper) : Bool := match o.op with
  | .store .. | .makeSlice .. | .mapUpdate .. | .insert .. | .makeMap .. | .box .. | .range .. | .next .. => true
  | .call c => (match c.callee with
    | .builtin .append => true
    | .value (.func f) => !(SP f).isEmpty
    | .value _ => true
    | _ => false)
  | _ => false
def pwB (T : Array Nat) : List Nat → Bool
  | [] => true
  | i :: is => !tst T i i && (is.all (fun j => !tst T i j) && pwB T is)
theorem pwB_ok {T : Array Nat} : ∀ {is : List Nat}, pwB T is = true → is.Pairwise (fun i j => tst T i j = false) ∧ ∀ i, i ∈ is → tst T i i = false
  | [], _ => ⟨List.Pairwise.nil, fun i h => by cases h⟩
  | i :: is, h => by
    simp only [pwB, Bool.and_eq_true, Bool.not_eq_true', List.all_eq_true] at h
    obtain ⟨h1, h2, h3⟩ := h
    obtain ⟨g1, g2⟩ := pwB_ok h3
    refine ⟨List.pairwise_cons.2 ⟨h2, g1⟩, fun j hj => ?_⟩
    rcases List.mem_cons.1 hj with rfl | hj
    · exact h1
    · exact g2 j hj
def blockB (ops : Array Oper) (T : Array Nat) (done B rest : List Nat) : Bool := ordOk ops done B && (sepB T B rest && (decide (dsts ops B).Nodup && pwB T B))
def vcPh (P : Program) (SP : Nat → List Sp) (ops : Array Oper) (T : Array Nat) (isT : Nat → Bool) : Nat → List Nat → List Nat → St → (St → Prop) → Prop
  | _, _, [], σ, K => K σ
  | 0, _, _ :: _, _, _ => False
  | n + 1, done, t :: rest, σ, K =>
    if isT t then match ops[t]? with
      | none => False
      | some o => if ((bindsOf o).all fun k => done.contains k) && sepB T [t] rest then
          match o.guard with
          | none => opX P SP o σ fun av σ' => forceSt (putD σ' o.dst av) fun σ => vcPh P SP ops T isT n (t :: done) rest σ K
          | some (j, want) => asB (gval σ ops j) fun b => CB (b == want)
            (opX P SP o (putG σ ops j want) fun av σ' => forceSt (putD σ' o.dst av) fun σ => vcPh P SP ops T isT n (t :: done) rest σ K)
            (forceSt (putD (putG σ ops j (!want)) o.dst .no) fun σ => vcPh P SP ops T isT n (t :: done) rest σ K)
        else False
    else
      if blockB ops T done ((t :: rest).takeWhile fun i => !isT i) ((t :: rest).dropWhile fun i => !isT i) then
        vcB P ops T ((t :: rest).takeWhile fun i => !isT i) ((t :: rest).takeWhile fun i => !isT i) σ fun σe =>
          if allocsB ops T ((t :: rest).takeWhile fun i => !isT i) σe then vcPh P SP ops T isT n (((t :: rest).takeWhile fun i => !isT i) ++ done) ((t :: rest).dropWhile fun i => !isT i) σe K else False
      else False
theorem block_start {P : Program} {ops : Array Oper} {T : Array Nat} {F : F0} {Q : Exit → Act → World → Prop} (ht : tabOk ops T = true) {done B rest : List Nat} {σ : St} {K : St → Prop} (hcov : ∀ i, i < ops.size → i ∈ done ∨ i ∈ B ∨ i ∈ rest) (hdis : ∀ i, i ∈ B → i ∉ done) (hb : blockB ops T done B rest = true)
    (h : vcB P ops T B B σ K) (hK : ∀ σe, K σe → allocsB ops T B σe = true) {listed : Array Bool} {X : List Nat} {n : Nat} {G : Gh} {a : Act} {w : World} (hL : Lst ops T listed X) (hX : ∀ i, i ∈ X ↔ i ∈ done) (hn : n + X.length = ops.size) (hs : Sim F G σ a w)
    (next : ∀ σe, K σe → Ext ops B σ σe → ∀ listed X n G a w, Lst ops T listed X → (∀ i, i ∈ X ↔ i ∈ done ∨ i ∈ B) → n + X.length = ops.size → Sim F G σe a w → wpAny P .any ops Q n listed a w) : wpAny P .any ops Q n listed a w := by
  simp only [blockB, Bool.and_eq_true, decide_eq_true_eq] at hb
  obtain ⟨h1, h2, h3, h4⟩ := hb
  obtain ⟨p1, p2⟩ := pwB_ok h4
  obtain ⟨σe, hKe, hext, facts⟩ := vcB_facts h h3 (fun _ hi => hi) p1 p2
  refine block_ok ht hcov h1 h2 facts (hK σe hKe) (next σe hKe hext) _ listed X n G a w rfl hL (fun i hi => (hX i).2 hi) (fun i hi => .inl ((hX i).1 hi)) hn ?_
  have hu : unl B X = B := by
    refine List.filter_eq_self.2 fun i hi => ?_
    have : i ∉ X := fun hx => hdis i hi ((hX i).1 hx)
    simpa using this
  rw [hu, mask_ext hext (fun _ hi => hi)]
  have := hs
  rw [← mask_nil ops σ] at this
  exact this.masks fun i hi => by cases hi
theorem vcPh_ok {P : Program} {SP : Nat → List Sp} {ops : Array Oper} {T : Array Nat} {isT : Nat → Bool} {F : F0} {Q : Exit → Act → World → Prop} (ht : tabOk ops T = true) {K : St → Prop} (hK : ∀ σ' G' a' w', Sim F G' σ' a' w' → K σ' → Q .normal a' w') : ∀ (m : Nat) (done todo : List Nat) (σ : St), vcPh P SP ops T isT m done todo σ K →
    (∀ i, i < ops.size → i ∈ done ∨ i ∈ todo) → todo.Nodup → (∀ i, i ∈ todo → i ∉ done) → ∀ listed X n G a w, Lst ops T listed X → (∀ i, i ∈ X ↔ i ∈ done) → n + X.length = ops.size → Sim F G σ a w → wpAny P .any ops Q n listed a w := by
  intro m
  induction m with
  | zero =>
    intro done todo σ h hcov hnd hdis listed X n G a w hL hX hn hs
    cases todo with
    | nil =>
      simp only [vcPh] at h
      exact finished hL (fun i hi => (hX i).2 ((hcov i hi).resolve_right fun h => by cases h)) (hK _ _ _ _ hs h)
    | cons t rest => simp only [vcPh] at h
  | succ m ih =>
    intro done todo σ h hcov hnd hdis listed X n G a w hL hX hn hs
    cases todo with
    | nil =>
      simp only [vcPh] at h
      exact finished hL (fun i hi => (hX i).2 ((hcov i hi).resolve_right fun h => by cases h)) (hK _ _ _ _ hs h)
    | cons t rest =>
      simp only [vcPh, forceSt_eq] at h
      split at h
      · split at h
        · exact h.elim
        rename_i o ho
        split at h
        case isFalse => exact h.elim
        rename_i hc
        simp only [Bool.and_eq_true, List.all_eq_true, List.contains_eq_mem, decide_eq_true_eq] at hc
        obtain ⟨hc1, hc2⟩ := hc
        have htX : t ∉ X := fun hx => hdis t (List.mem_cons_self ..) ((hX t).1 hx)
        have htl : t < ops.size := (Array.getElem?_eq_some_iff.1 ho).1
        refine play ht hL hn (hL.mk_ready ho htX fun k hk => (hX k).2 (hc1 k hk)) ?_
        intro i oi n' hoi hiX hlt hD hL' hn'
        have hit : i = t := by
          rcases hcov i hlt with h | h
          · exact absurd ((hX i).2 h) hiX
          · rcases List.mem_cons.1 h with h | h
            · exact h
            · have h1 := List.all_eq_true.1 (List.all_eq_true.1 hc2 i h) t (List.mem_cons_self ..)
              exact absurd (hD t htl h1) htX
        subst hit
        rw [ho] at hoi; cases hoi
        have step : ∀ σ', vcPh P SP ops T isT m (i :: done) rest σ' K → ∀ G' a' w', Sim F G' σ' a' w' → wpAny P .any ops Q n' (listed.setIfInBounds i true) a' w' := by
          intro σ' h' G' a' w' hs'
          refine ih (i :: done) rest σ' h' (fun k hk => ?_) (List.nodup_cons.1 hnd).2 (fun k hk => ?_) _ (i :: X) n' G' a' w' hL' (fun k => ?_) hn' hs'
          · rcases hcov k hk with h | h
            · exact .inl (List.mem_cons_of_mem _ h)
            · rcases List.mem_cons.1 h with rfl | h
              · exact .inl (List.mem_cons_self ..)
              · exact .inr h
          · intro hm
            rcases List.mem_cons.1 hm with rfl | hm
            · exact (List.nodup_cons.1 hnd).1 hk
            · exact hdis k (List.mem_cons_of_mem _ hk) hm
          · simp only [List.mem_cons, hX]
        unfold wpOp
        rw [ho]
        simp only
        have run : (opX P SP o σ fun av σ' => vcPh P SP ops T isT m (i :: done) rest (putD σ' o.dst av) K) → Region.wanted o (yielded ops a.tmps) = true → (if Region.wanted o (yielded ops a.tmps) = true then o.wp P a w (wpAny P .any ops Q n' (listed.setIfInBounds i true)) Q ∨ (o.asks P a w ∧ LetsOut Q) else wpAny P .any ops Q n' (listed.setIfInBounds i true) (a.put o.dst undef) w) := by
          intro h hw
          rw [if_pos hw]
          exact .inl (opX_ok hs h fun av σ' G' u w' h1 h2 h3 => step _ h3 G' _ w' (h1.putD o.dst av u h2))
        split at h
        · rename_i hg
          exact run h (by unfold Region.wanted; rw [hg])
        · rename_i j want hg
          obtain ⟨b, hb, h⟩ := asB_inv h
          have h' := CB.elim h
          have hgv := gval_ok hs hb
          split at h'
          · rename_i hbw
            have hbw : b = want := by simpa using hbw
            rw [hbw] at hb
            rw [putG_eq0 hb] at h'
            exact run h' (by unfold Region.wanted; rw [hg]; simp [hgv, hbw])
          · rename_i hbw
            have hw : Region.wanted o (yielded ops a.tmps) = false := by
              unfold Region.wanted
              rw [hg]
              simp only [hgv]
              simpa using hbw
            rw [if_neg (by rw [hw]; simp)]
            have hb' : b = !want := bool_ne (by simpa using hbw)
            rw [hb'] at hb
            rw [putG_eq0 hb] at h'
            exact step _ h' G _ w (hs.putD o.dst .no undef (by simp only [RA]))
      · rename_i hnT
        split at h
        case isFalse => exact h.elim
        rename_i hb
        obtain ⟨B, hB⟩ : ∃ B, B = (t :: rest).takeWhile fun i => !isT i := ⟨_, rfl⟩
        obtain ⟨R, hR⟩ : ∃ R, R = (t :: rest).dropWhile fun i => !isT i := ⟨_, rfl⟩
        rw [← hB, ← hR] at h hb
        have hBR : t :: rest = B ++ R := by rw [hB, hR]; exact (List.takeWhile_append_dropWhile).symm
        rw [hBR] at hcov hnd hdis
        refine block_start ht (K := fun σe => if allocsB ops T B σe = true then vcPh P SP ops T isT m (B ++ done) R σe K else False) (fun i hi => ?_) (fun i hi => hdis i (List.mem_append_left _ hi)) hb h (fun σe he => ?_) hL hX hn hs ?_
        · rcases hcov i hi with h | h
          · exact .inl h
          · exact .inr (List.mem_append.1 h)
        · split at he
          · assumption
          · exact he.elim
        · intro σe he _ listed X n G a w hL hX hn hs
          split at he
          case isFalse => exact he.elim
          refine ih _ R σe he (fun i hi => ?_) (List.nodup_append.1 hnd).2.1 (fun i hi hm => ?_) listed X n G a w hL (fun i => ?_) hn hs
          · rcases hcov i hi with h | h
            · exact .inl (List.mem_append_right _ h)
            · rcases List.mem_append.1 h with h | h
              · exact .inl (List.mem_append_left _ h)
              · exact .inr h
          · rcases List.mem_append.1 hm with h | h
            · exact (List.nodup_append.1 hnd).2.2 i h i hi rfl
            · exact hdis i (List.mem_append_right _ hi) h
          · rw [hX, List.mem_append, Or.comm]

/-! ### What hangs on nothing is taken first -/
def takeList (ops : Array Oper) : List Nat :=
  ((List.range ops.size).foldl (fun (p : List Nat × Array Bool) i => match ops[i]? with
    | some o => (match o.op, o.guard with
      | .move _, none => if Region.free .any ops p.2 i && (Region.ready .any ops p.2).contains i then (i :: p.1, p.2.setIfInBounds i true) else p
      | _, _ => p)
    | none => p) ([], Array.replicate ops.size false)).1.reverse
def vcTk (ops : Array Oper) : List Nat → Array Bool → List Nat → St → (List Nat → St → Prop) → Prop
  | [], _, done, σ, K => K done σ
  | i :: is, L, done, σ, K => match ops[i]? with
    | some o => (match o.op, o.guard with
      | .move x, none => if Region.free .any ops L i && (Region.ready .any ops L).contains i then forceSt (putD σ o.dst (ev σ x)) fun σ => vcTk ops is (L.setIfInBounds i true) (i :: done) σ K else False
      | _, _ => False)
    | none => False
theorem vcTk_ok {P : Program} {ops : Array Oper} {T : Array Nat} {F : F0} {Q : Exit → Act → World → Prop} (ht : tabOk ops T = true) (hsel : Region.noSelect ops = true) (hQ : ∀ c a w, ¬ Q (.panic c) a w) {K : List Nat → St → Prop} :
    ∀ (is : List Nat) (listed : Array Bool) (X : List Nat) (σ : St), vcTk ops is listed X σ K → ∀ n G a w, Lst ops T listed X → n + X.length = ops.size → Sim F G σ a w →
      (∀ listed X σ n G a w, K X σ → Lst ops T listed X → n + X.length = ops.size → Sim F G σ a w → wpAny P .any ops Q n listed a w) → wpAny P .any ops Q n listed a w
  | [], listed, X, σ, h, n, G, a, w, hL, hn, hs, next => next listed X σ n G a w h hL hn hs
  | i :: is, listed, X, σ, h, n, G, a, w, hL, hn, hs, next => by
    simp only [vcTk, forceSt_eq] at h
    split at h
    case h_2 => exact h.elim
    rename_i o ho
    split at h
    case h_2 => exact h.elim
    rename_i x hop hg
    split at h
    case isFalse => exact h.elim
    rename_i hc
    simp only [Bool.and_eq_true] at hc
    obtain ⟨hfree, hready⟩ := hc
    have hr : i ∈ Region.ready .any ops listed := by simpa using hready
    obtain ⟨_, _, hiX, hlt, hD, hL'⟩ := hL.of_ready ht hr
    have hle := nodup_bound ops.size (i :: X) hL'.nodup hL'.lt
    simp only [List.length_cons] at hle
    obtain ⟨n', rfl⟩ : ∃ n', n = n' + 1 := ⟨n - 1, by omega⟩
    refine wpAny_take (v := a.eval x) ho hsel hfree hready (fun c a w h => absurd h (hQ c _ w)) (.inl ⟨by unfold Region.wanted; rw [hg], fun w => ?_⟩) (vcTk_ok ht hsel hQ is _ (i :: X) _ h n' G _ w hL' (by simp only [List.length_cons]; omega) (hs.putD o.dst (ev σ x) (a.eval x) (ev_ok hs x)) next)
    simp [execOp, hop]

def needTk (ops : Array Oper) (T : Array Nat) (isT : Nat → Bool) : Bool :=
  (List.range ops.size).any fun t => isT t && (List.range ops.size).any fun i => !(i == t) && !tst T t i && !tst T i t && (match ops[i]? with | some o => (match o.op, o.guard with | .move _, none => true | _, _ => false) | none => false)
def lastOf : List Nat → Nat
  | [] => 0
  | [i] => i
  | _ :: is => lastOf is
def guarded (ops : Array Oper) (i : Nat) : Bool := match ops[i]? with | some o => o.guard.isSome | none => false
/-- A region whose order is drawn. 'qs': operations that count as quiet; 'mg': where all are quiet and some are guarded, nothing but the last one's flag goes on. -/
def vcD (P : Program) (SP : Nat → List Sp) (ops : Array Oper) (T : Array Nat) (qs : List Nat) (mg : Bool) (σ : St) (K : St → Prop) : Prop :=
  if P.follows .mixedOrders && (tabOk ops T && Region.noSelect ops) then
    vcTk ops (if needTk ops T (fun i => !qs.contains i && (match ops[i]? with | some o => opIsT SP o | none => false)) then takeList ops else []) (Array.replicate ops.size false) [] σ fun done σ =>
      if mg && (((List.range ops.size).filter fun i => !done.contains i).any (guarded ops) && ((List.range ops.size).filter fun i => !done.contains i).all fun i => !(!qs.contains i && (match ops[i]? with | some o => opIsT SP o | none => false))) then
        if blockB ops T done ((List.range ops.size).filter fun i => !done.contains i) [] then
          ∃ r : Bool, (vcB P ops T ((List.range ops.size).filter fun i => !done.contains i) ((List.range ops.size).filter fun i => !done.contains i) σ fun σe =>
            if allocsB ops T ((List.range ops.size).filter fun i => !done.contains i) σe then (match gval σe ops (lastOf ((List.range ops.size).filter fun i => !done.contains i)) with | .d (.bool b) => b = r | _ => False) else False) ∧
            K (putD (setNos (dsts ops ((List.range ops.size).filter fun i => !done.contains i)) σ) (dstOf ops (lastOf ((List.range ops.size).filter fun i => !done.contains i))) (.d (.bool r)))
        else False
      else vcPh P SP ops T (fun i => !qs.contains i && (match ops[i]? with | some o => opIsT SP o | none => false)) ops.size done ((List.range ops.size).filter fun i => !done.contains i) σ K
  else False
theorem vcD_ok {P : Program} {SP : Nat → List Sp} {ops : Array Oper} {T : Array Nat} {qs : List Nat} {mg : Bool} {F : F0} {Q : Exit → Act → World → Prop} (hQ : ∀ c a w, ¬ Q (.panic c) a w) {σ : St} {K : St → Prop} (h : vcD P SP ops T qs mg σ K) {G : Gh} {a : Act} {w : World} (hs : Sim F G σ a w) (hK : ∀ σ' G' a' w', Sim F G' σ' a' w' → K σ' → Q .normal a' w') {id : Nat} : (Code.region id ops true).wp P Q a w := by
  unfold vcD at h
  split at h
  case isFalse => exact h.elim
  rename_i hc
  simp only [Bool.and_eq_true] at hc
  obtain ⟨hm, ht, hsel⟩ := hc
  refine wp_region_any hm (vcTk_ok ht hsel hQ _ _ [] _ h ops.size G a _ ?_ (by simp) hs.drawn ?_)
  · exact ⟨by simp, fun i hi => (by simp [hi]), fun i h => (by cases h), List.nodup_nil, fun i h => (by cases h)⟩
  · intro listed X σ n G a w h hL hn hs
    have hcov : ∀ i, i < ops.size → i ∈ X ∨ i ∈ (List.range ops.size).filter fun i => !X.contains i := by
      intro i hi
      by_cases hx : i ∈ X
      · exact .inl hx
      · refine .inr ?_
        simp [hi, hx]
    have hnd : ((List.range ops.size).filter fun i => !X.contains i).Nodup := List.nodup_range.sublist List.filter_sublist
    have hdis : ∀ i, i ∈ ((List.range ops.size).filter fun i => !X.contains i) → i ∉ X := by
      intro i hi
      simpa using (List.mem_filter.1 hi).2
    split at h
    · split at h
      case isFalse => exact h.elim
      rename_i hb
      obtain ⟨B, hB⟩ : ∃ B, B = (List.range ops.size).filter fun i => !X.contains i := ⟨_, rfl⟩
      rw [← hB] at h hb hcov hnd hdis
      obtain ⟨r, h, hr⟩ := h
      refine block_start ht (rest := []) (fun i hi => ?_) hdis hb h (fun σe he => ?_) hL (fun i => Iff.rfl) hn hs ?_
      · rcases hcov i hi with h | h
        · exact .inl h
        · exact .inr (.inl h)
      · split at he
        · assumption
        · exact he.elim
      · intro σe he hext listed X' n G a w hL hX hn hs
        split at he
        case isFalse => exact he.elim
        refine finished hL (fun i hi => (hX i).2 (hcov i hi)) (hK _ G _ _ ?_ hr)
        have hgv : gval σe ops (lastOf B) = .d (.bool r) := by
          split at he
          · rename_i b hb'
            rw [hb', he]
          · exact he.elim
        refine hs.weak ?_ ?_ ?_
        · refine RAL.ofGet ?_ fun i x u hx hu => ?_
          · rw [hs.env.len, hext.len]
            cases dstOf ops (lastOf B) <;> simp [putD, setNos]
          · obtain ⟨y, hy, hry⟩ := hs.env.get' i u hu
            cases e : dstOf ops (lastOf B) with
            | none =>
              unfold gval at hgv
              rw [e] at hgv
              cases hgv
            | some d =>
              rw [e] at hx
              simp only [putD, List.getElem?_set] at hx
              unfold gval at hgv
              rw [e] at hgv
              simp only [List.getD_eq_getElem?_getD] at hgv
              split at hx
              · subst_vars
                split at hx
                · cases hx
                  rw [hy] at hgv
                  simp only [Option.getD_some] at hgv
                  rw [← hgv]; exact hry
                · cases hx
              · rw [setNos_get] at hx
                cases e2 : σ.env[i]? with
                | none => rw [e2] at hx; cases hx
                | some z =>
                  rw [e2] at hx
                  simp only [Option.map_some, Option.some.injEq] at hx
                  by_cases hq : i ∈ dsts ops B
                  · rw [if_pos (by simpa using hq)] at hx
                    subst hx; simp only [RA]
                  · rw [if_neg (by simpa using hq)] at hx
                    subst hx
                    have := hext.env i hq
                    rw [e2, hy] at this
                    cases this
                    exact hry
        · intro p hp
          have hp' : p ∈ σ.objs := by
            revert hp
            cases dstOf ops (lastOf B) <;> exact fun h => h
          obtain ⟨⟨new, h1, _⟩, _⟩ := hext
          rw [h1]
          exact List.mem_append_right _ hp'
        · intro k hk
          have hk' : k ∈ σ.rooms := by
            revert hk
            cases dstOf ops (lastOf B) <;> exact fun h => h
          rw [hext.rooms]
          exact hk'
    · exact vcPh_ok ht hK _ _ _ _ h hcov hnd hdis listed X n G a w hL (fun i => Iff.rfl) hn hs
end Go.Qv
