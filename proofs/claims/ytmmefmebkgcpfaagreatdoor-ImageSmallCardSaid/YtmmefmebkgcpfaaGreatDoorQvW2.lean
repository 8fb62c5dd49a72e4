/- Regions whose order is drawn: every order by itself. Over any program. -/
import Derived.Test.YtmmefmebkgcpfaaGreatDoorQvW
namespace Go.Qv
open Go

def allE {α : Type} : List α → (α → Prop) → Prop
  | [], _ => True
  | [x], p => p x
  | x :: xs, p => p x ∧ allE xs p
theorem allE_mem {α : Type} {p : α → Prop} : ∀ {l : List α}, allE l p → ∀ x, x ∈ l → p x
  | [], _, x, hx => by cases hx
  | [y], h, x, hx => by
    have := List.mem_singleton.1 hx
    subst this
    exact h
  | y :: z :: ys, h, x, hx => by
    simp only [allE] at h
    rcases List.mem_cons.1 hx with rfl | hx
    · exact h.1
    · exact allE_mem h.2 x hx
def vcE (P : Program) (SP : Nat → List Sp) (ops : Array Oper) : Nat → Array Bool → St → (St → Prop) → Prop
  | 0, L, σ, K => (match Region.ready .any ops L with | [] => K σ | _ => False)
  | n + 1, L, σ, K => (match Region.ready .any ops L with
    | [] => K σ
    | i :: is => allE (i :: is) fun i => match ops[i]? with
      | none => False
      | some o => match o.guard with
        | none => opX P SP o σ fun av σ' => forceSt (putD σ' o.dst av) fun σ => vcE P SP ops n (L.setIfInBounds i true) σ K
        | some (j, want) => asB (gval σ ops j) fun b => CB (b == want)
          (opX P SP o (putG σ ops j want) fun av σ' => forceSt (putD σ' o.dst av) fun σ => vcE P SP ops n (L.setIfInBounds i true) σ K)
          (forceSt (putD (putG σ ops j (!want)) o.dst .no) fun σ => vcE P SP ops n (L.setIfInBounds i true) σ K))
theorem vcE_ok {P : Program} {SP : Nat → List Sp} {ops : Array Oper} {F : F0} {Q : Exit → Act → World → Prop} {K : St → Prop} (hK : ∀ σ' G' a' w', Sim F G' σ' a' w' → K σ' → Q .normal a' w') :
    ∀ (n : Nat) (L : Array Bool) (σ : St), vcE P SP ops n L σ K → ∀ G a w, Sim F G σ a w → wpAny P .any ops Q n L a w := by
  intro n
  induction n with
  | zero =>
    intro L σ h G a w hs
    simp only [vcE] at h
    split at h
    · rename_i hr
      exact ⟨hr, hK σ G a w hs h⟩
    · exact h.elim
  | succ n ih =>
    intro L σ h G a w hs
    simp only [vcE, forceSt_eq] at h
    refine ⟨fun hr => ?_, fun i hi => ?_⟩
    · rw [hr] at h
      exact hK σ G a w hs h
    · split at h
      · rename_i hr
        rw [hr] at hi; cases hi
      · rename_i i0 is hr
        rw [hr] at hi
        have h := allE_mem h i hi
        split at h
        · exact h.elim
        · rename_i o ho
          unfold wpOp
          rw [ho]
          simp only
          have run : ∀ σ, Sim F G σ a w → (opX P SP o σ fun av σ' => vcE P SP ops n (L.setIfInBounds i true) (putD σ' o.dst av) K) → Region.wanted o (yielded ops a.tmps) = true → (if Region.wanted o (yielded ops a.tmps) = true then o.wp P a w (wpAny P .any ops Q n (L.setIfInBounds i true)) Q ∨ (o.asks P a w ∧ LetsOut Q) else wpAny P .any ops Q n (L.setIfInBounds i true) (a.put o.dst undef) w) := by
            intro σ hs h hw
            rw [if_pos hw]
            exact .inl (opX_ok hs h fun av σ' G' u w' h1 h2 h3 => ih _ _ h3 G' _ w' (h1.putD o.dst av u h2))
          split at h
          · rename_i hg
            exact run σ hs h (by unfold Region.wanted; rw [hg])
          · rename_i j want hg
            obtain ⟨b, hb, h⟩ := asB_inv h
            have h' := CB.elim h
            have hgv := gval_ok hs hb
            split at h'
            · rename_i hbw
              have hbw : b = want := by simpa using hbw
              rw [hbw] at hb
              rw [putG_eq0 hb] at h'
              exact run σ hs h' (by unfold Region.wanted; rw [hg]; simp [hgv, hbw])
            · rename_i hbw
              have hw : Region.wanted o (yielded ops a.tmps) = false := by
                unfold Region.wanted
                rw [hg]
                simp only [hgv]
                simpa using hbw
              rw [if_neg (by rw [hw]; simp)]
              have hb' : b = !want := bool_ne (by simpa using hbw)
              rw [hb'] at hb
              rw [putG_eq0 hb] at h'
              exact ih _ _ h' G _ w (hs.putD o.dst .no undef (by simp only [RA]))
def vcDE (P : Program) (SP : Nat → List Sp) (ops : Array Oper) (T : Array Nat) (qs : List Nat) (mg en : Bool) (σ : St) (K : St → Prop) : Prop := match en with
  | true => if P.follows .mixedOrders then vcE P SP ops ops.size (Array.replicate ops.size false) σ K else False
  | false => vcD P SP ops T qs mg σ K
theorem vcDE_ok {P : Program} {SP : Nat → List Sp} {ops : Array Oper} {T : Array Nat} {qs : List Nat} {mg en : Bool} {F : F0} {Q : Exit → Act → World → Prop} (hQ : ∀ c a w, ¬ Q (.panic c) a w) {σ : St} {K : St → Prop} (h : vcDE P SP ops T qs mg en σ K) {G : Gh} {a : Act} {w : World} (hs : Sim F G σ a w) (hK : ∀ σ' G' a' w', Sim F G' σ' a' w' → K σ' → Q .normal a' w') {id : Nat} : (Code.region id ops true).wp P Q a w := by
  cases en with
  | false => exact vcD_ok hQ h hs hK
  | true =>
    simp only [vcDE] at h
    split at h
    case isFalse => exact h.elim
    rename_i hm
    exact wp_region_any hm (vcE_ok hK _ _ _ h G a _ hs.drawn)
end Go.Qv
namespace Go.Qv
open Go
/-- Operations in the text's order; each guard parts the ways. -/
def vcS (P : Program) (SP : Nat → List Sp) (ops : Array Oper) : List Nat → St → (St → Prop) → Prop
  | [], σ, K => K σ
  | i :: is, σ, K => match ops[i]? with
    | none => False
    | some o => match o.guard with
      | none => opX P SP o σ fun av σ' => forceSt (putD σ' o.dst av) fun σ => vcS P SP ops is σ K
      | some (j, want) => asB (gval σ ops j) fun b => CB (b == want)
        (opX P SP o (putG σ ops j want) fun av σ' => forceSt (putD σ' o.dst av) fun σ => vcS P SP ops is σ K)
        (forceSt (putD (putG σ ops j (!want)) o.dst .no) fun σ => vcS P SP ops is σ K)
theorem vcS_ok {P : Program} {SP : Nat → List Sp} {ops : Array Oper} {F : F0} {Q : Exit → Act → World → Prop} {K : St → Prop} (hK : ∀ σ' G' a' w', Sim F G' σ' a' w' → K σ' → Q .normal a' w') :
    ∀ (is : List Nat) (σ : St), vcS P SP ops is σ K → ∀ G a w, Sim F G σ a w → wpOps P ops Q is a w := by
  intro is
  induction is with
  | nil => intro σ h G a w hs; exact hK σ G a w hs h
  | cons i is ih =>
    intro σ h G a w hs
    simp only [vcS, forceSt_eq] at h
    split at h
    · exact h.elim
    · rename_i o ho
      split at h
      · rename_i hg
        exact wpOps_run ho (by unfold Region.wanted; rw [hg]) (opX_ok hs h fun av σ' G' u w' h1 h2 h3 => ih _ h3 G' _ w' (h1.putD o.dst av u h2))
      · rename_i j want hg
        obtain ⟨b, hb, h⟩ := asB_inv h
        have h' := CB.elim h
        have hgv := gval_ok hs hb
        split at h'
        · rename_i hbw
          have hbw : b = want := by simpa using hbw
          rw [hbw] at hb
          rw [putG_eq0 hb] at h'
          exact wpOps_run ho (by unfold Region.wanted; rw [hg]; simp [hgv, hbw]) (opX_ok hs h' fun av σ' G' u w' h1 h2 h3 => ih _ h3 G' _ w' (h1.putD o.dst av u h2))
        · rename_i hbw
          have hw : Region.wanted o (yielded ops a.tmps) = false := by
            unfold Region.wanted
            rw [hg]
            simp only [hgv]
            simpa using hbw
          have hb' : b = !want := bool_ne (by simpa using hbw)
          rw [hb'] at hb
          rw [putG_eq0 hb] at h'
          exact wpOps_skip ho hw (ih _ h' G _ w (hs.putD o.dst .no undef (by simp only [RA])))
end Go.Qv
