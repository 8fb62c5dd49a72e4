/- Regions: operations one after the other, some of them guarded. Over any program. -/
import Derived.Test.YtmmefmebkgcpfaaGreatDoorQvN
namespace Go.Qv
open Go

/-! ### Appending to what is tight: data comes of it -/
def vAppQ (P : Program) (t t2 : Nat) (s x : AV) (K : AV → Prop) : Prop :=
  match slElem P t, s with
  | some e, .d (.sl m sz' xs) => if hasT P e && decide (0 < szOf P e) && decide (0 < bytesOfT P e) && zeroOk P e && (m.tight && (sz' == szOf P e || xs.isEmpty)) then
      appArg P x t2 e (szOf P e) fun ys => (xs.length + ys.length) * bytesOfT P e ≤ 140737488355328 ∧ K (.d (.sl .any (szOf P e) (xs ++ ys)))
    else False
  | _, _ => False
theorem vAppQ_ok {P : Program} {F : F0} {G : Gh} {σ : St} {a : Act} {w : World} (hs : Sim F G σ a w) {o : Oper} {t t2 : Nat} {s x : Operand} (ho : o.op = .call { callee := .builtin .append, args := #[s, x], argTypes := #[t, t2] }) {sv xv : AV} (hsv : RA G w sv (a.eval s)) (hxv : RA G w xv (a.eval x)) {K : AV → Prop} {next : Act → World → Prop} {Q : Exit → Act → World → Prop}
    (h : vAppQ P t t2 sv xv K) (hn : ∀ av G' u w', Sim F G' σ a w' → RA G' w' av u → K av → next (a.put o.dst u) w') : o.wp P a w next Q := by
  unfold vAppQ at h
  split at h
  case h_2 => exact h.elim
  rename_i e m sz' xs he
  split at h
  case isFalse => exact h.elim
  rename_i hc
  simp only [Bool.and_eq_true, decide_eq_true_eq] at hc
  obtain ⟨⟨⟨⟨hT, hsz0⟩, hby0⟩, hzz⟩, htight⟩ := hc
  have hu := slElem_eq he
  have hT' := hT
  unfold hasT at hT'
  simp only [Bool.and_eq_true, Option.isSome_iff_exists] at hT'
  obtain ⟨_, i, hi⟩ := hT'
  have esz : i.size = szOf P e := by simp [szOf, hi]
  have eby : i.bytes = bytesOfT P e := by simp [bytesOfT, hi]
  obtain ⟨z, hz, zsz⟩ : ∃ z, i.zero = some z ∧ z.cells.size = szOf P e := by
    unfold zeroOk at hzz
    rw [hi] at hzz
    simp only at hzz
    split at hzz
    · rename_i v hv
      exact ⟨v, hv, by rw [← esz]; simpa using hzz⟩
    · cases hzz
  have hsrc : appSrc (.d (.sl m sz' xs)) (szOf P e) σ (fun k zs => k = none ∧ zs = xs) := by
    unfold appSrc
    simp only [Bool.and_eq_true] at htight ⊢
    rw [if_pos htight]
    simp
  obtain ⟨k, zs, ⟨rfl, rfl⟩, ⟨A, cap, hv, hcap, hnil, hrow, hown⟩⟩ := appSrc_ok hs hsz0 hsrc hsv
  have hce : cap = zs.length := by
    rcases hown with h | ⟨j, _, _, _, e, _⟩
    · exact h
    · cases e
  obtain ⟨ys, news, ut, ⟨hlim, hK⟩, ht2, hut, hnews, hx1, hx2⟩ := appArg_ok h hxv
  rw [← esz] at hx2
  have hexec : ∀ v w', (Builtin.append_ #[t, t2] o.type #[a.eval s, a.eval x]).run P w = .ok v w' → (execOp a.eval o).run P w = .ok (.value v) w' := by
    intro v w' hr
    simp [execOp, ho, resolve, invoke, builtin, hr]
  rw [hv] at hexec
  have hlenA : (zs ++ ys).length = zs.length + ys.length := List.length_append
  by_cases hroom : zs.length + ys.length ≤ cap
  · have hrun := run_app_room (ty := o.type) hu hi ht2 hut (A := A) hx1 hx2 hroom
    have hy0 : ys = [] := List.eq_nil_of_length_eq_zero (by omega)
    subst hy0
    have hn0 : news = [] := List.eq_nil_of_length_eq_zero (by rw [hnews.len]; simp)
    subst hn0
    simp only [List.length_nil, Nat.add_zero] at hrun
    cases A with
    | none =>
      obtain ⟨hx0, hc0⟩ := hnil rfl
      subst hx0 hc0
      refine wp_value (hexec _ w hrun) (hn _ G _ w hs ?_ hK)
      simp only [RA, R, List.append_nil]
      exact ⟨none, _, _, rfl, rfl, Nat.le_refl _, And.intro (fun _ => And.intro rfl rfl) trivial, fun ad h => by cases h⟩
    | some ad =>
      obtain ⟨e1, e2, e3⟩ := hrow ad rfl
      obtain ⟨bb, oo, ss⟩ := ad
      simp only at e1 e2 e3
      subst e1
      have hrun' : (Builtin.append_ #[t, t2] o.type #[.slice (some ⟨bb, oo, none⟩) zs.length cap, a.eval x]).run P w = .ok (.slice (some ⟨bb, oo, none⟩) zs.length cap) w := by
        rw [hrun]; simp [storeCells]
      refine wp_value (hexec _ w hrun') (hn _ G _ w hs ?_ hK)
      simp only [RA, R, List.append_nil]
      exact ⟨_, _, _, rfl, rfl, hcap, And.intro (fun h => nomatch h) trivial, fun ad h => by cases h; exact ⟨rfl, e2, e3⟩⟩
  · obtain ⟨olds, go1, go2, go3⟩ := firstCells_row (P := P) (w := w) (S := G.S) (A := A) (n := zs.length) (cap := cap) (sz := szOf P e) (ds := zs) rfl (fun ha => by rw [(hnil ha).1]; rfl) (fun ad had => ⟨(hrow ad had).1, (hrow ad had).2.2⟩)
    obtain ⟨newCap, hnc, hrun⟩ := run_app_grow (ty := o.type) hu hi hz ht2 hut hx1 hx2 (by rw [esz]; exact go2) (by omega) (by rw [eby]; exact hby0) (by rw [eby]; exact hlim)
    have hfr0 : Fr F w.drew G.S := ⟨hs.fr.os, hs.fr.tape, hs.fr.output, hs.fr.size, hs.fr.keep, ⟨hs.fr.pres.le, hs.fr.pres.cell⟩, hs.fr.fin⟩
    have hp : Pres w G.S (w.drew.alloc (.cells (olds.toArray ++ news.toArray ++ Builtin.zeroCells z.cells (newCap - (zs.length + ys.length))) e)) (upto G.S w.heap.size ((zs ++ ys).length * szOf P e)) :=
      ⟨(Pres.alloc (w := w.drew) hfr0.fin (.cells (olds.toArray ++ news.toArray ++ Builtin.zeroCells z.cells (newCap - (zs.length + ys.length))) e) _).le, (Pres.alloc (w := w.drew) hfr0.fin (.cells (olds.toArray ++ news.toArray ++ Builtin.zeroCells z.cells (newCap - (zs.length + ys.length))) e) ((zs ++ ys).length * szOf P e)).cell⟩
    have hsz1 : ∀ j, Live G σ.objs σ.rooms j → G.β j ≠ w.heap.size := fun j hj => Nat.ne_of_lt (hj.lt hs)
    have hat : (w.drew.alloc (.cells (olds.toArray ++ news.toArray ++ Builtin.zeroCells z.cells (newCap - (zs.length + ys.length))) e)).heap[w.heap.size]? = some (.cells (olds.toArray ++ news.toArray ++ Builtin.zeroCells z.cells (newCap - (zs.length + ys.length))) e (0, 0)) := heap_alloc_at w.drew (.cells (olds.toArray ++ news.toArray ++ Builtin.zeroCells z.cells (newCap - (zs.length + ys.length))) e)
    refine wp_value (hexec _ _ hrun) (hn _ { G with S := upto G.S w.heap.size ((zs ++ ys).length * szOf P e) } _ _ (hs.upd (fun _ => True) (Gh.But.all G _) hp (fun _ _ => trivial) (fun _ _ => trivial) (fun _ _ => trivial) (fun _ _ => trivial) (fun j hj => ⟨heap_alloc_old w.drew _ _ (hsz1 j hj), upto_ne _ _ (hsz1 j hj)⟩) (hfr0.alloc _ _)) ?_ hK)
    simp only [RA, R]
    refine ⟨_, _, _, rfl, hlenA.symm, by omega, And.intro (fun h => nomatch h) trivial, fun ad h => ?_⟩
    cases h
    refine ⟨rfl, by simp [upto_same], ?_⟩
    have hall := (go1.append hnews).mono hp
    refine hall.row fun q c hq => ?_
    rw [cl_of_heap hat, Nat.zero_add]
    have hlt := (List.getElem?_eq_some_iff.1 hq).1
    rw [Array.getElem?_append_left (by simpa using hlt)]
    simpa using hq

/-! ### Operations that leave the state alone (data may be made) -/
def opQ (P : Program) (o : Oper) (σ : St) (K : AV → Prop) : Prop :=
  match o.op with
  | .buildSlice t len ps => vLit P t len (ps.toList.map fun p => (p.1, ev σ p.2)) K
  | .call c => match c.callee with
    | .builtin .append => (match c.args.toList, c.argTypes.toList with
      | [s, x], [t, t2] => vAppQ P t t2 (ev σ s) (ev σ x) K
      | _, _ => False)
    | .value fo => (match ev σ fo with
      | .fn f cap => if callable P f then vCallS P f (o.dst.getD 0) (c.args.toList.map (ev σ) ++ cap) σ (fun av _ => K av) [pureSp (c.args.toList.map (ev σ) ++ cap).length (resPA P f)] else False
      | _ => False)
    | _ => opV P o σ K
  | _ => opV P o σ K
theorem callSt_nil (σ : St) : callSt σ [] [] [] [] = σ := rfl
theorem matchL_d : ∀ (n : Nat) (as : List AV) (m : List (Nat × Nat)), matchL (List.replicate n .d) as = some m → m = []
  | 0, as, m, h => by cases as <;> simp [matchL] at h; exact h
  | n + 1, [], m, h => by simp [List.replicate_succ, matchL] at h
  | n + 1, a :: as, m, h => by
    simp only [List.replicate_succ, matchL, matchA] at h
    split at h
    · rename_i m1 m2 h1 h2
      cases h1
      cases h
      rw [matchL_d n as _ h2]; rfl
    · cases h
theorem vCallQ_ok {P : Program} {F : F0} {G : Gh} {σ : St} {a : Act} {w : World} {σb : St} (hs : Sim F G σb a w) {f d : Nat} {args : List AV} {vs : List Value} (hargs : RAL G w args vs) {n : Nat} {k : PA} {K : AV → Prop} (h : vCallS P f d args σ (fun av _ => K av) [pureSp n k]) :
    Calls P f vs.toArray w fun e w' => ∃ v G' av, e = .returned v ∧ Sim F G' σb a w' ∧ RA G' w' av v ∧ K av := by
  simp only [vCallS] at h
  split at h
  case h_2 => exact h.elim
  rename_i m hm
  split at h
  case isFalse => exact h.elim
  rename_i hp
  have hm0 : m = [] := by
    unfold matchSp pureSp at hm
    simp only at hm
    split at hm
    · rename_i m0 hm0
      have := matchL_d n args m0 hm0
      subst this
      simpa [matchO, addNew] using hm.symm
    · cases hm
  subst hm0
  obtain ⟨bs, h, hb⟩ := normL_elim h hargs
  obtain ⟨r, h⟩ := exPA_elim _ h
  simp only [pureSp, exObs] at h
  obtain ⟨hf, hK⟩ := h
  refine (call_ok hs hp hb hf).mono ?_
  rintro e w' ⟨v, G', h1, h2, h3⟩
  exact ⟨v, G', _, h1, h2, h3, hK⟩
theorem opQ_ok2 {P : Program} {F : F0} {G : Gh} {σ σb : St} {a : Act} {w : World} (hs : Sim F G σ a w) (hb : Sim F G σb a w) {o : Oper} {K : AV → Prop} {next : Act → World → Prop} {Q : Exit → Act → World → Prop} (h : opQ P o σ K)
    (hn : ∀ av G' u w', Sim F G' σb a w' → RA G' w' av u → K av → next (a.put o.dst u) w') : o.wp P a w next Q := by
  have quiet : opV P o σ K → o.wp P a w next Q := by
    intro h
    obtain ⟨av, u, h1, h2, h3⟩ := opV_ok hs h
    exact wp_value h1 (hn _ _ _ _ hb h2 h3)
  unfold opQ at h
  split at h
  · rename_i t len ps hop
    exact vLit_ok hs hb hop h hn
  · rename_i c hop
    split at h
    · rename_i hc
      split at h
      · rename_i s x t t2 ha ht
        refine vAppQ_ok hb ?_ (ev_ok hs s) (ev_ok hs x) h hn
        rw [hop]
        obtain ⟨cc, ca, ct⟩ := c
        simp only at hc ha ht
        rw [hc, show ca = #[s, x] by rw [← ha], show ct = #[t, t2] by rw [← ht]]
      · exact h.elim
    · rename_i fo hc
      have hg := ev_ok hs fo
      split at h
      case h_2 => exact h.elim
      rename_i f cap he
      rw [he] at hg
      simp only [RA] at hg
      obtain ⟨cs, hg, hcs⟩ := hg
      split at h
      case isFalse => exact h.elim
      rename_i hcall
      have hargs := (RAL.evs hs c.args.toList).append hcs
      refine wp_enter (f := f) (args := (c.args.toList.map a.eval ++ cs.toList).toArray) ?_ ((vCallQ_ok hb hargs h).mono ?_)
      · simp only [execOp, hop, Sem.run_bind, resolve, hc, Deferred.ofValue, hg, Sem.run_pure, Result.andThen_ok, invoke, callable_ok hcall]
        congr 2
        simp
      · rintro e w' ⟨v, G', av, h1, h2, h3, h4⟩
        exact ⟨v, h1, hn _ _ _ _ h2 h3 h4⟩
    · exact quiet h
  · exact quiet h
theorem opQ_ok {P : Program} {F : F0} {G : Gh} {σ : St} {a : Act} {w : World} (hs : Sim F G σ a w) {o : Oper} {K : AV → Prop} {next : Act → World → Prop} {Q : Exit → Act → World → Prop} (h : opQ P o σ K)
    (hn : ∀ av G' u w', Sim F G' σ a w' → RA G' w' av u → K av → next (a.put o.dst u) w') : o.wp P a w next Q := opQ_ok2 hs hs h hn
end Go.Qv
