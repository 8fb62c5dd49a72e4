/- append. Over any program. -/
import Derived.Test.YtmmefmebkgcpfaaGreatDoorQvJ
namespace Go.Qv
open Go

/-- The cells of a row of data, side by side. -/
structure RNews (w : World) (S : Nat → Nat) (ds : List DV) (sz : Nat) (news : List Value) : Prop where
  len : news.length = ds.length * sz
  one : ∀ c ∈ news, Val1 c = true
  el : ∀ i d, ds[i]? = some d → ∃ y : Value, R w S d y ∧ y.cells.size = sz ∧ (∀ c ∈ y.cells.toList, Val1 c = true) ∧ ∀ j, j < sz → news[i * sz + j]? = y.cells[j]?
theorem RNews.nil (w : World) (S : Nat → Nat) (sz : Nat) : RNews w S [] sz [] := ⟨by simp, by simp, by simp⟩
theorem RNews.append {w : World} {S : Nat → Nat} {ds es : List DV} {sz : Nat} {m n : List Value} (h : RNews w S ds sz m) (k : RNews w S es sz n) : RNews w S (ds ++ es) sz (m ++ n) where
  len := by rw [List.length_append, h.len, k.len, List.length_append, Nat.add_mul]
  one := fun c hc => by
    rcases List.mem_append.1 hc with hc | hc
    · exact h.one c hc
    · exact k.one c hc
  el := fun i d hi => by
    by_cases hlt : i < ds.length
    · rw [List.getElem?_append_left hlt] at hi
      obtain ⟨y, h1, h2, h3, h4⟩ := h.el i d hi
      refine ⟨y, h1, h2, h3, fun j hj => ?_⟩
      rw [← h4 j hj, List.getElem?_append_left]
      rw [h.len]
      have : (i + 1) * sz ≤ ds.length * sz := Nat.mul_le_mul_right _ hlt
      rw [Nat.add_mul, Nat.one_mul] at this
      omega
    · rw [List.getElem?_append_right (by omega)] at hi
      obtain ⟨y, h1, h2, h3, h4⟩ := k.el (i - ds.length) d hi
      refine ⟨y, h1, h2, h3, fun j hj => ?_⟩
      have hm : i * sz = ds.length * sz + (i - ds.length) * sz := by rw [← Nat.add_mul]; congr 1; omega
      rw [← h4 j hj, List.getElem?_append_right (by rw [h.len]; omega), h.len]
      congr 1; omega
theorem RNews.mono {w w' : World} {S S' : Nat → Nat} (h : Pres w S w' S') {ds : List DV} {sz : Nat} {m : List Value} (k : RNews w S ds sz m) : RNews w' S' ds sz m :=
  ⟨k.len, k.one, fun i d hi => by
    obtain ⟨y, h1, h2, h3, h4⟩ := k.el i d hi
    exact ⟨y, R.mono h d y h1, h2, h3, h4⟩⟩
theorem RNews.row {w : World} {S : Nat → Nat} {ds : List DV} {sz : Nat} {m : List Value} (k : RNews w S ds sz m) {b off : Nat} (hc : ∀ (j : Nat) (c : Value), m[j]? = some c → cl w b (off + j) = some c) : RRow w S ds sz b off := RRow.mk fun i d hi => by
  obtain ⟨y, h1, h2, h3, h4⟩ := k.el i d hi
  refine ⟨y, h1, h2, h3, fun j hj => ?_⟩
  have hs : ∃ c, y.cells[j]? = some c := ⟨y.cells[j]'(by omega), by simp [show j < y.cells.size by omega]⟩
  obtain ⟨c, hcj⟩ := hs
  rw [hcj, Nat.add_assoc]
  exact hc _ c (by rw [h4 j hj, hcj])
theorem RRow.news {w : World} {S : Nat → Nat} {sz b : Nat} : ∀ {ds : List DV} {off : Nat}, RRow w S ds sz b off → ∃ m, RNews w S ds sz m ∧ ∀ (j : Nat) (c : Value), m[j]? = some c → cl w b (off + j) = some c
  | [], off, _ => ⟨[], RNews.nil w S sz, by simp⟩
  | d :: ds, off, h => by
    simp only [RRow] at h
    obtain ⟨⟨y, h1, h2, h3, h4⟩, h⟩ := h
    obtain ⟨m, g1, g2⟩ := RRow.news h
    have hy : RNews w S [d] sz y.cells.toList := ⟨by rw [Array.length_toList, h2]; simp, h3, fun i e hi => by
      cases i with
      | zero => simp at hi; subst hi; exact ⟨y, h1, h2, h3, fun j hj => by simp⟩
      | succ i => simp at hi⟩
    refine ⟨y.cells.toList ++ m, hy.append g1, fun j c hj => ?_⟩
    by_cases hlt : j < sz
    · rw [List.getElem?_append_left (by rw [Array.length_toList, h2]; exact hlt), Array.getElem?_toList] at hj
      rw [h4 j hlt]; exact hj
    · rw [List.getElem?_append_right (by rw [Array.length_toList, h2]; omega), Array.length_toList, h2] at hj
      have := g2 (j - sz) c hj
      rw [← this]; congr 1; omega

/-! ### What Go's append does -/
theorem cl_heap {w w' : World} (h : w'.heap = w.heap) (b i : Nat) : cl w' b i = cl w b i := by
  unfold cl World.cell?
  rw [h]
section
variable {P : Program} {w : World} {t t2 ty e : Nat} {i : TypeInfo} {z : Value}
theorem run_app_room (ht : P.underlying t = some (.slice e)) (hi : P.info? e = some i) {u : TypeDesc} (h2 : P.underlying t2 = some u) (hu : u = .string ∨ ∃ e', u = .slice e') {A : Option Addr} {n cap m : Nat} {x : Value} {news : List Value}
    (hx1 : (Builtin.lenOf x).run P w = .ok m w) (hx2 : ∀ wd : World, wd.heap = w.heap → (Builtin.firstCells i.size m x).run P wd = .ok news.toArray wd) (hroom : n + m ≤ cap) :
    (Builtin.append_ #[t, t2] ty #[.slice A n cap, x]).run P w = (match A with | some a => ((storeCells (a.add (n * i.size)) news).run P w).andThen fun _ w' => .ok (.slice A (n + m) cap) w' | none => .ok (.slice A (n + m) cap) w) := by
  have hx2' := hx2 w rfl
  rcases hu with rfl | ⟨e', rfl⟩
  · cases A with
    | none => simp [Builtin.append_, run_underlying ht, run_underlying h2, sizeOf, typeInfo, hi, hx1, hx2', hroom]
    | some a => simp [Builtin.append_, run_underlying ht, run_underlying h2, sizeOf, typeInfo, hi, hx1, hx2', hroom]
  · cases A with
    | none => simp [Builtin.append_, run_underlying ht, run_underlying h2, sizeOf, typeInfo, hi, hx1, hx2', hroom]
    | some a => simp [Builtin.append_, run_underlying ht, run_underlying h2, sizeOf, typeInfo, hi, hx1, hx2', hroom]
theorem run_app_grow (ht : P.underlying t = some (.slice e)) (hi : P.info? e = some i) (hz : i.zero = some z) {u : TypeDesc} (h2 : P.underlying t2 = some u) (hu : u = .string ∨ ∃ e', u = .slice e') {A : Option Addr} {n cap m : Nat} {x : Value} {olds news : List Value}
    (hx1 : (Builtin.lenOf x).run P w = .ok m w) (hx2 : ∀ wd : World, wd.heap = w.heap → (Builtin.firstCells i.size m x).run P wd = .ok news.toArray wd)
    (ho : ∀ wd : World, wd.heap = w.heap → (Builtin.firstCells i.size n (.slice A n cap)).run P wd = .ok olds.toArray wd) (hg : cap < n + m) (hb0 : 0 < i.bytes) (hby : (n + m) * i.bytes ≤ 140737488355328) :
    ∃ newCap, n + m ≤ newCap ∧ (Builtin.append_ #[t, t2] ty #[.slice A n cap, x]).run P w = .ok (.slice (some ⟨w.heap.size, 0, none⟩) (n + m) newCap)
      (w.drew.alloc (.cells (olds.toArray ++ news.toArray ++ Builtin.zeroCells z.cells (newCap - (n + m))) e)) := by
  have hx2' := hx2 w.drew rfl
  have ho' := ho w.drew rfl
  have hfit := growslice_fits (bytes := i.bytes) hg hby
  have h48 : ¬ (281474976710656 < Builtin.nextslicecap (n + m) cap * i.bytes) := by omega
  refine ⟨grownCap w (n + m) cap e, grownCap_ge w (n + m) cap e, ?_⟩
  have hng : ¬ (n + m ≤ cap) := by omega
  have hb' : ¬ (i.bytes = 0) := by omega
  rcases hu with rfl | ⟨e', rfl⟩
  · simp [Builtin.append_, run_underlying ht, run_underlying h2, sizeOf, typeInfo, zeroValue, hi, hz, hx1, hng, hb', h48, Question.forced, newRow, grownCap, ho', hx2']
    rw [← Array.append_assoc]
    simp
  · simp [Builtin.append_, run_underlying ht, run_underlying h2, sizeOf, typeInfo, zeroValue, hi, hz, hx1, hng, hb', h48, Question.forced, newRow, grownCap, ho', hx2']
    rw [← Array.append_assoc]
    simp
end

/-! ### append on a state -/
def bytesOfT (P : Program) (t : Nat) : Nat := match P.info? t with | some i => i.bytes | none => 0
def bytesDV (s : ByteArray) : List DV := s.data.toList.map fun b => .int .u8 (b.toNat : Int)
def SM.tight : SM → Bool | .nil | .full | .cap0 => true | _ => false
def zeroOk (P : Program) (t : Nat) : Bool := match P.info? t with | some i => (match i.zero with | some v => v.cells.size == i.size | none => false) | none => false
def appSrc (s : AV) (sz : Nat) (σ : St) (K : Option Nat → List DV → Prop) : Prop :=
  match s with
  | .own k sz' xs => if sz' == sz && σ.rooms.contains k then K (some k) xs else False
  | .d (.sl m sz' xs) => if m.tight && (sz' == sz || xs.isEmpty) then K none xs else False
  | _ => False
def appArg (P : Program) (x : AV) (t2 e sz : Nat) (K : List DV → Prop) : Prop :=
  match P.underlying t2, x with
  | some (.slice _), .d (.sl _ sz' ys) => if sz' == sz || ys.isEmpty then K ys else False
  | some (.slice _), .own _ sz' ys => if sz' == sz then K ys else False
  | some .string, .d (.str s) => if sz == 1 then K (bytesDV s) else False
  | _, _ => False
def appSt (σ : St) (k : Option Nat) (d : Nat) : St :=
  let σ1 := match k with | some k => (σ.kill k).kill d | none => σ.kill d
  { σ1 with rooms := d :: σ1.rooms }
def vApp (P : Program) (t t2 d : Nat) (s x : AV) (σ : St) (K : AV → St → Prop) : Prop :=
  match slElem P t with
  | some e => if hasT P e && decide (0 < szOf P e) && decide (0 < bytesOfT P e) && zeroOk P e && decide (d < 100000) then
      appSrc s (szOf P e) σ fun k xs => appArg P x t2 e (szOf P e) fun ys => (xs.length + ys.length) * bytesOfT P e ≤ 140737488355328 ∧ K (.own d (szOf P e) (xs ++ ys)) (appSt σ k d)
    else False
  | none => False
theorem firstCells_row {P : Program} {w : World} {S : Nat → Nat} {A : Option Addr} {n cap sz : Nat} {ds : List DV} (hn : n = ds.length) (ha : A = none → n = 0) (hx : ∀ ad, A = some ad → ad.spot = none ∧ RRow w S ds sz ad.block ad.off) :
    ∃ m, RNews w S ds sz m ∧ (∀ wd : World, wd.heap = w.heap → (Builtin.firstCells sz n (.slice A n cap)).run P wd = .ok m.toArray wd) ∧ ∀ ad, A = some ad → ∀ (j : Nat) (c : Value), m[j]? = some c → cl w ad.block (ad.off + j) = some c := by
  cases A with
  | none =>
    have : ds = [] := List.eq_nil_of_length_eq_zero (by rw [← hn]; exact ha rfl)
    subst this
    exact ⟨[], RNews.nil w S sz, fun wd _ => rfl, fun ad h => by cases h⟩
  | some ad =>
    obtain ⟨h1, h2⟩ := hx ad rfl
    obtain ⟨m, g1, g2⟩ := h2.news
    obtain ⟨b, off, sp⟩ := ad
    simp only at h1; subst h1
    refine ⟨m, g1, fun wd hw => ?_, fun ad h => by cases h; exact g2⟩
    simp only [Builtin.firstCells]
    exact run_loadCells P wd b off m _ (by rw [g1.len, hn]) fun j y hj => by rw [cl_heap hw]; exact g2 j y hj
theorem appArg_ok {P : Program} {G : Gh} {w : World} {x : AV} {t2 e sz : Nat} {u : Value} {K : List DV → Prop} (h : appArg P x t2 e sz K) (hr : RA G w x u) :
    ∃ ys news ut, K ys ∧ P.underlying t2 = some ut ∧ (ut = .string ∨ ∃ e', ut = .slice e') ∧ RNews w G.S ys sz news ∧ (Builtin.lenOf u).run P w = .ok ys.length w ∧ ∀ wd : World, wd.heap = w.heap → (Builtin.firstCells sz ys.length u).run P wd = .ok news.toArray wd := by
  have sl : ∀ (m : SM) (sz' : Nat) (ys : List DV), (sz' == sz || ys.isEmpty) = true → R w G.S (.sl m sz' ys) u → ∃ news, RNews w G.S ys sz news ∧ (Builtin.lenOf u).run P w = .ok ys.length w ∧ ∀ wd : World, wd.heap = w.heap → (Builtin.firstCells sz ys.length u).run P wd = .ok news.toArray wd := by
    intro m sz' ys hc hr
    simp only [R] at hr
    obtain ⟨A, n, cap, rfl, hn, hcap, hm, hx⟩ := hr
    simp only [Bool.or_eq_true, beq_iff_eq, List.isEmpty_iff] at hc
    obtain ⟨m', g1, g2, _⟩ := firstCells_row (P := P) (w := w) (S := G.S) (A := A) (n := n) (cap := cap) (sz := sz) (ds := ys) hn (fun ha => (hm.1 ha).1) (fun ad had => by
      obtain ⟨e1, _, e3⟩ := hx ad had
      refine ⟨e1, ?_⟩
      rcases hc with rfl | rfl
      · exact e3
      · simp [RRow])
    subst hn
    exact ⟨m', g1, rfl, g2⟩
  unfold appArg at h
  split at h
  · rename_i hu
    split at h
    case isFalse => exact h.elim
    rename_i hc
    simp only [RA] at hr
    obtain ⟨news, g1, g2, g3⟩ := sl _ _ _ hc hr
    exact ⟨_, news, _, h, hu, .inr ⟨_, rfl⟩, g1, g2, g3⟩
  · rename_i hu
    split at h
    case isFalse => exact h.elim
    rename_i hc
    obtain ⟨news, g1, g2, g3⟩ := sl _ _ _ (by simp only [hc, Bool.true_or]) (R_of_own (S := G.S) hr)
    exact ⟨_, news, _, h, hu, .inr ⟨_, rfl⟩, g1, g2, g3⟩
  · rename_i s hu
    split at h
    case isFalse => exact h.elim
    rename_i hc
    have hc' : sz = 1 := by simpa using hc
    subst hc'
    simp only [RA, R] at hr; subst hr
    have hlen : (bytesDV s).length = s.size := by simp [bytesDV]
    refine ⟨bytesDV s, s.data.toList.map (fun b => Value.int .u8 (b.toNat : Int)), _, h, hu, .inl rfl, ⟨by simp [bytesDV], ?_, ?_⟩, ?_, ?_⟩
    · intro c hc
      simp only [List.mem_map] at hc
      obtain ⟨b, _, rfl⟩ := hc; rfl
    · intro i d hi
      simp only [bytesDV, List.getElem?_map] at hi
      cases hb : s.data.toList[i]? with
      | none => rw [hb] at hi; simp at hi
      | some b =>
        rw [hb] at hi
        simp only [Option.map_some, Option.some.injEq] at hi
        subst hi
        refine ⟨.int .u8 (b.toNat : Int), by simp only [R], rfl, by simp [Value.cells, Val1], fun j hj => ?_⟩
        have : j = 0 := by omega
        subst this
        simp only [Nat.mul_one, Nat.add_zero, List.getElem?_map, hb, Option.map_some]
        rfl
    · rw [hlen]; rfl
    · intro wd _
      rw [hlen]
      simp only [Builtin.firstCells, Sem.run_pure]
      congr 1
      apply Array.ext'
      simp
  · exact h.elim

theorem ok_any {a : Option Addr} {n cap : Nat} (h : a = none → n = 0 ∧ cap = 0) : SM.ok .any a n cap := And.intro h trivial
/-- What is known of a slice that may be appended to. -/
structure Src (G : Gh) (w : World) (σ : St) (sz : Nat) (xs : List DV) (v : Value) (k : Option Nat) : Prop where
  mk ::
  out : ∃ A cap, v = .slice A xs.length cap ∧ xs.length ≤ cap ∧ (A = none → xs = [] ∧ cap = 0) ∧ (∀ ad, A = some ad → ad.spot = none ∧ ad.off + xs.length * sz ≤ G.S ad.block ∧ RRow w G.S xs sz ad.block ad.off) ∧
    (cap = xs.length ∨ ∃ j off ys T, k = some j ∧ Live G σ.objs σ.rooms j ∧ A = some ⟨G.β j, off, none⟩ ∧ off + xs.length * sz = G.S (G.β j) ∧ w.heap[G.β j]? = some (.cells ys T (0, 0)) ∧ off + cap * sz ≤ ys.size)
theorem appSrc_ok {F : F0} {G : Gh} {σ : St} {a : Act} {w : World} (hs : Sim F G σ a w) {s : AV} {sz : Nat} {v : Value} {K : Option Nat → List DV → Prop} (h0 : 0 < sz) (h : appSrc s sz σ K) (hr : RA G w s v) : ∃ k xs, K k xs ∧ Src G w σ sz xs v k := by
  unfold appSrc at h
  split at h
  · rename_i j sz' xs
    split at h
    case isFalse => exact h.elim
    rename_i hc
    simp only [Bool.and_eq_true, beq_iff_eq, List.contains_iff_mem] at hc
    obtain ⟨rfl, hj⟩ := hc
    refine ⟨_, _, h, ⟨?_⟩⟩
    simp only [RA] at hr
    rcases hr with ⟨rfl, rfl⟩ | ⟨off, cap, rfl, h1, h2, h3, h4, h5⟩
    · exact ⟨none, 0, rfl, Nat.le_refl _, fun _ => ⟨rfl, rfl⟩, (fun ad h => nomatch h), .inl rfl⟩
    · refine ⟨_, cap, rfl, h1, (fun h => nomatch h), fun ad had => ?_, ?_⟩
      · cases had
        exact ⟨rfl, by simp only; omega, h5⟩
      · rcases hs.ctx.okR j hj with e | ⟨ys, T, g1, g2, g3⟩
        · left
          have : cap * sz' ≤ xs.length * sz' := by omega
          have := Nat.le_of_mul_le_mul_right this h0
          omega
        · by_cases hz : G.Z j = G.E j
          · left
            have : cap * sz' ≤ xs.length * sz' := by omega
            have := Nat.le_of_mul_le_mul_right this h0
            omega
          · exact .inr ⟨j, off, ys, T, rfl, .inr ⟨hj, hz⟩, rfl, by omega, g1, by omega⟩
  · rename_i m sz' xs
    split at h
    case isFalse => exact h.elim
    rename_i hc
    simp only [Bool.and_eq_true, Bool.or_eq_true, beq_iff_eq, List.isEmpty_iff] at hc
    obtain ⟨hm0, hc⟩ := hc
    refine ⟨_, _, h, ⟨?_⟩⟩
    simp only [RA, R] at hr
    obtain ⟨A, n, cap, rfl, hn, hcap, hm, hx⟩ := hr
    subst hn
    refine ⟨A, cap, rfl, hcap, fun ha => ⟨List.eq_nil_of_length_eq_zero (hm.1 ha).1, (hm.1 ha).2⟩, fun ad had => ?_, .inl ?_⟩
    · obtain ⟨e1, e2, e3⟩ := hx ad had
      rcases hc with rfl | rfl
      · exact ⟨e1, e2, e3⟩
      · refine ⟨e1, ?_, by simp [RRow]⟩
        simp only [List.length_nil, Nat.zero_mul] at e2 ⊢
        exact e2
    · cases m with
      | nil => obtain ⟨h1, h2⟩ := hm; simp only at h2; have := h1 h2; omega
      | any => simp [SM.tight] at hm0
      | nn => simp [SM.tight] at hm0
      | full => exact hm.2.2
      | cap0 => exact hm.2
  · exact h.elim
theorem appSt_live {G : Gh} {σ : St} {k : Option Nat} {d j : Nat} (h : Live G (match k with | some k => (σ.kill k).kill d | none => σ.kill d).objs (match k with | some k => (σ.kill k).kill d | none => σ.kill d).rooms j) : Live G σ.objs σ.rooms j ∧ j ≠ d ∧ ∀ i, k = some i → j ≠ i := by
  cases k with
  | none => exact ⟨h.kill.1, h.kill.2, fun i e => by cases e⟩
  | some k => exact ⟨h.kill.1.kill.1, h.kill.2, fun i e => by cases e; exact h.kill.1.kill.2⟩
theorem vApp_ok {P : Program} {F : F0} {G : Gh} {σ : St} {a : Act} {w : World} (hs : Sim F G σ a w) {o : Oper} {t t2 d : Nat} {s x : Operand} (ho : o.op = .call { callee := .builtin .append, args := #[s, x], argTypes := #[t, t2] }) {K : AV → St → Prop} {next : Act → World → Prop} {Q : Exit → Act → World → Prop}
    (h : vApp P t t2 d (ev σ s) (ev σ x) σ K) (hn : Nxt P o a F next K) : o.wp P a w next Q := by
  unfold vApp at h
  split at h
  case h_2 => exact h.elim
  rename_i e he
  split at h
  case isFalse => exact h.elim
  rename_i hc
  simp only [Bool.and_eq_true, decide_eq_true_eq] at hc
  obtain ⟨⟨⟨⟨hT, hsz0⟩, hby0⟩, hzz⟩, hd⟩ := hc
  have hu := slElem_eq he
  have hT' := hT
  unfold hasT at hT'
  simp only [Bool.and_eq_true, Option.isSome_iff_exists] at hT'
  obtain ⟨_, i, hi⟩ := hT'
  have esz : i.size = szOf P e := by simp [szOf, hi]
  have eby : i.bytes = bytesOfT P e := by simp [bytesOfT, hi]
  obtain ⟨z, hz, zsz⟩ : ∃ z, i.zero = some z ∧ z.cells.size = szOf P e := by
    unfold zeroOk at hzz
    rw [hi] at hzz
    simp only at hzz
    split at hzz
    · rename_i v hv
      exact ⟨v, hv, by rw [← esz]; simpa using hzz⟩
    · cases hzz
  obtain ⟨k, xs, h, ⟨A, cap, hv, hcap, hnil, hrow, hown⟩⟩ := appSrc_ok hs hsz0 h (ev_ok hs s)
  obtain ⟨ys, news, ut, ⟨hlim, hK⟩, ht2, hut, hnews, hx1, hx2⟩ := appArg_ok h (ev_ok hs x)
  rw [← esz] at hx2
  have hexec : ∀ v w', (Builtin.append_ #[t, t2] o.type #[a.eval s, a.eval x]).run P w = .ok v w' → (execOp a.eval o).run P w = .ok (.value v) w' := by
    intro v w' hr
    simp [execOp, ho, resolve, invoke, builtin, hr]
  -- the state that is gone on with, but for the new room
  obtain ⟨σ1, hσ1⟩ : ∃ σ1, σ1 = (match k with | some k => (σ.kill k).kill d | none => σ.kill d) := ⟨_, rfl⟩
  have hs1 : Sim F G σ1 a w := by
    subst hσ1
    cases k with
    | none => exact hs.kill d
    | some k => exact (hs.kill k).kill d
  have hσ2 : appSt σ k d = { σ1 with rooms := d :: σ1.rooms } := by
    subst hσ1
    cases k <;> rfl
  have nd1 : ∀ j, AV.hasL j σ1.env = true → j ≠ d := by subst hσ1; cases k <;> exact fun j hj => St.kill_env _ d j hj
  have nd2 : ∀ j, hasO j σ1.objs → j ≠ d := by
    subst hσ1
    cases k with
    | none => exact fun j hj => St.kill_objs hs d j hj
    | some k => exact fun j hj => St.kill_objs (hs.kill k) d j hj
  have nd3 : ∀ j, j ∈ σ1.rooms → j ≠ d := by subst hσ1; cases k <;> exact fun j hj => St.kill_rooms _ d j hj
  have nd4 : ∀ o', (d, o') ∉ σ1.objs := by subst hσ1; cases k <;> exact fun o' => St.kill_no _ d o'
  have hlive : ∀ j, Live G σ1.objs σ1.rooms j → Live G σ.objs σ.rooms j ∧ j ≠ d ∧ ∀ i, k = some i → j ≠ i := by
    subst hσ1
    exact fun j hj => appSt_live hj
  rw [hσ2] at hK
  have finish : ∀ (b E Z : Nat) (S' : Nat → Nat) (v : Value) (w' : World), (Builtin.append_ #[t, t2] o.type #[a.eval s, a.eval x]).run P w = .ok v w' →
      Pres w G.S w' S' → Fr F w' S' → (∀ j, Live G σ1.objs σ1.rooms j → w'.heap[G.β j]? = w.heap[G.β j]? ∧ S' (G.β j) = G.S (G.β j)) →
      (Z = E ∨ ((∃ (cs : Array Value) (T : Nat), w'.heap[b]? = some (.cells cs T (0, 0)) ∧ cs.size = Z ∧ S' b = E) ∧ (∀ j, Live G σ1.objs σ1.rooms j → G.β j ≠ b) ∧ (F.M b ∨ F.w.heap.size ≤ b))) →
      RA { β := upto G.β d b, E := upto G.E d E, Z := upto G.Z d Z, S := S', ov := G.ov } w' (.own d (szOf P e) (xs ++ ys)) v → o.wp P a w next Q := by
    intro b E Z S' v w' hrun hp hfr hl hroom hra
    have hG : G.But { β := upto G.β d b, E := upto G.E d E, Z := upto G.Z d Z, S := S', ov := G.ov } (fun j => j ≠ d) := ⟨fun j hj => upto_ne _ _ hj, fun j hj => upto_ne _ _ hj, fun j hj => upto_ne _ _ hj, rfl⟩
    have hs2 : Sim F { β := upto G.β d b, E := upto G.E d E, Z := upto G.Z d Z, S := S', ov := G.ov } σ1 a w' := hs1.upd (fun j => j ≠ d) hG hp nd1 nd2 nd3 (fun j hj => by omega) hl hfr
    refine wp_value (hexec v w' hrun) (hn _ _ _ _ _ (hs2.addRoom d ?_ nd4 (fun hr => nd3 d hr rfl) ?_ ?_) hra hK)
    · unfold RoomOk
      simp only [upto_same]
      rcases hroom with e | ⟨⟨cs, T, g1, g2, g3⟩, _⟩
      · exact .inl e
      · exact .inr ⟨cs, T, g1, g2, g3⟩
    · simp only [upto_same]
      intro hne j hj
      have l1 := Live.But hG (fun j hj => nd3 j hj) hj
      rw [upto_ne _ _ (hlive j l1).2.1]
      rcases hroom with e | ⟨_, g, _⟩
      · exact absurd e hne
      · exact g j l1
    · simp only [upto_same]
      intro hne
      rcases hroom with e | ⟨_, _, g⟩
      · exact absurd e hne
      · exact g
  rw [hv] at hexec finish
  have hlenA : (xs ++ ys).length = xs.length + ys.length := List.length_append
  by_cases hroom : xs.length + ys.length ≤ cap
  · -- there is room
    have hrun := run_app_room (ty := o.type) hu hi ht2 hut (A := A) hx1 hx2 hroom
    rcases hown with hce | ⟨j, off, cs, T, rfl, hlj, rfl, hoff, hheap, hcs⟩
    · -- nothing comes
      have hy0 : ys = [] := List.eq_nil_of_length_eq_zero (by omega)
      subst hy0
      have hn0 : news = [] := List.eq_nil_of_length_eq_zero (by rw [hnews.len]; simp)
      subst hn0
      simp only [List.length_nil, Nat.add_zero] at hrun
      cases A with
      | none =>
        obtain ⟨hx0, hc0⟩ := hnil rfl
        subst hx0 hc0
        refine finish 0 0 0 G.S _ w hrun (Pres.refl _ _) hs1.fr (fun j _ => ⟨rfl, rfl⟩) (.inl rfl) ?_
        simp only [RA]
        exact .inl ⟨rfl, rfl⟩
      | some ad =>
        obtain ⟨e1, e2, e3⟩ := hrow ad rfl
        obtain ⟨bb, oo, ss⟩ := ad
        simp only at e1 e2 e3
        subst e1
        have hrun' : (Builtin.append_ #[t, t2] o.type #[.slice (some ⟨bb, oo, none⟩) xs.length cap, a.eval x]).run P w = .ok (.slice (some ⟨bb, oo, none⟩) xs.length cap) w := by
          rw [hrun]; simp [storeCells]
        refine finish bb (oo + xs.length * szOf P e) (oo + xs.length * szOf P e) G.S _ w hrun' (Pres.refl _ _) hs1.fr (fun j _ => ⟨rfl, rfl⟩) (.inl rfl) ?_
        simp only [RA, upto_same, List.append_nil]
        exact .inr ⟨oo, cap, rfl, hcap, rfl, by rw [hce]; exact Nat.le_refl _, e2, e3⟩
    · -- in place
      obtain ⟨_, e2, e3⟩ := hrow _ rfl
      simp only at e2 e3
      have hfit : off + xs.length * i.size + 0 + news.length ≤ cs.size := by
        rw [hnews.len, esz]
        have : (xs.length + ys.length) * szOf P e ≤ cap * szOf P e := Nat.mul_le_mul_right _ hroom
        rw [Nat.add_mul] at this
        omega
      obtain ⟨cs', hr, hsz', hw1, hw2⟩ := run_storeCells P (G.β j) (off + xs.length * i.size) T news 0 w cs hheap hfit hnews.one
      have hbl := (Array.getElem?_eq_some_iff.1 hheap).1
      have hrun' : (Builtin.append_ #[t, t2] o.type #[.slice (some ⟨G.β j, off, none⟩) xs.length cap, a.eval x]).run P w = .ok (.slice (some ⟨G.β j, off, none⟩) (xs.length + ys.length) cap) (withBlock w (G.β j) (.cells cs' T (0, 0))) := by
        rw [hrun]; simp only [add_cell]; rw [hr]; rfl
      have hend : off + xs.length * i.size = G.S (G.β j) := by rw [esz]; exact hoff
      have hp : Pres w G.S (withBlock w (G.β j) (.cells cs' T (0, 0))) (upto G.S (G.β j) (off + (xs ++ ys).length * szOf P e)) := ⟨fun b => by
          by_cases hb : b = G.β j
          · subst hb
            rw [upto_same, hlenA, Nat.add_mul]; omega
          · rw [upto_ne _ _ hb]; exact Nat.le_refl _, fun b q hq => by
          by_cases hb : b = G.β j
          · subst hb
            rw [cl_of_heap (withBlock_at hbl _), cl_of_heap hheap]
            exact hw2 q (.inl (by omega))
          · exact cl_old (withBlock_ne w _ hb) q⟩
      have hne : ∀ q, Live G σ1.objs σ1.rooms q → G.β q ≠ G.β j := fun q hq e => (hlive q hq).2.2 j rfl (hs.ctx.inj q j (hlive q hq).1 hlj e)
      refine finish (G.β j) (off + (xs ++ ys).length * szOf P e) cs.size (upto G.S (G.β j) (off + (xs ++ ys).length * szOf P e)) _ _ hrun' hp ?_ (fun q hq => ⟨withBlock_ne w _ (hne q hq), upto_ne _ _ (hne q hq)⟩) (.inr ⟨⟨cs', T, withBlock_at hbl _, hsz', upto_same _ _ _⟩, hne, hs.mine j hlj⟩) ?_
      · exact
          { os := hs1.fr.os, tape := hs1.fr.tape, output := hs1.fr.output
            size := by rw [withBlock_size]; exact hs1.fr.size
            keep := fun b hb hm => by
              have hb' : b ≠ G.β j := by
                rintro rfl
                rcases hs.mine j hlj with hm' | hsm
                · exact hm hm'
                · omega
              rw [withBlock_ne w _ hb', upto_ne _ _ hb']
              exact hs1.fr.keep b hb hm
            pres := hs1.fr.pres.trans hp
            fin := fun b hb => by
              rw [withBlock_size] at hb
              rw [upto_ne _ _ (by omega)]
              exact hs1.fr.fin b hb }
      · simp only [RA, upto_same]
        refine .inr ⟨off, cap, by rw [hlenA], by omega, rfl, by omega, Nat.le_refl _, ?_⟩
        refine RRow.append (RRow.mono hp xs _ _ _ (by omega) e3) ?_
        refine (hnews.mono hp).row fun q c hq => ?_
        rw [cl_of_heap (withBlock_at hbl _)]
        have := hw1 q c hq
        rw [← this, esz]
        congr 1
  · -- a new row
    obtain ⟨olds, go1, go2, go3⟩ := firstCells_row (P := P) (w := w) (S := G.S) (A := A) (n := xs.length) (cap := cap) (sz := szOf P e) (ds := xs) rfl (fun ha => by rw [(hnil ha).1]; rfl) (fun ad had => ⟨(hrow ad had).1, (hrow ad had).2.2⟩)
    obtain ⟨newCap, hnc, hrun⟩ := run_app_grow (ty := o.type) hu hi hz ht2 hut hx1 hx2 (by rw [esz]; exact go2) (by omega) (by rw [eby]; exact hby0) (by rw [eby]; exact hlim)
    have hfr0 : Fr F w.drew G.S := ⟨hs1.fr.os, hs1.fr.tape, hs1.fr.output, hs1.fr.size, hs1.fr.keep, ⟨hs1.fr.pres.le, hs1.fr.pres.cell⟩, hs1.fr.fin⟩
    have hp : Pres w G.S (w.drew.alloc (.cells (olds.toArray ++ news.toArray ++ Builtin.zeroCells z.cells (newCap - (xs.length + ys.length))) e)) (upto G.S w.heap.size ((xs ++ ys).length * szOf P e)) :=
      ⟨(Pres.alloc (w := w.drew) hfr0.fin (.cells (olds.toArray ++ news.toArray ++ Builtin.zeroCells z.cells (newCap - (xs.length + ys.length))) e) _).le, (Pres.alloc (w := w.drew) hfr0.fin (.cells (olds.toArray ++ news.toArray ++ Builtin.zeroCells z.cells (newCap - (xs.length + ys.length))) e) ((xs ++ ys).length * szOf P e)).cell⟩
    have hsz1 : ∀ j, Live G σ1.objs σ1.rooms j → G.β j ≠ w.heap.size := fun j hj => Nat.ne_of_lt (hj.lt hs1)
    have hat : (w.drew.alloc (.cells (olds.toArray ++ news.toArray ++ Builtin.zeroCells z.cells (newCap - (xs.length + ys.length))) e)).heap[w.heap.size]? = some (.cells (olds.toArray ++ news.toArray ++ Builtin.zeroCells z.cells (newCap - (xs.length + ys.length))) e (0, 0)) := heap_alloc_at w.drew (.cells (olds.toArray ++ news.toArray ++ Builtin.zeroCells z.cells (newCap - (xs.length + ys.length))) e)
    refine finish w.heap.size ((xs ++ ys).length * szOf P e) (newCap * szOf P e) _ _ _ hrun hp (hfr0.alloc _ _) (fun j hj => ⟨heap_alloc_old w.drew _ _ (hsz1 j hj), upto_ne _ _ (hsz1 j hj)⟩) (.inr ⟨⟨_, e, hat, ?_, upto_same _ _ _⟩, hsz1, .inr hs1.fr.size⟩) ?_
    · simp only [Array.size_append, List.size_toArray, size_zeroCells, zsz, go1.len, hnews.len, ← Nat.add_mul]
      congr 1; omega
    · simp only [RA, upto_same]
      refine .inr ⟨0, newCap, by rw [hlenA], by omega, by omega, by omega, Nat.le_refl _, ?_⟩
      have hall := (go1.append hnews).mono hp
      refine hall.row fun q c hq => ?_
      rw [cl_of_heap hat, Nat.zero_add]
      have hlt := (List.getElem?_eq_some_iff.1 hq).1
      rw [Array.getElem?_append_left (by simpa using hlt)]
      simpa using hq
end Go.Qv
