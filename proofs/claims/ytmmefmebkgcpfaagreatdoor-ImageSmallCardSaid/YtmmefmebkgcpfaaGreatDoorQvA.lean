/- Abstract values of a frame, and what they say of memory. Definitions and their first laws; no program. -/
import Derived.Calls
import Derived.RowKit3
import Derived.Below
namespace Go.Qv
open Go

inductive SM where
  | nil | any | nn | full | cap0
  deriving DecidableEq

inductive DV where
  | bool (b : Bool) | int (k : IntKind) (n : Int) | str (s : ByteArray)
  | sl (m : SM) (sz : Nat) (xs : List DV)
  | iface (t : Nat) (x : DV) | nilI
  | agg (cs : List DV) | tup (xs : List DV)
  | nilP | nilM | nilF
  deriving Inhabited

def SM.ok (m : SM) (a : Option Addr) (n cap : Nat) : Prop :=
  (a = none → n = 0 ∧ cap = 0) ∧ match m with
  | .nil => a = none
  | .any => True
  | .nn => a ≠ none
  | .full => a ≠ none ∧ cap = n
  | .cap0 => cap = n

def Val1 : Value → Bool
  | .agg _ | .tuple _ => false
  | _ => true

abbrev cl (w : World) (b i : Nat) : Option Value := w.cell? ⟨b, i, none⟩

mutual
def R (w : World) (S : Nat → Nat) : DV → Value → Prop
  | .bool b, v => v = .bool b
  | .int k n, v => v = .int k n
  | .str s, v => v = .string s
  | .sl m sz xs, v => ∃ a n cap, v = .slice a n cap ∧ n = xs.length ∧ n ≤ cap ∧ m.ok a n cap ∧
      ∀ ad, a = some ad → ad.spot = none ∧ ad.off + n * sz ≤ S ad.block ∧ RRow w S xs sz ad.block ad.off
  | .iface t x, v => ∃ y, v = .iface t y ∧ R w S x y
  | .nilI, v => v = .nilIface
  | .agg cs, v => ∃ ys : Array Value, v = .agg ys ∧ RList w S cs ys.toList ∧ ∀ y ∈ ys.toList, Val1 y = true
  | .tup cs, v => ∃ ys : Array Value, v = .tuple ys ∧ RList w S cs ys.toList
  | .nilP, v => v = .pointer none
  | .nilM, v => v = .map none
  | .nilF, v => v = .nilFunc
def RList (w : World) (S : Nat → Nat) : List DV → List Value → Prop
  | [], ys => ys = []
  | x :: xs, ys => ∃ y ys', ys = y :: ys' ∧ R w S x y ∧ RList w S xs ys'
def RRow (w : World) (S : Nat → Nat) : List DV → Nat → Nat → Nat → Prop
  | [], _, _, _ => True
  | x :: xs, sz, b, off => (∃ y : Value, R w S x y ∧ y.cells.size = sz ∧ (∀ c ∈ y.cells.toList, Val1 c = true) ∧ ∀ j, j < sz → cl w b (off + j) = y.cells[j]?) ∧ RRow w S xs sz b (off + sz)
end

structure Pres (w : World) (S : Nat → Nat) (w' : World) (S' : Nat → Nat) : Prop where
  le : ∀ b, S b ≤ S' b
  cell : ∀ b i, i < S b → cl w' b i = cl w b i

theorem Pres.refl (w : World) (S : Nat → Nat) : Pres w S w S := ⟨fun _ => Nat.le_refl _, fun _ _ _ => rfl⟩
theorem Pres.trans {w1 w2 w3 : World} {S1 S2 S3 : Nat → Nat} (h : Pres w1 S1 w2 S2) (k : Pres w2 S2 w3 S3) : Pres w1 S1 w3 S3 :=
  ⟨fun b => Nat.le_trans (h.le b) (k.le b), fun b i hi => (k.cell b i (Nat.lt_of_lt_of_le hi (h.le b))).trans (h.cell b i hi)⟩

mutual
theorem R.mono {w w' : World} {S S' : Nat → Nat} (h : Pres w S w' S') : ∀ (d : DV) (v : Value), R w S d v → R w' S' d v
  | .bool _, _, hr => hr
  | .int .., _, hr => hr
  | .str _, _, hr => hr
  | .sl m sz xs, v, hr => by
    simp only [R] at hr ⊢
    obtain ⟨a, n, cap, hv, hn, hc, hm, hx⟩ := hr
    refine ⟨a, n, cap, hv, hn, hc, hm, fun ad ha => ?_⟩
    obtain ⟨h1, h2, h3⟩ := hx ad ha
    refine ⟨h1, Nat.le_trans h2 (h.le _), RRow.mono h xs sz _ _ (by rw [← hn]; exact h2) h3⟩
  | .iface t x, v, hr => by
    simp only [R] at hr ⊢
    obtain ⟨y, hv, hy⟩ := hr
    exact ⟨y, hv, R.mono h x y hy⟩
  | .nilI, _, hr => hr
  | .agg cs, v, hr => by
    simp only [R] at hr ⊢
    obtain ⟨ys, hv, hy, h1⟩ := hr
    exact ⟨ys, hv, RList.mono h cs _ hy, h1⟩
  | .tup cs, v, hr => by
    simp only [R] at hr ⊢
    obtain ⟨ys, hv, hy⟩ := hr
    exact ⟨ys, hv, RList.mono h cs _ hy⟩
  | .nilP, _, hr => hr
  | .nilM, _, hr => hr
  | .nilF, _, hr => hr
theorem RList.mono {w w' : World} {S S' : Nat → Nat} (h : Pres w S w' S') : ∀ (ds : List DV) (vs : List Value), RList w S ds vs → RList w' S' ds vs
  | [], _, hr => hr
  | x :: xs, vs, hr => by
    simp only [RList] at hr ⊢
    obtain ⟨y, ys, hv, hy, hys⟩ := hr
    exact ⟨y, ys, hv, R.mono h x y hy, RList.mono h xs ys hys⟩
theorem RRow.mono {w w' : World} {S S' : Nat → Nat} (h : Pres w S w' S') : ∀ (ds : List DV) (sz b off : Nat), off + ds.length * sz ≤ S b → RRow w S ds sz b off → RRow w' S' ds sz b off
  | [], _, _, _, _, _ => trivial
  | x :: xs, sz, b, off, hb, hr => by
    simp only [RRow] at hr ⊢
    obtain ⟨⟨y, hy, h1, h2, h3⟩, hxs⟩ := hr
    simp only [List.length_cons, Nat.add_mul, Nat.one_mul] at hb
    refine ⟨⟨y, R.mono h x y hy, h1, h2, fun j hj => ?_⟩, RRow.mono h xs sz b (off + sz) (by omega) hxs⟩
    rw [h.cell _ _ (by omega)]
    exact h3 j hj
end

theorem RList.len {w : World} {S : Nat → Nat} : ∀ {ds : List DV} {vs : List Value}, RList w S ds vs → vs.length = ds.length
  | [], _, h => by simp only [RList] at h; subst h; rfl
  | x :: xs, vs, h => by
    simp only [RList] at h
    obtain ⟨y, ys, rfl, _, h⟩ := h
    simp [h.len]
theorem RList.get {w : World} {S : Nat → Nat} : ∀ {ds : List DV} {vs : List Value} (h : RList w S ds vs) (i : Nat) (d : DV), ds[i]? = some d → ∃ v, vs[i]? = some v ∧ R w S d v
  | [], _, _, i, d, hi => by simp at hi
  | x :: xs, vs, h, 0, d, hi => by
    simp only [RList] at h
    obtain ⟨y, ys, rfl, hy, _⟩ := h
    simp at hi; subst hi
    exact ⟨y, rfl, hy⟩
  | x :: xs, vs, h, i + 1, d, hi => by
    simp only [RList] at h
    obtain ⟨y, ys, rfl, _, h⟩ := h
    simpa using h.get i d (by simpa using hi)

/-- One element of a row. -/
theorem RRow.at_ {w : World} {S : Nat → Nat} : ∀ {ds : List DV} {sz b off : Nat} (h : RRow w S ds sz b off) (i : Nat) (d : DV), ds[i]? = some d →
    ∃ y : Value, R w S d y ∧ y.cells.size = sz ∧ (∀ c ∈ y.cells.toList, Val1 c = true) ∧ ∀ j, j < sz → cl w b (off + i * sz + j) = y.cells[j]?
  | [], _, _, _, _, i, d, hi => by simp at hi
  | x :: xs, sz, b, off, h, 0, d, hi => by
    simp only [RRow] at h
    simp at hi; subst hi
    simpa using h.1
  | x :: xs, sz, b, off, h, i + 1, d, hi => by
    simp only [RRow] at h
    obtain ⟨y, h1, h2, h3, h4⟩ := h.2.at_ i d (by simpa using hi)
    refine ⟨y, h1, h2, h3, fun j hj => ?_⟩
    rw [← h4 j hj]
    congr 1
    rw [Nat.add_mul]; omega
theorem RRow.append {w : World} {S : Nat → Nat} : ∀ {ds es : List DV} {sz b off : Nat}, RRow w S ds sz b off → RRow w S es sz b (off + ds.length * sz) → RRow w S (ds ++ es) sz b off
  | [], es, sz, b, off, _, h => by simpa using h
  | x :: xs, es, sz, b, off, h, k => by
    simp only [RRow, List.cons_append] at h ⊢
    refine ⟨h.1, RRow.append h.2 ?_⟩
    rw [show off + sz + xs.length * sz = off + (x :: xs).length * sz by simp only [List.length_cons, Nat.add_mul, Nat.one_mul]; omega]
    exact k
/-- A row out of its cells. -/
theorem RRow.mk {w : World} {S : Nat → Nat} {sz b : Nat} : ∀ {ds : List DV} {off : Nat}, (∀ i d, ds[i]? = some d → ∃ y : Value, R w S d y ∧ y.cells.size = sz ∧ (∀ c ∈ y.cells.toList, Val1 c = true) ∧ ∀ j, j < sz → cl w b (off + i * sz + j) = y.cells[j]?) → RRow w S ds sz b off
  | [], _, _ => trivial
  | x :: xs, off, h => by
    simp only [RRow]
    refine ⟨by simpa using h 0 x rfl, RRow.mk fun i d hi => ?_⟩
    obtain ⟨y, h1, h2, h3, h4⟩ := h (i + 1) d (by simpa using hi)
    refine ⟨y, h1, h2, h3, fun j hj => ?_⟩
    rw [← h4 j hj]
    congr 1
    rw [Nat.add_mul]; omega

/-! ### Values of a frame -/
inductive AV where
  | no
  | d (v : DV)
  | own (k sz : Nat) (xs : List DV)
  | ptr (k off : Nat)
  | row (cs : List DV)
  | mp (k : Nat)
  | fn (f : Nat) (cap : List AV)
  | agg (cs : List AV)
  | tup (xs : List AV)
  | opq (n : Nat)
  /-- A slice of n places over room that nobody looks after yet. -/
  | zr (k sz n : Nat)
  deriving Inhabited

structure Gh where
  β : Nat → Nat
  E : Nat → Nat
  Z : Nat → Nat
  S : Nat → Nat
  ov : Nat → Value

/-- The cells from an address on. -/
def RCells (w : World) (S : Nat → Nat) (cs : List DV) (b off : Nat) : Prop :=
  ∀ j d, cs[j]? = some d → ∃ y, R w S d y ∧ Val1 y = true ∧ cl w b (off + j) = some y
theorem RCells.mono {w w' : World} {S S' : Nat → Nat} (h : Pres w S w' S') {cs : List DV} {b off : Nat} (hb : off + cs.length ≤ S b) (hr : RCells w S cs b off) : RCells w' S' cs b off := by
  intro j d hj
  obtain ⟨y, h1, h2, h3⟩ := hr j d hj
  have := (List.getElem?_eq_some_iff.1 hj).1
  exact ⟨y, R.mono h _ _ h1, h2, by rw [h.cell _ _ (by omega)]; exact h3⟩

mutual
def RA (G : Gh) (w : World) : AV → Value → Prop
  | .no, _ => True
  | .d v, u => R w G.S v u
  | .own k sz xs, u => (xs = [] ∧ u = .slice none 0 0) ∨ ∃ off cap, u = .slice (some ⟨G.β k, off, none⟩) xs.length cap ∧ xs.length ≤ cap ∧
      off + xs.length * sz = G.E k ∧ off + cap * sz ≤ G.Z k ∧ G.E k ≤ G.S (G.β k) ∧ RRow w G.S xs sz (G.β k) off
  | .ptr k off, u => u = .pointer (some ⟨G.β k, off, none⟩)
  | .row cs, u => ∃ b off, u = .pointer (some ⟨b, off, none⟩) ∧ off + cs.length ≤ G.S b ∧ RCells w G.S cs b off
  | .mp k, u => u = .map (some (G.β k))
  | .fn f cap, u => ∃ cs : Array Value, u = .func (.func f) #[] cs ∧ RAL G w cap cs.toList
  | .agg cs, u => ∃ ys : Array Value, u = .agg ys ∧ RAL G w cs ys.toList ∧ ∀ y ∈ ys.toList, Val1 y = true
  | .tup cs, u => ∃ ys : Array Value, u = .tuple ys ∧ RAL G w cs ys.toList
  | .opq n, u => u = G.ov n
  | .zr k sz n, u => ∃ cap, u = .slice (some ⟨G.β k, 0, none⟩) n cap ∧ G.E k = 0 ∧ cap * sz ≤ G.Z k
def RAL (G : Gh) (w : World) : List AV → List Value → Prop
  | [], us => us = []
  | a :: as, us => ∃ u us', us = u :: us' ∧ RA G w a u ∧ RAL G w as us'
end

mutual
def AV.has (k : Nat) : AV → Bool
  | .own k' _ _ => k' == k
  | .ptr k' _ => k' == k
  | .mp k' => k' == k
  | .zr k' _ _ => k' == k
  | .fn _ cap => AV.hasL k cap
  | .agg cs => AV.hasL k cs
  | .tup cs => AV.hasL k cs
  | _ => false
def AV.hasL (k : Nat) : List AV → Bool
  | [] => false
  | a :: as => a.has k || AV.hasL k as
end
mutual
/-- What is left of a value when the object k is given up: what was owned is data. -/
def AV.kill (k : Nat) : AV → AV
  | .own k' sz xs => if k' = k then .d (.sl .any sz xs) else .own k' sz xs
  | .ptr k' o => if k' = k then .no else .ptr k' o
  | .mp k' => if k' = k then .no else .mp k'
  | .zr k' sz n => if k' = k then .no else .zr k' sz n
  | .fn f cap => .fn f (AV.killL k cap)
  | .agg cs => .agg (AV.killL k cs)
  | .tup cs => .tup (AV.killL k cs)
  | a => a
def AV.killL (k : Nat) : List AV → List AV
  | [] => []
  | a :: as => a.kill k :: AV.killL k as
end

theorem R_of_own {w : World} {S : Nat → Nat} {k sz : Nat} {xs : List DV} {G : Gh} {u : Value} (h : RA G w (.own k sz xs) u) : R w G.S (.sl .any sz xs) u := by
  simp only [RA] at h
  simp only [R]
  rcases h with ⟨rfl, rfl⟩ | ⟨off, cap, rfl, h1, h2, h3, h4, h5⟩
  · have h0 : SM.ok .any none 0 0 := And.intro (fun _ => And.intro rfl rfl) trivial
    exact ⟨none, 0, 0, rfl, rfl, Nat.le_refl _, h0, fun ad h => by cases h⟩
  · have h0 : SM.ok .any (some ⟨G.β k, off, none⟩) xs.length cap := And.intro (fun h => nomatch h) trivial
    refine ⟨_, _, cap, rfl, rfl, h1, h0, fun ad h => ?_⟩
    cases h
    exact ⟨rfl, by simp only; omega, h5⟩
mutual
theorem RA.kill (k : Nat) {G : Gh} {w : World} : ∀ (a : AV) (u : Value), RA G w a u → RA G w (a.kill k) u
  | .no, _, h => h
  | .d _, _, h => h
  | .own k' sz xs, u, h => by
    simp only [AV.kill]
    split
    · exact R_of_own (S := G.S) h
    · exact h
  | .ptr k' o, u, h => by
    simp only [AV.kill]
    split
    · simp [RA]
    · exact h
  | .row _, _, h => h
  | .mp k', u, h => by
    simp only [AV.kill]
    split
    · simp [RA]
    · exact h
  | .fn f cap, u, h => by
    simp only [RA, AV.kill] at h ⊢
    obtain ⟨cs, hu, h⟩ := h
    exact ⟨cs, hu, RAL.kill k cap _ h⟩
  | .agg cs, u, h => by
    simp only [RA, AV.kill] at h ⊢
    obtain ⟨ys, hu, h, h1⟩ := h
    exact ⟨ys, hu, RAL.kill k cs _ h, h1⟩
  | .tup cs, u, h => by
    simp only [RA, AV.kill] at h ⊢
    obtain ⟨ys, hu, h⟩ := h
    exact ⟨ys, hu, RAL.kill k cs _ h⟩
  | .opq _, _, h => h
  | .zr k' sz n, u, h => by
    simp only [AV.kill]
    split
    · simp [RA]
    · exact h
theorem RAL.kill (k : Nat) {G : Gh} {w : World} : ∀ (as : List AV) (us : List Value), RAL G w as us → RAL G w (AV.killL k as) us
  | [], _, h => h
  | a :: as, us, h => by
    simp only [RAL, AV.killL] at h ⊢
    obtain ⟨u, us', rfl, h1, h2⟩ := h
    exact ⟨u, us', rfl, RA.kill k a u h1, RAL.kill k as us' h2⟩
end
mutual
theorem AV.has_kill (k : Nat) : ∀ a : AV, (a.kill k).has k = false
  | .no => rfl
  | .d _ => rfl
  | .own k' sz xs => by simp only [AV.kill]; split <;> simp_all [AV.has]
  | .ptr k' o => by simp only [AV.kill]; split <;> simp_all [AV.has]
  | .row _ => rfl
  | .mp k' => by simp only [AV.kill]; split <;> simp_all [AV.has]
  | .fn f cap => by simp only [AV.kill, AV.has]; exact AV.hasL_kill k cap
  | .agg cs => by simp only [AV.kill, AV.has]; exact AV.hasL_kill k cs
  | .tup cs => by simp only [AV.kill, AV.has]; exact AV.hasL_kill k cs
  | .opq _ => rfl
  | .zr k' sz n => by simp only [AV.kill]; split <;> simp_all [AV.has]
theorem AV.hasL_kill (k : Nat) : ∀ as : List AV, AV.hasL k (AV.killL k as) = false
  | [] => rfl
  | a :: as => by simp only [AV.killL, AV.hasL, AV.has_kill k a, AV.hasL_kill k as, Bool.or_false]
end

/-- Two ghosts that tell the same of all numbers but one. -/
structure Gh.But (G G' : Gh) (P : Nat → Prop) : Prop where
  β : ∀ k, P k → G'.β k = G.β k
  E : ∀ k, P k → G'.E k = G.E k
  Z : ∀ k, P k → G'.Z k = G.Z k
  ov : G'.ov = G.ov

mutual
theorem RA.mono {w w' : World} {G G' : Gh} (h : Pres w G.S w' G'.S) (P : Nat → Prop) (hG : G.But G' P) : ∀ (a : AV) (u : Value), (∀ k, a.has k = true → P k) → RA G w a u → RA G' w' a u
  | .no, _, _, _ => by simp [RA]
  | .d v, u, _, hr => by simp only [RA] at hr ⊢; exact R.mono h v u hr
  | .own k sz xs, u, hk, hr => by
    have hp := hk k (by simp [AV.has])
    simp only [RA] at hr ⊢
    rw [hG.β k hp, hG.E k hp, hG.Z k hp]
    rcases hr with hr | ⟨off, cap, h0, h1, h2, h3, h4, h5⟩
    · exact .inl hr
    · exact .inr ⟨off, cap, h0, h1, h2, h3, Nat.le_trans h4 (h.le _), RRow.mono h xs sz _ _ (by omega) h5⟩
  | .ptr k o, u, hk, hr => by
    simp only [RA] at hr ⊢
    rw [hG.β k (hk k (by simp [AV.has]))]
    exact hr
  | .row cs, u, _, hr => by
    simp only [RA] at hr ⊢
    obtain ⟨b, off, h0, h1, h2⟩ := hr
    exact ⟨b, off, h0, Nat.le_trans h1 (h.le _), h2.mono h h1⟩
  | .mp k, u, hk, hr => by
    simp only [RA] at hr ⊢
    rw [hG.β k (hk k (by simp [AV.has]))]
    exact hr
  | .fn f cap, u, hk, hr => by
    simp only [RA] at hr ⊢
    obtain ⟨cs, hu, hr⟩ := hr
    exact ⟨cs, hu, RAL.mono h P hG cap _ (fun k hh => hk k (by simpa [AV.has] using hh)) hr⟩
  | .agg cs, u, hk, hr => by
    simp only [RA] at hr ⊢
    obtain ⟨ys, hu, hr, h1⟩ := hr
    exact ⟨ys, hu, RAL.mono h P hG cs _ (fun k hh => hk k (by simpa [AV.has] using hh)) hr, h1⟩
  | .tup cs, u, hk, hr => by
    simp only [RA] at hr ⊢
    obtain ⟨ys, hu, hr⟩ := hr
    exact ⟨ys, hu, RAL.mono h P hG cs _ (fun k hh => hk k (by simpa [AV.has] using hh)) hr⟩
  | .opq n, u, _, hr => by
    simp only [RA] at hr ⊢
    rw [hG.ov]; exact hr
  | .zr k sz n, u, hk, hr => by
    simp only [RA] at hr ⊢
    rw [hG.β k (hk k (by simp [AV.has])), hG.E k (hk k (by simp [AV.has])), hG.Z k (hk k (by simp [AV.has]))]
    exact hr
theorem RAL.mono {w w' : World} {G G' : Gh} (h : Pres w G.S w' G'.S) (P : Nat → Prop) (hG : G.But G' P) : ∀ (as : List AV) (us : List Value), (∀ k, AV.hasL k as = true → P k) → RAL G w as us → RAL G' w' as us
  | [], _, _, hr => hr
  | a :: as, us, hk, hr => by
    simp only [RAL] at hr ⊢
    obtain ⟨u, us', rfl, h1, h2⟩ := hr
    exact ⟨u, us', rfl, RA.mono h P hG a u (fun k hh => hk k (by simp [AV.hasL, hh])) h1, RAL.mono h P hG as us' (fun k hh => hk k (by simp [AV.hasL, hh])) h2⟩
end
theorem Gh.But.all (G : Gh) (S' : Nat → Nat) : G.But { G with S := S' } (fun _ => True) := ⟨fun _ _ => rfl, fun _ _ => rfl, fun _ _ => rfl, rfl⟩

theorem RAL.len {G : Gh} {w : World} : ∀ {as : List AV} {us : List Value}, RAL G w as us → us.length = as.length
  | [], _, h => by simp only [RAL] at h; subst h; rfl
  | a :: as, us, h => by
    simp only [RAL] at h
    obtain ⟨y, ys, rfl, _, h⟩ := h
    simp [h.len]
theorem RAL.get {G : Gh} {w : World} : ∀ {as : List AV} {us : List Value} (h : RAL G w as us) (i : Nat) (a : AV), as[i]? = some a → ∃ u, us[i]? = some u ∧ RA G w a u
  | [], _, _, i, d, hi => by simp at hi
  | x :: xs, vs, h, 0, d, hi => by
    simp only [RAL] at h
    obtain ⟨y, ys, rfl, hy, _⟩ := h
    simp at hi; subst hi
    exact ⟨y, rfl, hy⟩
  | x :: xs, vs, h, i + 1, d, hi => by
    simp only [RAL] at h
    obtain ⟨y, ys, rfl, _, h⟩ := h
    simpa using h.get i d (by simpa using hi)
theorem RAL.set {G : Gh} {w : World} : ∀ {as : List AV} {us : List Value} (h : RAL G w as us) (i : Nat) (a : AV) (u : Value), RA G w a u → RAL G w (as.set i a) (us.set i u)
  | [], us, h, i, a, u, _ => by simp only [RAL] at h; subst h; simp [RAL]
  | x :: xs, vs, h, 0, a, u, hu => by
    simp only [RAL] at h
    obtain ⟨y, ys, rfl, hy, h⟩ := h
    exact ⟨u, ys, rfl, hu, h⟩
  | x :: xs, vs, h, i + 1, a, u, hu => by
    simp only [RAL] at h
    obtain ⟨y, ys, rfl, hy, h⟩ := h
    exact ⟨y, ys.set i u, rfl, hy, h.set i a u hu⟩
theorem RAL.append {G : Gh} {w : World} : ∀ {as bs : List AV} {us vs : List Value}, RAL G w as us → RAL G w bs vs → RAL G w (as ++ bs) (us ++ vs)
  | [], _, us, _, h, k => by simp only [RAL] at h; subst h; exact k
  | a :: as, bs, us, vs, h, k => by
    simp only [RAL] at h
    obtain ⟨y, ys, rfl, hy, h⟩ := h
    exact ⟨y, ys ++ vs, rfl, hy, h.append k⟩
theorem RAL.of_RList {G : Gh} {w : World} : ∀ {ds : List DV} {us : List Value}, RList w G.S ds us → RAL G w (ds.map .d) us
  | [], _, h => h
  | a :: as, us, h => by
    simp only [RList] at h
    obtain ⟨y, ys, rfl, hy, h⟩ := h
    exact ⟨y, ys, rfl, hy, RAL.of_RList h⟩
/-! ### Data that says less -/
mutual
/-- The second says less than the first: of slices it does not tell whether they are nil, or have room. -/
def DvLe : DV → DV → Prop
  | .sl m sz xs, y => ∃ m' sz' ys, y = .sl m' sz' ys ∧ (m' = m ∨ m' = .any) ∧ (sz' = sz ∨ xs = []) ∧ DvLeL xs ys
  | .iface t x, y => ∃ z, y = .iface t z ∧ DvLe x z
  | .agg cs, y => ∃ ds, y = .agg ds ∧ DvLeL cs ds
  | .tup cs, y => ∃ ds, y = .tup ds ∧ DvLeL cs ds
  | .bool b, y => y = .bool b
  | .int k n, y => y = .int k n
  | .str s, y => y = .str s
  | .nilI, y => y = .nilI
  | .nilP, y => y = .nilP
  | .nilM, y => y = .nilM
  | .nilF, y => y = .nilF
def DvLeL : List DV → List DV → Prop
  | [], ys => ys = []
  | x :: xs, ys => ∃ y ys', ys = y :: ys' ∧ DvLe x y ∧ DvLeL xs ys'
end
mutual
theorem DvLe.refl : ∀ x : DV, DvLe x x
  | .sl m sz xs => by simp only [DvLe]; exact ⟨m, sz, xs, rfl, .inl rfl, .inl rfl, DvLeL.refl xs⟩
  | .iface t x => by simp only [DvLe]; exact ⟨x, rfl, DvLe.refl x⟩
  | .agg cs => by simp only [DvLe]; exact ⟨cs, rfl, DvLeL.refl cs⟩
  | .tup cs => by simp only [DvLe]; exact ⟨cs, rfl, DvLeL.refl cs⟩
  | .bool _ => by simp only [DvLe]
  | .int _ _ => by simp only [DvLe]
  | .str _ => by simp only [DvLe]
  | .nilI => by simp only [DvLe]
  | .nilP => by simp only [DvLe]
  | .nilM => by simp only [DvLe]
  | .nilF => by simp only [DvLe]
theorem DvLeL.refl : ∀ xs : List DV, DvLeL xs xs
  | [] => by simp only [DvLeL]
  | x :: xs => by simp only [DvLeL]; exact ⟨x, xs, rfl, DvLe.refl x, DvLeL.refl xs⟩
end
theorem DvLeL.len : ∀ {xs ys : List DV}, DvLeL xs ys → ys.length = xs.length
  | [], ys, h => by simp only [DvLeL] at h; subst h; rfl
  | x :: xs, ys, h => by
    simp only [DvLeL] at h
    obtain ⟨y, ys', rfl, _, h⟩ := h
    simp [h.len]
theorem SM.ok.weak {m m' : SM} {a : Option Addr} {n cap : Nat} (h : m.ok a n cap) (e : m' = m ∨ m' = .any) : m'.ok a n cap := by
  rcases e with rfl | rfl
  · exact h
  · exact ⟨h.1, trivial⟩
mutual
theorem R.weak {w : World} {S : Nat → Nat} : ∀ {x y : DV} {v : Value}, DvLe x y → R w S x v → R w S y v
  | .sl m sz xs, y, v, h, hr => by
    simp only [DvLe] at h
    obtain ⟨m', sz', ys, rfl, hm, hz, hl⟩ := h
    have hlen := hl.len
    simp only [R] at hr ⊢
    obtain ⟨a, n, cap, hv, hn, hc, hok, hx⟩ := hr
    refine ⟨a, n, cap, hv, by omega, hc, hok.weak hm, fun ad ha => ?_⟩
    obtain ⟨h1, h2, h3⟩ := hx ad ha
    rcases hz with rfl | rfl
    · exact ⟨h1, h2, RRow.weak hl h3⟩
    · simp only [DvLeL] at hl
      subst hl
      simp only [List.length_nil] at hn
      subst hn
      exact ⟨h1, by simpa using h2, trivial⟩
  | .iface t x, y, v, h, hr => by
    simp only [DvLe] at h
    obtain ⟨z, rfl, h⟩ := h
    simp only [R] at hr ⊢
    obtain ⟨u, hv, hu⟩ := hr
    exact ⟨u, hv, R.weak h hu⟩
  | .agg cs, y, v, h, hr => by
    simp only [DvLe] at h
    obtain ⟨ds, rfl, h⟩ := h
    simp only [R] at hr ⊢
    obtain ⟨ys, hv, hy, h1⟩ := hr
    exact ⟨ys, hv, RList.weak h hy, h1⟩
  | .tup cs, y, v, h, hr => by
    simp only [DvLe] at h
    obtain ⟨ds, rfl, h⟩ := h
    simp only [R] at hr ⊢
    obtain ⟨ys, hv, hy⟩ := hr
    exact ⟨ys, hv, RList.weak h hy⟩
  | .bool _, y, v, h, hr => by simp only [DvLe] at h; subst h; exact hr
  | .int _ _, y, v, h, hr => by simp only [DvLe] at h; subst h; exact hr
  | .str _, y, v, h, hr => by simp only [DvLe] at h; subst h; exact hr
  | .nilI, y, v, h, hr => by simp only [DvLe] at h; subst h; exact hr
  | .nilP, y, v, h, hr => by simp only [DvLe] at h; subst h; exact hr
  | .nilM, y, v, h, hr => by simp only [DvLe] at h; subst h; exact hr
  | .nilF, y, v, h, hr => by simp only [DvLe] at h; subst h; exact hr
theorem RList.weak {w : World} {S : Nat → Nat} : ∀ {xs ys : List DV} {vs : List Value}, DvLeL xs ys → RList w S xs vs → RList w S ys vs
  | [], ys, vs, h, hr => by simp only [DvLeL] at h; subst h; exact hr
  | x :: xs, ys, vs, h, hr => by
    simp only [DvLeL] at h
    obtain ⟨y, ys', rfl, h, hl⟩ := h
    simp only [RList] at hr ⊢
    obtain ⟨v, vs', hv, h1, h2⟩ := hr
    exact ⟨v, vs', hv, R.weak h h1, RList.weak hl h2⟩
theorem RRow.weak {w : World} {S : Nat → Nat} : ∀ {xs ys : List DV} {sz b off : Nat}, DvLeL xs ys → RRow w S xs sz b off → RRow w S ys sz b off
  | [], ys, sz, b, off, h, hr => by simp only [DvLeL] at h; subst h; exact hr
  | x :: xs, ys, sz, b, off, h, hr => by
    simp only [DvLeL] at h
    obtain ⟨y, ys', rfl, h, hl⟩ := h
    simp only [RRow] at hr ⊢
    obtain ⟨⟨v, h1, h2, h3, h4⟩, h5⟩ := hr
    exact ⟨⟨v, R.weak h h1, h2, h3, h4⟩, RRow.weak hl h5⟩
end
structure DvW (x y : DV) : Prop where
  le : DvLe x y
theorem DvW.refl (x : DV) : DvW x x := ⟨DvLe.refl x⟩
theorem DvW.of_eq {x y : DV} (h : x = y) : DvW x y := h ▸ DvW.refl x
end Go.Qv
