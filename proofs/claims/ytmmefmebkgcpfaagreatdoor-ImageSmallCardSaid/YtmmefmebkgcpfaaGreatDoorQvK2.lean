/- Room made ahead; slices made; how much room there is. Over any program. -/
import Derived.Test.YtmmefmebkgcpfaaGreatDoorQvK
import Derived.IntWalk
namespace Go.Qv
open Go

theorem zeroCells_size (z : Array Value) (n : Nat) : (Builtin.zeroCells z n).size = n * z.size := by simp [Builtin.zeroCells]
theorem run_app_make {P : Program} {w : World} {t t2 e ty : Nat} {i : TypeInfo} {z : Value} (ht : P.underlying t = some (.slice e)) (hi : P.info? e = some i) (hz : i.zero = some z) {k : IntKind} (h2 : P.underlying t2 = some (.int k)) {kd : IntKind} {n : Int} (hn : 0 < n)
    (hb0 : 0 < i.bytes) (hs0 : 0 < i.size) (hby : n * i.bytes ≤ 140737488355328) :
    ∃ newCap cells, n.toNat ≤ newCap ∧ cells.size = newCap * z.cells.size ∧ (z.cells.size = i.size → (Builtin.append_ #[t, t2] ty #[.slice none 0 0, .int kd n]).run P w = .ok (.slice (some ⟨w.heap.size, 0, none⟩) n.toNat newCap) (w.drew.alloc (.cells cells e))) := by
  have hle : n ≤ n * i.bytes := by
    have : n * 1 ≤ n * i.bytes := Int.mul_le_mul_of_nonneg_left (by omega) (by omega)
    omega
  have hwrap : IntKind.i64.wrap n = n := IntWalk.i64_in n (by omega)
  have hnat : n.toNat * i.bytes ≤ 140737488355328 := by
    have : ((n.toNat * i.bytes : Nat) : Int) = n * i.bytes := by rw [Int.natCast_mul, Int.toNat_of_nonneg (by omega)]
    omega
  have hg : 0 < 0 + n.toNat := by omega
  have hfit := growslice_fits (bytes := i.bytes) hg (by simpa using hnat)
  refine ⟨grownCap w n.toNat 0 e, Builtin.zeroCells z.cells n.toNat ++ Builtin.zeroCells z.cells (grownCap w n.toNat 0 e - n.toNat), grownCap_ge w n.toNat 0 e, ?_, ?_⟩
  · have := grownCap_ge w n.toNat 0 e
    rw [Array.size_append, zeroCells_size, zeroCells_size, ← Nat.add_mul]
    congr 1
    omega
  · intro hsz
    have h1 : ¬ (n < 0) := by omega
    have h2' : ¬ (n * i.bytes > 281474976710656) := by omega
    have h3 : ¬ (n.toNat ≤ 0) := by omega
    have h4 : ¬ ((n.toNat : Int) > IntKind.i64.max) := by simp [IntKind.max, IntKind.bits, IntKind.signed]; omega
    have h48 : ¬ (281474976710656 < Builtin.nextslicecap n.toNat 0 * i.bytes) := by
      have := hfit
      simp at this
      omega
    have h0' : ¬ (n ≤ 0 ∨ i.size = 0) := by omega
    have h5 : ¬ (n ≤ 0) := by omega
    have h6 : ¬ (9223372036854775807 < max n 0) := by omega
    have h7 : ¬ (281474976710656 < n * (i.bytes : Int)) := by omega
    simp [Builtin.append_, run_underlying ht, run_underlying h2, sizeOf, typeInfo, zeroValue, hi, hz, asInt, asIntOf, hwrap, h1, h5, h6, h7, h48, h0', Question.forced, newRow, grownCap, Builtin.firstCells]
    intro h
    rcases Nat.mul_eq_zero.1 h with h | h <;> omega
def vAppMk (P : Program) (t t2 d : Nat) (s x : AV) (σ : St) (K : AV → St → Prop) : Prop :=
  match slElem P t, P.underlying t2, s with
  | some e, some (.int _), .d (.sl .nil _ _) => if hasT P e && decide (0 < szOf P e) && decide (0 < bytesOfT P e) && zeroOk P e && decide (d < 100000) then
      asI x fun _ n => 0 < n ∧ n * bytesOfT P e ≤ 140737488355328 ∧ K (.zr d (szOf P e) n.toNat) (appSt σ none d)
    else False
  | _, _, _ => False
theorem Sim.drew' {F : F0} {G : Gh} {σ : St} {a : Act} {w : World} (hs : Sim F G σ a w) : Sim F G σ a w.drew := by
  have hp : Pres w G.S w.drew G.S := ⟨fun _ => Nat.le_refl _, fun _ _ _ => rfl⟩
  exact hs.upd (fun _ => True) (Gh.But.all G _) hp (fun _ _ => trivial) (fun _ _ => trivial) (fun _ _ => trivial) (fun _ _ => trivial) (fun _ _ => ⟨rfl, rfl⟩)
    ⟨hs.fr.os, hs.fr.tape, hs.fr.output, hs.fr.size, hs.fr.keep, ⟨hs.fr.pres.le, hs.fr.pres.cell⟩, hs.fr.fin⟩
theorem vAppMk_ok {P : Program} {F : F0} {G : Gh} {σ : St} {a : Act} {w : World} (hs : Sim F G σ a w) {o : Oper} {t t2 d : Nat} {s x : Operand} (ho : o.op = .call { callee := .builtin .append, args := #[s, x], argTypes := #[t, t2] }) {K : AV → St → Prop} {next : Act → World → Prop} {Q : Exit → Act → World → Prop}
    (h : vAppMk P t t2 d (ev σ s) (ev σ x) σ K) (hn : Nxt P o a F next K) : o.wp P a w next Q := by
  unfold vAppMk at h
  split at h
  case h_2 => exact h.elim
  rename_i e kk sz0 xs0 he hu2 hsv
  split at h
  case isFalse => exact h.elim
  rename_i hc
  simp only [Bool.and_eq_true, decide_eq_true_eq] at hc
  obtain ⟨⟨⟨⟨hT, hsz0⟩, hby0⟩, hzz⟩, hd⟩ := hc
  have hu := slElem_eq he
  have hT' := hT
  unfold hasT at hT'
  simp only [Bool.and_eq_true, Option.isSome_iff_exists] at hT'
  obtain ⟨_, i, hi⟩ := hT'
  have esz : i.size = szOf P e := by simp [szOf, hi]
  have eby : i.bytes = bytesOfT P e := by simp [bytesOfT, hi]
  obtain ⟨z, hz, zsz⟩ : ∃ z, i.zero = some z ∧ z.cells.size = szOf P e := by
    unfold zeroOk at hzz
    rw [hi] at hzz
    simp only at hzz
    split at hzz
    · rename_i v hv
      exact ⟨v, hv, by rw [← esz]; simpa using hzz⟩
    · cases hzz
  have hsr := ev_ok hs s
  rw [hsv] at hsr
  simp only [RA, R] at hsr
  obtain ⟨A, m, cap, hsv', _, _, hm, _⟩ := hsr
  obtain ⟨hm1, hm2⟩ := hm
  simp only at hm2
  subst hm2
  obtain ⟨rfl, rfl⟩ := hm1 rfl
  obtain ⟨kd, n, hx, hxv, h0, hlim, hK⟩ := asI_elim h (ev_ok hs x)
  obtain ⟨newCap, cells, g1, g2, g3⟩ := run_app_make (ty := o.type) (w := w) hu hi hz hu2 (kd := kd) h0 (by omega) (by omega) (by rw [eby]; exact hlim)
  have hrun := g3 (by rw [esz]; exact zsz)
  have hexec : (execOp a.eval o).run P w = .ok (.value (.slice (some ⟨w.heap.size, 0, none⟩) n.toNat newCap)) (w.drew.alloc (.cells cells e)) := by
    simp [execOp, ho, resolve, invoke, builtin, hsv', hxv, hrun]
  have hdr : Sim F G σ a w.drew := hs.drew'
  have h1 := hdr.kill d
  have hz' : upto G.S w.drew.heap.size 0 = G.S := by
    funext b
    by_cases e : b = w.drew.heap.size
    · subst e; rw [upto_same, hdr.fr.fin _ (Nat.le_refl _)]
    · rw [upto_ne _ _ e]
  have hp := Pres.alloc hdr.fr.fin (.cells cells e) 0
  have hf := hdr.fr.alloc (.cells cells e) 0
  rw [hz'] at hp hf
  have hb0 : w.drew.heap.size = w.heap.size := rfl
  have hG : G.But { β := upto G.β d w.heap.size, E := upto G.E d 0, Z := upto G.Z d cells.size, S := G.S, ov := G.ov } (fun j => j ≠ d) := ⟨fun j hj => upto_ne _ _ hj, fun j hj => upto_ne _ _ hj, fun j hj => upto_ne _ _ hj, rfl⟩
  have hs2 : Sim F { β := upto G.β d w.heap.size, E := upto G.E d 0, Z := upto G.Z d cells.size, S := G.S, ov := G.ov } (σ.kill d) a (w.drew.alloc (.cells cells e)) :=
    h1.upd (fun j => j ≠ d) hG hp (fun j hj => σ.kill_env d j hj) (fun j hj => St.kill_objs hdr d j hj) (fun j hj => σ.kill_rooms d j hj) (fun j hj => by omega)
      (fun j hj => ⟨heap_alloc_old w.drew _ _ (Nat.ne_of_lt (hj.lt h1)), rfl⟩) hf
  refine wp_value hexec (hn _ _ _ _ _ (hs2.addRoom d ?_ (fun o' => σ.kill_no d o') (fun hr => σ.kill_rooms d d hr rfl) ?_ ?_) ?_ hK)
  · unfold RoomOk
    simp only [upto_same]
    exact .inr ⟨cells, e, heap_alloc_at w.drew _, rfl, by rw [← hb0]; exact hdr.fr.fin _ (Nat.le_refl _)⟩
  · simp only [upto_same]
    intro _ j hj
    have l1 := Live.But hG (fun j hj => σ.kill_rooms d j hj) hj
    rw [upto_ne _ _ l1.kill.2]
    exact Nat.ne_of_lt (l1.lt h1)
  · simp only [upto_same]
    intro _
    exact .inr hdr.fr.size
  · simp only [RA, upto_same]
    refine ⟨newCap, rfl, trivial, ?_⟩
    rw [g2, zsz]
    exact Nat.le_refl _

/-! ### Slices made -/
def vMkSl (P : Program) (t : Nat) (l c : AV) (K : AV → Prop) : Prop :=
  match slElem P t with
  | some e => (match zeroD P e with
    | some z => if hasT P e && decide (0 < szOf P e) && decide (0 < bytesOfT P e) && (zeroOk P e && (zeroL P e).isSome) then
        asI l fun _ n => asI c fun _ m => n = m ∧ 0 ≤ n ∧ n * bytesOfT P e ≤ 140737488355328 ∧ K (.d (.sl .full (szOf P e) (List.replicate n.toNat z)))
      else False
    | none => False)
  | none => False
theorem run_makeSlice {P : Program} {w : World} {t e : Nat} {i : TypeInfo} {z : Value} (ht : P.underlying t = some (.slice e)) (hi : P.info? e = some i) (hz : i.zero = some z) (hsz : z.cells.size = i.size) {k1 k2 : IntKind} {n : Int} (hn : 0 ≤ n) (hb0 : 0 < i.bytes) (hs0 : 0 < i.size) (hby : n * i.bytes ≤ 140737488355328) :
    ∃ cells : Array Value, cells.size = n.toNat * i.size ∧ (∀ q j, q < n.toNat → j < i.size → cells[q * i.size + j]? = z.cells[j]?) ∧
      (Instr.makeSlice t (.int k1 n) (.int k2 n)).run P w = .ok (.slice (some ⟨w.heap.size, 0, none⟩) n.toNat n.toNat) (w.alloc (.cells cells e)) := by
  have hle : n ≤ n * i.bytes := by
    have : n * 1 ≤ n * i.bytes := Int.mul_le_mul_of_nonneg_left (by omega) (by omega)
    omega
  have hwrap : IntKind.i64.wrap n = n := IntWalk.i64_in n (by omega)
  have hnat : n.toNat * i.bytes ≤ 140737488355328 := by
    have : ((n.toNat * i.bytes : Nat) : Int) = n * i.bytes := by rw [Int.natCast_mul, Int.toNat_of_nonneg (by omega)]
    omega
  have h7 : ¬ (281474976710656 < (i.bytes : Int) * n) := by rw [Int.mul_comm]; omega
  have h1 : ¬ (n < 0) := by omega
  have hroom : ¬ (n.toNat * i.bytes > roomBytes) := by unfold roomBytes; omega
  by_cases h0 : n.toNat * i.size = 0
  · have hn0 : n = 0 := by
      rcases Nat.mul_eq_zero.1 h0 with h | h <;> omega
    subst hn0
    refine ⟨#[], by simp, fun q j hq => by simp at hq, ?_⟩
    have hw0 : IntKind.i64.wrap 0 = 0 := hwrap
    simp [Instr.makeSlice, run_underlying ht, typeInfo, hi, asInt, asIntOf, hw0, askRoom, sizeOf, newRow]
    exact congrArg (fun c => w.alloc (Obj.cells c e)) (Array.eq_empty_of_size_eq_zero (by simp))
  · refine ⟨(Array.range (n.toNat * i.size)).map fun j => z.cells[j % z.cells.size]!, by simp, fun q j hq hj => ?_, ?_⟩
    · have hlt : q * i.size + j < n.toNat * i.size := by
        have : (q + 1) * i.size ≤ n.toNat * i.size := Nat.mul_le_mul_right _ hq
        rw [Nat.add_mul] at this
        omega
      rw [Array.getElem?_map, Array.getElem?_range, if_pos hlt]
      simp only [Option.map_some, hsz]
      have hm : (q * i.size + j) % i.size = j := by rw [Nat.add_comm, Nat.add_mul_mod_self_right, Nat.mod_eq_of_lt hj]
      rw [hm, getElem!_def]
      simp [hsz, hj]
    · have hne : ¬ (n ≤ 0 ∨ i.size = 0) := by
        rintro (h | h)
        · exact h0 (by rw [show n.toNat = 0 by omega, Nat.zero_mul])
        · omega
      simp [Instr.makeSlice, run_underlying ht, typeInfo, hi, asInt, asIntOf, hwrap, h7, h1, askRoom, hroom, sizeOf, newRow, h0, hne, zeroValue, hz]
theorem vMkSl_ok {P : Program} {F : F0} {G : Gh} {σ σb : St} {a : Act} {w : World} (hs : Sim F G σ a w) (hb : Sim F G σb a w) {o : Oper} {t : Nat} {l c : Operand} (ho : o.op = .makeSlice t l c) {K : AV → Prop} {next : Act → World → Prop} {Q : Exit → Act → World → Prop}
    (h : vMkSl P t (ev σ l) (ev σ c) K) (hn : ∀ av G' u w', Sim F G' σb a w' → RA G' w' av u → K av → next (a.put o.dst u) w') : o.wp P a w next Q := by
  unfold vMkSl at h
  split at h
  case h_2 => exact h.elim
  rename_i e he
  split at h
  case h_2 => exact h.elim
  rename_i z hzD
  split at h
  case isFalse => exact h.elim
  rename_i hc
  simp only [Bool.and_eq_true, decide_eq_true_eq] at hc
  obtain ⟨⟨⟨hT, hsz0⟩, hby0⟩, hzz, hzL⟩ := hc
  have hu := slElem_eq he
  have hT' := hT
  unfold hasT at hT'
  simp only [Bool.and_eq_true, Option.isSome_iff_exists] at hT'
  obtain ⟨_, i, hi⟩ := hT'
  have esz : i.size = szOf P e := by simp [szOf, hi]
  have eby : i.bytes = bytesOfT P e := by simp [bytesOfT, hi]
  obtain ⟨zv, hz, zsz⟩ : ∃ z, i.zero = some z ∧ z.cells.size = i.size := by
    unfold zeroOk at hzz
    rw [hi] at hzz
    simp only at hzz
    split at hzz
    · rename_i v hv
      exact ⟨v, hv, by simpa using hzz⟩
    · cases hzz
  obtain ⟨zs, hzs⟩ := Option.isSome_iff_exists.1 hzL
  obtain ⟨v1, e1, hr1⟩ := zeroD_ok hzD w G.S
  obtain ⟨v2, e2, _, hone⟩ := zeroL_ok hzs w G.S
  have ezv : (zeroValue e).run P w = .ok zv w := by simp [zeroValue, typeInfo, hi, hz]
  rw [ezv] at e1 e2
  cases e1
  cases e2
  obtain ⟨k1, n, _, hlv, h⟩ := asI_elim h (ev_ok hs l)
  obtain ⟨k2, m, _, hcv, h⟩ := asI_elim h (ev_ok hs c)
  obtain ⟨rfl, h0, hlim, hK⟩ := h
  obtain ⟨cells, g1, g2, g3⟩ := run_makeSlice (w := w) hu hi hz zsz (k1 := k1) (k2 := k2) h0 (by omega) (by omega) (by rw [eby]; exact hlim)
  refine wp_value (u := .slice (some ⟨w.heap.size, 0, none⟩) n.toNat n.toNat) (w' := w.alloc (.cells cells e)) ?_ (hn _ _ _ _ (hb.allocD (.cells cells e) (n.toNat * szOf P e)) ?_ hK)
  · simp only [execOp, ho, hlv, hcv, Sem.run_bind, g3, Result.andThen_ok, Sem.run_pure]
  · simp only [RA, R]
    have hm : SM.ok .full (some ⟨w.heap.size, 0, none⟩) n.toNat n.toNat := And.intro (fun h => by cases h) (And.intro (fun h => by cases h) rfl)
    refine ⟨_, _, _, rfl, by simp, Nat.le_refl _, hm, fun ad had => ?_⟩
    cases had
    refine ⟨rfl, by simp [upto_same], RRow.mk fun q d hq => ?_⟩
    have hq' := List.getElem?_eq_some_iff.1 hq
    obtain ⟨hql, hqe⟩ := hq'
    simp only [List.length_replicate] at hql
    simp only [List.getElem_replicate] at hqe
    subst hqe
    refine ⟨zv, R.mono (Pres.alloc hs.fr.fin (.cells cells e) (n.toNat * szOf P e)) _ zv hr1, by rw [zsz, esz], hone, fun j hj => ?_⟩
    rw [← g2 q j hql (by rw [esz]; exact hj), esz]
    simp only [Nat.zero_add]
    exact cl_of_heap (heap_alloc_at w _) _
end Go.Qv
