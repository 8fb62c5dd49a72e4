/-
  WHAT IS PROVED: for every list of numbers (nil too, of any length) the law ImageSmall returns true: an image of so many numbers, and nothing else, has at most 200 + 12 bytes a number, or is refused as unsound; the list reads behind the call as it read before.
  CONDITIONS: those of the given row alone (the listed package variables hold what the program's text lays).
-/
import Derived.Test.YtmmefmebkgcpfaaGreatDoorImWit
import Derived.Test.YtmmefmebkgcpfaaGreatDoorImP
import Derived.Test.YtmmefmebkgcpfaaGreatDoorQvZ
namespace Go.Proofs.YtmmefmebkgcpfaaGreatDoor.imageSmall
open Go Go.ChangeShapes Go.WideShapes Go.ChangeAt Go.RowKit Go.Qv

set_option maxRecDepth 100000 in
/-- The argument as data. -/
theorem open_arg {H : Type} {enc : TypeId × Value → H} {W : World} {base : Nat} {a0 : Option Addr} {len cap fuel : Nat} {x : DataW H × List MemPlace} (hok : Value.okWide Tryz.prog W .any base 22 (.slice a0 len cap))
    (hf : DataW.trod enc Tryz.prog W 0 (fun _ => true) true fuel 22 [.slice a0 len cap] = some x) :
    ∃ (zs : List Int) (n : Nat), R W (allS W n).S (.sl .any 1 (zs.map fun z => .int .i64 z)) (.slice a0 len cap) := by
  rcases open_ints Tryz.underlying22 Tryz.underlying2 cells2 hf with ⟨hcs, hx⟩ | ⟨a, len', cap', zs, hcs, _, hl, hm, hz, hx, hcell, _⟩
  · simp at hcs
    obtain ⟨rfl, rfl, rfl⟩ := hcs
    refine ⟨[], 0, ?_⟩
    simp only [R, List.map_nil]
    exact ⟨none, 0, 0, rfl, rfl, Nat.le_refl _, And.intro (fun _ => And.intro rfl rfl) trivial, fun ad h => by cases h⟩
  · simp at hcs
    obtain ⟨rfl, rfl, rfl⟩ := hcs
    simp only [if_true] at hz
    simp only [Value.okWide, Tryz.underlying22, Cell.okWide, Cell.ok, World.has] at hok
    obtain ⟨_, _, _, hspot, row, cells, hsh, _⟩ := hok
    obtain ⟨b, off, spot⟩ := a
    simp only at hspot hsh
    subst hspot
    have hb : b < W.heap.size := by
      unfold World.shape? at hsh
      split at hsh
      · rename_i hh; exact (Array.getElem?_eq_some_iff.1 hh).1
      · cases hsh
    refine ⟨zs.take len, off + len, ?_⟩
    · simp only [R]
      have hlen : (zs.take len).length = len := by rw [List.length_take]; omega
      refine ⟨_, _, _, rfl, by rw [List.length_map, hlen], hl, And.intro (fun h => by cases h) trivial, fun ad had => ?_⟩
      cases had
      refine ⟨rfl, by simp [allS, hb], RRow.mk fun i d hi => ?_⟩
      rw [List.getElem?_map, Option.map_eq_some_iff] at hi
      obtain ⟨z, hz1, rfl⟩ := hi
      have hil : i < len := by
        have := (List.getElem?_eq_some_iff.1 hz1).1
        omega
      rw [List.getElem?_take_of_lt hil] at hz1
      have hc := hcell i (by omega)
      have hg : zs.getD i 0 = z := by simp [List.getD, hz1]
      rw [hg, add_cell] at hc
      refine ⟨.int .i64 z, by simp only [R], rfl, by simp [Value.cells, Val1], fun j hj => ?_⟩
      obtain rfl : j = 0 := by omega
      simpa [cl, Value.cells] using hc

set_option maxRecDepth 100000 in
theorem contract (H : Type) (enc : TypeId × Value → H) (W : World) (base : Nat) (args : Array Value) (ds gs : List (DataW H)) (before : List MemPlace)
    (hval : ∀ (j : Nat) t v, Tryz.f3.params[j]? = some t → args[j]? = some v → Value.okWide Tryz.prog W .any base t v)
    (hW : DataW.Whole enc Tryz.prog Tryz.f3.params.toList Rows.imageSmallSpec.vars false W args.toList ds gs before) :
    Calls Tryz.prog 3 args W fun e W' => ∃ v, e = .returned v ∧ Rows.imageSmallSpec.post enc Tryz.prog Tryz.f3 false true false false W args v W' := by
  have hW' := hW
  obtain ⟨p, q, hA0, hV, rfl, hfz, hnd⟩ := hW
  have hA : DataW.TrodAll enc Tryz.prog W 0 (fun _ => true) true Tryz.f3.params.toList args.toList ds p := hA0
  rw [Tryz.params3] at hA hval
  obtain ⟨v0, vs0, d0, ds0, p0, q0, hargs, rfl, rfl, h0, r0⟩ := trodAll_cons hA
  obtain ⟨rfl, rfl, rfl⟩ := trodAll_nil r0
  obtain rfl : args = #[v0] := by cases args; simp_all
  obtain ⟨rfl, rfl⟩ := trodVars_none hV
  have hok := hval 0 22 v0 rfl rfl
  obtain ⟨a0, len, cap, rfl⟩ := okWide_slice Tryz.underlying22 hok
  have h0k := h0
  obtain ⟨fuel, hf⟩ := h0
  clear hA0
  simp only [List.append_nil] at hW'
  obtain ⟨zs, n, hR⟩ := open_arg hok hf
  have hlt : ∀ x ∈ p0, x.block < W.heap.size := fun x hx => hW'.lt x hx
  have hcall := (cLaw zs).below (G := allS W n) (W := W) (vs := [.slice a0 len cap]) (allS_fin W n) ⟨_, [], rfl, by simp only [RA]; exact hR, rfl⟩
  refine hcall.mono fun e W' ⟨v, G', he, hr, bel⟩ => ?_
  simp only [RA, R] at hr
  subst hr
  refine ⟨_, he, _, _, _, [], p0, [], hW', ?_, ?_, ?_, bel.frame _, fun h => by cases h⟩
  · exact trodAll_cons_mk (shut_bool Tryz.underlying4 _) trodAll_mk0
  · exact trodAll_mk1 (Below.trod laidOut (by kernel_rfl) (of_decide_eq_true (by kernel_rfl)) h0k bel hlt)
  · rfl
set_option maxRecDepth 100000 in
theorem lifted (os : Os) (started : os.Started) (H : Type) (enc : TypeId × Value → H) (F : Stop.Interp) :
    ReturnsInHanded {} Tryz.checked os 3 .any ((OpenSpec.ofChange Rows.imageSmallSpec).preRow enc Tryz.prog Tryz.f3 Rows.imageSmallRow.domain false Rows.imageSmallRow.laid) (((OpenSpec.ofChange Rows.imageSmallSpec).at F).post enc Tryz.prog Tryz.f3 false true false false) := by
  refine returnsInHanded_of_row (C := Tryz.checked) (s := OpenSpec.ofChange Rows.imageSmallSpec) own started (by kernel_rfl) Tryz.func3
    (witness_row_atRef (enc := enc) (C := Tryz.checked) false (laidWorld os) #[.slice none 0 0] rfl (by kernel_rfl) (by kernel_rfl) (by kernel_rfl) (witness_row os enc)) ?_
  intro W base args ds gs before hval hW _ _ _ hL _ _
  exact contract H enc W base args ds gs before hval hW
set_option maxRecDepth 100000 in
theorem said : Rows.ImageSmallSaid :=
  OpenClaim.holds_of_cond 3 Tryz.f3 rfl rfl rfl rfl rfl rfl rfl ⟨rfl, rfl, rfl, rfl, rfl⟩ rfl rfl rfl rfl rfl (by kernel_rfl) Tryz.func3 (by kernel_rfl)
    (of_decide_eq_true (by kernel_rfl)) (by unfold Func.isWrapper; first | (rw [if_pos (by decide +kernel)]; kernel_rfl) | (rw [if_neg (by decide +kernel)]; exact ⟨rfl, rfl⟩))
    (fun os started H enc _ F => by rw [OpenClaim.pre_eq_preRow]; exact lifted os started H enc F)
theorem plain (f : FuncId) (fn : Func) (hf : Tryz.pinned.checked.prog.funcNamed "quire/quirelaw20.ImageSmall" = some f) (hfn : Tryz.pinned.checked.prog.funcs[f]? = some fn) :
    true = Tryz.pinned.checked.prog.looks [] ∧ ∀ (j : Nat) t, fn.params[j]? = some t → Tryz.pinned.checked.prog.wantsStandIn t = false := by
  obtain rfl : f = 3 := Option.some.inj ((show Tryz.prog.funcNamed "quire/quirelaw20.ImageSmall" = some 3 by kernel_rfl).symm.trans hf) |>.symm
  obtain rfl : fn = Tryz.f3 := (Option.some.inj (Tryz.func3.symm.trans hfn)).symm
  refine ⟨by kernel_rfl, fun j t ht => ?_⟩
  rw [Tryz.params3] at ht
  obtain rfl : t = 22 := by simpa using Array.mem_of_getElem? ht
  exact (show Tryz.prog.wantsStandIn 22 = false by kernel_rfl)
/-- The card: for every list of numbers the law returns true. -/
theorem imageSmall_holds : Rows.ImageSmallCardSaid :=
  Claim7.holds_tied_plain_at .later [] _ _ _ _ said (fun _ h => by cases h) (by kernel_rfl) (fun _ h => by cases h) imageSmall_row_tie rfl ⟨rfl, rfl⟩ (by kernel_rfl) rfl plain (by kernel_rfl)
#print axioms imageSmall_holds
end Go.Proofs.YtmmefmebkgcpfaaGreatDoor.imageSmall
