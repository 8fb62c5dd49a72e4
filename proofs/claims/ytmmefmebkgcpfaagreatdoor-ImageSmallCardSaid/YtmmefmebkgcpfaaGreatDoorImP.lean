/- A part of a proof about the program; its own words tell what it shows. -/
import Derived.Test.YtmmefmebkgcpfaaGreatDoorIm1
import Derived.Test.YtmmefmebkgcpfaaGreatDoorPutL
namespace Go.Qv
open Go Go.Proofs

theorem cPut (n : Int) (xs : List DV) (h0 : 0 ≤ n) (h1 : n < 9223372036854775808) (hl : xs.length ≤ 140000000000000) :
    AFn Tryz.prog 78 [.own 100000 1 xs, .d (.int .u64 n)] [] [100000] (.own 60 1 (xs ++ putB n)) [] [60] := by
  refine APut n xs _ ?_
  unfold FPut
  rw [band63 n h0 h1]
  have hlen := putN_len 8 n.toNat (by omega)
  refine ⟨fun vs => ∃ l i, vs = [.xs l, .n i] ∧ 0 ≤ i ∧ i ≤ n ∧ l ++ putB i = xs ++ putB n, fun vs => match vs with | [_, .n i] => i.toNat | _ => 0, ⟨⟨xs, n, rfl, h0, Int.le_refl _, rfl⟩, by repeat' (first | trivial | rfl | exact DvW.refl _ | apply And.intro)⟩, ?_⟩
  rintro l i ⟨_, _, e, hi0, hi1, hb⟩
  cases e
  have hll : l.length + (putN i.toNat).length = xs.length + (putN n.toNat).length := by
    have := congrArg List.length hb
    simpa [putB] using this
  refine CB.mk (fun hc => ?_) (fun hc => ?_)
  · have hc : i ≥ 128 := by simpa using hc
    have e1 : Int.fdiv i (2 ^ min 7 64) = i / 128 := fdiv128 i hi0
    rw [e1, bor128 i hi0]
    refine ⟨by omega, by decide, ⟨_, _, rfl, by omega, by omega, ?_⟩, ?_, by repeat' (first | trivial | rfl | exact DvW.refl _ | apply And.intro)⟩
    · rw [← hb]
      obtain ⟨m, rfl⟩ := Int.eq_ofNat_of_zero_le hi0
      have hm : (((m : Nat) : Int) / 128).toNat = m / 128 := by omega
      simp only [putB, hm, Int.toNat_natCast]
      rw [putN_ge (n := m) (by omega)]
      simp
    · simp only; omega
  · have hc : ¬ i ≥ 128 := by simpa using hc
    refine ⟨by omega, ?_, trivial, rfl⟩
    rw [← hb, putB, putN_lt (by omega)]
    have : IntKind.wrap .u8 i = i := IntWalk.u8_in _ (by omega)
    rw [this]
    simp [Int.toNat_of_nonneg hi0]
theorem cNum (n : Int) (xs : List DV) (h0 : 0 ≤ n) (h1 : n < 9223372036854775808) (hl : xs.length ≤ 140000000000000) :
    AFn Tryz.prog 29 [.ptr 100000 0, .d (.int .i64 n)] [(100000, .cells [.own 100001 1 xs])] [100001] (.tup []) [(100000, .cells [.own 60 1 (xs ++ putB n)])] [60] := by
  refine ANum n xs _ ?_
  unfold FNum
  rw [IntWalk.u64_in n (by omega)]
  exact ⟨_, cPut n xs h0 h1 hl, by repeat' (first | trivial | rfl | exact DvW.refl _ | apply And.intro)⟩
/-- The bytes of a number as a value. -/
def valB (n : Int) : List DV := if n < 0 then putB 2 ++ putB (-n) else putB 1 ++ putB n
theorem cWVal (n : Int) (xs : List DV) (h0 : -1152921504606846976 ≤ n) (h1 : n ≤ 1152921504606846975) (hl : xs.length ≤ 130000000000000) :
    AFn Tryz.prog 30 [.ptr 100000 0, .d (aInt n)] [(100000, .cells [.own 100001 1 xs])] [100001] (.tup []) [(100000, .cells [.own 60 1 (xs ++ valB n)])] [60] := by
  refine AWVal n xs _ ?_
  unfold FWVal
  have e1 : (putB 1).length = 1 := by decide +kernel
  have e2 : (putB 2).length = 1 := by decide +kernel
  refine CB.mk (fun hc => ?_) (fun hc => ?_)
  · have hc : n < 0 := by simpa using hc
    have ew : IntKind.wrap IntKind.u64 (IntKind.wrap IntKind.i64 (0 - n)) = -n := by
      rw [IntWalk.i64_in _ (by omega), IntWalk.u64_in _ (by omega)]; omega
    rw [ew]
    refine ⟨_, cNum 2 xs (by omega) (by omega) (by omega), _, cPut (-n) _ (by omega) (by omega) (by rw [List.length_append]; omega), ?_⟩
    rw [valB, if_pos hc, List.append_assoc]
    repeat' (first | trivial | rfl | exact DvW.refl _ | apply And.intro)
  · have hc : ¬ n < 0 := by simpa using hc
    have ew : IntKind.wrap IntKind.u64 n = n := IntWalk.u64_in _ (by omega)
    rw [ew]
    refine ⟨_, cNum 1 xs (by omega) (by omega) (by omega), _, cPut n _ (by omega) (by omega) (by rw [List.length_append]; omega), ?_⟩
    rw [valB, if_neg hc, List.append_assoc]
    repeat' (first | trivial | rfl | exact DvW.refl _ | apply And.intro)
theorem cIn (n : Int) : AFn Tryz.prog 140 [.d (.int .i64 n)] [] [] (.d (.bool (decide (-1152921504606846976 ≤ n ∧ n ≤ 1152921504606846975)))) [] [] := by
  refine AIn n _ ?_
  unfold FIn
  refine ⟨_, fun h => ?_, fun h => ?_, DvW.refl _, trivial, rfl⟩
  · simp at h; simp [h]
  · simp at h; simp; omega
def inB (n : Int) : Bool := decide (-1152921504606846976 ≤ n ∧ n ≤ 1152921504606846975)
theorem cMeasure (n : Int) : AFn Tryz.prog 85 [.d (vInt n), .d (.int .i64 1024), .d (.int .i64 0)] [] [] (.tup [.d (.int .i64 1), .d (.int .i64 0), .d (.bool (inB n))]) [] [] := by
  refine AMeasure n _ _ _ ?_
  unfold FMeasure
  exact ⟨false, fun _ => rfl, (fun h => by cases h), CB.mk (fun h => by cases h) (fun _ => ⟨_, cIn n, by repeat' (first | trivial | rfl | exact DvW.refl _ | apply And.intro)⟩)⟩
theorem cRSound (n : Int) : AFn Tryz.prog 35 [.d (vInt n)] [] [] (.d (.bool (inB n))) [] [] := by
  refine ARSound n _ ?_
  unfold FRSound
  refine ⟨_, _, _, cMeasure n, inB n, fun h => h.symm, fun h => h.symm, DvW.refl _, trivial, rfl⟩
theorem cBoxes (n : Int) : AFn Tryz.prog 86 [.d (vInt n)] [] [] (.d (.sl .any 1 [])) [] [] := by
  refine ABoxes n _ ?_
  unfold FBoxes
  exact ⟨DvW.nilS, trivial, rfl⟩
theorem cPut0 (n : Int) (h0 : 0 ≤ n) (h1 : n < 9223372036854775808) :
    AFn Tryz.prog 78 [.d (.sl .nil 0 []), .d (.int .u64 n)] [] [] (.own 60 1 (putB n)) [] [60] := by
  refine APut0 n _ ?_
  unfold FPut0
  rw [band63 n h0 h1]
  have hlen := putN_len 8 n.toNat (by omega)
  refine ⟨fun vs => ∃ l i, vs = [.xs l, .n i] ∧ 0 ≤ i ∧ i ≤ n ∧ l ++ putB i = putB n, fun vs => match vs with | [_, .n i] => i.toNat | _ => 0, ⟨⟨[], n, rfl, h0, Int.le_refl _, rfl⟩, by repeat' (first | trivial | rfl | exact DvW.refl _ | apply And.intro)⟩, ?_⟩
  rintro l i ⟨_, _, e, hi0, hi1, hb⟩
  cases e
  have hll : l.length + (putN i.toNat).length = (putN n.toNat).length := by
    have := congrArg List.length hb
    simpa [putB] using this
  refine CB.mk (fun hc => ?_) (fun hc => ?_)
  · have hc : i ≥ 128 := by simpa using hc
    have e1 : Int.fdiv i (2 ^ min 7 64) = i / 128 := fdiv128 i hi0
    rw [e1, bor128 i hi0]
    refine ⟨by omega, by decide, ⟨_, _, rfl, by omega, by omega, ?_⟩, ?_, by repeat' (first | trivial | rfl | exact DvW.refl _ | apply And.intro)⟩
    · rw [← hb]
      obtain ⟨m, rfl⟩ := Int.eq_ofNat_of_zero_le hi0
      have hm : (((m : Nat) : Int) / 128).toNat = m / 128 := by omega
      simp only [putB, hm, Int.toNat_natCast]
      rw [putN_ge (n := m) (by omega)]
      simp
    · simp only; omega
  · have hc : ¬ i ≥ 128 := by simpa using hc
    refine ⟨by omega, ?_, trivial, rfl⟩
    rw [← hb, putB, putN_lt (by omega)]
    have : IntKind.wrap .u8 i = i := IntWalk.u8_in _ (by omega)
    rw [this]
    simp [Int.toNat_of_nonneg hi0]
theorem cNum0 (n : Int) (h0 : 0 ≤ n) (h1 : n < 9223372036854775808) :
    AFn Tryz.prog 29 [.ptr 100000 0, .d (.int .i64 n)] [(100000, .cells [.d (.sl .nil 0 [])])] [] (.tup []) [(100000, .cells [.own 60 1 (putB n)])] [60] := by
  refine ANum0 n _ ?_
  unfold FNum0
  rw [IntWalk.u64_in n (by omega)]
  exact ⟨_, cPut0 n h0 h1, by repeat' (first | trivial | rfl | exact DvW.refl _ | apply And.intro)⟩
theorem cWDict (xs : List DV) (hl : xs.length ≤ 130000000000000) :
    AFn Tryz.prog 31 [.ptr 100000 0, .d dict0] [(100000, .cells [.own 100001 1 xs])] [100001] (.tup []) [(100000, .cells [.own 60 1 (xs ++ putB 0 ++ putB 0)])] [60] := by
  refine AWDict xs _ ?_
  unfold FWDict
  have e0 : (putB 0).length = 1 := by decide +kernel
  exact ⟨_, cNum 0 xs (by omega) (by omega) (by omega), _, cNum 0 _ (by omega) (by omega) (by rw [List.length_append]; omega), by repeat' (first | trivial | rfl | exact DvW.refl _ | apply And.intro)⟩

/-! ### The reference's look at a state -/
theorem get_map {α : Type} (f : α → DV) (l : List α) (i : Int) (h0 : 0 ≤ i) (h1 : i < ((l.map f).length : Int)) : ∃ (k : Nat) (hk : k < l.length), i = (k : Int) ∧ (l.map f)[i.toNat]? = some (f l[k]) := by
  obtain ⟨k, rfl⟩ := Int.eq_ofNat_of_zero_le h0
  rw [List.length_map] at h1
  have hk : k < l.length := by omega
  exact ⟨k, hk, rfl, by simp [hk]⟩
theorem wrap1 (i : Nat) (h : i < 9000000000000000000) : IntKind.wrap .i64 ((i : Int) + 1) = ((i + 1 : Nat) : Int) := by
  rw [IntWalk.i64_in _ (by omega)]; omega
theorem cRReached (l : List Int) (hl : l.length ≤ 256) : AFn Tryz.prog 36 [.ptr 100000 0] [(100000, .cells [.d (.sl .any 4 (l.map vInt)), .d (.sl .any 5 []), .d (.int .i64 1)])] [] (.tup [.d (.sl .any 1 []), .d (.bool true)]) [] [] := by
  refine ARReached l _ _ ?_
  unfold FRReached
  refine ⟨rfl, by decide, by decide, fun vs => ∃ k : Nat, k ≤ l.length ∧ vs = [.xs [], .n k], fun vs => match vs with | [_, .n i] => l.length - i.toNat | _ => 0, ⟨⟨0, Nat.zero_le _, rfl⟩, by repeat' (first | trivial | rfl | exact DvW.refl _ | apply And.intro)⟩, ?_⟩
  rintro l1 i ⟨k, hk, e⟩
  cases e
  refine CB.mk (fun hc => ?_) (fun hc => ?_)
  · have hc : (k : Int) < ((l.map vInt).length : Int) := by simpa using hc
    obtain ⟨j, hj, e, hx⟩ := get_map vInt l k (by omega) hc
    have e : j = k := by omega
    subst e
    rw [wrap1 _ (by omega)]
    refine ⟨by omega, _, hx, 1, l[j], es, [], DvW.refl _, [], cBoxes _, by simp, ⟨j + 1, by omega, rfl⟩, by simp only; omega, by repeat' (first | trivial | rfl | exact DvW.refl _ | apply And.intro)⟩
  · refine ⟨fun vs => vs = [.xs [], .b true], fun _ => 0, ⟨rfl, by repeat' (first | trivial | rfl | exact DvW.refl _ | apply And.intro)⟩, ?_⟩
    rintro l2 t e
    cases e
    refine CB.mk (fun hc => by simp at hc) (fun _ => ?_)
    refine ⟨⟨DvW.nilS, DvW.refl _, trivial⟩, trivial, rfl⟩
theorem cSSound (l : List Int) (hl : l.length ≤ 256) : AFn Tryz.prog 13 [.d (rState l)] [] [] (.d (.bool (l.all inB))) [] [] := by
  refine ASSound l _ ?_
  unfold FSSound
  refine ⟨false, fun _ => rfl, fun h => by simp at h; omega, false, fun _ => rfl, fun h => (by cases h), CB.mk (fun h => (by cases h)) fun _ => ?_⟩
  refine ⟨fun vs => ∃ k : Nat, k ≤ l.length ∧ vs = [.n k] ∧ (l.take k).all inB = true, fun vs => match vs with | [.n i] => l.length - i.toNat | _ => 0, ⟨⟨0, Nat.zero_le _, rfl, rfl⟩, by repeat' (first | trivial | rfl | exact DvW.refl _ | apply And.intro)⟩, ?_⟩
  rintro i ⟨k, hk, e, hall⟩
  cases e
  refine CB.mk (fun hc => ?_) (fun hc => ?_)
  · have hc : (k : Int) < ((l.map vInt).length : Int) := by simpa using hc
    obtain ⟨j, hj, e, hx⟩ := get_map vInt l k (by omega) hc
    have e : j = k := by omega
    subst e
    rw [wrap1 _ (by omega)]
    refine ⟨by omega, _, hx, 1, l[j], es, [], DvW.refl _, _, cRSound _, CB.mk (fun ht => ?_) (fun ht => ?_)⟩
    · refine ⟨DvW.bool ?_, trivial, rfl⟩
      have ht : inB l[j] = false := by simpa using ht
      symm
      rw [List.all_eq_false]
      exact ⟨l[j], List.getElem_mem _, by simp [ht]⟩
    · have ht : inB l[j] = true := by simpa using ht
      refine ⟨⟨j + 1, by omega, rfl, ?_⟩, by simp only; omega, by repeat' (first | trivial | rfl | exact DvW.refl _ | apply And.intro)⟩
      rw [List.take_succ_eq_append_getElem hj, List.all_append, hall]
      simp [ht]
  · have hc : ¬ (k : Int) < ((l.map vInt).length : Int) := by simpa using hc
    rw [List.length_map] at hc
    have e : k = l.length := by omega
    subst e
    rw [List.take_length] at hall
    refine ⟨[], true, cRReached l hl, CB.mk (fun h => by simp at h) (fun _ => ⟨DvW.bool hall.symm, trivial, rfl⟩)⟩

/-! ### The program's look at a state -/
theorem cTMeasure (n : Int) : AFn Tryz.prog 159 [.d (aInt n), .ptr 100000 0, .d (.int .i64 0)] [(100000, .cells [.d (.int .i64 1024)])] [] (.tup [.d (.int .i64 0), .d (.bool (inB n))]) [(100000, .cells [.d (.int .i64 1023)])] [] := by
  refine ATMeasure n _ _ _ ?_
  unfold FTMeasure
  have e1 : IntKind.wrap .i64 (1024 - 1) = 1023 := IntWalk.i64_in _ (by omega)
  rw [e1]
  refine ⟨false, fun _ => rfl, fun h => (by cases h), CB.mk (fun h => (by cases h)) fun _ => CB.mk (fun h => ?_) (fun h => ?_)⟩
  · refine ⟨⟨DvW.refl _, DvW.bool ?_, trivial⟩, ⟨⟨DvW.refl _, trivial⟩, trivial⟩, rfl⟩
    have h : n ≥ -1152921504606846976 := by simpa using h
    simp [inB, h]
  · refine ⟨⟨DvW.refl _, DvW.bool ?_, trivial⟩, ⟨⟨DvW.refl _, trivial⟩, trivial⟩, rfl⟩
    have h : ¬ n ≥ -1152921504606846976 := by simpa using h
    simp [inB]; omega
def eN (b : Bool) : Int := if b then 0 else 1
theorem cTCheck (n : Int) : AFn Tryz.prog 115 [.d (aInt n)] [] [] (.d (.int .i64 (eN (inB n)))) [] [] := by
  refine ATCheck n _ ?_
  unfold FTCheck
  refine ⟨_, _, _, cTMeasure n, CB.mk (fun h => ?_) (fun h => ?_)⟩
  · have h : inB n = false := by simpa using h
    rw [h]; exact ⟨DvW.refl _, trivial, rfl⟩
  · have h : inB n = true := by simpa using h
    rw [h]; exact ⟨DvW.refl _, trivial, rfl⟩
theorem cEach (n : Int) : AFn Tryz.prog 161 [.d (aInt n), .no] [] [] (.d (.bool true)) [] [] := by
  refine AEach n _ ?_
  unfold FEach
  exact ⟨DvW.refl _, trivial, rfl⟩
theorem cPReached (l : List Int) (hl : l.length ≤ 256) : AFn Tryz.prog 116 [.d (.sl .any 1 (l.map aInt)), .mp 100000] [(100000, .mapI .i64 [])] [] (.mp 9) [(100000, .mapI .i64 []), (9, .mapI .i64 [])] [] := by
  refine APReached l _ ?_
  unfold FPReached
  refine ⟨fun vs => ∃ k : Nat, k ≤ l.length ∧ vs = [.n k], fun vs => match vs with | [.n i] => l.length - i.toNat | _ => 0, ⟨⟨0, Nat.zero_le _, rfl⟩, by repeat' (first | trivial | rfl | exact DvW.refl _ | apply And.intro)⟩, ?_⟩
  rintro i ⟨k, hk, e⟩
  cases e
  refine CB.mk (fun hc => ?_) (fun hc => ?_)
  · have hc : (k : Int) < ((l.map aInt).length : Int) := by simpa using hc
    obtain ⟨j, hj, e, hx⟩ := get_map aInt l k (by omega) hc
    have e : j = k := by omega
    subst e
    rw [wrap1 _ (by omega)]
    refine ⟨by omega, _, hx, aInt l[j], DvW.refl _, CB.mk (fun _ => CB.mk (fun _ => CB.mk (fun _ => ?_) (fun h => ?_)) (fun h => ?_)) (fun h => ?_)⟩
    · exact ⟨true, cEach _, ⟨j + 1, by omega, rfl⟩, by simp only; omega, by repeat' (first | trivial | rfl | exact DvW.refl _ | apply And.intro)⟩
    · simp [isNilD, aInt] at h
    · simp [isIfD, aInt] at h
    · simp [isCell, aInt] at h
  · repeat' (first | trivial | rfl | exact DvW.refl _ | apply And.intro)
theorem cNamed (l : List Int) (hl : l.length ≤ 256) : AFn Tryz.prog 117 [.d (pState l), .mp 100000] [(100000, .mapI .i64 [])] [] (.d (.bool (l.all inB))) [(100000, .mapI .i64 [])] [] := by
  refine ANamed l _ ?_
  unfold FNamed
  refine ⟨fun vs => ∃ k : Nat, k ≤ l.length ∧ vs = [.n k] ∧ (l.take k).all inB = true, fun vs => match vs with | [.n i] => l.length - i.toNat | _ => 0, ⟨⟨0, Nat.zero_le _, rfl, rfl⟩, by repeat' (first | trivial | rfl | exact DvW.refl _ | apply And.intro)⟩, ?_⟩
  rintro i ⟨k, hk, e, hall⟩
  cases e
  refine CB.mk (fun hc => ?_) (fun hc => ?_)
  · have hc : (k : Int) < ((l.map aInt).length : Int) := by simpa using hc
    obtain ⟨j, hj, e, hx⟩ := get_map aInt l k (by omega) hc
    have e : j = k := by omega
    subst e
    rw [wrap1 _ (by omega)]
    refine ⟨by omega, _, hx, aInt l[j], DvW.refl _, CB.mk (fun _ => ?_) (fun h => by simp [isCell, aInt] at h)⟩
    cases hb : inB l[j] with
    | false =>
      have := cTCheck l[j]
      rw [hb] at this
      refine ⟨_, this, CB.mk (fun h => by simp [eN] at h) (fun _ => ⟨DvW.bool ?_, by repeat' (first | trivial | rfl | exact DvW.refl _ | apply And.intro)⟩)⟩
      symm
      rw [List.all_eq_false]
      exact ⟨l[j], List.getElem_mem _, by simp [hb]⟩
    | true =>
      have := cTCheck l[j]
      rw [hb] at this
      refine ⟨_, this, CB.mk (fun _ => ⟨true, cEach _, CB.mk (fun h => by cases h) (fun _ => ⟨⟨j + 1, by omega, rfl, ?_⟩, by simp only; omega, by repeat' (first | trivial | rfl | exact DvW.refl _ | apply And.intro)⟩)⟩) (fun h => by simp [eN] at h)⟩
      rw [List.take_succ_eq_append_getElem hj, List.all_append, hall]
      simp [hb]
  · have hc : ¬ (k : Int) < ((l.map aInt).length : Int) := by simpa using hc
    rw [List.length_map] at hc
    have e : k = l.length := by omega
    subst e
    rw [List.take_length] at hall
    rw [hall]
    intro c
    repeat' (first | trivial | rfl | exact DvW.refl _ | apply And.intro)
theorem cPSound (l : List Int) (hl : l.length ≤ 256) : AFn Tryz.prog 59 [.d (pState l)] [] [] (.d (.bool (l.all inB))) [] [] := by
  refine APSound l _ ?_
  unfold FPSound
  refine ⟨false, fun _ => rfl, fun h => by simp at h; omega, false, fun _ => rfl, fun h => (by cases h), CB.mk (fun h => (by cases h)) fun _ => ?_⟩
  exact ⟨_, _, cPReached l hl, CB.mk (fun _ => ⟨_, _, cNamed l hl, DvW.refl _, trivial, rfl⟩) (fun h => by simp at h)⟩

/-! ### The empty dictionary -/
theorem cUses0 : AFn Tryz.prog 163 [.d dict0] [] [] (.mp 6) [(6, .mapS [])] [] := by
  refine AUses0 _ ?_
  unfold FUses0
  repeat' (first | trivial | rfl | exact DvW.refl _ | apply And.intro)
theorem cVocabs0 : AFn Tryz.prog 119 [.d dict0] [] [] (.d (.bool true)) [] [] := by
  refine AVocabs0 _ ?_
  unfold FVocabs0
  exact ⟨_, cUses0, fun _ => CB.mk (fun _ => ⟨DvW.refl _, trivial, rfl⟩) (fun h => by cases h)⟩
theorem cLook0 : AFn Tryz.prog 120 [.d dict0] [] [] (.ptr 11 0) [(11, .cells [.d (.sl .any 2 []), .d (.sl .any 5 []), .mp 10128, .mp 9, .own 61 3 []]), (10128, .mapS []), (9, .mapS [])] [61] := by
  refine ALook0 _ _ _ ?_
  unfold FLook0
  repeat' (first | exact ⟨_, cUses0, by repeat' (first | trivial | rfl | exact DvW.refl _ | apply And.intro)⟩ | apply And.intro)
theorem cDCheck0 : AFn Tryz.prog 61 [.d dict0] [] [] (.d (.int .i64 0)) [] [] := by
  refine ADCheck0 _ ?_
  unfold FDCheck0
  exact ⟨_, cVocabs0, false, fun _ => rfl, (fun h => by cases h), CB.mk (fun h => by cases h) fun _ => ⟨_, _, _, _, _, cLook0, DvW.refl _, trivial, rfl⟩⟩
theorem cGrow0 : AFn Tryz.prog 118 [.d (.sl .nil 0 []), .d (.int .i64 1)] [] [] (.own 22 2 []) [] [22] := by
  refine AGrow0 _ ?_
  unfold FGrow0
  have e1 : IntKind.wrap IntKind.i64 (0 - Int.ofNat 0) = 0 := IntWalk.i64_in _ (by decide)
  have e2 : IntKind.wrap IntKind.i64 (1 - 0) = 1 := IntWalk.i64_in _ (by decide)
  rw [e1, e2]
  refine CB.mk (fun h => by simp at h) (fun _ => CB.mk (fun _ => ?_) (fun h => by simp at h))
  repeat' (first | trivial | rfl | exact DvW.refl _ | apply And.intro | decide)
theorem cConcat0 : AFn Tryz.prog 60 [.d (.sl .any 1 [.sl .any 2 [dict0], .sl .any 2 [], .sl .any 2 []])] [] [] (.own 60 2 [dict0]) [] [60] := by
  refine AConcat0 _ ?_
  unfold FConcat0
  have e1 : IntKind.wrap IntKind.i64 (0 + ((List.length [dict0] : Nat) : Int)) = 1 := IntWalk.i64_in _ (by decide)
  have e2 : IntKind.wrap IntKind.i64 (1 + ((List.length ([] : List DV) : Nat) : Int)) = 1 := IntWalk.i64_in _ (by decide)
  have w1 : (0 : Int) ≤ IntKind.wrap IntKind.i64 (Int.ofNat 1) := by decide
  have w2 : (0 : Int) ≤ IntKind.wrap IntKind.i64 (Int.ofNat 2) := by decide
  refine ⟨by decide, _, rfl, [dict0], DvW.refl _, ?_⟩
  rw [e1]
  refine CB.mk (fun h => by simp at h) fun _ => ⟨w1, _, rfl, [], DvW.refl _, ?_⟩
  rw [e2]
  refine CB.mk (fun h => by simp at h) fun _ => ⟨w2, _, rfl, [], DvW.refl _, ?_⟩
  rw [e2]
  refine CB.mk (fun h => by simp at h) fun _ => ⟨_, cGrow0, by decide, _, rfl, [dict0], DvW.refl _, by decide, w1, _, rfl, [], DvW.refl _, by decide, w2, _, rfl, [], DvW.refl _, by decide, rfl, trivial, rfl⟩
theorem cICheck (l : List Int) (hl : l.length ≤ 256) : AFn Tryz.prog 20 [.d (pImage l)] [] [] (.d (.int .i64 (eN (l.all inB)))) [] [] := by
  refine AICheck l _ ?_
  unfold FICheck
  have hs := cPSound l hl
  cases hb : l.all inB with
  | false =>
    rw [hb] at hs
    exact ⟨_, hs, true, (fun h => by cases h), fun _ => rfl, true, (fun h => by cases h), fun _ => rfl, CB.mk (fun _ => ⟨DvW.refl _, trivial, rfl⟩) (fun h => by cases h)⟩
  | true =>
    rw [hb] at hs
    refine ⟨_, hs, false, fun _ => rfl, (fun h => by cases h), false, fun _ => rfl, (fun h => by cases h), CB.mk (fun h => by cases h) (fun _ => ?_)⟩
    refine ⟨[dict0], cConcat0.weak (.d (DvW.any (DvWL.cons DvW.anyR (DvWL.cons (DvW.refl _) (DvWL.cons (DvW.refl _) DvWL.nil)))) .nil), CB.mk (fun _ => ?_) (fun h => by simp at h)⟩
    refine ⟨by decide, _, rfl, [], [], DvW.refl _, _, cDCheck0, CB.mk (fun h => by simp at h) fun _ => ?_⟩
    have e1 : IntKind.wrap IntKind.i64 (Int.ofNat 1) = 1 := by decide
    rw [e1]
    exact CB.mk (fun h => by simp at h) fun _ => ⟨DvW.refl _, trivial, rfl⟩

/-! ### The bytes -/
def allBytes (l : List Int) : List DV := putB 1 ++ putB l.length ++ l.flatMap valB ++ putB 0 ++ (putB 0 ++ putB 0) ++ putB 0 ++ putB 0
theorem putB_len (n : Int) (h : n < 9223372036854775808) : (putB n).length ≤ 9 := by
  have := putN_len 8 n.toNat (by omega)
  simpa [putB] using this
theorem valB_len (n : Int) (h0 : -1152921504606846976 ≤ n) (h1 : n ≤ 1152921504606846975) : (valB n).length ≤ 10 := by
  have e1 : (putB 1).length = 1 := by decide +kernel
  have e2 : (putB 2).length = 1 := by decide +kernel
  have a1 := putB_len n (by omega)
  have a2 := putB_len (-n) (by omega)
  unfold valB
  split <;> rw [List.length_append] <;> omega
theorem vals_len : ∀ (l : List Int), l.all inB = true → (l.flatMap valB).length ≤ 10 * l.length
  | [], _ => by simp
  | n :: l, h => by
    simp only [List.all_cons, Bool.and_eq_true] at h
    have h1 : -1152921504606846976 ≤ n ∧ n ≤ 1152921504606846975 := by simpa [inB] using h.1
    have := valB_len n h1.1 h1.2
    have := vals_len l h.2
    simp only [List.flatMap_cons, List.length_append, List.length_cons]
    omega
theorem all_len (l : List Int) (hl : l.length ≤ 256) (h : l.all inB = true) : (allBytes l).length ≤ 200 + 12 * l.length := by
  have e0 : (putB 0).length = 1 := by decide +kernel
  have e1 : (putB 1).length = 1 := by decide +kernel
  have := putB_len l.length (by omega)
  have := vals_len l h
  simp only [allBytes, List.length_append]
  omega
theorem all_pos (l : List Int) : 0 < (allBytes l).length := by
  have e1 : (putB 1).length = 1 := by decide +kernel
  simp only [allBytes, List.length_append]
  omega
theorem cIBytesNo (l : List Int) (hl : l.length ≤ 256) (hb : l.all inB = false) : AFn Tryz.prog 11 [.d (pImage l)] [] [] (.tup [.d (.sl .any 1 []), .d (.int .i64 1)]) [] [] := by
  refine AIBytes l _ _ ?_
  unfold FIBytes
  have hc := cICheck l hl
  rw [hb] at hc
  exact ⟨_, hc, CB.mk (fun _ => ⟨⟨DvW.nilS, DvW.refl _, trivial⟩, trivial, rfl⟩) (fun h => by simp [eN] at h)⟩
theorem cIBytes (l : List Int) (hl : l.length ≤ 256) (hb : l.all inB = true) : AFn Tryz.prog 11 [.d (pImage l)] [] [] (.tup [.d (.sl .any 1 (allBytes l)), .d (.int .i64 0)]) [] [] := by
  refine AIBytes l _ _ ?_
  unfold FIBytes
  have hc := cICheck l hl
  rw [hb] at hc
  have e0 : (putB 0).length = 1 := by decide +kernel
  have e1 : (putB 1).length = 1 := by decide +kernel
  have e2 := putB_len l.length (by omega)
  have hv := vals_len l hb
  have hin : ∀ j (hj : j < l.length), -1152921504606846976 ≤ l[j] ∧ l[j] ≤ 1152921504606846975 := by
    intro j hj
    have := List.all_eq_true.1 hb l[j] (List.getElem_mem _)
    simpa [inB] using this
  have htake : ∀ k, k ≤ l.length → ((l.take k).flatMap valB).length ≤ 10 * k := by
    intro k hk
    have := vals_len (l.take k) (by
      rw [List.all_eq_true] at hb ⊢
      exact fun x hx => hb x (List.mem_of_mem_take hx))
    rw [List.length_take] at this
    omega
  refine ⟨_, hc, CB.mk (fun h => by simp [eN] at h) (fun _ => ?_)⟩
  refine ⟨_, cNum0 1 (by omega) (by omega), putB 1 ++ putB l.length, by
    have := cNum (l.length : Int) (putB 1) (by omega) (by omega) (by omega)
    rw [List.length_map]
    exact this, ?_⟩
  refine ⟨fun vs => ∃ k : Nat, k ≤ l.length ∧ vs = [.n k, .xs (putB 1 ++ putB l.length ++ (l.take k).flatMap valB)], fun vs => match vs with | [.n i, _] => l.length - i.toNat | _ => 0, ⟨⟨0, Nat.zero_le _, by simp⟩, by repeat' (first | trivial | rfl | exact DvW.refl _ | apply And.intro)⟩, ?_⟩
  rintro i l1 ⟨k, hk, e⟩
  cases e
  refine CB.mk (fun hc => ?_) (fun hc => ?_)
  · have hc : (k : Int) < ((l.map aInt).length : Int) := by simpa using hc
    obtain ⟨j, hj, e, hx⟩ := get_map aInt l k (by omega) hc
    have e : j = k := by omega
    subst e
    rw [wrap1 _ (by omega)]
    have := htake j hk
    refine ⟨by omega, _, hx, aInt l[j], DvW.refl _, CB.mk (fun _ => ?_) (fun h => by simp [isCell, aInt] at h)⟩
    refine ⟨_, cWVal l[j] _ (hin j hj).1 (hin j hj).2 (by simp only [List.length_append]; omega), ⟨j + 1, by omega, ?_⟩, by simp only; omega, by repeat' (first | trivial | rfl | exact DvW.refl _ | apply And.intro)⟩
    rw [List.take_succ_eq_append_getElem hj, List.flatMap_append]
    simp [List.append_assoc]
  · have hc : ¬ (k : Int) < ((l.map aInt).length : Int) := by simpa using hc
    rw [List.length_map] at hc
    have e : k = l.length := by omega
    subst e
    rw [List.take_length]
    have hlim : ¬ ((allBytes l).length : Int) > 65536 := by have := all_len l hl hb; omega
    refine ⟨_, cNum 0 _ (by omega) (by omega) (by simp only [List.length_append]; omega), _, cWDict _ (by simp only [List.length_append]; omega), by decide, _, rfl, [], DvW.refl _, _, cNum 0 _ (by omega) (by omega) (by simp only [List.length_append]; omega), CB.mk (fun h => by simp at h) (fun _ => ?_)⟩
    refine ⟨by decide, _, rfl, [], DvW.refl _, _, cNum 0 _ (by omega) (by omega) (by simp only [List.length_append]; omega), CB.mk (fun h => by simp at h) (fun _ => ?_)⟩
    have ee : putB 1 ++ putB ↑l.length ++ List.flatMap valB l ++ putB 0 ++ putB 0 ++ putB 0 ++ putB 0 ++ putB 0 = allBytes l := by simp [allBytes, List.append_assoc]
    rw [ee]
    exact CB.mk (fun h => absurd (by simpa using h) hlim) (fun _ => ⟨⟨DvW.refl _, DvW.refl _, trivial⟩, trivial, rfl⟩)

/-! ### The statement's own functions -/
theorem cLValue (n : Int) : AFn Tryz.prog 83 [.d (vInt n)] [] [] (.d (aInt n)) [] [] := by
  refine ALValue n _ ?_
  unfold FLValue
  exact ⟨DvW.refl _, trivial, rfl⟩
theorem cLValues (l : List Int) (hl : l.length ≤ 256) : AFn Tryz.prog 82 [.d (.sl .any 4 (l.map vInt))] [] [] (.d (.sl .any 1 (l.map aInt))) [] [] := by
  refine ALValues l _ ?_
  unfold FLValues
  refine ⟨fun vs => ∃ k : Nat, k ≤ l.length ∧ vs = [.xs ((l.take k).map aInt), .n k], fun vs => match vs with | [_, .n i] => l.length - i.toNat | _ => 0, ⟨⟨0, Nat.zero_le _, rfl⟩, by repeat' (first | trivial | rfl | exact DvW.refl _ | apply And.intro)⟩, ?_⟩
  rintro l1 i ⟨k, hk, e⟩
  cases e
  refine CB.mk (fun hc => ?_) (fun hc => ?_)
  · have hc : (k : Int) < ((l.map vInt).length : Int) := by simpa using hc
    obtain ⟨j, hj, e, hx⟩ := get_map vInt l k (by omega) hc
    have e : j = k := by omega
    subst e
    rw [wrap1 _ (by omega)]
    refine ⟨by omega, _, hx, 1, l[j], es, [], DvW.refl _, aInt l[j], cLValue _, CB.mk (fun _ => ?_) (fun h => by simp [isCell, aInt] at h)⟩
    refine ⟨by simp only [List.length_map, List.length_take]; omega, ⟨j + 1, by omega, ?_⟩, by simp only; omega, by repeat' (first | trivial | rfl | exact DvW.refl _ | apply And.intro)⟩
    rw [List.take_succ_eq_append_getElem hj, List.map_append]
    rfl
  · have hc : ¬ (k : Int) < ((l.map vInt).length : Int) := by simpa using hc
    rw [List.length_map] at hc
    have e : k = l.length := by omega
    subst e
    rw [List.take_length]
    exact ⟨DvW.refl _, trivial, rfl⟩
theorem cLState (l : List Int) (hl : l.length ≤ 256) : AFn Tryz.prog 32 [.d (rState l)] [] [] (.d (pState l)) [] [] := by
  refine ALState l _ ?_
  unfold FLState
  exact ⟨_, cLValues l hl, DvW.agg (DvWL.cons (DvW.refl _) (DvWL.cons DvW.nilS (DvWL.cons (DvW.refl _) DvWL.nil))), trivial, rfl⟩
theorem cLDict : AFn Tryz.prog 33 [.d dict0] [] [] (.d dict0) [] [] := by
  refine ALDict _ ?_
  unfold FLDict
  exact ⟨DvW.agg (DvWL.cons DvW.nilS (DvWL.cons DvW.nilS DvWL.nil)), trivial, rfl⟩
theorem cLDicts : AFn Tryz.prog 34 [.d (.sl .any 2 [])] [] [] (.d (.sl .any 2 [])) [] [] := by
  refine ALDicts _ ?_
  unfold FLDicts
  exact ⟨DvW.nilS, trivial, rfl⟩
theorem cLImage (l : List Int) (hl : l.length ≤ 256) : AFn Tryz.prog 12 [.d (rImage l)] [] [] (.d (pImage l)) [] [] := by
  refine ALImage l _ ?_
  unfold FLImage
  exact ⟨_, _, _, cLState l hl, _, _, cLDict, _, cLDicts, _, cLDicts, DvW.refl _, trivial, rfl⟩
theorem cPSoundZ : AFn Tryz.prog 59 [.d (.agg [.sl .any 1 [], .sl .any 2 [], .int .i64 0])] [] [] (.d (.bool false)) [] [] := by
  refine APSoundZ _ ?_
  unfold FPSoundZ
  exact ⟨true, fun _ => rfl, (fun h => by cases h), true, (fun h => by cases h), fun _ => rfl, CB.mk (fun _ => ⟨DvW.refl _, trivial, rfl⟩) (fun h => by cases h)⟩
theorem cICheckZ : AFn Tryz.prog 20 [.d (.agg [.sl .any 1 [], .sl .any 2 [], .int .i64 0, .sl .any 2 [], .sl .any 5 [], .sl .any 2 [], .sl .any 2 []])] [] [] (.d (.int .i64 1)) [] [] := by
  refine AICheckZ _ ?_
  unfold FICheckZ
  exact ⟨_, cPSoundZ, true, (fun h => by cases h), fun _ => rfl, true, (fun h => by cases h), fun _ => rfl, CB.mk (fun _ => ⟨DvW.refl _, trivial, rfl⟩) (fun h => by cases h)⟩
theorem cAwake : AFn Tryz.prog 10 [] [] [] (.d (.bool true)) [] [] := by
  refine AAwake _ ?_
  unfold FAwake
  refine ⟨_, _, (cIBytes [] (by simp) rfl).weak (.d (DvW.agg (by repeat' (first | exact DvWL.nil | apply DvWL.cons | exact DvW.nilS | exact DvW.refl _))) .nil), true, fun _ => ?_, fun h => by simp at h, true, fun _ => ⟨_, cICheckZ.weak (.d (DvW.agg (by repeat' (first | exact DvWL.nil | apply DvWL.cons | exact DvW.nilS | exact DvW.refl _))) .nil), rfl⟩, (fun h => by cases h), DvW.refl _, trivial, rfl⟩
  have := all_pos []
  simp only [decide_eq_true_eq]
  omega
def vInt0 (n : Int) : DV := .agg [.int .i64 1, .int .i64 n, .str { data := #[] }, .sl .nil 0 []]
theorem vInt0_le : ∀ l : List Int, DvWL (l.map vInt0) (l.map vInt)
  | [] => DvWL.nil
  | n :: l => DvWL.cons (DvW.agg (DvWL.cons (DvW.refl _) (DvWL.cons (DvW.refl _) (DvWL.cons (DvW.refl _) (DvWL.cons DvW.nilS DvWL.nil))))) (vInt0_le l)
theorem cLaw (l : List Int) : AFn Tryz.prog 3 [.d (.sl .any 1 (l.map fun n => .int .i64 n))] [] [] (.d (.bool true)) [] [] := by
  refine ALaw l .any 0 _ ?_
  unfold FLaw
  refine ⟨_, cAwake, CB.mk (fun h => by cases h) (fun _ => ?_)⟩
  refine ⟨fun vs => ∃ k : Nat, k ≤ l.length ∧ k ≤ 256 ∧ vs = [.n k, .xs ((l.take k).map vInt0)], fun vs => match vs with | [.n i, _] => l.length - i.toNat | _ => 0, ⟨⟨0, Nat.zero_le _, by omega, rfl⟩, by repeat' (first | trivial | rfl | exact DvW.refl _ | apply And.intro)⟩, ?_⟩
  rintro i l1 ⟨k, hk, hk2, e⟩
  cases e
  by_cases hlt : k < l.length ∧ k < 256
  · refine ⟨true, fun _ => by simp; omega, fun h => ?_, CB.mk (fun _ => ?_) (fun h => by cases h)⟩
    · simp at h; omega
    · obtain ⟨j, hj, e, hx⟩ := get_map (fun n => DV.int .i64 n) l k (by omega) (by rw [List.length_map]; omega)
      have e : j = k := by omega
      subst e
      rw [wrap1 _ (by omega)]
      refine ⟨by omega, _, hx, l[j], DvW.refl _, by simp only [List.length_map, List.length_take]; omega, ⟨j + 1, by omega, by omega, ?_⟩, by simp only; omega, by repeat' (first | trivial | rfl | exact DvW.refl _ | apply And.intro)⟩
      rw [List.take_succ_eq_append_getElem hj, List.map_append]
      rfl
  · refine ⟨false, fun h => ?_, fun _ => rfl, CB.mk (fun h => by cases h) (fun _ => ?_)⟩
    · simp at h; simp; omega
    · obtain ⟨m, hm⟩ : ∃ m, m = l.take k := ⟨_, rfl⟩
      have hml : m.length ≤ 256 := by rw [hm, List.length_take]; omega
      rw [← hm]
      have a1 : AFn Tryz.prog 12 [.d (DV.agg [DV.sl SM.any 4 (m.map vInt0), DV.sl SM.nil 0 [], DV.int IntKind.i64 1, DV.sl SM.nil 0 [], DV.sl SM.nil 0 [], DV.sl SM.nil 0 [], DV.sl SM.nil 0 []])] [] [] (.d (pImage m)) [] [] := (cLImage m hml).weak (.d (DvW.agg (DvWL.cons (DvW.any (vInt0_le m)) (by repeat' (first | exact DvWL.nil | apply DvWL.cons | exact DvW.nilS | exact DvW.refl _)))) .nil)
      have a3 : AFn Tryz.prog 13 [.d (DV.agg [DV.sl SM.any 4 (m.map vInt0), DV.sl SM.nil 0 [], DV.int IntKind.i64 1])] [] [] (.d (.bool (m.all inB))) [] [] := (cSSound m hml).weak (.d (DvW.agg (DvWL.cons (DvW.any (vInt0_le m)) (by repeat' (first | exact DvWL.nil | apply DvWL.cons | exact DvW.nilS | exact DvW.refl _)))) .nil)
      cases hb : m.all inB with
      | false =>
        rw [hb] at a3
        exact ⟨_, _, _, _, _, _, _, a1, _, _, cIBytesNo m hml hb, _, a3, CB.mk (fun _ => ⟨DvW.refl _, trivial, rfl⟩) (fun h => by cases h)⟩
      | true =>
        rw [hb] at a3
        refine ⟨_, _, _, _, _, _, _, a1, _, _, cIBytes m hml hb, _, a3, CB.mk (fun h => by cases h) (fun _ => ⟨true, fun _ => ?_, fun h => by simp at h, DvW.refl _, trivial, rfl⟩)⟩
        have h1 := all_len m hml hb
        rw [List.length_map, IntWalk.i64_in (12 * _) (by omega), IntWalk.i64_in _ (by omega)]
        simp only [decide_eq_true_eq]
        omega
end Go.Qv
