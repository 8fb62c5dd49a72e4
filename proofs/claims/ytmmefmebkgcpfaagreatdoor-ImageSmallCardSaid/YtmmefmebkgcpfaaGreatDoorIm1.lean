/- A part of a proof about the program; its own words tell what it shows. -/
import Derived.Test.YtmmefmebkgcpfaaGreatDoorImA
open Go Go.Proofs Go.Qv
set_option maxRecDepth 100000
namespace Go.Qv
/-! quire/sum.Put -/
def AnPut : Ann := { loop := fun b => match b with
  | 0 => ⟨[⟨.slot 0, .own 50 1⟩, ⟨.slot 1, .int .u64⟩], [], [], []⟩
  | _ => ⟨[], [], [], []⟩, unroll := fun b => match b with | _ => 0, join := fun b => match b with | _ => none, quiet := fun b => match b with | _ => [], tab := fun b => match b with | _ => #[], enum := fun b => match b with | _ => false, split := fun b => match b with | _ => false, meet := fun b => match b with | _ => true }
def FPut (n : Int) (xs ys : List DV) : Prop :=
  ∃ I : List PV → Prop, ∃ v : List PV → Nat,
  (I [PV.xs xs, PV.n (bitsI BinOp.and IntKind.u64 n 9223372036854775807)] ∧ (AV.own (50 : Nat) (1 : Nat) xs = AV.own (50 : Nat) (1 : Nat) xs ∧ DvW (DV.int IntKind.u64 (bitsI BinOp.and IntKind.u64 n 9223372036854775807)) (DV.int IntKind.u64 (bitsI BinOp.and IntKind.u64 n 9223372036854775807)) ∧ True) ∧
    True ∧ true = true) ∧
  ∀ l : List DV,
  ∀ i : Int,
  (I [PV.xs l, PV.n i]) →
  CB (decide (i ≥ 128))
   ((List.length l + 1) * 1 ≤ 140737488355328 ∧ (0 : Int) ≤ (7 : Int) ∧ I [PV.xs (l ++ [DV.int IntKind.u8 (bitsI BinOp.or IntKind.u8 (IntKind.wrap IntKind.u8 i) 128)]), PV.n (Int.fdiv i (2 ^ min 7 64))] ∧ v [PV.xs (l ++ [DV.int IntKind.u8 (bitsI BinOp.or IntKind.u8 (IntKind.wrap IntKind.u8 i) 128)]), PV.n (Int.fdiv i (2 ^ min 7 64))] < v [PV.xs l, PV.n i] ∧ (AV.own (50 : Nat) (1 : Nat) (l ++ [DV.int IntKind.u8 (bitsI BinOp.or IntKind.u8 (IntKind.wrap IntKind.u8 i) (128 : Int))]) = AV.own (50 : Nat) (1 : Nat) (l ++ [DV.int IntKind.u8 (bitsI BinOp.or IntKind.u8 (IntKind.wrap IntKind.u8 i) (128 : Int))]) ∧ DvW (DV.int IntKind.u64 (Int.fdiv i (2 ^ min 7 64))) (DV.int IntKind.u64 (Int.fdiv i (2 ^ min 7 64))) ∧ True) ∧
    True ∧ true = true)
   ((List.length l + 1) * 1 ≤ 140737488355328 ∧ AV.own (60 : Nat) (1 : Nat) (l ++ [DV.int IntKind.u8 (IntKind.wrap IntKind.u8 i)]) = AV.own (60 : Nat) (1 : Nat) ys ∧ True ∧ true = true)
theorem KPut (n : Int) (xs ys : List DV) : vc Tryz.prog SP AnPut 0 (bodyOf Tryz.f78) (fnSt Tryz.f78 [.own 100000 1 xs, .d (.int .u64 n)] [] [100000]) (retK Tryz.prog Tryz.f78 [⟨.slot 4, .own 60 1⟩] (.own 60 1 ys) [] [60]) = FPut n xs ys := by kernel_rfl
theorem APut (n : Int) (xs ys : List DV) (h : FPut n xs ys) : AFn Tryz.prog 78 [.own 100000 1 xs, .d (.int .u64 n)] [] [100000] (.own 60 1 ys) [] [60] := fn_ok Tryz.func78 (by kernel_rfl) (Eq.mpr (KPut n xs ys) h)
/-! quire/sum.Put -/
def AnPut0 : Ann := { loop := fun b => match b with
  | 0 => ⟨[⟨.slot 0, .own 50 1⟩, ⟨.slot 1, .int .u64⟩], [], [], []⟩
  | _ => ⟨[], [], [], []⟩, unroll := fun b => match b with | _ => 0, join := fun b => match b with | _ => none, quiet := fun b => match b with | _ => [], tab := fun b => match b with | _ => #[], enum := fun b => match b with | _ => false, split := fun b => match b with | _ => false, meet := fun b => match b with | _ => true }
def FPut0 (n : Int) (ys : List DV) : Prop :=
  ∃ I : List PV → Prop, ∃ v : List PV → Nat,
  (I [PV.xs [], PV.n (bitsI BinOp.and IntKind.u64 n 9223372036854775807)] ∧ (AV.own (50 : Nat) (1 : Nat) [] = AV.own (50 : Nat) (1 : Nat) [] ∧ DvW (DV.int IntKind.u64 (bitsI BinOp.and IntKind.u64 n 9223372036854775807)) (DV.int IntKind.u64 (bitsI BinOp.and IntKind.u64 n 9223372036854775807)) ∧ True) ∧
    True ∧ true = true) ∧
  ∀ l : List DV,
  ∀ i : Int,
  (I [PV.xs l, PV.n i]) →
  CB (decide (i ≥ 128))
   ((List.length l + 1) * 1 ≤ 140737488355328 ∧ (0 : Int) ≤ (7 : Int) ∧ I [PV.xs (l ++ [DV.int IntKind.u8 (bitsI BinOp.or IntKind.u8 (IntKind.wrap IntKind.u8 i) 128)]), PV.n (Int.fdiv i (2 ^ min 7 64))] ∧ v [PV.xs (l ++ [DV.int IntKind.u8 (bitsI BinOp.or IntKind.u8 (IntKind.wrap IntKind.u8 i) 128)]), PV.n (Int.fdiv i (2 ^ min 7 64))] < v [PV.xs l, PV.n i] ∧ (AV.own (50 : Nat) (1 : Nat) (l ++ [DV.int IntKind.u8 (bitsI BinOp.or IntKind.u8 (IntKind.wrap IntKind.u8 i) (128 : Int))]) = AV.own (50 : Nat) (1 : Nat) (l ++ [DV.int IntKind.u8 (bitsI BinOp.or IntKind.u8 (IntKind.wrap IntKind.u8 i) (128 : Int))]) ∧ DvW (DV.int IntKind.u64 (Int.fdiv i (2 ^ min 7 64))) (DV.int IntKind.u64 (Int.fdiv i (2 ^ min 7 64))) ∧ True) ∧
    True ∧ true = true)
   ((List.length l + 1) * 1 ≤ 140737488355328 ∧ AV.own (60 : Nat) (1 : Nat) (l ++ [DV.int IntKind.u8 (IntKind.wrap IntKind.u8 i)]) = AV.own (60 : Nat) (1 : Nat) ys ∧ True ∧ true = true)
theorem KPut0 (n : Int) (ys : List DV) : vc Tryz.prog SP AnPut0 0 (bodyOf Tryz.f78) (fnSt Tryz.f78 [.d (.sl .nil 0 []), .d (.int .u64 n)] [] []) (retK Tryz.prog Tryz.f78 [⟨.slot 4, .own 60 1⟩] (.own 60 1 ys) [] [60]) = FPut0 n ys := by kernel_rfl
theorem APut0 (n : Int) (ys : List DV) (h : FPut0 n ys) : AFn Tryz.prog 78 [.d (.sl .nil 0 []), .d (.int .u64 n)] [] [] (.own 60 1 ys) [] [60] := fn_ok Tryz.func78 (by kernel_rfl) (Eq.mpr (KPut0 n ys) h)
/-! (*quire/image.writer).num -/
def AnNum0 : Ann := { loop := fun b => match b with
  | _ => ⟨[], [], [], []⟩, unroll := fun b => match b with | _ => 0, join := fun b => match b with | _ => none, quiet := fun b => match b with | _ => [], tab := fun b => match b with | _ => #[], enum := fun b => match b with | _ => false, split := fun b => match b with | _ => false, meet := fun b => match b with | _ => true }
def FNum0 (n : Int) (ys : List DV) : Prop :=
  ∃ xs : List DV,
  AFn Tryz.prog 78 [AV.d (DV.sl SM.nil 0 []), AV.d (DV.int IntKind.u64 (IntKind.wrap IntKind.u64 n))] [] [] (AV.own 60 1 xs) [] [60] ∧ True ∧ ((AV.own (60 : Nat) (1 : Nat) xs = AV.own (60 : Nat) (1 : Nat) ys ∧ True) ∧
    True) ∧
  true = true
theorem KNum0 (n : Int) (ys : List DV) : vc Tryz.prog SP AnNum0 0 (bodyOf Tryz.f29) (fnSt Tryz.f29 [.ptr 100000 0, .d (.int .i64 n)] [(100000, .cells [.d (.sl .nil 0 [])])] []) (retK Tryz.prog Tryz.f29 [⟨.cell 100000 0, .own 60 1⟩] (.tup []) [(100000, .cells [.own 60 1 ys])] [60]) = FNum0 n ys := by kernel_rfl
theorem ANum0 (n : Int) (ys : List DV) (h : FNum0 n ys) : AFn Tryz.prog 29 [.ptr 100000 0, .d (.int .i64 n)] [(100000, .cells [.d (.sl .nil 0 [])])] [] (.tup []) [(100000, .cells [.own 60 1 ys])] [60] := fn_ok Tryz.func29 (by kernel_rfl) (Eq.mpr (KNum0 n ys) h)
/-! (*quire/image.writer).num -/
def AnNum : Ann := { loop := fun b => match b with
  | _ => ⟨[], [], [], []⟩, unroll := fun b => match b with | _ => 0, join := fun b => match b with | _ => none, quiet := fun b => match b with | _ => [], tab := fun b => match b with | _ => #[], enum := fun b => match b with | _ => false, split := fun b => match b with | _ => false, meet := fun b => match b with | _ => true }
def FNum (n : Int) (xs ys : List DV) : Prop :=
  ∃ xs1 : List DV,
  AFn Tryz.prog 78 [AV.own 100000 1 xs, AV.d (DV.int IntKind.u64 (IntKind.wrap IntKind.u64 n))] [] [100000] (AV.own 60 1 xs1) [] [60] ∧ True ∧ ((AV.own (60 : Nat) (1 : Nat) xs1 = AV.own (60 : Nat) (1 : Nat) ys ∧ True) ∧
    True) ∧
  true = true
theorem KNum (n : Int) (xs ys : List DV) : vc Tryz.prog SP AnNum 0 (bodyOf Tryz.f29) (fnSt Tryz.f29 [.ptr 100000 0, .d (.int .i64 n)] [(100000, .cells [.own 100001 1 xs])] [100001]) (retK Tryz.prog Tryz.f29 [⟨.cell 100000 0, .own 60 1⟩] (.tup []) [(100000, .cells [.own 60 1 ys])] [60]) = FNum n xs ys := by kernel_rfl
theorem ANum (n : Int) (xs ys : List DV) (h : FNum n xs ys) : AFn Tryz.prog 29 [.ptr 100000 0, .d (.int .i64 n)] [(100000, .cells [.own 100001 1 xs])] [100001] (.tup []) [(100000, .cells [.own 60 1 ys])] [60] := fn_ok Tryz.func29 (by kernel_rfl) (Eq.mpr (KNum n xs ys) h)
/-! (*quire/image.writer).value -/
def AnWVal : Ann := { loop := fun b => match b with
  | 1 => ⟨[⟨.slot 79, .int .i64⟩], [0, 77, 78], [], []⟩
  | _ => ⟨[], [], [], []⟩, unroll := fun b => match b with | _ => 0, join := fun b => match b with | _ => none, quiet := fun b => match b with | _ => [], tab := fun b => match b with | 5 => #[0, 0, 2, 6, 14, 0, 32, 96, 224, 510, 1023, 2047, 4095] | 7 => #[0, 0, 2, 6, 14, 0, 32, 96, 254, 511, 1023, 2047] | _ => #[], enum := fun b => match b with | _ => false, split := fun b => match b with | _ => false, meet := fun b => match b with | _ => true }
def FWVal (n : Int) (xs ys : List DV) : Prop :=
  CB (decide (n < 0))
   (∃ xs1 : List DV,
    AFn Tryz.prog 29 [AV.ptr 100000 0, AV.d (DV.int IntKind.i64 2)] [(100000, Ob.cells [AV.own 100001 1 xs])] [100001] (AV.tup []) [(100000, Ob.cells [AV.own 60 1 xs1])] [60] ∧ ∃ xs2 : List DV,
    AFn Tryz.prog 78 [AV.own 100000 1 xs1, AV.d (DV.int IntKind.u64 (IntKind.wrap IntKind.u64 (IntKind.wrap IntKind.i64 (0 - n))))] [] [100000] (AV.own 60 1 xs2) [] [60] ∧ True ∧ ((AV.own (60 : Nat) (1 : Nat) xs2 = AV.own (60 : Nat) (1 : Nat) ys ∧ True) ∧
      True) ∧
    true = true)
   (∃ xs1 : List DV,
    AFn Tryz.prog 29 [AV.ptr 100000 0, AV.d (DV.int IntKind.i64 1)] [(100000, Ob.cells [AV.own 100001 1 xs])] [100001] (AV.tup []) [(100000, Ob.cells [AV.own 60 1 xs1])] [60] ∧ ∃ xs2 : List DV,
    AFn Tryz.prog 78 [AV.own 100000 1 xs1, AV.d (DV.int IntKind.u64 (IntKind.wrap IntKind.u64 n))] [] [100000] (AV.own 60 1 xs2) [] [60] ∧ True ∧ ((AV.own (60 : Nat) (1 : Nat) xs2 = AV.own (60 : Nat) (1 : Nat) ys ∧ True) ∧
      True) ∧
    true = true)
theorem KWVal (n : Int) (xs ys : List DV) : vc Tryz.prog SP AnWVal 0 (bodyOf Tryz.f30) (fnSt Tryz.f30 [.ptr 100000 0, .d (aInt n)] [(100000, .cells [.own 100001 1 xs])] [100001]) (retK Tryz.prog Tryz.f30 [⟨.cell 100000 0, .own 60 1⟩] (.tup []) [(100000, .cells [.own 60 1 ys])] [60]) = FWVal n xs ys := by kernel_rfl
theorem AWVal (n : Int) (xs ys : List DV) (h : FWVal n xs ys) : AFn Tryz.prog 30 [.ptr 100000 0, .d (aInt n)] [(100000, .cells [.own 100001 1 xs])] [100001] (.tup []) [(100000, .cells [.own 60 1 ys])] [60] := fn_ok Tryz.func30 (by kernel_rfl) (Eq.mpr (KWVal n xs ys) h)
/-! (*quire/image.writer).dict -/
def AnWDict : Ann := { loop := fun b => match b with
  | 2 => ⟨[⟨.slot 37, .int .i64⟩], [0, 35, 36], [], []⟩
  | 0 => ⟨[⟨.slot 16, .int .i64⟩], [0, 3, 14, 15], [3], []⟩
  | _ => ⟨[], [], [], []⟩, unroll := fun b => match b with | 0 => 1 | 2 => 1 | _ => 0, join := fun b => match b with | _ => none, quiet := fun b => match b with | _ => [], tab := fun b => match b with | _ => #[], enum := fun b => match b with | _ => false, split := fun b => match b with | _ => false, meet := fun b => match b with | _ => true }
def FWDict (xs ys : List DV) : Prop :=
  ∃ xs1 : List DV,
  AFn Tryz.prog 29 [AV.ptr 100000 0, AV.d (DV.int IntKind.i64 (Int.ofNat 0))] [(100000, Ob.cells [AV.own 100001 1 xs])] [100001] (AV.tup []) [(100000, Ob.cells [AV.own 60 1 xs1])] [60] ∧ ∃ xs2 : List DV,
  AFn Tryz.prog 29 [AV.ptr 100000 0, AV.d (DV.int IntKind.i64 (Int.ofNat 0))] [(100000, Ob.cells [AV.own 100001 1 xs1])] [100001] (AV.tup []) [(100000, Ob.cells [AV.own 60 1 xs2])] [60] ∧ True ∧ ((AV.own (60 : Nat) (1 : Nat) xs2 = AV.own (60 : Nat) (1 : Nat) ys ∧ True) ∧
    True) ∧
  true = true
theorem KWDict (xs ys : List DV) : vc Tryz.prog SP AnWDict 0 (bodyOf Tryz.f31) (fnSt Tryz.f31 [.ptr 100000 0, .d dict0] [(100000, .cells [.own 100001 1 xs])] [100001]) (retK Tryz.prog Tryz.f31 [⟨.cell 100000 0, .own 60 1⟩] (.tup []) [(100000, .cells [.own 60 1 ys])] [60]) = FWDict xs ys := by kernel_rfl
theorem AWDict (xs ys : List DV) (h : FWDict xs ys) : AFn Tryz.prog 31 [.ptr 100000 0, .d dict0] [(100000, .cells [.own 100001 1 xs])] [100001] (.tup []) [(100000, .cells [.own 60 1 ys])] [60] := fn_ok Tryz.func31 (by kernel_rfl) (Eq.mpr (KWDict xs ys) h)
/-! quire/quireref05.In -/
def AnIn : Ann := { loop := fun b => match b with
  | _ => ⟨[], [], [], []⟩, unroll := fun b => match b with | _ => 0, join := fun b => match b with | _ => none, quiet := fun b => match b with | _ => [], tab := fun b => match b with | _ => #[], enum := fun b => match b with | _ => false, split := fun b => match b with | _ => false, meet := fun b => match b with | _ => true }
def FIn (n : Int) (b : DV) : Prop :=
  ∃ r : Bool,
  ((decide (n ≥ (-1152921504606846976 : Int)) = true) →
    decide (n ≤ (1152921504606846975 : Int)) = r) ∧
  ((decide (n ≥ (-1152921504606846976 : Int)) = false) →
    false = r) ∧
  DvW (DV.bool r) b ∧ True ∧ true = true
theorem KIn (n : Int) (b : DV) : vc Tryz.prog SP AnIn 0 (bodyOf Tryz.f140) (fnSt Tryz.f140 [.d (.int .i64 n)] [] []) (retK Tryz.prog Tryz.f140 [] (.d b) [] []) = FIn n b := by kernel_rfl
theorem AIn (n : Int) (b : DV) (h : FIn n b) : AFn Tryz.prog 140 [.d (.int .i64 n)] [] [] (.d b) [] [] := fn_ok Tryz.func140 (by kernel_rfl) (Eq.mpr (KIn n b) h)
/-! quire/quireref07.Measure -/
def AnMeasure : Ann := { loop := fun b => match b with
  | 1 => ⟨[⟨.slot 6, .int .i64⟩, ⟨.slot 7, .int .i64⟩, ⟨.slot 9, .int .i64⟩], [1, 2, 3], [3], []⟩
  | _ => ⟨[], [], [], []⟩, unroll := fun b => match b with | _ => 0, join := fun b => match b with | _ => none, quiet := fun b => match b with | _ => [], tab := fun b => match b with | 11 => #[0, 1, 3, 7, 15, 31, 63, 127, 15, 271, 1023] | _ => #[], enum := fun b => match b with | _ => false, split := fun b => match b with | _ => false, meet := fun b => match b with | 11 => false | _ => true }
def FMeasure (n : Int) (r1 r2 r3 : DV) : Prop :=
  ∃ r : Bool,
  ((false = false) →
    false = r) ∧
  ((false = true) →
    true = r) ∧
  CB (r)
   ((DvW (DV.int IntKind.i64 0) r1 ∧ DvW (DV.int IntKind.i64 0) r2 ∧ DvW (DV.bool false) r3 ∧ True) ∧
    True ∧ true = true)
   (∃ t : Bool,
    AFn Tryz.prog 140 [AV.d (DV.int IntKind.i64 n)] [] [] (AV.d (DV.bool t)) [] [] ∧ (DvW (DV.int IntKind.i64 1) r1 ∧ DvW (DV.int IntKind.i64 0) r2 ∧ DvW (DV.bool t) r3 ∧ True) ∧
    True ∧ true = true)
theorem KMeasure (n : Int) (r1 r2 r3 : DV) : vc Tryz.prog SP AnMeasure 0 (bodyOf Tryz.f85) (fnSt Tryz.f85 [.d (vInt n), .d (.int .i64 1024), .d (.int .i64 0)] [] []) (retK Tryz.prog Tryz.f85 [] (.tup [.d r1, .d r2, .d r3]) [] []) = FMeasure n r1 r2 r3 := by kernel_rfl
theorem AMeasure (n : Int) (r1 r2 r3 : DV) (h : FMeasure n r1 r2 r3) : AFn Tryz.prog 85 [.d (vInt n), .d (.int .i64 1024), .d (.int .i64 0)] [] [] (.tup [.d r1, .d r2, .d r3]) [] [] := fn_ok Tryz.func85 (by kernel_rfl) (Eq.mpr (KMeasure n r1 r2 r3) h)
/-! quire/quireref07.Sound -/
def AnRSound : Ann := { loop := fun b => match b with
  | _ => ⟨[], [], [], []⟩, unroll := fun b => match b with | _ => 0, join := fun b => match b with | _ => none, quiet := fun b => match b with | _ => [], tab := fun b => match b with | _ => #[], enum := fun b => match b with | _ => false, split := fun b => match b with | _ => false, meet := fun b => match b with | _ => true }
def FRSound (n : Int) (r : DV) : Prop :=
  ∃ n1 : Int, ∃ n2 : Int, ∃ t : Bool,
  AFn Tryz.prog 85 [AV.d (DV.agg [DV.int IntKind.i64 1, DV.int IntKind.i64 n, DV.str { data := { toList := [] } }, DV.sl SM.any 4 []]), AV.d (DV.int IntKind.i64 1024), AV.d (DV.int IntKind.i64 0)] [] [] (AV.tup [AV.d (DV.int IntKind.i64 n1), AV.d (DV.int IntKind.i64 n2), AV.d (DV.bool t)]) [] [] ∧ ∃ r1 : Bool,
  ((t = true) →
    true = r1) ∧
  ((t = false) →
    false = r1) ∧
  DvW (DV.bool r1) r ∧ True ∧ true = true
theorem KRSound (n : Int) (r : DV) : vc Tryz.prog SP AnRSound 0 (bodyOf Tryz.f35) (fnSt Tryz.f35 [.d (vInt n)] [] []) (retK Tryz.prog Tryz.f35 [] (.d r) [] []) = FRSound n r := by kernel_rfl
theorem ARSound (n : Int) (r : DV) (h : FRSound n r) : AFn Tryz.prog 35 [.d (vInt n)] [] [] (.d r) [] [] := fn_ok Tryz.func35 (by kernel_rfl) (Eq.mpr (KRSound n r) h)
/-! quire/quireref08.Boxes -/
def AnBoxes : Ann := { loop := fun b => match b with
  | 0 => ⟨[⟨.slot 3, .dv⟩, ⟨.slot 4, .int .i64⟩], [1], [1], []⟩
  | _ => ⟨[], [], [], []⟩, unroll := fun b => match b with | 0 => 1 | _ => 0, join := fun b => match b with | _ => none, quiet := fun b => match b with | _ => [], tab := fun b => match b with | _ => #[], enum := fun b => match b with | _ => false, split := fun b => match b with | _ => false, meet := fun b => match b with | _ => true }
def FBoxes (n : Int) (r : DV) : Prop :=
  DvW (DV.sl SM.nil 0 []) r ∧ True ∧ true = true
theorem KBoxes (n : Int) (r : DV) : vc Tryz.prog SP AnBoxes 0 (bodyOf Tryz.f86) (fnSt Tryz.f86 [.d (vInt n)] [] []) (retK Tryz.prog Tryz.f86 [] (.d r) [] []) = FBoxes n r := by kernel_rfl
theorem ABoxes (n : Int) (r : DV) (h : FBoxes n r) : AFn Tryz.prog 86 [.d (vInt n)] [] [] (.d r) [] [] := fn_ok Tryz.func86 (by kernel_rfl) (Eq.mpr (KBoxes n r) h)
/-! (*quire/quireref11.State).Reached -/
def AnRReached : Ann := { loop := fun b => match b with
  | 2 => ⟨[⟨.slot 5, .own 50 1⟩, ⟨.slot 7, .bool⟩], [0, 4], [100000], []⟩
  | 0 => ⟨[⟨.slot 5, .own 50 1⟩, ⟨.slot 6, .int .i64⟩], [0, 4], [100000], []⟩
  | _ => ⟨[], [], [], []⟩, unroll := fun b => match b with | _ => 0, join := fun b => match b with | _ => none, quiet := fun b => match b with | _ => [], tab := fun b => match b with | _ => #[], enum := fun b => match b with | _ => false, split := fun b => match b with | _ => false, meet := fun b => match b with | _ => true }
def FRReached (l : List Int) (r1 r2 : DV) : Prop :=
  Int.ofNat (nat_lit 0) = Int.ofNat (nat_lit 0) ∧ (0 : Int) ≤ Int.ofNat (nat_lit 0) ∧ Int.ofNat (nat_lit 0) * Int.ofNat (nat_lit 1) ≤ (140737488355328 : Int) ∧ ∃ I : List PV → Prop, ∃ v : List PV → Nat,
  (I [PV.xs [], PV.n 0] ∧ (AV.ptr (100000 : Nat) (0 : Nat) = AV.ptr (100000 : Nat) (0 : Nat) ∧ DvW (DV.sl SM.full 1 []) (DV.sl SM.full 1 []) ∧ AV.own (50 : Nat) (1 : Nat) [] = AV.own (50 : Nat) (1 : Nat) [] ∧ DvW (DV.int IntKind.i64 0) (DV.int IntKind.i64 0) ∧ True) ∧
    ((DvW (DV.sl SM.any 4 (List.map vInt l)) (DV.sl SM.any 4 (List.map vInt l)) ∧ DvW (DV.sl SM.any 5 []) (DV.sl SM.any 5 []) ∧ DvW (DV.int IntKind.i64 1) (DV.int IntKind.i64 1) ∧ True) ∧
      True) ∧
    true = true) ∧
  ∀ l1 : List DV,
  ∀ i : Int,
  (I [PV.xs l1, PV.n i]) →
  CB (decide (i < (↑(List.length (List.map vInt l)) : Int)))
   (0 ≤ i ∧ ∃ x : DV,
    (List.map vInt l)[Int.toNat i]? = some x ∧ ∃ n : Int, ∃ n1 : Int, ∃ s : ByteArray, ∃ xs : List DV,
    DvW x (DV.agg [DV.int IntKind.i64 n, DV.int IntKind.i64 n1, DV.str s, DV.sl SM.any 4 xs]) ∧ ∃ xs1 : List DV,
    AFn Tryz.prog 86 [AV.d (DV.agg [DV.int IntKind.i64 n, DV.int IntKind.i64 n1, DV.str s, DV.sl SM.any 4 xs])] [] [] (AV.d (DV.sl SM.any 1 xs1)) [] [] ∧ (List.length l1 + List.length xs1) * 8 ≤ 140737488355328 ∧ I [PV.xs (l1 ++ xs1), PV.n (IntKind.wrap IntKind.i64 (i + 1))] ∧ v [PV.xs (l1 ++ xs1), PV.n (IntKind.wrap IntKind.i64 (i + 1))] < v [PV.xs l1, PV.n i] ∧ (AV.ptr (100000 : Nat) (0 : Nat) = AV.ptr (100000 : Nat) (0 : Nat) ∧ DvW (DV.sl SM.full 1 []) (DV.sl SM.full 1 []) ∧ AV.own (50 : Nat) (1 : Nat) (l1 ++ xs1) = AV.own (50 : Nat) (1 : Nat) (l1 ++ xs1) ∧ DvW (DV.int IntKind.i64 (IntKind.wrap IntKind.i64 (i + 1))) (DV.int IntKind.i64 (IntKind.wrap IntKind.i64 (i + 1))) ∧ True) ∧
    ((DvW (DV.sl SM.any 4 (List.map vInt l)) (DV.sl SM.any 4 (List.map vInt l)) ∧ DvW (DV.sl SM.any 5 []) (DV.sl SM.any 5 []) ∧ DvW (DV.int IntKind.i64 1) (DV.int IntKind.i64 1) ∧ True) ∧
      True) ∧
    true = true)
   (∃ I1 : List PV → Prop, ∃ v1 : List PV → Nat,
    (I1 [PV.xs l1, PV.b true] ∧ (AV.ptr (100000 : Nat) (0 : Nat) = AV.ptr (100000 : Nat) (0 : Nat) ∧ DvW (DV.sl SM.full 1 []) (DV.sl SM.full 1 []) ∧ AV.own (50 : Nat) (1 : Nat) l1 = AV.own (50 : Nat) (1 : Nat) l1 ∧ DvW (DV.bool true) (DV.bool true) ∧ True) ∧
      ((DvW (DV.sl SM.any 4 (List.map vInt l)) (DV.sl SM.any 4 (List.map vInt l)) ∧ DvW (DV.sl SM.any 5 []) (DV.sl SM.any 5 []) ∧ DvW (DV.int IntKind.i64 1) (DV.int IntKind.i64 1) ∧ True) ∧
        True) ∧
      true = true) ∧
    ∀ l2 : List DV,
    ∀ t : Bool,
    (I1 [PV.xs l2, PV.b t]) →
    CB (decide ((↑(List.length l2) : Int) > 0))
     (0 ≤ IntKind.wrap IntKind.i64 ((↑(List.length l2) : Int) - 1) ∧ ∃ x : DV,
      l2[Int.toNat (IntKind.wrap IntKind.i64 ((↑(List.length l2) : Int) - (1 : Int)))]? = some x ∧ ∃ n : Int,
      DvW x (DV.int IntKind.i64 n) ∧ False)
     ((DvW (DV.sl SM.full 1 []) r1 ∧ DvW (DV.bool t) r2 ∧ True) ∧
      True ∧ true = true))
theorem KRReached (l : List Int) (r1 r2 : DV) : vc Tryz.prog SP AnRReached 0 (bodyOf Tryz.f36) (fnSt Tryz.f36 [.ptr 100000 0] [(100000, .cells [.d (.sl .any 4 (l.map vInt)), .d (.sl .any 5 []), .d (.int .i64 1)])] []) (retK Tryz.prog Tryz.f36 [] (.tup [.d r1, .d r2]) [] []) = FRReached l r1 r2 := by kernel_rfl
theorem ARReached (l : List Int) (r1 r2 : DV) (h : FRReached l r1 r2) : AFn Tryz.prog 36 [.ptr 100000 0] [(100000, .cells [.d (.sl .any 4 (l.map vInt)), .d (.sl .any 5 []), .d (.int .i64 1)])] [] (.tup [.d r1, .d r2]) [] [] := fn_ok Tryz.func36 (by kernel_rfl) (Eq.mpr (KRReached l r1 r2) h)
/-! quire/quireref11.Sound -/
def AnSSound : Ann := { loop := fun b => match b with
  | 4 => ⟨[⟨.slot 7, .bool⟩, ⟨.slot 8, .int .i64⟩], [6], [], []⟩
  | 2 => ⟨[⟨.slot 4, .int .i64⟩], [1], [1], []⟩
  | 0 => ⟨[⟨.slot 3, .int .i64⟩], [1], [1], []⟩
  | _ => ⟨[], [], [], []⟩, unroll := fun b => match b with | 2 => 1 | 4 => 1 | _ => 0, join := fun b => match b with | _ => none, quiet := fun b => match b with | _ => [], tab := fun b => match b with | 12 => #[0, 1, 3, 7, 15, 31, 15, 79, 255, 511, 1023, 2047, 4095, 8191, 16383, 32767, 16383, 81919, 16383, 278527, 999423, 2047999, 4145151, 8388607, 16777215, 33554431, 67108863, 134217727, 268435455, 536870911, 1073741823, 2147483647] | _ => #[], enum := fun b => match b with | _ => false, split := fun b => match b with | _ => false, meet := fun b => match b with | _ => true }
def FSSound (l : List Int) (r : DV) : Prop :=
  ∃ r1 : Bool,
  ((decide ((↑(List.length (List.map vInt l)) : Int) > (256 : Int)) = false) →
    false = r1) ∧
  ((decide ((↑(List.length (List.map vInt l)) : Int) > (256 : Int)) = true) →
    true = r1) ∧
  ∃ r2 : Bool,
  ((r1 = false) →
    false = r2) ∧
  ((r1 = true) →
    true = r2) ∧
  CB (r2)
   (DvW (DV.bool false) r ∧ True ∧ true = true)
   (∃ I : List PV → Prop, ∃ v : List PV → Nat,
    (I [PV.n 0] ∧ (AV.ptr (nat_lit 1) (0 : Nat) = AV.ptr (nat_lit 1) (0 : Nat) ∧ DvW (DV.int IntKind.i64 0) (DV.int IntKind.i64 0) ∧ True) ∧
      ((DvW (DV.sl SM.any 4 (List.map vInt l)) (DV.sl SM.any 4 (List.map vInt l)) ∧ DvW (DV.sl SM.any 5 []) (DV.sl SM.any 5 []) ∧ DvW (DV.int IntKind.i64 1) (DV.int IntKind.i64 1) ∧ True) ∧
        True) ∧
      true = true) ∧
    ∀ i : Int,
    (I [PV.n i]) →
    CB (decide (i < (↑(List.length (List.map vInt l)) : Int)))
     (0 ≤ i ∧ ∃ x : DV,
      (List.map vInt l)[Int.toNat i]? = some x ∧ ∃ n : Int, ∃ n1 : Int, ∃ s : ByteArray, ∃ xs : List DV,
      DvW x (DV.agg [DV.int IntKind.i64 n, DV.int IntKind.i64 n1, DV.str s, DV.sl SM.any 4 xs]) ∧ ∃ t : Bool,
      AFn Tryz.prog 35 [AV.d (DV.agg [DV.int IntKind.i64 n, DV.int IntKind.i64 n1, DV.str s, DV.sl SM.any 4 xs])] [] [] (AV.d (DV.bool t)) [] [] ∧ CB (!t)
       (DvW (DV.bool false) r ∧ True ∧ true = true)
       (I [PV.n (IntKind.wrap IntKind.i64 (i + 1))] ∧ v [PV.n (IntKind.wrap IntKind.i64 (i + 1))] < v [PV.n i] ∧ (AV.ptr (nat_lit 1) (0 : Nat) = AV.ptr (nat_lit 1) (0 : Nat) ∧ DvW (DV.int IntKind.i64 (IntKind.wrap IntKind.i64 (i + 1))) (DV.int IntKind.i64 (IntKind.wrap IntKind.i64 (i + 1))) ∧ True) ∧
        ((DvW (DV.sl SM.any 4 (List.map vInt l)) (DV.sl SM.any 4 (List.map vInt l)) ∧ DvW (DV.sl SM.any 5 []) (DV.sl SM.any 5 []) ∧ DvW (DV.int IntKind.i64 1) (DV.int IntKind.i64 1) ∧ True) ∧
          True) ∧
        true = true))
     (∃ xs : List DV, ∃ t : Bool,
      AFn Tryz.prog 36 [AV.ptr 100000 0] [(100000, Ob.cells [AV.d (DV.sl SM.any 4 (List.map vInt l)), AV.d (DV.sl SM.any 5 []), AV.d (DV.int IntKind.i64 1)])] [] (AV.tup [AV.d (DV.sl SM.any 1 xs), AV.d (DV.bool t)]) [] [] ∧ CB (decide (0 < (↑(List.length xs) : Int)))
       (∃ r3 : Bool,
        ((t = true) →
          (0 : Int) ≤ (0 : Int) ∧ ∃ x : DV,
          xs[nat_lit 0]? = some x ∧ ∃ t1 : Bool,
          DvW x (DV.bool t1) ∧ t1 = r3) ∧
        ((t = false) →
          false = r3) ∧
        False)
       (DvW (DV.bool t) r ∧ True ∧ true = true)))
theorem KSSound (l : List Int) (r : DV) : vc Tryz.prog SP AnSSound 0 (bodyOf Tryz.f13) (fnSt Tryz.f13 [.d (rState l)] [] []) (retK Tryz.prog Tryz.f13 [] (.d r) [] []) = FSSound l r := by kernel_rfl
theorem ASSound (l : List Int) (r : DV) (h : FSSound l r) : AFn Tryz.prog 13 [.d (rState l)] [] [] (.d r) [] [] := fn_ok Tryz.func13 (by kernel_rfl) (Eq.mpr (KSSound l r) h)
/-! quire/term.measure -/
def AnTMeasure : Ann := { loop := fun b => match b with
  | 1 => ⟨[⟨.slot 6, .int .i64⟩, ⟨.slot 79, .int .i64⟩], [1, 2, 77, 78], [], []⟩
  | 3 => ⟨[⟨.slot 6, .int .i64⟩, ⟨.slot 107, .int .i64⟩], [1, 2, 105, 106], [], []⟩
  | _ => ⟨[], [], [], []⟩, unroll := fun b => match b with | _ => 0, join := fun b => match b with | _ => none, quiet := fun b => match b with | _ => [], tab := fun b => match b with | 7 => #[0, 1, 3, 7, 15, 31, 63, 127, 15, 511] | 16 => #[0, 1, 3, 7, 15, 31, 63, 127, 15, 511] | _ => #[], enum := fun b => match b with | _ => false, split := fun b => match b with | _ => false, meet := fun b => match b with | 7 => false | 16 => false | _ => true }
def FTMeasure (n : Int) (r1 r2 c : DV) : Prop :=
  ∃ r : Bool,
  ((false = false) →
    false = r) ∧
  ((false = true) →
    true = r) ∧
  CB (r)
   ((DvW (DV.int IntKind.i64 0) r1 ∧ DvW (DV.bool false) r2 ∧ True) ∧
    ((DvW (DV.int IntKind.i64 (IntKind.wrap IntKind.i64 (1024 - 1))) c ∧ True) ∧
      True) ∧
    true = true)
   (CB (decide (n ≥ -1152921504606846976) == true)
     ((DvW (DV.int IntKind.i64 0) r1 ∧ DvW (DV.bool (decide (n ≤ 1152921504606846975))) r2 ∧ True) ∧
      ((DvW (DV.int IntKind.i64 (IntKind.wrap IntKind.i64 (1024 - 1))) c ∧ True) ∧
        True) ∧
      true = true)
     ((DvW (DV.int IntKind.i64 0) r1 ∧ DvW (DV.bool false) r2 ∧ True) ∧
      ((DvW (DV.int IntKind.i64 (IntKind.wrap IntKind.i64 (1024 - 1))) c ∧ True) ∧
        True) ∧
      true = true))
theorem KTMeasure (n : Int) (r1 r2 c : DV) : vc Tryz.prog SP AnTMeasure 0 (bodyOf Tryz.f159) (fnSt Tryz.f159 [.d (aInt n), .ptr 100000 0, .d (.int .i64 0)] [(100000, .cells [.d (.int .i64 1024)])] []) (retK Tryz.prog Tryz.f159 [] (.tup [.d r1, .d r2]) [(100000, .cells [.d c])] []) = FTMeasure n r1 r2 c := by kernel_rfl
theorem ATMeasure (n : Int) (r1 r2 c : DV) (h : FTMeasure n r1 r2 c) : AFn Tryz.prog 159 [.d (aInt n), .ptr 100000 0, .d (.int .i64 0)] [(100000, .cells [.d (.int .i64 1024)])] [] (.tup [.d r1, .d r2]) [(100000, .cells [.d c])] [] := fn_ok Tryz.func159 (by kernel_rfl) (Eq.mpr (KTMeasure n r1 r2 c) h)
/-! quire/term.Check -/
def AnTCheck : Ann := { loop := fun b => match b with
  | _ => ⟨[], [], [], []⟩, unroll := fun b => match b with | _ => 0, join := fun b => match b with | _ => none, quiet := fun b => match b with | _ => [], tab := fun b => match b with | _ => #[], enum := fun b => match b with | _ => false, split := fun b => match b with | _ => false, meet := fun b => match b with | _ => true }
def FTCheck (n : Int) (r : DV) : Prop :=
  ∃ n1 : Int, ∃ t : Bool, ∃ n2 : Int,
  AFn Tryz.prog 159 [AV.d (DV.iface 72 (DV.agg [DV.int IntKind.i64 n])), AV.ptr 100000 0, AV.d (DV.int IntKind.i64 0)] [(100000, Ob.cells [AV.d (DV.int IntKind.i64 1024)])] [] (AV.tup [AV.d (DV.int IntKind.i64 n1), AV.d (DV.bool t)]) [(100000, Ob.cells [AV.d (DV.int IntKind.i64 n2)])] [] ∧ CB (!t)
   (DvW (DV.int IntKind.i64 1) r ∧ True ∧ true = true)
   (DvW (DV.int IntKind.i64 0) r ∧ True ∧ true = true)
theorem KTCheck (n : Int) (r : DV) : vc Tryz.prog SP AnTCheck 0 (bodyOf Tryz.f115) (fnSt Tryz.f115 [.d (aInt n)] [] []) (retK Tryz.prog Tryz.f115 [] (.d r) [] []) = FTCheck n r := by kernel_rfl
theorem ATCheck (n : Int) (r : DV) (h : FTCheck n r) : AFn Tryz.prog 115 [.d (aInt n)] [] [] (.d r) [] [] := fn_ok Tryz.func115 (by kernel_rfl) (Eq.mpr (KTCheck n r) h)
/-! quire/term.Each -/
def AnEach : Ann := { loop := fun b => match b with
  | 1 => ⟨[⟨.slot 28, .int .i64⟩], [1, 26, 27], [], []⟩
  | 3 => ⟨[⟨.slot 43, .int .i64⟩], [1, 41, 42], [], []⟩
  | _ => ⟨[], [], [], []⟩, unroll := fun b => match b with | _ => 0, join := fun b => match b with | _ => none, quiet := fun b => match b with | _ => [], tab := fun b => match b with | _ => #[], enum := fun b => match b with | _ => false, split := fun b => match b with | _ => false, meet := fun b => match b with | _ => true }
def FEach (n : Int) (r : DV) : Prop :=
  DvW (DV.bool true) r ∧ True ∧ true = true
theorem KEach (n : Int) (r : DV) : vc Tryz.prog SP AnEach 0 (bodyOf Tryz.f161) (fnSt Tryz.f161 [.d (aInt n), .no] [] []) (retK Tryz.prog Tryz.f161 [] (.d r) [] []) = FEach n r := by kernel_rfl
theorem AEach (n : Int) (r : DV) (h : FEach n r) : AFn Tryz.prog 161 [.d (aInt n), .no] [] [] (.d r) [] [] := fn_ok Tryz.func161 (by kernel_rfl) (Eq.mpr (KEach n r) h)
/-! quire/store.Reached -/
def AnPReached : Ann := { loop := fun b => match b with
  | 0 => ⟨[⟨.slot 13, .int .i64⟩], [5, 6, 11, 12], [3, 5, 6, 9, 100000], []⟩
  | _ => ⟨[], [], [], []⟩, unroll := fun b => match b with | _ => 0, join := fun b => match b with | _ => none, quiet := fun b => match b with | _ => [], tab := fun b => match b with | _ => #[], enum := fun b => match b with | _ => false, split := fun b => match b with | _ => false, meet := fun b => match b with | _ => true }
def FPReached (l : List Int) (es : List (Int × DV)) : Prop :=
  ∃ I : List PV → Prop, ∃ v : List PV → Nat,
  (I [PV.n 0] ∧ (AV.ptr (nat_lit 5) (0 : Nat) = AV.ptr (nat_lit 5) (0 : Nat) ∧ AV.ptr (nat_lit 6) (0 : Nat) = AV.ptr (nat_lit 6) (0 : Nat) ∧ DvW (DV.sl SM.any 1 (List.map aInt l)) (DV.sl SM.any 1 (List.map aInt l)) ∧ DvW (DV.int IntKind.i64 (↑(List.length (List.map aInt l)) : Int)) (DV.int IntKind.i64 (↑(List.length (List.map aInt l)) : Int)) ∧ DvW (DV.int IntKind.i64 0) (DV.int IntKind.i64 0) ∧ True) ∧
    ((AV.mp (100000 : Nat) = AV.mp (100000 : Nat) ∧ True) ∧
      (AV.mp (nat_lit 9) = AV.mp (nat_lit 9) ∧ True) ∧
      (AV.fn (160 : Nat) [AV.ptr (nat_lit 3) (0 : Nat), AV.ptr (nat_lit 5) (0 : Nat), AV.ptr (nat_lit 6) (0 : Nat)] = AV.fn (160 : Nat) [AV.ptr (nat_lit 3) (0 : Nat), AV.ptr (nat_lit 5) (0 : Nat), AV.ptr (nat_lit 6) (0 : Nat)] ∧ True) ∧
      Ob.mapI IntKind.i64 [] = Ob.mapI IntKind.i64 [] ∧ Ob.mapI IntKind.i64 [] = Ob.mapI IntKind.i64 [] ∧ True) ∧
    true = true) ∧
  ∀ i : Int,
  (I [PV.n i]) →
  CB (decide (i < (↑(List.length (List.map aInt l)) : Int)))
   (0 ≤ i ∧ ∃ x : DV,
    (List.map aInt l)[Int.toNat i]? = some x ∧ ∃ x1 : DV,
    DvW x x1 ∧ CB (isCell x1)
     (CB (isIfD x1)
       (CB (!isNilD x1)
         (∃ t : Bool,
          AFn Tryz.prog 161 [AV.d x1, AV.no] [] [] (AV.d (DV.bool t)) [] [] ∧ I [PV.n (IntKind.wrap IntKind.i64 (i + 1))] ∧ v [PV.n (IntKind.wrap IntKind.i64 (i + 1))] < v [PV.n i] ∧ (AV.ptr (nat_lit 5) (0 : Nat) = AV.ptr (nat_lit 5) (0 : Nat) ∧ AV.ptr (nat_lit 6) (0 : Nat) = AV.ptr (nat_lit 6) (0 : Nat) ∧ DvW (DV.sl SM.any 1 (List.map aInt l)) (DV.sl SM.any 1 (List.map aInt l)) ∧ DvW (DV.int IntKind.i64 (↑(List.length (List.map aInt l)) : Int)) (DV.int IntKind.i64 (↑(List.length (List.map aInt l)) : Int)) ∧ DvW (DV.int IntKind.i64 (IntKind.wrap IntKind.i64 (i + 1))) (DV.int IntKind.i64 (IntKind.wrap IntKind.i64 (i + 1))) ∧ True) ∧
          ((AV.mp (100000 : Nat) = AV.mp (100000 : Nat) ∧ True) ∧
            (AV.mp (nat_lit 9) = AV.mp (nat_lit 9) ∧ True) ∧
            (AV.fn (160 : Nat) [AV.ptr (nat_lit 3) (0 : Nat), AV.ptr (nat_lit 5) (0 : Nat), AV.ptr (nat_lit 6) (0 : Nat)] = AV.fn (160 : Nat) [AV.ptr (nat_lit 3) (0 : Nat), AV.ptr (nat_lit 5) (0 : Nat), AV.ptr (nat_lit 6) (0 : Nat)] ∧ True) ∧
            Ob.mapI IntKind.i64 [] = Ob.mapI IntKind.i64 [] ∧ Ob.mapI IntKind.i64 [] = Ob.mapI IntKind.i64 [] ∧ True) ∧
          true = true)
         (I [PV.n (IntKind.wrap IntKind.i64 (i + 1))] ∧ v [PV.n (IntKind.wrap IntKind.i64 (i + 1))] < v [PV.n i] ∧ (AV.ptr (nat_lit 5) (0 : Nat) = AV.ptr (nat_lit 5) (0 : Nat) ∧ AV.ptr (nat_lit 6) (0 : Nat) = AV.ptr (nat_lit 6) (0 : Nat) ∧ DvW (DV.sl SM.any 1 (List.map aInt l)) (DV.sl SM.any 1 (List.map aInt l)) ∧ DvW (DV.int IntKind.i64 (↑(List.length (List.map aInt l)) : Int)) (DV.int IntKind.i64 (↑(List.length (List.map aInt l)) : Int)) ∧ DvW (DV.int IntKind.i64 (IntKind.wrap IntKind.i64 (i + 1))) (DV.int IntKind.i64 (IntKind.wrap IntKind.i64 (i + 1))) ∧ True) ∧
          ((AV.mp (100000 : Nat) = AV.mp (100000 : Nat) ∧ True) ∧
            (AV.mp (nat_lit 9) = AV.mp (nat_lit 9) ∧ True) ∧
            (AV.fn (160 : Nat) [AV.ptr (nat_lit 3) (0 : Nat), AV.ptr (nat_lit 5) (0 : Nat), AV.ptr (nat_lit 6) (0 : Nat)] = AV.fn (160 : Nat) [AV.ptr (nat_lit 3) (0 : Nat), AV.ptr (nat_lit 5) (0 : Nat), AV.ptr (nat_lit 6) (0 : Nat)] ∧ True) ∧
            Ob.mapI IntKind.i64 [] = Ob.mapI IntKind.i64 [] ∧ Ob.mapI IntKind.i64 [] = Ob.mapI IntKind.i64 [] ∧ True) ∧
          true = true))
       (False))
     (False))
   (AV.mp (nat_lit 9) = AV.mp (9 : Nat) ∧ (Ob.mapI IntKind.i64 [] = Ob.mapI IntKind.i64 [] ∧ Ob.mapI IntKind.i64 [] = Ob.mapI IntKind.i64 es ∧ True) ∧
    true = true)
theorem KPReached (l : List Int) (es : List (Int × DV)) : vc Tryz.prog SP AnPReached 0 (bodyOf Tryz.f116) (fnSt Tryz.f116 [.d (.sl .any 1 (l.map aInt)), .mp 100000] [(100000, .mapI .i64 [])] []) (retK Tryz.prog Tryz.f116 [] (.mp 9) [(100000, .mapI .i64 []), (9, .mapI .i64 es)] []) = FPReached l es := by kernel_rfl
theorem APReached (l : List Int) (es : List (Int × DV)) (h : FPReached l es) : AFn Tryz.prog 116 [.d (.sl .any 1 (l.map aInt)), .mp 100000] [(100000, .mapI .i64 [])] [] (.mp 9) [(100000, .mapI .i64 []), (9, .mapI .i64 es)] [] := fn_ok Tryz.func116 (by kernel_rfl) (Eq.mpr (KPReached l es) h)
/-! quire/store.Named -/
def AnNamed : Ann := { loop := fun b => match b with
  | 2 => ⟨[], [5, 29], [], []⟩
  | 0 => ⟨[⟨.slot 14, .int .i64⟩], [3, 5, 12, 13], [2, 3, 100000], []⟩
  | _ => ⟨[], [], [], []⟩, unroll := fun b => match b with | 2 => 1 | _ => 0, join := fun b => match b with | _ => none, quiet := fun b => match b with | _ => [], tab := fun b => match b with | _ => #[], enum := fun b => match b with | _ => false, split := fun b => match b with | 5 => true | _ => false, meet := fun b => match b with | _ => true }
def FNamed (l : List Int) (r : DV) : Prop :=
  ∃ I : List PV → Prop, ∃ v : List PV → Nat,
  (I [PV.n 0] ∧ (AV.ptr (nat_lit 3) (0 : Nat) = AV.ptr (nat_lit 3) (0 : Nat) ∧ AV.fn (162 : Nat) [AV.ptr (nat_lit 3) (0 : Nat)] = AV.fn (162 : Nat) [AV.ptr (nat_lit 3) (0 : Nat)] ∧ DvW (DV.sl SM.any 1 (List.map aInt l)) (DV.sl SM.any 1 (List.map aInt l)) ∧ DvW (DV.int IntKind.i64 (↑(List.length (List.map aInt l)) : Int)) (DV.int IntKind.i64 (↑(List.length (List.map aInt l)) : Int)) ∧ DvW (DV.int IntKind.i64 0) (DV.int IntKind.i64 0) ∧ True) ∧
    ((DvW (DV.sl SM.any 1 (List.map aInt l)) (DV.sl SM.any 1 (List.map aInt l)) ∧ DvW (DV.sl SM.any 2 []) (DV.sl SM.any 2 []) ∧ DvW (DV.int IntKind.i64 1) (DV.int IntKind.i64 1) ∧ True) ∧
      (AV.mp (100000 : Nat) = AV.mp (100000 : Nat) ∧ True) ∧
      Ob.mapI IntKind.i64 [] = Ob.mapI IntKind.i64 [] ∧ True) ∧
    true = true) ∧
  ∀ i : Int,
  (I [PV.n i]) →
  CB (decide (i < (↑(List.length (List.map aInt l)) : Int)))
   (0 ≤ i ∧ ∃ x : DV,
    (List.map aInt l)[Int.toNat i]? = some x ∧ ∃ x1 : DV,
    DvW x x1 ∧ CB (isCell x1)
     (∃ n : Int,
      AFn Tryz.prog 115 [AV.d x1] [] [] (AV.d (DV.int IntKind.i64 n)) [] [] ∧ CB ((n != 0) == false)
       (∃ t : Bool,
        AFn Tryz.prog 161 [AV.d x1, AV.no] [] [] (AV.d (DV.bool t)) [] [] ∧ CB (!t)
         (DvW (DV.bool false) r ∧ (Ob.mapI IntKind.i64 [] = Ob.mapI IntKind.i64 [] ∧ True) ∧
          true = true)
         (I [PV.n (IntKind.wrap IntKind.i64 (i + 1))] ∧ v [PV.n (IntKind.wrap IntKind.i64 (i + 1))] < v [PV.n i] ∧ (AV.ptr (nat_lit 3) (0 : Nat) = AV.ptr (nat_lit 3) (0 : Nat) ∧ AV.fn (162 : Nat) [AV.ptr (nat_lit 3) (0 : Nat)] = AV.fn (162 : Nat) [AV.ptr (nat_lit 3) (0 : Nat)] ∧ DvW (DV.sl SM.any 1 (List.map aInt l)) (DV.sl SM.any 1 (List.map aInt l)) ∧ DvW (DV.int IntKind.i64 (↑(List.length (List.map aInt l)) : Int)) (DV.int IntKind.i64 (↑(List.length (List.map aInt l)) : Int)) ∧ DvW (DV.int IntKind.i64 (IntKind.wrap IntKind.i64 (i + 1))) (DV.int IntKind.i64 (IntKind.wrap IntKind.i64 (i + 1))) ∧ True) ∧
          ((DvW (DV.sl SM.any 1 (List.map aInt l)) (DV.sl SM.any 1 (List.map aInt l)) ∧ DvW (DV.sl SM.any 2 []) (DV.sl SM.any 2 []) ∧ DvW (DV.int IntKind.i64 1) (DV.int IntKind.i64 1) ∧ True) ∧
            (AV.mp (100000 : Nat) = AV.mp (100000 : Nat) ∧ True) ∧
            Ob.mapI IntKind.i64 [] = Ob.mapI IntKind.i64 [] ∧ True) ∧
          true = true))
       (DvW (DV.bool false) r ∧ (Ob.mapI IntKind.i64 [] = Ob.mapI IntKind.i64 [] ∧ True) ∧
        true = true))
     (False))
   ((Nat) →
    DvW (DV.bool true) r ∧ (Ob.mapI IntKind.i64 [] = Ob.mapI IntKind.i64 [] ∧ True) ∧
    true = true)
theorem KNamed (l : List Int) (r : DV) : vc Tryz.prog SP AnNamed 0 (bodyOf Tryz.f117) (fnSt Tryz.f117 [.d (pState l), .mp 100000] [(100000, .mapI .i64 [])] []) (retK Tryz.prog Tryz.f117 [] (.d r) [(100000, .mapI .i64 [])] []) = FNamed l r := by kernel_rfl
theorem ANamed (l : List Int) (r : DV) (h : FNamed l r) : AFn Tryz.prog 117 [.d (pState l), .mp 100000] [(100000, .mapI .i64 [])] [] (.d r) [(100000, .mapI .i64 [])] [] := fn_ok Tryz.func117 (by kernel_rfl) (Eq.mpr (KNamed l r) h)
/-! quire/store.Sound -/
def AnPSound : Ann := { loop := fun b => match b with
  | 0 => ⟨[⟨.slot 4, .int .i64⟩, ⟨.slot 25, .int .i64⟩], [1, 3, 23, 24], [1], []⟩
  | _ => ⟨[], [], [], []⟩, unroll := fun b => match b with | 0 => 1 | _ => 0, join := fun b => match b with | _ => none, quiet := fun b => match b with | _ => [], tab := fun b => match b with | 10 => #[0, 0, 2, 0, 8, 0, 32, 31, 255] | _ => #[], enum := fun b => match b with | _ => false, split := fun b => match b with | 12 => true | _ => false, meet := fun b => match b with | _ => true }
def FPSound (l : List Int) (r : DV) : Prop :=
  ∃ r1 : Bool,
  ((decide ((↑(List.length (List.map aInt l)) : Int) > (256 : Int)) = false) →
    false = r1) ∧
  ((decide ((↑(List.length (List.map aInt l)) : Int) > (256 : Int)) = true) →
    true = r1) ∧
  ∃ r2 : Bool,
  ((r1 = false) →
    false = r2) ∧
  ((r1 = true) →
    true = r2) ∧
  CB (r2)
   (DvW (DV.bool false) r ∧ True ∧ true = true)
   (∃ es : List (Int × DV), ∃ es1 : List (Int × DV),
    AFn Tryz.prog 116 [AV.d (DV.sl SM.any 1 (List.map aInt l)), AV.mp 100000] [(100000, Ob.mapI IntKind.i64 [])] [] (AV.mp 9) [(100000, Ob.mapI IntKind.i64 es), (9, Ob.mapI IntKind.i64 es1)] [] ∧ CB (((↑(List.length es1) : Int) == (↑(List.length es) : Int)) == true)
     (∃ t : Bool, ∃ es2 : List (Int × DV),
      AFn Tryz.prog 117 [AV.d (DV.agg [DV.sl SM.any 1 (List.map aInt l), DV.sl SM.any 2 [], DV.int IntKind.i64 1]), AV.mp 100000] [(100000, Ob.mapI IntKind.i64 es)] [] (AV.d (DV.bool t)) [(100000, Ob.mapI IntKind.i64 es2)] [] ∧ DvW (DV.bool t) r ∧ True ∧ true = true)
     (DvW (DV.bool false) r ∧ True ∧ true = true))
theorem KPSound (l : List Int) (r : DV) : vc Tryz.prog SP AnPSound 0 (bodyOf Tryz.f59) (fnSt Tryz.f59 [.d (pState l)] [] []) (retK Tryz.prog Tryz.f59 [] (.d r) [] []) = FPSound l r := by kernel_rfl
theorem APSound (l : List Int) (r : DV) (h : FPSound l r) : AFn Tryz.prog 59 [.d (pState l)] [] [] (.d r) [] [] := fn_ok Tryz.func59 (by kernel_rfl) (Eq.mpr (KPSound l r) h)
/-! quire/dict.uses -/
def AnUses0 : Ann := { loop := fun b => match b with
  | 0 => ⟨[⟨.slot 10, .int .i64⟩], [3, 8, 9], [], []⟩
  | _ => ⟨[], [], [], []⟩, unroll := fun b => match b with | 0 => 1 | _ => 0, join := fun b => match b with | _ => none, quiet := fun b => match b with | _ => [], tab := fun b => match b with | _ => #[], enum := fun b => match b with | _ => false, split := fun b => match b with | _ => false, meet := fun b => match b with | _ => true }
def FUses0 (m : List (ByteArray × DV)) : Prop :=
  AV.mp (nat_lit 6) = AV.mp (6 : Nat) ∧ (Ob.mapS [] = Ob.mapS m ∧ True) ∧
  true = true
theorem KUses0 (m : List (ByteArray × DV)) : vc Tryz.prog SP AnUses0 0 (bodyOf Tryz.f163) (fnSt Tryz.f163 [.d dict0] [] []) (retK Tryz.prog Tryz.f163 [] (.mp 6) [(6, .mapS m)] []) = FUses0 m := by kernel_rfl
theorem AUses0 (m : List (ByteArray × DV)) (h : FUses0 m) : AFn Tryz.prog 163 [.d dict0] [] [] (.mp 6) [(6, .mapS m)] [] := fn_ok Tryz.func163 (by kernel_rfl) (Eq.mpr (KUses0 m) h)
/-! quire/dict.vocabs -/
def AnVocabs0 : Ann := { loop := fun b => match b with
  | 4 => ⟨[], [3, 72], [], []⟩
  | 2 => ⟨[⟨.slot 50, .int .i64⟩], [1, 3, 6, 19, 20, 21, 48, 49], [1], []⟩
  | 0 => ⟨[⟨.slot 21, .int .i64⟩], [1, 3, 19, 20], [1], []⟩
  | _ => ⟨[], [], [], []⟩, unroll := fun b => match b with | 0 => 1 | 4 => 1 | _ => 0, join := fun b => match b with | _ => none, quiet := fun b => match b with | _ => [], tab := fun b => match b with | 7 => #[0, 1, 3, 7, 15, 31, 63, 127, 255, 511, 255, 1279, 255, 4351, 15615, 31999, 64767, 131071, 262143, 524287] | _ => #[], enum := fun b => match b with | _ => false, split := fun b => match b with | _ => false, meet := fun b => match b with | _ => true }
def FVocabs0 (r : DV) : Prop :=
  ∃ es : List (ByteArray × DV),
  AFn Tryz.prog 163 [AV.d (DV.agg [DV.sl SM.any 2 [], DV.sl SM.any 5 []])] [] [] (AV.mp 6) [(6, Ob.mapS es)] [] ∧ ((Nat) →
  CB (List.isEmpty es)
   (DvW (DV.bool true) r ∧ True ∧ true = true)
   (False))
theorem KVocabs0 (r : DV) : vc Tryz.prog SP AnVocabs0 0 (bodyOf Tryz.f119) (fnSt Tryz.f119 [.d dict0] [] []) (retK Tryz.prog Tryz.f119 [] (.d r) [] []) = FVocabs0 r := by kernel_rfl
theorem AVocabs0 (r : DV) (h : FVocabs0 r) : AFn Tryz.prog 119 [.d dict0] [] [] (.d r) [] [] := fn_ok Tryz.func119 (by kernel_rfl) (Eq.mpr (KVocabs0 r) h)
/-! quire/dict.look -/
def AnLook0 : Ann := { loop := fun b => match b with
  | 0 => ⟨[⟨.slot 15, .int .i64⟩], [3, 13, 14], [], []⟩
  | _ => ⟨[], [], [], []⟩, unroll := fun b => match b with | 0 => 1 | _ => 0, join := fun b => match b with | _ => none, quiet := fun b => match b with | _ => [], tab := fun b => match b with | 1 => #[0, 0, 2, 0, 15, 31, 63] | 5 => #[0, 1, 3, 7, 0, 16, 48, 0, 255] | 6 => #[0, 0, 2, 6, 14, 0, 32, 96, 0, 256, 768, 2016, 4064, 8190, 16383, 32767, 65535] | _ => #[], enum := fun b => match b with | 1 => true | _ => false, split := fun b => match b with | _ => false, meet := fun b => match b with | _ => true }
def FLook0 (ks ws : List (ByteArray × DV)) (xs : List DV) : Prop :=
  (((∃ es : List (ByteArray × DV),
        AFn Tryz.prog 163 [AV.d (DV.agg [DV.sl SM.any 2 [], DV.sl SM.any 5 []])] [] [] (AV.mp 6) [(6, Ob.mapS es)] [] ∧ AV.ptr (nat_lit 11) (0 : Nat) = AV.ptr (11 : Nat) (0 : Nat) ∧ ((DvW (DV.sl SM.any 2 []) (DV.sl SM.any 2 []) ∧ DvW (DV.sl SM.any 5 []) (DV.sl SM.any 5 []) ∧ AV.mp (nat_lit 10128) = AV.mp (10128 : Nat) ∧ AV.mp (nat_lit 9) = AV.mp (9 : Nat) ∧ AV.own (61 : Nat) (3 : Nat) [] = AV.own (61 : Nat) (3 : Nat) xs ∧ True) ∧
          Ob.mapS es = Ob.mapS ks ∧ Ob.mapS [] = Ob.mapS ws ∧ True) ∧
        true = true) ∧
      ∃ es : List (ByteArray × DV),
      AFn Tryz.prog 163 [AV.d (DV.agg [DV.sl SM.any 2 [], DV.sl SM.any 5 []])] [] [] (AV.mp 6) [(6, Ob.mapS es)] [] ∧ AV.ptr (nat_lit 11) (0 : Nat) = AV.ptr (11 : Nat) (0 : Nat) ∧ ((DvW (DV.sl SM.any 2 []) (DV.sl SM.any 2 []) ∧ DvW (DV.sl SM.any 5 []) (DV.sl SM.any 5 []) ∧ AV.mp (nat_lit 10128) = AV.mp (10128 : Nat) ∧ AV.mp (nat_lit 9) = AV.mp (9 : Nat) ∧ AV.own (61 : Nat) (3 : Nat) [] = AV.own (61 : Nat) (3 : Nat) xs ∧ True) ∧
        Ob.mapS es = Ob.mapS ks ∧ Ob.mapS [] = Ob.mapS ws ∧ True) ∧
      true = true) ∧
    ∃ es : List (ByteArray × DV),
    AFn Tryz.prog 163 [AV.d (DV.agg [DV.sl SM.any 2 [], DV.sl SM.any 5 []])] [] [] (AV.mp 6) [(6, Ob.mapS es)] [] ∧ AV.ptr (nat_lit 11) (0 : Nat) = AV.ptr (11 : Nat) (0 : Nat) ∧ ((DvW (DV.sl SM.any 2 []) (DV.sl SM.any 2 []) ∧ DvW (DV.sl SM.any 5 []) (DV.sl SM.any 5 []) ∧ AV.mp (nat_lit 10128) = AV.mp (10128 : Nat) ∧ AV.mp (nat_lit 9) = AV.mp (9 : Nat) ∧ AV.own (61 : Nat) (3 : Nat) [] = AV.own (61 : Nat) (3 : Nat) xs ∧ True) ∧
      Ob.mapS es = Ob.mapS ks ∧ Ob.mapS [] = Ob.mapS ws ∧ True) ∧
    true = true) ∧
  (((∃ es : List (ByteArray × DV),
        AFn Tryz.prog 163 [AV.d (DV.agg [DV.sl SM.any 2 [], DV.sl SM.any 5 []])] [] [] (AV.mp 6) [(6, Ob.mapS es)] [] ∧ AV.ptr (nat_lit 11) (0 : Nat) = AV.ptr (11 : Nat) (0 : Nat) ∧ ((DvW (DV.sl SM.any 2 []) (DV.sl SM.any 2 []) ∧ DvW (DV.sl SM.any 5 []) (DV.sl SM.any 5 []) ∧ AV.mp (nat_lit 10128) = AV.mp (10128 : Nat) ∧ AV.mp (nat_lit 9) = AV.mp (9 : Nat) ∧ AV.own (61 : Nat) (3 : Nat) [] = AV.own (61 : Nat) (3 : Nat) xs ∧ True) ∧
          Ob.mapS es = Ob.mapS ks ∧ Ob.mapS [] = Ob.mapS ws ∧ True) ∧
        true = true) ∧
      ∃ es : List (ByteArray × DV),
      AFn Tryz.prog 163 [AV.d (DV.agg [DV.sl SM.any 2 [], DV.sl SM.any 5 []])] [] [] (AV.mp 6) [(6, Ob.mapS es)] [] ∧ AV.ptr (nat_lit 11) (0 : Nat) = AV.ptr (11 : Nat) (0 : Nat) ∧ ((DvW (DV.sl SM.any 2 []) (DV.sl SM.any 2 []) ∧ DvW (DV.sl SM.any 5 []) (DV.sl SM.any 5 []) ∧ AV.mp (nat_lit 10128) = AV.mp (10128 : Nat) ∧ AV.mp (nat_lit 9) = AV.mp (9 : Nat) ∧ AV.own (61 : Nat) (3 : Nat) [] = AV.own (61 : Nat) (3 : Nat) xs ∧ True) ∧
        Ob.mapS es = Ob.mapS ks ∧ Ob.mapS [] = Ob.mapS ws ∧ True) ∧
      true = true) ∧
    (∃ es : List (ByteArray × DV),
      AFn Tryz.prog 163 [AV.d (DV.agg [DV.sl SM.any 2 [], DV.sl SM.any 5 []])] [] [] (AV.mp 6) [(6, Ob.mapS es)] [] ∧ (AV.ptr (nat_lit 11) (0 : Nat) = AV.ptr (11 : Nat) (0 : Nat) ∧ ((DvW (DV.sl SM.any 2 []) (DV.sl SM.any 2 []) ∧ DvW (DV.sl SM.any 5 []) (DV.sl SM.any 5 []) ∧ AV.mp (nat_lit 10128) = AV.mp (10128 : Nat) ∧ AV.mp (nat_lit 9) = AV.mp (9 : Nat) ∧ AV.own (61 : Nat) (3 : Nat) [] = AV.own (61 : Nat) (3 : Nat) xs ∧ True) ∧
          Ob.mapS es = Ob.mapS ks ∧ Ob.mapS [] = Ob.mapS ws ∧ True) ∧
        true = true) ∧
      AV.ptr (nat_lit 11) (0 : Nat) = AV.ptr (11 : Nat) (0 : Nat) ∧ ((DvW (DV.sl SM.any 2 []) (DV.sl SM.any 2 []) ∧ DvW (DV.sl SM.any 5 []) (DV.sl SM.any 5 []) ∧ AV.mp (nat_lit 10128) = AV.mp (10128 : Nat) ∧ AV.mp (nat_lit 9) = AV.mp (9 : Nat) ∧ AV.own (61 : Nat) (3 : Nat) [] = AV.own (61 : Nat) (3 : Nat) xs ∧ True) ∧
        Ob.mapS es = Ob.mapS ks ∧ Ob.mapS [] = Ob.mapS ws ∧ True) ∧
      true = true) ∧
    (∃ es : List (ByteArray × DV),
      AFn Tryz.prog 163 [AV.d (DV.agg [DV.sl SM.any 2 [], DV.sl SM.any 5 []])] [] [] (AV.mp 6) [(6, Ob.mapS es)] [] ∧ AV.ptr (nat_lit 11) (0 : Nat) = AV.ptr (11 : Nat) (0 : Nat) ∧ ((DvW (DV.sl SM.any 2 []) (DV.sl SM.any 2 []) ∧ DvW (DV.sl SM.any 5 []) (DV.sl SM.any 5 []) ∧ AV.mp (nat_lit 10128) = AV.mp (10128 : Nat) ∧ AV.mp (nat_lit 9) = AV.mp (9 : Nat) ∧ AV.own (61 : Nat) (3 : Nat) [] = AV.own (61 : Nat) (3 : Nat) xs ∧ True) ∧
        Ob.mapS es = Ob.mapS ks ∧ Ob.mapS [] = Ob.mapS ws ∧ True) ∧
      true = true) ∧
    ∃ es : List (ByteArray × DV),
    AFn Tryz.prog 163 [AV.d (DV.agg [DV.sl SM.any 2 [], DV.sl SM.any 5 []])] [] [] (AV.mp 6) [(6, Ob.mapS es)] [] ∧ AV.ptr (nat_lit 11) (0 : Nat) = AV.ptr (11 : Nat) (0 : Nat) ∧ ((DvW (DV.sl SM.any 2 []) (DV.sl SM.any 2 []) ∧ DvW (DV.sl SM.any 5 []) (DV.sl SM.any 5 []) ∧ AV.mp (nat_lit 10128) = AV.mp (10128 : Nat) ∧ AV.mp (nat_lit 9) = AV.mp (9 : Nat) ∧ AV.own (61 : Nat) (3 : Nat) [] = AV.own (61 : Nat) (3 : Nat) xs ∧ True) ∧
      Ob.mapS es = Ob.mapS ks ∧ Ob.mapS [] = Ob.mapS ws ∧ True) ∧
    true = true) ∧
  (∃ es : List (ByteArray × DV),
    AFn Tryz.prog 163 [AV.d (DV.agg [DV.sl SM.any 2 [], DV.sl SM.any 5 []])] [] [] (AV.mp 6) [(6, Ob.mapS es)] [] ∧ AV.ptr (nat_lit 11) (0 : Nat) = AV.ptr (11 : Nat) (0 : Nat) ∧ ((DvW (DV.sl SM.any 2 []) (DV.sl SM.any 2 []) ∧ DvW (DV.sl SM.any 5 []) (DV.sl SM.any 5 []) ∧ AV.mp (nat_lit 10128) = AV.mp (10128 : Nat) ∧ AV.mp (nat_lit 9) = AV.mp (9 : Nat) ∧ AV.own (61 : Nat) (3 : Nat) [] = AV.own (61 : Nat) (3 : Nat) xs ∧ True) ∧
      Ob.mapS es = Ob.mapS ks ∧ Ob.mapS [] = Ob.mapS ws ∧ True) ∧
    true = true) ∧
  (∃ es : List (ByteArray × DV),
    AFn Tryz.prog 163 [AV.d (DV.agg [DV.sl SM.any 2 [], DV.sl SM.any 5 []])] [] [] (AV.mp 6) [(6, Ob.mapS es)] [] ∧ AV.ptr (nat_lit 11) (0 : Nat) = AV.ptr (11 : Nat) (0 : Nat) ∧ ((DvW (DV.sl SM.any 2 []) (DV.sl SM.any 2 []) ∧ DvW (DV.sl SM.any 5 []) (DV.sl SM.any 5 []) ∧ AV.mp (nat_lit 10128) = AV.mp (10128 : Nat) ∧ AV.mp (nat_lit 9) = AV.mp (9 : Nat) ∧ AV.own (61 : Nat) (3 : Nat) [] = AV.own (61 : Nat) (3 : Nat) xs ∧ True) ∧
      Ob.mapS es = Ob.mapS ks ∧ Ob.mapS [] = Ob.mapS ws ∧ True) ∧
    true = true) ∧
  ∃ es : List (ByteArray × DV),
  AFn Tryz.prog 163 [AV.d (DV.agg [DV.sl SM.any 2 [], DV.sl SM.any 5 []])] [] [] (AV.mp 6) [(6, Ob.mapS es)] [] ∧ AV.ptr (nat_lit 11) (0 : Nat) = AV.ptr (11 : Nat) (0 : Nat) ∧ ((DvW (DV.sl SM.any 2 []) (DV.sl SM.any 2 []) ∧ DvW (DV.sl SM.any 5 []) (DV.sl SM.any 5 []) ∧ AV.mp (nat_lit 10128) = AV.mp (10128 : Nat) ∧ AV.mp (nat_lit 9) = AV.mp (9 : Nat) ∧ AV.own (61 : Nat) (3 : Nat) [] = AV.own (61 : Nat) (3 : Nat) xs ∧ True) ∧
    Ob.mapS es = Ob.mapS ks ∧ Ob.mapS [] = Ob.mapS ws ∧ True) ∧
  true = true
theorem KLook0 (ks ws : List (ByteArray × DV)) (xs : List DV) : vc Tryz.prog SP AnLook0 0 (bodyOf Tryz.f120) (fnSt Tryz.f120 [.d dict0] [] []) (retK Tryz.prog Tryz.f120 [⟨.cell 11 4, .own 61 3⟩] (.ptr 11 0) [(11, .cells [.d (.sl .any 2 []), .d (.sl .any 5 []), .mp 10128, .mp 9, .own 61 3 xs]), (10128, .mapS ks), (9, .mapS ws)] [61]) = FLook0 ks ws xs := by kernel_rfl
theorem ALook0 (ks ws : List (ByteArray × DV)) (xs : List DV) (h : FLook0 ks ws xs) : AFn Tryz.prog 120 [.d dict0] [] [] (.ptr 11 0) [(11, .cells [.d (.sl .any 2 []), .d (.sl .any 5 []), .mp 10128, .mp 9, .own 61 3 xs]), (10128, .mapS ks), (9, .mapS ws)] [61] := fn_ok Tryz.func120 (by kernel_rfl) (Eq.mpr (KLook0 ks ws xs) h)
/-! quire/dict.Check -/
def AnDCheck0 : Ann := { loop := fun b => match b with
  | 2 => ⟨[⟨.slot 76, .int .i64⟩], [3, 74, 75], [], []⟩
  | 0 => ⟨[⟨.slot 24, .int .i64⟩], [1, 3, 22, 23], [1], []⟩
  | _ => ⟨[], [], [], []⟩, unroll := fun b => match b with | 0 => 1 | 2 => 1 | _ => 0, join := fun b => match b with | _ => none, quiet := fun b => match b with | _ => [], tab := fun b => match b with | 7 => #[0, 1, 3, 7, 0, 16, 63, 127, 255, 255, 511, 2047] | 8 => #[0, 1, 3, 7, 15, 31, 63, 127, 255, 511, 1023, 2047, 4095, 8191, 16383, 32767, 65535, 131071, 262143, 524287, 1048575, 2097151, 524287, 4718591, 524287, 17301503, 63438847, 130547711, 264765439, 533200895, 1073741823, 2147483647, 4294967295] | _ => #[], enum := fun b => match b with | _ => false, split := fun b => match b with | _ => false, meet := fun b => match b with | 7 => false | _ => true }
def FDCheck0 (r : DV) : Prop :=
  ∃ t : Bool,
  AFn Tryz.prog 119 [AV.d (DV.agg [DV.sl SM.any 2 [], DV.sl SM.any 5 []])] [] [] (AV.d (DV.bool t)) [] [] ∧ ∃ r1 : Bool,
  (((!t) = false) →
    false = r1) ∧
  (((!t) = true) →
    true = r1) ∧
  CB (r1)
   (DvW (DV.int IntKind.i64 1) r ∧ True ∧ true = true)
   (∃ x : DV, ∃ x1 : DV, ∃ xs : List DV, ∃ es : List (ByteArray × DV), ∃ es1 : List (ByteArray × DV),
    AFn Tryz.prog 120 [AV.d (DV.agg [DV.sl SM.any 2 [], DV.sl SM.any 5 []])] [] [] (AV.ptr 11 0) [(11, Ob.cells [AV.d x, AV.d x1, AV.mp 10128, AV.mp 9, AV.own 61 3 xs]), (10128, Ob.mapS es), (9, Ob.mapS es1)] [61] ∧ DvW (DV.int IntKind.i64 0) r ∧ True ∧ true = true)
theorem KDCheck0 (r : DV) : vc Tryz.prog SP AnDCheck0 0 (bodyOf Tryz.f61) (fnSt Tryz.f61 [.d dict0] [] []) (retK Tryz.prog Tryz.f61 [] (.d r) [] []) = FDCheck0 r := by kernel_rfl
theorem ADCheck0 (r : DV) (h : FDCheck0 r) : AFn Tryz.prog 61 [.d dict0] [] [] (.d r) [] [] := fn_ok Tryz.func61 (by kernel_rfl) (Eq.mpr (KDCheck0 r) h)
/-! slices.Grow[[]quire/api.Dict,quire/api.Dict] -/
def AnGrow0 : Ann := { loop := fun b => match b with
  | _ => ⟨[], [], [], []⟩, unroll := fun b => match b with | _ => 0, join := fun b => match b with | _ => none, quiet := fun b => match b with | _ => [], tab := fun b => match b with | _ => #[], enum := fun b => match b with | _ => false, split := fun b => match b with | _ => false, meet := fun b => match b with | _ => true }
def FGrow0 (n : Int) : Prop :=
  CB (decide (n < 0))
   (False)
   (CB (decide (IntKind.wrap IntKind.i64 (n - IntKind.wrap IntKind.i64 (0 - Int.ofNat 0)) > 0))
     ((0 : Int) ≤ (0 : Int) ∧ (0 : Int) ≤ (0 : Int) ∧ (0 : Int) ≤ Int.ofNat (nat_lit 0) ∧ 0 < IntKind.wrap IntKind.i64 (n - IntKind.wrap IntKind.i64 (0 - Int.ofNat 0)) ∧ IntKind.wrap IntKind.i64 (n - IntKind.wrap IntKind.i64 (0 - Int.ofNat 0)) * Int.ofNat 48 ≤ 140737488355328 ∧ Int.ofNat (nat_lit 0) = (0 : Int) ∧ AV.own (nat_lit 22) (nat_lit 2) [] = AV.own (22 : Nat) (2 : Nat) [] ∧ True ∧ true = true)
     (AV.d (DV.sl SM.nil (0 : Nat) []) = AV.own (22 : Nat) (2 : Nat) [] ∧ True ∧ false = true))
theorem KGrow0 (n : Int) : vc Tryz.prog SP AnGrow0 0 (bodyOf Tryz.f118) (fnSt Tryz.f118 [.d (.sl .nil 0 []), .d (.int .i64 n)] [] []) (retK Tryz.prog Tryz.f118 [] (.own 22 2 []) [] [22]) = FGrow0 n := by kernel_rfl
theorem AGrow0 (n : Int) (h : FGrow0 n) : AFn Tryz.prog 118 [.d (.sl .nil 0 []), .d (.int .i64 n)] [] [] (.own 22 2 []) [] [22] := fn_ok Tryz.func118 (by kernel_rfl) (Eq.mpr (KGrow0 n) h)
/-! slices.Concat[[]quire/api.Dict,quire/api.Dict] -/
def AnConcat0 : Ann := { loop := fun b => match b with
  | 2 => ⟨[⟨.slot 6, .dv⟩, ⟨.slot 27, .int .i64⟩], [25, 26], [], []⟩
  | 0 => ⟨[⟨.slot 3, .int .i64⟩, ⟨.slot 11, .int .i64⟩], [0, 9, 10], [], []⟩
  | _ => ⟨[], [], [], []⟩, unroll := fun b => match b with | 0 => 4 | 2 => 4 | _ => 0, join := fun b => match b with | _ => none, quiet := fun b => match b with | _ => [], tab := fun b => match b with | _ => #[], enum := fun b => match b with | _ => false, split := fun b => match b with | _ => false, meet := fun b => match b with | _ => true }
def FConcat0 (ys : List DV) : Prop :=
  (0 : Int) ≤ (0 : Int) ∧ ∃ x : DV,
  some (DV.sl SM.any (2 : Nat) [DV.agg [DV.sl SM.any (2 : Nat) [], DV.sl SM.any (5 : Nat) []]]) = some x ∧ ∃ xs : List DV,
  DvW x (DV.sl SM.any 2 xs) ∧ CB (decide (IntKind.wrap IntKind.i64 (0 + (↑(List.length xs) : Int)) < 0))
   (False)
   ((0 : Int) ≤ IntKind.wrap IntKind.i64 (Int.ofNat (nat_lit 1)) ∧ ∃ x1 : DV,
    some (DV.sl SM.any (2 : Nat) []) = some x1 ∧ ∃ xs1 : List DV,
    DvW x1 (DV.sl SM.any 2 xs1) ∧ CB (decide (IntKind.wrap IntKind.i64 (IntKind.wrap IntKind.i64 (0 + (↑(List.length xs) : Int)) + (↑(List.length xs1) : Int)) < 0))
     (False)
     ((0 : Int) ≤ IntKind.wrap IntKind.i64 (Int.ofNat (nat_lit 2)) ∧ ∃ x2 : DV,
      some (DV.sl SM.any (2 : Nat) []) = some x2 ∧ ∃ xs2 : List DV,
      DvW x2 (DV.sl SM.any 2 xs2) ∧ CB (decide (IntKind.wrap IntKind.i64 (IntKind.wrap IntKind.i64 (IntKind.wrap IntKind.i64 (0 + (↑(List.length xs) : Int)) + (↑(List.length xs1) : Int)) + (↑(List.length xs2) : Int)) < 0))
       (False)
       (∃ xs3 : List DV,
        AFn Tryz.prog 118 [AV.d (DV.sl SM.nil 0 []), AV.d (DV.int IntKind.i64 (IntKind.wrap IntKind.i64 (IntKind.wrap IntKind.i64 (IntKind.wrap IntKind.i64 (0 + (↑(List.length xs) : Int)) + (↑(List.length xs1) : Int)) + (↑(List.length xs2) : Int))))] [] [] (AV.own 22 2 xs3) [] [22] ∧ (0 : Int) ≤ (0 : Int) ∧ ∃ x3 : DV,
        some (DV.sl SM.any (2 : Nat) [DV.agg [DV.sl SM.any (2 : Nat) [], DV.sl SM.any (5 : Nat) []]]) = some x3 ∧ ∃ xs4 : List DV,
        DvW x3 (DV.sl SM.any 2 xs4) ∧ (List.length xs3 + List.length xs4) * 48 ≤ 140737488355328 ∧ (0 : Int) ≤ IntKind.wrap IntKind.i64 (Int.ofNat (nat_lit 1)) ∧ ∃ x4 : DV,
        some (DV.sl SM.any (2 : Nat) []) = some x4 ∧ ∃ xs5 : List DV,
        DvW x4 (DV.sl SM.any 2 xs5) ∧ (List.length (xs3 ++ xs4) + List.length xs5) * 48 ≤ 140737488355328 ∧ (0 : Int) ≤ IntKind.wrap IntKind.i64 (Int.ofNat (nat_lit 2)) ∧ ∃ x5 : DV,
        some (DV.sl SM.any (2 : Nat) []) = some x5 ∧ ∃ xs6 : List DV,
        DvW x5 (DV.sl SM.any 2 xs6) ∧ (List.length (xs3 ++ xs4 ++ xs5) + List.length xs6) * 48 ≤ 140737488355328 ∧ AV.own (60 : Nat) (2 : Nat) (xs3 ++ xs4 ++ xs5 ++ xs6) = AV.own (60 : Nat) (2 : Nat) ys ∧ True ∧ true = true)))
theorem KConcat0 (ys : List DV) : vc Tryz.prog SP AnConcat0 0 (bodyOf Tryz.f60) (fnSt Tryz.f60 [.d (.sl .any 1 [.sl .any 2 [dict0], .sl .any 2 [], .sl .any 2 []])] [] []) (retK Tryz.prog Tryz.f60 [⟨.slot 2, .own 60 2⟩] (.own 60 2 ys) [] [60]) = FConcat0 ys := by kernel_rfl
theorem AConcat0 (ys : List DV) (h : FConcat0 ys) : AFn Tryz.prog 60 [.d (.sl .any 1 [.sl .any 2 [dict0], .sl .any 2 [], .sl .any 2 []])] [] [] (.own 60 2 ys) [] [60] := fn_ok Tryz.func60 (by kernel_rfl) (Eq.mpr (KConcat0 ys) h)
/-! quire/image.Check -/
def AnICheck : Ann := { loop := fun b => match b with
  | 0 => ⟨[⟨.slot 31, .int .i64⟩], [29, 30], [], []⟩
  | _ => ⟨[], [], [], []⟩, unroll := fun b => match b with | 0 => 2 | _ => 0, join := fun b => match b with | _ => none, quiet := fun b => match b with | _ => [], tab := fun b => match b with | _ => #[], enum := fun b => match b with | _ => false, split := fun b => match b with | _ => false, meet := fun b => match b with | _ => true }
def FICheck (l : List Int) (r : DV) : Prop :=
  ∃ t : Bool,
  AFn Tryz.prog 59 [AV.d (DV.agg [DV.sl SM.any 1 (List.map aInt l), DV.sl SM.any 2 [], DV.int IntKind.i64 1])] [] [] (AV.d (DV.bool t)) [] [] ∧ ∃ r1 : Bool,
  (((!t) = false) →
    false = r1) ∧
  (((!t) = true) →
    true = r1) ∧
  ∃ r2 : Bool,
  ((r1 = false) →
    false = r2) ∧
  ((r1 = true) →
    true = r2) ∧
  CB (r2)
   (DvW (DV.int IntKind.i64 1) r ∧ True ∧ true = true)
   (∃ xs : List DV,
    AFn Tryz.prog 60 [AV.d (DV.sl SM.full 1 [DV.sl SM.full 2 [DV.agg [DV.sl SM.any 2 [], DV.sl SM.any 5 []]], DV.sl SM.any 2 [], DV.sl SM.any 2 []])] [] [] (AV.own 60 2 xs) [] [60] ∧ CB (decide (0 < (↑(List.length xs) : Int)))
     ((0 : Int) ≤ (0 : Int) ∧ ∃ x : DV,
      xs[nat_lit 0]? = some x ∧ ∃ xs1 : List DV, ∃ xs2 : List DV,
      DvW x (DV.agg [DV.sl SM.any 2 xs1, DV.sl SM.any 5 xs2]) ∧ ∃ n : Int,
      AFn Tryz.prog 61 [AV.d (DV.agg [DV.sl SM.any 2 xs1, DV.sl SM.any 5 xs2])] [] [] (AV.d (DV.int IntKind.i64 n)) [] [] ∧ CB (n != 0)
       (DvW (DV.int IntKind.i64 1) r ∧ True ∧ true = true)
       (CB (decide (IntKind.wrap IntKind.i64 (Int.ofNat 1) < (↑(List.length xs) : Int)))
         ((0 : Int) ≤ IntKind.wrap IntKind.i64 (Int.ofNat (nat_lit 1)) ∧ ∃ x1 : DV,
          xs[nat_lit 1]? = some x1 ∧ ∃ xs3 : List DV, ∃ xs4 : List DV,
          DvW x1 (DV.agg [DV.sl SM.any 2 xs3, DV.sl SM.any 5 xs4]) ∧ ∃ n1 : Int,
          AFn Tryz.prog 61 [AV.d (DV.agg [DV.sl SM.any 2 xs3, DV.sl SM.any 5 xs4])] [] [] (AV.d (DV.int IntKind.i64 n1)) [] [] ∧ CB (n1 != 0)
           (DvW (DV.int IntKind.i64 1) r ∧ True ∧ true = true)
           (False))
         (DvW (DV.int IntKind.i64 0) r ∧ True ∧ true = true)))
     (DvW (DV.int IntKind.i64 0) r ∧ True ∧ true = true))
theorem KICheck (l : List Int) (r : DV) : vc Tryz.prog SP AnICheck 0 (bodyOf Tryz.f20) (fnSt Tryz.f20 [.d (pImage l)] [] []) (retK Tryz.prog Tryz.f20 [] (.d r) [] []) = FICheck l r := by kernel_rfl
theorem AICheck (l : List Int) (r : DV) (h : FICheck l r) : AFn Tryz.prog 20 [.d (pImage l)] [] [] (.d r) [] [] := fn_ok Tryz.func20 (by kernel_rfl) (Eq.mpr (KICheck l r) h)
/-! quire/image.Bytes -/
def AnIBytes : Ann := { loop := fun b => match b with
  | 6 => ⟨[⟨.slot 87, .int .i64⟩], [5, 75, 76, 77, 85, 86], [], []⟩
  | 4 => ⟨[⟨.slot 77, .int .i64⟩, ⟨.cell 20 0, .own 51 1⟩], [5, 75, 76], [], []⟩
  | 2 => ⟨[⟨.slot 54, .int .i64⟩], [1, 5, 52, 53], [1], []⟩
  | 0 => ⟨[⟨.slot 36, .int .i64⟩, ⟨.cell 20 0, .own 50 1⟩], [1, 5, 34, 35], [1, 20], []⟩
  | _ => ⟨[], [], [], []⟩, unroll := fun b => match b with | 2 => 1 | 4 => 3 | 6 => 1 | _ => 0, join := fun b => match b with | _ => none, quiet := fun b => match b with | _ => [], tab := fun b => match b with | _ => #[], enum := fun b => match b with | _ => false, split := fun b => match b with | _ => false, meet := fun b => match b with | _ => true }
def FIBytes (l : List Int) (r1 r2 : DV) : Prop :=
  ∃ n : Int,
  AFn Tryz.prog 20 [AV.d (DV.agg [DV.sl SM.any 1 (List.map aInt l), DV.sl SM.any 2 [], DV.int IntKind.i64 1, DV.sl SM.any 2 [], DV.sl SM.any 5 [], DV.sl SM.any 2 [], DV.sl SM.any 2 []])] [] [] (AV.d (DV.int IntKind.i64 n)) [] [] ∧ CB (n != 0)
   ((DvW (DV.sl SM.nil 0 []) r1 ∧ DvW (DV.int IntKind.i64 n) r2 ∧ True) ∧
    True ∧ true = true)
   (∃ xs : List DV,
    AFn Tryz.prog 29 [AV.ptr 100000 0, AV.d (DV.int IntKind.i64 1)] [(100000, Ob.cells [AV.d (DV.sl SM.nil 0 [])])] [] (AV.tup []) [(100000, Ob.cells [AV.own 60 1 xs])] [60] ∧ ∃ xs1 : List DV,
    AFn Tryz.prog 29 [AV.ptr 100000 0, AV.d (DV.int IntKind.i64 (↑(List.length (List.map aInt l)) : Int))] [(100000, Ob.cells [AV.own 100001 1 xs])] [100001] (AV.tup []) [(100000, Ob.cells [AV.own 60 1 xs1])] [60] ∧ ∃ I : List PV → Prop, ∃ v : List PV → Nat,
    (I [PV.n 0, PV.xs xs1] ∧ (AV.ptr (nat_lit 1) (0 : Nat) = AV.ptr (nat_lit 1) (0 : Nat) ∧ AV.ptr (nat_lit 20) (0 : Nat) = AV.ptr (nat_lit 20) (0 : Nat) ∧ DvW (DV.sl SM.any 1 (List.map aInt l)) (DV.sl SM.any 1 (List.map aInt l)) ∧ DvW (DV.int IntKind.i64 (↑(List.length (List.map aInt l)) : Int)) (DV.int IntKind.i64 (↑(List.length (List.map aInt l)) : Int)) ∧ DvW (DV.int IntKind.i64 0) (DV.int IntKind.i64 0) ∧ True) ∧
      ((DvW (DV.sl SM.any 1 (List.map aInt l)) (DV.sl SM.any 1 (List.map aInt l)) ∧ DvW (DV.sl SM.any 2 []) (DV.sl SM.any 2 []) ∧ DvW (DV.int IntKind.i64 1) (DV.int IntKind.i64 1) ∧ DvW (DV.sl SM.any 2 []) (DV.sl SM.any 2 []) ∧ DvW (DV.sl SM.any 5 []) (DV.sl SM.any 5 []) ∧ DvW (DV.sl SM.any 2 []) (DV.sl SM.any 2 []) ∧ DvW (DV.sl SM.any 2 []) (DV.sl SM.any 2 []) ∧ True) ∧
        (AV.own (50 : Nat) (1 : Nat) xs1 = AV.own (50 : Nat) (1 : Nat) xs1 ∧ True) ∧
        True) ∧
      true = true) ∧
    ∀ i : Int,
    ∀ l1 : List DV,
    (I [PV.n i, PV.xs l1]) →
    CB (decide (i < (↑(List.length (List.map aInt l)) : Int)))
     (0 ≤ i ∧ ∃ x : DV,
      (List.map aInt l)[Int.toNat i]? = some x ∧ ∃ x1 : DV,
      DvW x x1 ∧ CB (isCell x1)
       (∃ xs2 : List DV,
        AFn Tryz.prog 30 [AV.ptr 100000 0, AV.d x1] [(100000, Ob.cells [AV.own 100001 1 l1])] [100001] (AV.tup []) [(100000, Ob.cells [AV.own 60 1 xs2])] [60] ∧ I [PV.n (IntKind.wrap IntKind.i64 (i + 1)), PV.xs xs2] ∧ v [PV.n (IntKind.wrap IntKind.i64 (i + 1)), PV.xs xs2] < v [PV.n i, PV.xs l1] ∧ (AV.ptr (nat_lit 1) (0 : Nat) = AV.ptr (nat_lit 1) (0 : Nat) ∧ AV.ptr (nat_lit 20) (0 : Nat) = AV.ptr (nat_lit 20) (0 : Nat) ∧ DvW (DV.sl SM.any 1 (List.map aInt l)) (DV.sl SM.any 1 (List.map aInt l)) ∧ DvW (DV.int IntKind.i64 (↑(List.length (List.map aInt l)) : Int)) (DV.int IntKind.i64 (↑(List.length (List.map aInt l)) : Int)) ∧ DvW (DV.int IntKind.i64 (IntKind.wrap IntKind.i64 (i + 1))) (DV.int IntKind.i64 (IntKind.wrap IntKind.i64 (i + 1))) ∧ True) ∧
        ((DvW (DV.sl SM.any 1 (List.map aInt l)) (DV.sl SM.any 1 (List.map aInt l)) ∧ DvW (DV.sl SM.any 2 []) (DV.sl SM.any 2 []) ∧ DvW (DV.int IntKind.i64 1) (DV.int IntKind.i64 1) ∧ DvW (DV.sl SM.any 2 []) (DV.sl SM.any 2 []) ∧ DvW (DV.sl SM.any 5 []) (DV.sl SM.any 5 []) ∧ DvW (DV.sl SM.any 2 []) (DV.sl SM.any 2 []) ∧ DvW (DV.sl SM.any 2 []) (DV.sl SM.any 2 []) ∧ True) ∧
          (AV.own (50 : Nat) (1 : Nat) xs2 = AV.own (50 : Nat) (1 : Nat) xs2 ∧ True) ∧
          True) ∧
        true = true)
       (False))
     (∃ xs2 : List DV,
      AFn Tryz.prog 29 [AV.ptr 100000 0, AV.d (DV.int IntKind.i64 (Int.ofNat 0))] [(100000, Ob.cells [AV.own 100001 1 l1])] [100001] (AV.tup []) [(100000, Ob.cells [AV.own 60 1 xs2])] [60] ∧ ∃ xs3 : List DV,
      AFn Tryz.prog 31 [AV.ptr 100000 0, AV.d (DV.agg [DV.sl SM.any 2 [], DV.sl SM.any 5 []])] [(100000, Ob.cells [AV.own 100001 1 xs2])] [100001] (AV.tup []) [(100000, Ob.cells [AV.own 60 1 xs3])] [60] ∧ (0 : Int) ≤ (0 : Int) ∧ ∃ x : DV,
      some (DV.sl SM.any (2 : Nat) []) = some x ∧ ∃ xs4 : List DV,
      DvW x (DV.sl SM.any 2 xs4) ∧ ∃ xs5 : List DV,
      AFn Tryz.prog 29 [AV.ptr 100000 0, AV.d (DV.int IntKind.i64 (↑(List.length xs4) : Int))] [(100000, Ob.cells [AV.own 100001 1 xs3])] [100001] (AV.tup []) [(100000, Ob.cells [AV.own 60 1 xs5])] [60] ∧ CB (decide (0 < (↑(List.length xs4) : Int)))
       ((0 : Int) ≤ (0 : Int) ∧ ∃ x1 : DV,
        xs4[nat_lit 0]? = some x1 ∧ ∃ xs6 : List DV, ∃ xs7 : List DV,
        DvW x1 (DV.agg [DV.sl SM.any 2 xs6, DV.sl SM.any 5 xs7]) ∧ ∃ xs8 : List DV,
        AFn Tryz.prog 31 [AV.ptr 100000 0, AV.d (DV.agg [DV.sl SM.any 2 xs6, DV.sl SM.any 5 xs7])] [(100000, Ob.cells [AV.own 100001 1 xs5])] [100001] (AV.tup []) [(100000, Ob.cells [AV.own 60 1 xs8])] [60] ∧ False)
       ((0 : Int) ≤ IntKind.wrap IntKind.i64 (Int.ofNat (nat_lit 1)) ∧ ∃ x1 : DV,
        some (DV.sl SM.any (2 : Nat) []) = some x1 ∧ ∃ xs6 : List DV,
        DvW x1 (DV.sl SM.any 2 xs6) ∧ ∃ xs7 : List DV,
        AFn Tryz.prog 29 [AV.ptr 100000 0, AV.d (DV.int IntKind.i64 (↑(List.length xs6) : Int))] [(100000, Ob.cells [AV.own 100001 1 xs5])] [100001] (AV.tup []) [(100000, Ob.cells [AV.own 60 1 xs7])] [60] ∧ CB (decide (0 < (↑(List.length xs6) : Int)))
         ((0 : Int) ≤ (0 : Int) ∧ ∃ x2 : DV,
          xs6[nat_lit 0]? = some x2 ∧ ∃ xs8 : List DV, ∃ xs9 : List DV,
          DvW x2 (DV.agg [DV.sl SM.any 2 xs8, DV.sl SM.any 5 xs9]) ∧ ∃ xs10 : List DV,
          AFn Tryz.prog 31 [AV.ptr 100000 0, AV.d (DV.agg [DV.sl SM.any 2 xs8, DV.sl SM.any 5 xs9])] [(100000, Ob.cells [AV.own 100001 1 xs7])] [100001] (AV.tup []) [(100000, Ob.cells [AV.own 60 1 xs10])] [60] ∧ False)
         (CB (decide ((↑(List.length xs7) : Int) > 65536))
           ((DvW (DV.sl SM.nil 0 []) r1 ∧ DvW (DV.int IntKind.i64 11) r2 ∧ True) ∧
            True ∧ true = true)
           ((DvW (DV.sl SM.any 1 xs7) r1 ∧ DvW (DV.int IntKind.i64 0) r2 ∧ True) ∧
            True ∧ true = true)))))
theorem KIBytes (l : List Int) (r1 r2 : DV) : vc Tryz.prog SP AnIBytes 0 (bodyOf Tryz.f11) (fnSt Tryz.f11 [.d (pImage l)] [] []) (retK Tryz.prog Tryz.f11 [] (.tup [.d r1, .d r2]) [] []) = FIBytes l r1 r2 := by kernel_rfl
theorem AIBytes (l : List Int) (r1 r2 : DV) (h : FIBytes l r1 r2) : AFn Tryz.prog 11 [.d (pImage l)] [] [] (.tup [.d r1, .d r2]) [] [] := fn_ok Tryz.func11 (by kernel_rfl) (Eq.mpr (KIBytes l r1 r2) h)
/-! quire/store.Sound -/
def AnPSoundZ : Ann := { loop := fun b => match b with
  | 0 => ⟨[⟨.slot 4, .int .i64⟩, ⟨.slot 25, .int .i64⟩], [1, 3, 23, 24], [1], []⟩
  | _ => ⟨[], [], [], []⟩, unroll := fun b => match b with | 0 => 1 | _ => 0, join := fun b => match b with | _ => none, quiet := fun b => match b with | _ => [], tab := fun b => match b with | 10 => #[0, 0, 2, 0, 8, 0, 32, 31, 255] | _ => #[], enum := fun b => match b with | _ => false, split := fun b => match b with | 12 => true | _ => false, meet := fun b => match b with | _ => true }
def FPSoundZ (r : DV) : Prop :=
  ∃ r1 : Bool,
  ((false = false) →
    true = r1) ∧
  ((false = true) →
    true = r1) ∧
  ∃ r2 : Bool,
  ((r1 = false) →
    false = r2) ∧
  ((r1 = true) →
    true = r2) ∧
  CB (r2)
   (DvW (DV.bool false) r ∧ True ∧ true = true)
   (∃ es : List (Int × DV), ∃ es1 : List (Int × DV),
    AFn Tryz.prog 116 [AV.d (DV.sl SM.any 1 []), AV.mp 100000] [(100000, Ob.mapI IntKind.i64 [])] [] (AV.mp 9) [(100000, Ob.mapI IntKind.i64 es), (9, Ob.mapI IntKind.i64 es1)] [] ∧ CB (((↑(List.length es1) : Int) == (↑(List.length es) : Int)) == true)
     (∃ t : Bool, ∃ es2 : List (Int × DV),
      AFn Tryz.prog 117 [AV.d (DV.agg [DV.sl SM.any 1 [], DV.sl SM.any 2 [], DV.int IntKind.i64 0]), AV.mp 100000] [(100000, Ob.mapI IntKind.i64 es)] [] (AV.d (DV.bool t)) [(100000, Ob.mapI IntKind.i64 es2)] [] ∧ DvW (DV.bool t) r ∧ True ∧ true = true)
     (DvW (DV.bool false) r ∧ True ∧ true = true))
theorem KPSoundZ (r : DV) : vc Tryz.prog SP AnPSoundZ 0 (bodyOf Tryz.f59) (fnSt Tryz.f59 [.d (.agg [.sl .any 1 [], .sl .any 2 [], .int .i64 0])] [] []) (retK Tryz.prog Tryz.f59 [] (.d r) [] []) = FPSoundZ r := by kernel_rfl
theorem APSoundZ (r : DV) (h : FPSoundZ r) : AFn Tryz.prog 59 [.d (.agg [.sl .any 1 [], .sl .any 2 [], .int .i64 0])] [] [] (.d r) [] [] := fn_ok Tryz.func59 (by kernel_rfl) (Eq.mpr (KPSoundZ r) h)
/-! quire/image.Check -/
def AnICheckZ : Ann := { loop := fun b => match b with
  | 0 => ⟨[⟨.slot 31, .int .i64⟩], [29, 30], [], []⟩
  | _ => ⟨[], [], [], []⟩, unroll := fun b => match b with | 0 => 1 | _ => 0, join := fun b => match b with | _ => none, quiet := fun b => match b with | _ => [], tab := fun b => match b with | _ => #[], enum := fun b => match b with | _ => false, split := fun b => match b with | _ => false, meet := fun b => match b with | _ => true }
def FICheckZ (r : DV) : Prop :=
  ∃ t : Bool,
  AFn Tryz.prog 59 [AV.d (DV.agg [DV.sl SM.any 1 [], DV.sl SM.any 2 [], DV.int IntKind.i64 0])] [] [] (AV.d (DV.bool t)) [] [] ∧ ∃ r1 : Bool,
  (((!t) = false) →
    false = r1) ∧
  (((!t) = true) →
    true = r1) ∧
  ∃ r2 : Bool,
  ((r1 = false) →
    false = r2) ∧
  ((r1 = true) →
    true = r2) ∧
  CB (r2)
   (DvW (DV.int IntKind.i64 1) r ∧ True ∧ true = true)
   (∃ xs : List DV,
    AFn Tryz.prog 60 [AV.d (DV.sl SM.full 1 [DV.sl SM.full 2 [DV.agg [DV.sl SM.any 2 [], DV.sl SM.any 5 []]], DV.sl SM.any 2 [], DV.sl SM.any 2 []])] [] [] (AV.own 60 2 xs) [] [60] ∧ CB (decide (0 < (↑(List.length xs) : Int)))
     ((0 : Int) ≤ (0 : Int) ∧ ∃ x : DV,
      xs[nat_lit 0]? = some x ∧ ∃ xs1 : List DV, ∃ xs2 : List DV,
      DvW x (DV.agg [DV.sl SM.any 2 xs1, DV.sl SM.any 5 xs2]) ∧ ∃ n : Int,
      AFn Tryz.prog 61 [AV.d (DV.agg [DV.sl SM.any 2 xs1, DV.sl SM.any 5 xs2])] [] [] (AV.d (DV.int IntKind.i64 n)) [] [] ∧ CB (n != 0)
       (DvW (DV.int IntKind.i64 1) r ∧ True ∧ true = true)
       (False))
     (DvW (DV.int IntKind.i64 0) r ∧ True ∧ true = true))
theorem KICheckZ (r : DV) : vc Tryz.prog SP AnICheckZ 0 (bodyOf Tryz.f20) (fnSt Tryz.f20 [.d (.agg [.sl .any 1 [], .sl .any 2 [], .int .i64 0, .sl .any 2 [], .sl .any 5 [], .sl .any 2 [], .sl .any 2 []])] [] []) (retK Tryz.prog Tryz.f20 [] (.d r) [] []) = FICheckZ r := by kernel_rfl
theorem AICheckZ (r : DV) (h : FICheckZ r) : AFn Tryz.prog 20 [.d (.agg [.sl .any 1 [], .sl .any 2 [], .int .i64 0, .sl .any 2 [], .sl .any 5 [], .sl .any 2 [], .sl .any 2 []])] [] [] (.d r) [] [] := fn_ok Tryz.func20 (by kernel_rfl) (Eq.mpr (KICheckZ r) h)
/-! quire/quirelaw07.Value -/
def AnLValue : Ann := { loop := fun b => match b with
  | _ => ⟨[], [], [], []⟩, unroll := fun b => match b with | _ => 0, join := fun b => match b with | _ => none, quiet := fun b => match b with | _ => [], tab := fun b => match b with | _ => #[], enum := fun b => match b with | _ => false, split := fun b => match b with | _ => false, meet := fun b => match b with | _ => true }
def FLValue (n : Int) (r : DV) : Prop :=
  DvW (DV.iface 72 (DV.agg [DV.int IntKind.i64 n])) r ∧ True ∧ true = true
theorem KLValue (n : Int) (r : DV) : vc Tryz.prog SP AnLValue 0 (bodyOf Tryz.f83) (fnSt Tryz.f83 [.d (vInt n)] [] []) (retK Tryz.prog Tryz.f83 [] (.d r) [] []) = FLValue n r := by kernel_rfl
theorem ALValue (n : Int) (r : DV) (h : FLValue n r) : AFn Tryz.prog 83 [.d (vInt n)] [] [] (.d r) [] [] := fn_ok Tryz.func83 (by kernel_rfl) (Eq.mpr (KLValue n r) h)
/-! quire/quirelaw07.Values -/
def AnLValues : Ann := { loop := fun b => match b with
  | 0 => ⟨[⟨.slot 3, .own 50 1⟩, ⟨.slot 4, .int .i64⟩], [0], [], []⟩
  | _ => ⟨[], [], [], []⟩, unroll := fun b => match b with | _ => 0, join := fun b => match b with | _ => none, quiet := fun b => match b with | _ => [], tab := fun b => match b with | _ => #[], enum := fun b => match b with | _ => false, split := fun b => match b with | _ => false, meet := fun b => match b with | _ => true }
def FLValues (l : List Int) (r : DV) : Prop :=
  ∃ I : List PV → Prop, ∃ v : List PV → Nat,
  (I [PV.xs [], PV.n 0] ∧ (DvW (DV.sl SM.any 4 (List.map vInt l)) (DV.sl SM.any 4 (List.map vInt l)) ∧ AV.own (50 : Nat) (1 : Nat) [] = AV.own (50 : Nat) (1 : Nat) [] ∧ DvW (DV.int IntKind.i64 0) (DV.int IntKind.i64 0) ∧ True) ∧
    True ∧ true = true) ∧
  ∀ l1 : List DV,
  ∀ i : Int,
  (I [PV.xs l1, PV.n i]) →
  CB (decide (i < (↑(List.length (List.map vInt l)) : Int)))
   (0 ≤ i ∧ ∃ x : DV,
    (List.map vInt l)[Int.toNat i]? = some x ∧ ∃ n : Int, ∃ n1 : Int, ∃ s : ByteArray, ∃ xs : List DV,
    DvW x (DV.agg [DV.int IntKind.i64 n, DV.int IntKind.i64 n1, DV.str s, DV.sl SM.any 4 xs]) ∧ ∃ x1 : DV,
    AFn Tryz.prog 83 [AV.d (DV.agg [DV.int IntKind.i64 n, DV.int IntKind.i64 n1, DV.str s, DV.sl SM.any 4 xs])] [] [] (AV.d x1) [] [] ∧ CB (isCell x1)
     ((List.length l1 + 1) * 16 ≤ 140737488355328 ∧ I [PV.xs (l1 ++ [x1]), PV.n (IntKind.wrap IntKind.i64 (i + 1))] ∧ v [PV.xs (l1 ++ [x1]), PV.n (IntKind.wrap IntKind.i64 (i + 1))] < v [PV.xs l1, PV.n i] ∧ (DvW (DV.sl SM.any 4 (List.map vInt l)) (DV.sl SM.any 4 (List.map vInt l)) ∧ AV.own (50 : Nat) (1 : Nat) (l1 ++ [x1]) = AV.own (50 : Nat) (1 : Nat) (l1 ++ [x1]) ∧ DvW (DV.int IntKind.i64 (IntKind.wrap IntKind.i64 (i + 1))) (DV.int IntKind.i64 (IntKind.wrap IntKind.i64 (i + 1))) ∧ True) ∧
      True ∧ true = true)
     (False))
   (DvW (DV.sl SM.any 1 l1) r ∧ True ∧ true = true)
theorem KLValues (l : List Int) (r : DV) : vc Tryz.prog SP AnLValues 0 (bodyOf Tryz.f82) (fnSt Tryz.f82 [.d (.sl .any 4 (l.map vInt))] [] []) (retK Tryz.prog Tryz.f82 [] (.d r) [] []) = FLValues l r := by kernel_rfl
theorem ALValues (l : List Int) (r : DV) (h : FLValues l r) : AFn Tryz.prog 82 [.d (.sl .any 4 (l.map vInt))] [] [] (.d r) [] [] := fn_ok Tryz.func82 (by kernel_rfl) (Eq.mpr (KLValues l r) h)
/-! quire/quirelaw11.Api -/
def AnLState : Ann := { loop := fun b => match b with
  | 0 => ⟨[⟨.slot 4, .int .i64⟩], [1, 2, 3], [1, 2, 3], []⟩
  | _ => ⟨[], [], [], []⟩, unroll := fun b => match b with | 0 => 1 | _ => 0, join := fun b => match b with | _ => none, quiet := fun b => match b with | _ => [], tab := fun b => match b with | 1 => #[0, 1, 3, 0, 8, 31, 0, 127] | 5 => #[0, 1, 0, 4, 0, 28, 60, 124, 0, 256, 0, 1792, 3840, 7936, 16128, 32764, 65532, 131071, 262143, 524287] | _ => #[], enum := fun b => match b with | _ => false, split := fun b => match b with | _ => false, meet := fun b => match b with | _ => true }
def FLState (l : List Int) (r : DV) : Prop :=
  ∃ xs : List DV,
  AFn Tryz.prog 82 [AV.d (DV.sl SM.any 4 (List.map vInt l))] [] [] (AV.d (DV.sl SM.any 1 xs)) [] [] ∧ DvW (DV.agg [DV.sl SM.any 1 xs, DV.sl SM.nil 0 [], DV.int IntKind.i64 1]) r ∧ True ∧ true = true
theorem KLState (l : List Int) (r : DV) : vc Tryz.prog SP AnLState 0 (bodyOf Tryz.f32) (fnSt Tryz.f32 [.d (rState l)] [] []) (retK Tryz.prog Tryz.f32 [] (.d r) [] []) = FLState l r := by kernel_rfl
theorem ALState (l : List Int) (r : DV) (h : FLState l r) : AFn Tryz.prog 32 [.d (rState l)] [] [] (.d r) [] [] := fn_ok Tryz.func32 (by kernel_rfl) (Eq.mpr (KLState l r) h)
/-! quire/quirelaw14.Api -/
def AnLDict : Ann := { loop := fun b => match b with
  | 2 => ⟨[⟨.slot 5, .int .i64⟩], [1, 2, 3], [1, 2, 3], []⟩
  | 0 => ⟨[⟨.slot 4, .int .i64⟩], [1, 2, 3], [1, 2, 3], []⟩
  | _ => ⟨[], [], [], []⟩, unroll := fun b => match b with | 0 => 1 | 2 => 1 | _ => 0, join := fun b => match b with | _ => none, quiet := fun b => match b with | _ => [], tab := fun b => match b with | 5 => #[0, 1, 0, 4, 0, 28, 60, 124, 0, 0, 512, 0, 3584, 7680, 15872, 32512, 65532, 131068, 262143, 524287, 1048575] | 9 => #[0, 1, 0, 4, 0, 28, 60, 124, 0, 256, 0, 1792, 3840, 7936, 16128, 32764, 65532, 131071, 262143, 524287] | _ => #[], enum := fun b => match b with | _ => false, split := fun b => match b with | _ => false, meet := fun b => match b with | _ => true }
def FLDict (r : DV) : Prop :=
  DvW (DV.agg [DV.sl SM.nil 0 [], DV.sl SM.nil 0 []]) r ∧ True ∧ true = true
theorem KLDict (r : DV) : vc Tryz.prog SP AnLDict 0 (bodyOf Tryz.f33) (fnSt Tryz.f33 [.d dict0] [] []) (retK Tryz.prog Tryz.f33 [] (.d r) [] []) = FLDict r := by kernel_rfl
theorem ALDict (r : DV) (h : FLDict r) : AFn Tryz.prog 33 [.d dict0] [] [] (.d r) [] [] := fn_ok Tryz.func33 (by kernel_rfl) (Eq.mpr (KLDict r) h)
/-! quire/quirelaw14.Apis -/
def AnLDicts : Ann := { loop := fun b => match b with
  | 0 => ⟨[⟨.slot 3, .dv⟩, ⟨.slot 4, .int .i64⟩], [0], [], []⟩
  | _ => ⟨[], [], [], []⟩, unroll := fun b => match b with | 0 => 1 | _ => 0, join := fun b => match b with | _ => none, quiet := fun b => match b with | _ => [], tab := fun b => match b with | _ => #[], enum := fun b => match b with | _ => false, split := fun b => match b with | _ => false, meet := fun b => match b with | _ => true }
def FLDicts (r : DV) : Prop :=
  DvW (DV.sl SM.nil 0 []) r ∧ True ∧ true = true
theorem KLDicts (r : DV) : vc Tryz.prog SP AnLDicts 0 (bodyOf Tryz.f34) (fnSt Tryz.f34 [.d (.sl .any 2 [])] [] []) (retK Tryz.prog Tryz.f34 [] (.d r) [] []) = FLDicts r := by kernel_rfl
theorem ALDicts (r : DV) (h : FLDicts r) : AFn Tryz.prog 34 [.d (.sl .any 2 [])] [] [] (.d r) [] [] := fn_ok Tryz.func34 (by kernel_rfl) (Eq.mpr (KLDicts r) h)
/-! quire/quirelaw20.Api -/
def AnLImage : Ann := { loop := fun b => match b with
  | _ => ⟨[], [], [], []⟩, unroll := fun b => match b with | _ => 0, join := fun b => match b with | _ => none, quiet := fun b => match b with | _ => [], tab := fun b => match b with | 1 => #[0, 1, 3, 0, 8, 31, 0, 64, 255, 0, 512, 2047, 4095, 8191] | _ => #[], enum := fun b => match b with | _ => false, split := fun b => match b with | _ => false, meet := fun b => match b with | _ => true }
def FLImage (l : List Int) (r : DV) : Prop :=
  ∃ xs : List DV, ∃ xs1 : List DV, ∃ n : Int,
  AFn Tryz.prog 32 [AV.d (DV.agg [DV.sl SM.any 4 (List.map vInt l), DV.sl SM.any 5 [], DV.int IntKind.i64 1])] [] [] (AV.d (DV.agg [DV.sl SM.any 1 xs, DV.sl SM.any 2 xs1, DV.int IntKind.i64 n])) [] [] ∧ ∃ xs2 : List DV, ∃ xs3 : List DV,
  AFn Tryz.prog 33 [AV.d (DV.agg [DV.sl SM.any 2 [], DV.sl SM.any 5 []])] [] [] (AV.d (DV.agg [DV.sl SM.any 2 xs2, DV.sl SM.any 5 xs3])) [] [] ∧ ∃ xs4 : List DV,
  AFn Tryz.prog 34 [AV.d (DV.sl SM.any 2 [])] [] [] (AV.d (DV.sl SM.any 2 xs4)) [] [] ∧ ∃ xs5 : List DV,
  AFn Tryz.prog 34 [AV.d (DV.sl SM.any 2 [])] [] [] (AV.d (DV.sl SM.any 2 xs5)) [] [] ∧ DvW (DV.agg [DV.sl SM.any 1 xs, DV.sl SM.any 2 xs1, DV.int IntKind.i64 n, DV.sl SM.any 2 xs2, DV.sl SM.any 5 xs3, DV.sl SM.any 2 xs4, DV.sl SM.any 2 xs5]) r ∧ True ∧ true = true
theorem KLImage (l : List Int) (r : DV) : vc Tryz.prog SP AnLImage 0 (bodyOf Tryz.f12) (fnSt Tryz.f12 [.d (rImage l)] [] []) (retK Tryz.prog Tryz.f12 [] (.d r) [] []) = FLImage l r := by kernel_rfl
theorem ALImage (l : List Int) (r : DV) (h : FLImage l r) : AFn Tryz.prog 12 [.d (rImage l)] [] [] (.d r) [] [] := fn_ok Tryz.func12 (by kernel_rfl) (Eq.mpr (KLImage l r) h)
/-! quire/quirelaw20.awake -/
def AnAwake : Ann := { loop := fun b => match b with
  | _ => ⟨[], [], [], []⟩, unroll := fun b => match b with | _ => 0, join := fun b => match b with | _ => none, quiet := fun b => match b with | _ => [], tab := fun b => match b with | _ => #[], enum := fun b => match b with | _ => false, split := fun b => match b with | _ => false, meet := fun b => match b with | _ => true }
def FAwake (r : DV) : Prop :=
  ∃ xs : List DV, ∃ n : Int,
  AFn Tryz.prog 11 [AV.d (DV.agg [DV.sl SM.nil 0 [], DV.sl SM.nil 0 [], DV.int IntKind.i64 1, DV.sl SM.nil 0 [], DV.sl SM.nil 0 [], DV.sl SM.nil 0 [], DV.sl SM.nil 0 []])] [] [] (AV.tup [AV.d (DV.sl SM.any 1 xs), AV.d (DV.int IntKind.i64 n)]) [] [] ∧ ∃ r1 : Bool,
  (((n == (0 : Int)) = true) →
    decide ((↑(List.length xs) : Int) > (0 : Int)) = r1) ∧
  (((n == (0 : Int)) = false) →
    false = r1) ∧
  ∃ r2 : Bool,
  ((r1 = true) →
    ∃ n1 : Int,
    AFn Tryz.prog 20 [AV.d (DV.agg [DV.sl SM.nil 0 [], DV.sl SM.nil 0 [], DV.int IntKind.i64 0, DV.sl SM.nil 0 [], DV.sl SM.nil 0 [], DV.sl SM.nil 0 [], DV.sl SM.nil 0 []])] [] [] (AV.d (DV.int IntKind.i64 n1)) [] [] ∧ (n1 == (1 : Int)) = r2) ∧
  ((r1 = false) →
    false = r2) ∧
  DvW (DV.bool r2) r ∧ True ∧ true = true
theorem KAwake (r : DV) : vc Tryz.prog SP AnAwake 0 (bodyOf Tryz.f10) (fnSt Tryz.f10 [] [] []) (retK Tryz.prog Tryz.f10 [] (.d r) [] []) = FAwake r := by kernel_rfl
theorem AAwake (r : DV) (h : FAwake r) : AFn Tryz.prog 10 [] [] [] (.d r) [] [] := fn_ok Tryz.func10 (by kernel_rfl) (Eq.mpr (KAwake r) h)
/-! quire/quirelaw20.ImageSmall -/
def AnLaw : Ann := { loop := fun b => match b with
  | 0 => ⟨[⟨.slot 4, .int .i64⟩, ⟨.cell 3 0, .own 50 4⟩], [0, 3], [3], []⟩
  | _ => ⟨[], [], [], []⟩, unroll := fun b => match b with | _ => 0, join := fun b => match b with | _ => none, quiet := fun b => match b with | _ => [], tab := fun b => match b with | 7 => #[0, 1, 0, 0, 12, 28, 60, 124, 255, 511, 1023] | _ => #[], enum := fun b => match b with | _ => false, split := fun b => match b with | _ => false, meet := fun b => match b with | _ => true }
def FLaw (l : List Int) (m : SM) (sz : Nat) (r : DV) : Prop :=
  ∃ t : Bool,
  AFn Tryz.prog 10 [] [] [] (AV.d (DV.bool t)) [] [] ∧ CB (!t)
   (DvW (DV.bool false) r ∧ True ∧ true = true)
   (∃ I : List PV → Prop, ∃ v : List PV → Nat,
    (I [PV.n 0, PV.xs []] ∧ (DvW (DV.sl SM.any 1 (List.map (fun n => DV.int IntKind.i64 n) l)) (DV.sl SM.any 1 (List.map (fun n => DV.int IntKind.i64 n) l)) ∧ AV.ptr (nat_lit 3) (0 : Nat) = AV.ptr (nat_lit 3) (0 : Nat) ∧ DvW (DV.int IntKind.i64 0) (DV.int IntKind.i64 0) ∧ True) ∧
      ((AV.own (50 : Nat) (4 : Nat) [] = AV.own (50 : Nat) (4 : Nat) [] ∧ DvW (DV.sl SM.nil 0 []) (DV.sl SM.nil 0 []) ∧ DvW (DV.int IntKind.i64 1) (DV.int IntKind.i64 1) ∧ True) ∧
        True) ∧
      true = true) ∧
    ∀ i : Int,
    ∀ l1 : List DV,
    (I [PV.n i, PV.xs l1]) →
    ∃ r1 : Bool,
    ((decide (i < (↑(List.length (List.map (fun n => DV.int IntKind.i64 n) l)) : Int)) = true) →
      decide (i < (256 : Int)) = r1) ∧
    ((decide (i < (↑(List.length (List.map (fun n => DV.int IntKind.i64 n) l)) : Int)) = false) →
      false = r1) ∧
    CB (r1)
     (0 ≤ i ∧ ∃ x : DV,
      (List.map (fun n => DV.int IntKind.i64 n) l)[Int.toNat i]? = some x ∧ ∃ n : Int,
      DvW x (DV.int IntKind.i64 n) ∧ (List.length l1 + 1) * 56 ≤ 140737488355328 ∧ I [PV.n (IntKind.wrap IntKind.i64 (i + 1)), PV.xs (l1 ++ [DV.agg [DV.int IntKind.i64 1, DV.int IntKind.i64 n, DV.str { data := #[] }, DV.sl SM.nil 0 []]])] ∧ v [PV.n (IntKind.wrap IntKind.i64 (i + 1)), PV.xs (l1 ++ [DV.agg [DV.int IntKind.i64 1, DV.int IntKind.i64 n, DV.str { data := #[] }, DV.sl SM.nil 0 []]])] < v [PV.n i, PV.xs l1] ∧ (DvW (DV.sl SM.any 1 (List.map (fun n => DV.int IntKind.i64 n) l)) (DV.sl SM.any 1 (List.map (fun n => DV.int IntKind.i64 n) l)) ∧ AV.ptr (nat_lit 3) (0 : Nat) = AV.ptr (nat_lit 3) (0 : Nat) ∧ DvW (DV.int IntKind.i64 (IntKind.wrap IntKind.i64 (i + 1))) (DV.int IntKind.i64 (IntKind.wrap IntKind.i64 (i + 1))) ∧ True) ∧
      ((AV.own (50 : Nat) (4 : Nat) (l1 ++ [DV.agg [DV.int IntKind.i64 (1 : Int), DV.int IntKind.i64 n, DV.str { data := #[] }, DV.sl SM.nil (0 : Nat) []]]) = AV.own (50 : Nat) (4 : Nat) (l1 ++ [DV.agg [DV.int IntKind.i64 (1 : Int), DV.int IntKind.i64 n, DV.str { data := #[] }, DV.sl SM.nil (0 : Nat) []]]) ∧ DvW (DV.sl SM.nil 0 []) (DV.sl SM.nil 0 []) ∧ DvW (DV.int IntKind.i64 1) (DV.int IntKind.i64 1) ∧ True) ∧
        True) ∧
      true = true)
     (∃ xs : List DV, ∃ xs1 : List DV, ∃ n : Int, ∃ xs2 : List DV, ∃ xs3 : List DV, ∃ xs4 : List DV, ∃ xs5 : List DV,
      AFn Tryz.prog 12 [AV.d (DV.agg [DV.sl SM.any 4 l1, DV.sl SM.nil 0 [], DV.int IntKind.i64 1, DV.sl SM.nil 0 [], DV.sl SM.nil 0 [], DV.sl SM.nil 0 [], DV.sl SM.nil 0 []])] [] [] (AV.d (DV.agg [DV.sl SM.any 1 xs, DV.sl SM.any 2 xs1, DV.int IntKind.i64 n, DV.sl SM.any 2 xs2, DV.sl SM.any 5 xs3, DV.sl SM.any 2 xs4, DV.sl SM.any 2 xs5])) [] [] ∧ ∃ xs6 : List DV, ∃ n1 : Int,
      AFn Tryz.prog 11 [AV.d (DV.agg [DV.sl SM.any 1 xs, DV.sl SM.any 2 xs1, DV.int IntKind.i64 n, DV.sl SM.any 2 xs2, DV.sl SM.any 5 xs3, DV.sl SM.any 2 xs4, DV.sl SM.any 2 xs5])] [] [] (AV.tup [AV.d (DV.sl SM.any 1 xs6), AV.d (DV.int IntKind.i64 n1)]) [] [] ∧ ∃ t1 : Bool,
      AFn Tryz.prog 13 [AV.d (DV.agg [DV.sl SM.any 4 l1, DV.sl SM.nil 0 [], DV.int IntKind.i64 1])] [] [] (AV.d (DV.bool t1)) [] [] ∧ CB (!t1)
       (DvW (DV.bool (n1 == 1)) r ∧ True ∧ true = true)
       (∃ r2 : Bool,
        (((n1 == (0 : Int)) = true) →
          decide ((↑(List.length xs6) : Int) ≤ IntKind.wrap IntKind.i64 ((200 : Int) + IntKind.wrap IntKind.i64 ((12 : Int) * (↑(List.length l1) : Int)))) = r2) ∧
        (((n1 == (0 : Int)) = false) →
          false = r2) ∧
        DvW (DV.bool r2) r ∧ True ∧ true = true)))
theorem KLaw (l : List Int) (m : SM) (sz : Nat) (r : DV) : vc Tryz.prog SP AnLaw 0 (bodyOf Tryz.f3) (fnSt Tryz.f3 [.d (.sl .any 1 (l.map fun n => .int .i64 n))] [] []) (retK Tryz.prog Tryz.f3 [] (.d r) [] []) = FLaw l m sz r := by kernel_rfl
theorem ALaw (l : List Int) (m : SM) (sz : Nat) (r : DV) (h : FLaw l m sz r) : AFn Tryz.prog 3 [.d (.sl .any 1 (l.map fun n => .int .i64 n))] [] [] (.d r) [] [] := fn_ok Tryz.func3 (by kernel_rfl) (Eq.mpr (KLaw l m sz r) h)
end Go.Qv
