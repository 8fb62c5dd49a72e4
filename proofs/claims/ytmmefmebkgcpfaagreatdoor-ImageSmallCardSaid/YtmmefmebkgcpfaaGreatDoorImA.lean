/- A part of a proof about the program; its own words tell what it shows. -/
import Derived.Test.YtmmefmebkgcpfaaGreatDoorChecked
import Derived.KernelRfl
import Derived.Test.YtmmefmebkgcpfaaGreatDoorQvR2
open Go Go.Proofs Go.Qv
namespace Go.Qv
def bodyOf (fn : Func) : Code := fn.body.getD .skip
def es : ByteArray := ⟨#[]⟩
def vInt (n : Int) : DV := .agg [.int .i64 1, .int .i64 n, .str es, .sl .any 4 []]
def aInt (n : Int) : DV := .iface 72 (.agg [.int .i64 n])
def dict0 : DV := .agg [.sl .any 2 [], .sl .any 5 []]
def rState (l : List Int) : DV := .agg [.sl .any 4 (l.map vInt), .sl .any 5 [], .int .i64 1]
def pState (l : List Int) : DV := .agg [.sl .any 1 (l.map aInt), .sl .any 2 [], .int .i64 1]
def rImage (l : List Int) : DV := .agg [.sl .any 4 (l.map vInt), .sl .any 5 [], .int .i64 1, .sl .any 2 [], .sl .any 5 [], .sl .any 2 [], .sl .any 2 []]
def pImage (l : List Int) : DV := .agg [.sl .any 1 (l.map aInt), .sl .any 2 [], .int .i64 1, .sl .any 2 [], .sl .any 5 [], .sl .any 2 [], .sl .any 2 []]
def SP : Nat → List Sp
  | 78 => [{ args := [.own 100000 1, .d], objs := [], res := .own 60 1, objs' := [], rooms' := [60], new := [60] }, { args := [.d, .d], objs := [], res := .own 60 1, objs' := [], rooms' := [60], new := [60] }]
  | 29 => [{ args := [.ptr 100000, .d], objs := [(100000, .cells [.own 100001 1])], res := .tup [], objs' := [(100000, .cells [.own 60 1])], rooms' := [60], new := [60] }, { args := [.ptr 100000, .d], objs := [(100000, .cells [.d])], res := .tup [], objs' := [(100000, .cells [.own 60 1])], rooms' := [60], new := [60] }]
  | 30 => [{ args := [.ptr 100000, .d], objs := [(100000, .cells [.own 100001 1])], res := .tup [], objs' := [(100000, .cells [.own 60 1])], rooms' := [60], new := [60] }]
  | 31 => [{ args := [.ptr 100000, .d], objs := [(100000, .cells [.own 100001 1])], res := .tup [], objs' := [(100000, .cells [.own 60 1])], rooms' := [60], new := [60] }]
  | 36 => [{ args := [.ptr 100000], objs := [(100000, .cells [.d, .d, .d])], res := .tup [.t (.tsl 1), .t .tb], objs' := [], rooms' := [], new := [] }]
  | 159 => [{ args := [.d, .ptr 100000, .d], objs := [(100000, .cells [.d])], res := .tup [.t (.ti .i64), .t .tb], objs' := [(100000, .cells [.t (.ti .i64)])], rooms' := [], new := [] }]
  | 161 => [{ args := [.d, .any], objs := [], res := .t .tb, objs' := [], rooms' := [], new := [] }]
  | 116 => [{ args := [.d, .mp 100000], objs := [(100000, .mapI .i64)], res := .mp 9, objs' := [(100000, .mapI .i64), (9, .mapI .i64)], rooms' := [], new := [9] }]
  | 117 => [{ args := [.d, .mp 100000], objs := [(100000, .mapI .i64)], res := .t .tb, objs' := [(100000, .mapI .i64)], rooms' := [], new := [] }]
  | 163 => [{ args := [.d], objs := [], res := .mp 6, objs' := [(6, .mapS)], rooms' := [], new := [6] }]
  | 120 => [{ args := [.d], objs := [], res := .ptr 11, objs' := [(11, .cells [.d, .d, .mp 10128, .mp 9, .own 61 3]), (10128, .mapS), (9, .mapS)], rooms' := [61], new := [11, 10128, 9, 61] }]
  | 118 => [{ args := [.d, .d], objs := [], res := .own 22 2, objs' := [], rooms' := [22], new := [22] }]
  | 60 => [{ args := [.d], objs := [], res := .own 60 2, objs' := [], rooms' := [60], new := [60] }]
  | _ => []
end Go.Qv
