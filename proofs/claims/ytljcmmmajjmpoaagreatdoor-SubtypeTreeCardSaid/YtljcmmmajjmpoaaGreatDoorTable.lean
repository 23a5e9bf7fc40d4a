/- instr.table, known, Of: what is known of an operation. -/
import Derived.Test.YtljcmmmajjmpoaaGreatDoorDescc
namespace Go.Proofs.YtljcmmmajjmpoaaGreatDoor
namespace Sp
structure Sh where
  a : Bool
  b : Bool
  cls : Bool
  name : Bool
  desc : Bool
structure OpRow where
  word : L
  sh : Sh
  pops : Nat
  pushes : Nat
def noRow : OpRow := ⟨[], ⟨false, false, false, false, false⟩, 0, 0⟩
def opRow : Nat → OpRow
  | 1 => ⟨[110, 111, 112], ⟨false, false, false, false, false⟩, 0, 0⟩
  | 2 => ⟨[105, 99, 111, 110, 115, 116], ⟨true, false, false, false, false⟩, 0, 1⟩
  | 3 => ⟨[99, 99, 111, 110, 115, 116], ⟨true, true, false, false, false⟩, 0, 1⟩
  | 4 => ⟨[110, 117, 108, 108], ⟨false, false, false, false, false⟩, 0, 1⟩
  | 5 => ⟨[108, 111, 97, 100], ⟨true, false, false, false, false⟩, 0, 1⟩
  | 6 => ⟨[115, 116, 111, 114, 101], ⟨true, false, false, false, false⟩, 1, 0⟩
  | 7 => ⟨[112, 111, 112], ⟨false, false, false, false, false⟩, 1, 0⟩
  | 8 => ⟨[100, 117, 112], ⟨false, false, false, false, false⟩, 1, 2⟩
  | 9 => ⟨[115, 119, 97, 112], ⟨false, false, false, false, false⟩, 2, 2⟩
  | 10 => ⟨[105, 97, 100, 100], ⟨false, false, false, false, false⟩, 2, 1⟩
  | 11 => ⟨[105, 115, 117, 98], ⟨false, false, false, false, false⟩, 2, 1⟩
  | 12 => ⟨[105, 109, 117, 108], ⟨false, false, false, false, false⟩, 2, 1⟩
  | 13 => ⟨[105, 100, 105, 118], ⟨false, false, false, false, false⟩, 2, 1⟩
  | 14 => ⟨[99, 97, 100, 100], ⟨false, false, false, false, false⟩, 2, 1⟩
  | 15 => ⟨[99, 109, 117, 108], ⟨false, false, false, false, false⟩, 2, 1⟩
  | 16 => ⟨[99, 114, 101], ⟨false, false, false, false, false⟩, 1, 1⟩
  | 17 => ⟨[103, 111, 116, 111], ⟨true, false, false, false, false⟩, 0, 0⟩
  | 18 => ⟨[105, 102, 122, 101, 114, 111], ⟨true, false, false, false, false⟩, 1, 0⟩
  | 19 => ⟨[105, 102, 110, 117, 108, 108], ⟨true, false, false, false, false⟩, 1, 0⟩
  | 20 => ⟨[105, 102, 115, 97, 109, 101], ⟨true, false, false, false, false⟩, 2, 0⟩
  | 21 => ⟨[110, 101, 119], ⟨false, false, true, false, false⟩, 0, 1⟩
  | 22 => ⟨[103, 101, 116, 102, 105, 101, 108, 100], ⟨false, false, true, true, true⟩, 1, 1⟩
  | 23 => ⟨[112, 117, 116, 102, 105, 101, 108, 100], ⟨false, false, true, true, true⟩, 2, 0⟩
  | 24 => ⟨[103, 101, 116, 115, 116, 97, 116, 105, 99], ⟨false, false, true, true, true⟩, 0, 1⟩
  | 25 => ⟨[112, 117, 116, 115, 116, 97, 116, 105, 99], ⟨false, false, true, true, true⟩, 1, 0⟩
  | 26 => ⟨[110, 101, 119, 97, 114, 114, 97, 121], ⟨false, false, false, false, true⟩, 1, 1⟩
  | 27 => ⟨[97, 108, 111, 97, 100], ⟨false, false, false, false, false⟩, 2, 1⟩
  | 28 => ⟨[97, 115, 116, 111, 114, 101], ⟨false, false, false, false, false⟩, 3, 0⟩
  | 29 => ⟨[97, 108, 101, 110], ⟨false, false, false, false, false⟩, 1, 1⟩
  | 30 => ⟨[99, 97, 115, 116], ⟨false, false, false, false, true⟩, 1, 1⟩
  | 31 => ⟨[105, 115, 105, 110, 115, 116], ⟨false, false, false, false, true⟩, 1, 1⟩
  | 32 => ⟨[99, 97, 108, 108, 115, 116, 97, 116, 105, 99], ⟨false, false, true, true, true⟩, 0, 0⟩
  | 33 => ⟨[99, 97, 108, 108, 115, 112, 101, 99, 105, 97, 108], ⟨false, false, true, true, true⟩, 1, 0⟩
  | 34 => ⟨[99, 97, 108, 108, 118, 105, 114, 116, 117, 97, 108], ⟨false, false, true, true, true⟩, 1, 0⟩
  | 35 => ⟨[99, 97, 108, 108, 105, 110, 116, 101, 114, 102, 97, 99, 101], ⟨false, false, true, true, true⟩, 1, 0⟩
  | 36 => ⟨[114, 101, 116, 117, 114, 110], ⟨false, false, false, false, false⟩, 0, 0⟩
  | 37 => ⟨[114, 101, 116, 118, 97, 108], ⟨false, false, false, false, false⟩, 1, 0⟩
  | 38 => ⟨[116, 104, 114, 111, 119], ⟨false, false, false, false, false⟩, 1, 0⟩
  | _ => noRow
/-- Is it an operation? -/
def isOp (op : Int) : Bool := decide (1 ≤ op) && decide (op ≤ 38)
def shapeD (op : Int) : Sh := if isOp op then (opRow op.toNat).sh else noRow.sh
end Sp
open Go.RowKit Sp

def Sp.Sh.cs (s : Sh) : List Value := [.bool s.a, .bool s.b, .bool s.cls, .bool s.name, .bool s.desc]
def Sp.OpRow.cs (r : OpRow) : List Value := [.string (mkS r.word), .bool r.sh.a, .bool r.sh.b, .bool r.sh.cls, .bool r.sh.name, .bool r.sh.desc, .int .i64 (r.pops : Nat), .int .i64 (r.pushes : Nat)]
def tableC : List Value := [.string (mkS []), .bool false, .bool false, .bool false, .bool false, .bool false, .int .i64 0, .int .i64 0, .string ⟨#[110, 111, 112]⟩, .bool false, .bool false, .bool false, .bool false, .bool false, .int .i64 0, .int .i64 0, .string ⟨#[105, 99, 111, 110, 115, 116]⟩, .bool true, .bool false, .bool false, .bool false, .bool false, .int .i64 0, .int .i64 1, .string ⟨#[99, 99, 111, 110, 115, 116]⟩, .bool true, .bool true, .bool false, .bool false, .bool false, .int .i64 0, .int .i64 1, .string ⟨#[110, 117, 108, 108]⟩, .bool false, .bool false, .bool false, .bool false, .bool false, .int .i64 0, .int .i64 1, .string ⟨#[108, 111, 97, 100]⟩, .bool true, .bool false, .bool false, .bool false, .bool false, .int .i64 0, .int .i64 1, .string ⟨#[115, 116, 111, 114, 101]⟩, .bool true, .bool false, .bool false, .bool false, .bool false, .int .i64 1, .int .i64 0, .string ⟨#[112, 111, 112]⟩, .bool false, .bool false, .bool false, .bool false, .bool false, .int .i64 1, .int .i64 0, .string ⟨#[100, 117, 112]⟩, .bool false, .bool false, .bool false, .bool false, .bool false, .int .i64 1, .int .i64 2, .string ⟨#[115, 119, 97, 112]⟩, .bool false, .bool false, .bool false, .bool false, .bool false, .int .i64 2, .int .i64 2, .string ⟨#[105, 97, 100, 100]⟩, .bool false, .bool false, .bool false, .bool false, .bool false, .int .i64 2, .int .i64 1, .string ⟨#[105, 115, 117, 98]⟩, .bool false, .bool false, .bool false, .bool false, .bool false, .int .i64 2, .int .i64 1, .string ⟨#[105, 109, 117, 108]⟩, .bool false, .bool false, .bool false, .bool false, .bool false, .int .i64 2, .int .i64 1, .string ⟨#[105, 100, 105, 118]⟩, .bool false, .bool false, .bool false, .bool false, .bool false, .int .i64 2, .int .i64 1, .string ⟨#[99, 97, 100, 100]⟩, .bool false, .bool false, .bool false, .bool false, .bool false, .int .i64 2, .int .i64 1, .string ⟨#[99, 109, 117, 108]⟩, .bool false, .bool false, .bool false, .bool false, .bool false, .int .i64 2, .int .i64 1, .string ⟨#[99, 114, 101]⟩, .bool false, .bool false, .bool false, .bool false, .bool false, .int .i64 1, .int .i64 1, .string ⟨#[103, 111, 116, 111]⟩, .bool true, .bool false, .bool false, .bool false, .bool false, .int .i64 0, .int .i64 0, .string ⟨#[105, 102, 122, 101, 114, 111]⟩, .bool true, .bool false, .bool false, .bool false, .bool false, .int .i64 1, .int .i64 0, .string ⟨#[105, 102, 110, 117, 108, 108]⟩, .bool true, .bool false, .bool false, .bool false, .bool false, .int .i64 1, .int .i64 0, .string ⟨#[105, 102, 115, 97, 109, 101]⟩, .bool true, .bool false, .bool false, .bool false, .bool false, .int .i64 2, .int .i64 0, .string ⟨#[110, 101, 119]⟩, .bool false, .bool false, .bool true, .bool false, .bool false, .int .i64 0, .int .i64 1, .string ⟨#[103, 101, 116, 102, 105, 101, 108, 100]⟩, .bool false, .bool false, .bool true, .bool true, .bool true, .int .i64 1, .int .i64 1, .string ⟨#[112, 117, 116, 102, 105, 101, 108, 100]⟩, .bool false, .bool false, .bool true, .bool true, .bool true, .int .i64 2, .int .i64 0, .string ⟨#[103, 101, 116, 115, 116, 97, 116, 105, 99]⟩, .bool false, .bool false, .bool true, .bool true, .bool true, .int .i64 0, .int .i64 1, .string ⟨#[112, 117, 116, 115, 116, 97, 116, 105, 99]⟩, .bool false, .bool false, .bool true, .bool true, .bool true, .int .i64 1, .int .i64 0, .string ⟨#[110, 101, 119, 97, 114, 114, 97, 121]⟩, .bool false, .bool false, .bool false, .bool false, .bool true, .int .i64 1, .int .i64 1, .string ⟨#[97, 108, 111, 97, 100]⟩, .bool false, .bool false, .bool false, .bool false, .bool false, .int .i64 2, .int .i64 1, .string ⟨#[97, 115, 116, 111, 114, 101]⟩, .bool false, .bool false, .bool false, .bool false, .bool false, .int .i64 3, .int .i64 0, .string ⟨#[97, 108, 101, 110]⟩, .bool false, .bool false, .bool false, .bool false, .bool false, .int .i64 1, .int .i64 1, .string ⟨#[99, 97, 115, 116]⟩, .bool false, .bool false, .bool false, .bool false, .bool true, .int .i64 1, .int .i64 1, .string ⟨#[105, 115, 105, 110, 115, 116]⟩, .bool false, .bool false, .bool false, .bool false, .bool true, .int .i64 1, .int .i64 1, .string ⟨#[99, 97, 108, 108, 115, 116, 97, 116, 105, 99]⟩, .bool false, .bool false, .bool true, .bool true, .bool true, .int .i64 0, .int .i64 0, .string ⟨#[99, 97, 108, 108, 115, 112, 101, 99, 105, 97, 108]⟩, .bool false, .bool false, .bool true, .bool true, .bool true, .int .i64 1, .int .i64 0, .string ⟨#[99, 97, 108, 108, 118, 105, 114, 116, 117, 97, 108]⟩, .bool false, .bool false, .bool true, .bool true, .bool true, .int .i64 1, .int .i64 0, .string ⟨#[99, 97, 108, 108, 105, 110, 116, 101, 114, 102, 97, 99, 101]⟩, .bool false, .bool false, .bool true, .bool true, .bool true, .int .i64 1, .int .i64 0, .string ⟨#[114, 101, 116, 117, 114, 110]⟩, .bool false, .bool false, .bool false, .bool false, .bool false, .int .i64 0, .int .i64 0, .string ⟨#[114, 101, 116, 118, 97, 108]⟩, .bool false, .bool false, .bool false, .bool false, .bool false, .int .i64 1, .int .i64 0, .string ⟨#[116, 104, 114, 111, 119]⟩, .bool false, .bool false, .bool false, .bool false, .bool false, .int .i64 1, .int .i64 0]
theorem tableC_len : tableC.length = 312 := by kernel_rfl
theorem tableC_all : tableC.all (fun v => v.oneCell') = true := by kernel_rfl
theorem tableC_one : ∀ v ∈ tableC, v.oneCell' = true := List.all_eq_true.1 tableC_all
theorem bld207_0 (w : World) : (Instr.build 172 #[]).run Tryz.prog w = .ok (.agg [.bool false, .bool false, .bool false, .bool false, .bool false].toArray) w := by kernel_rfl
theorem bld207_a (w : World) : (Instr.build 172 #[(0, .bool true)]).run Tryz.prog w = .ok (.agg [.bool true, .bool false, .bool false, .bool false, .bool false].toArray) w := by kernel_rfl
theorem bld207_d (w : World) : (Instr.build 172 #[(4, .bool true)]).run Tryz.prog w = .ok (.agg [.bool false, .bool false, .bool false, .bool false, .bool true].toArray) w := by kernel_rfl
theorem bld207_m (w : World) : (Instr.build 172 #[(2, .bool true), (3, .bool true), (4, .bool true)]).run Tryz.prog w = .ok (.agg [.bool false, .bool false, .bool true, .bool true, .bool true].toArray) w := by kernel_rfl
theorem bld207_ab (w : World) : (Instr.build 172 #[(0, .bool true), (1, .bool true)]).run Tryz.prog w = .ok (.agg [.bool true, .bool true, .bool false, .bool false, .bool false].toArray) w := by kernel_rfl
theorem bld207_c (w : World) : (Instr.build 172 #[(2, .bool true)]).run Tryz.prog w = .ok (.agg [.bool false, .bool false, .bool true, .bool false, .bool false].toArray) w := by kernel_rfl
theorem bld225 (s : ByteArray) (a b c d e : Value) (p q : Int) (w : World) : (Instr.build 195 #[(0, .string s), (1, .agg [a, b, c, d, e].toArray), (2, .int .i64 p), (3, .int .i64 q)]).run Tryz.prog w = .ok (.agg [.string s, a, b, c, d, e, .int .i64 p, .int .i64 q].toArray) w := by kernel_rfl
theorem bld225_0 (w : World) : (Instr.build 195 #[]).run Tryz.prog w = .ok (.agg [.string ⟨#[]⟩, .bool false, .bool false, .bool false, .bool false, .bool false, .int .i64 0, .int .i64 0].toArray) w := by kernel_rfl
theorem bld238 (w : World) : (Instr.build 204 #[(1, .agg [.string ⟨#[110, 111, 112]⟩, .bool false, .bool false, .bool false, .bool false, .bool false, .int .i64 0, .int .i64 0].toArray), (2, .agg [.string ⟨#[105, 99, 111, 110, 115, 116]⟩, .bool true, .bool false, .bool false, .bool false, .bool false, .int .i64 0, .int .i64 1].toArray), (3, .agg [.string ⟨#[99, 99, 111, 110, 115, 116]⟩, .bool true, .bool true, .bool false, .bool false, .bool false, .int .i64 0, .int .i64 1].toArray), (4, .agg [.string ⟨#[110, 117, 108, 108]⟩, .bool false, .bool false, .bool false, .bool false, .bool false, .int .i64 0, .int .i64 1].toArray), (5, .agg [.string ⟨#[108, 111, 97, 100]⟩, .bool true, .bool false, .bool false, .bool false, .bool false, .int .i64 0, .int .i64 1].toArray), (6, .agg [.string ⟨#[115, 116, 111, 114, 101]⟩, .bool true, .bool false, .bool false, .bool false, .bool false, .int .i64 1, .int .i64 0].toArray), (7, .agg [.string ⟨#[112, 111, 112]⟩, .bool false, .bool false, .bool false, .bool false, .bool false, .int .i64 1, .int .i64 0].toArray), (8, .agg [.string ⟨#[100, 117, 112]⟩, .bool false, .bool false, .bool false, .bool false, .bool false, .int .i64 1, .int .i64 2].toArray), (9, .agg [.string ⟨#[115, 119, 97, 112]⟩, .bool false, .bool false, .bool false, .bool false, .bool false, .int .i64 2, .int .i64 2].toArray), (10, .agg [.string ⟨#[105, 97, 100, 100]⟩, .bool false, .bool false, .bool false, .bool false, .bool false, .int .i64 2, .int .i64 1].toArray), (11, .agg [.string ⟨#[105, 115, 117, 98]⟩, .bool false, .bool false, .bool false, .bool false, .bool false, .int .i64 2, .int .i64 1].toArray), (12, .agg [.string ⟨#[105, 109, 117, 108]⟩, .bool false, .bool false, .bool false, .bool false, .bool false, .int .i64 2, .int .i64 1].toArray), (13, .agg [.string ⟨#[105, 100, 105, 118]⟩, .bool false, .bool false, .bool false, .bool false, .bool false, .int .i64 2, .int .i64 1].toArray), (14, .agg [.string ⟨#[99, 97, 100, 100]⟩, .bool false, .bool false, .bool false, .bool false, .bool false, .int .i64 2, .int .i64 1].toArray), (15, .agg [.string ⟨#[99, 109, 117, 108]⟩, .bool false, .bool false, .bool false, .bool false, .bool false, .int .i64 2, .int .i64 1].toArray), (16, .agg [.string ⟨#[99, 114, 101]⟩, .bool false, .bool false, .bool false, .bool false, .bool false, .int .i64 1, .int .i64 1].toArray), (17, .agg [.string ⟨#[103, 111, 116, 111]⟩, .bool true, .bool false, .bool false, .bool false, .bool false, .int .i64 0, .int .i64 0].toArray), (18, .agg [.string ⟨#[105, 102, 122, 101, 114, 111]⟩, .bool true, .bool false, .bool false, .bool false, .bool false, .int .i64 1, .int .i64 0].toArray), (19, .agg [.string ⟨#[105, 102, 110, 117, 108, 108]⟩, .bool true, .bool false, .bool false, .bool false, .bool false, .int .i64 1, .int .i64 0].toArray), (20, .agg [.string ⟨#[105, 102, 115, 97, 109, 101]⟩, .bool true, .bool false, .bool false, .bool false, .bool false, .int .i64 2, .int .i64 0].toArray), (21, .agg [.string ⟨#[110, 101, 119]⟩, .bool false, .bool false, .bool true, .bool false, .bool false, .int .i64 0, .int .i64 1].toArray), (22, .agg [.string ⟨#[103, 101, 116, 102, 105, 101, 108, 100]⟩, .bool false, .bool false, .bool true, .bool true, .bool true, .int .i64 1, .int .i64 1].toArray), (23, .agg [.string ⟨#[112, 117, 116, 102, 105, 101, 108, 100]⟩, .bool false, .bool false, .bool true, .bool true, .bool true, .int .i64 2, .int .i64 0].toArray), (24, .agg [.string ⟨#[103, 101, 116, 115, 116, 97, 116, 105, 99]⟩, .bool false, .bool false, .bool true, .bool true, .bool true, .int .i64 0, .int .i64 1].toArray), (25, .agg [.string ⟨#[112, 117, 116, 115, 116, 97, 116, 105, 99]⟩, .bool false, .bool false, .bool true, .bool true, .bool true, .int .i64 1, .int .i64 0].toArray), (26, .agg [.string ⟨#[110, 101, 119, 97, 114, 114, 97, 121]⟩, .bool false, .bool false, .bool false, .bool false, .bool true, .int .i64 1, .int .i64 1].toArray), (27, .agg [.string ⟨#[97, 108, 111, 97, 100]⟩, .bool false, .bool false, .bool false, .bool false, .bool false, .int .i64 2, .int .i64 1].toArray), (28, .agg [.string ⟨#[97, 115, 116, 111, 114, 101]⟩, .bool false, .bool false, .bool false, .bool false, .bool false, .int .i64 3, .int .i64 0].toArray), (29, .agg [.string ⟨#[97, 108, 101, 110]⟩, .bool false, .bool false, .bool false, .bool false, .bool false, .int .i64 1, .int .i64 1].toArray), (30, .agg [.string ⟨#[99, 97, 115, 116]⟩, .bool false, .bool false, .bool false, .bool false, .bool true, .int .i64 1, .int .i64 1].toArray), (31, .agg [.string ⟨#[105, 115, 105, 110, 115, 116]⟩, .bool false, .bool false, .bool false, .bool false, .bool true, .int .i64 1, .int .i64 1].toArray), (32, .agg [.string ⟨#[99, 97, 108, 108, 115, 116, 97, 116, 105, 99]⟩, .bool false, .bool false, .bool true, .bool true, .bool true, .int .i64 0, .int .i64 0].toArray), (33, .agg [.string ⟨#[99, 97, 108, 108, 115, 112, 101, 99, 105, 97, 108]⟩, .bool false, .bool false, .bool true, .bool true, .bool true, .int .i64 1, .int .i64 0].toArray), (34, .agg [.string ⟨#[99, 97, 108, 108, 118, 105, 114, 116, 117, 97, 108]⟩, .bool false, .bool false, .bool true, .bool true, .bool true, .int .i64 1, .int .i64 0].toArray), (35, .agg [.string ⟨#[99, 97, 108, 108, 105, 110, 116, 101, 114, 102, 97, 99, 101]⟩, .bool false, .bool false, .bool true, .bool true, .bool true, .int .i64 1, .int .i64 0].toArray), (36, .agg [.string ⟨#[114, 101, 116, 117, 114, 110]⟩, .bool false, .bool false, .bool false, .bool false, .bool false, .int .i64 0, .int .i64 0].toArray), (37, .agg [.string ⟨#[114, 101, 116, 118, 97, 108]⟩, .bool false, .bool false, .bool false, .bool false, .bool false, .int .i64 1, .int .i64 0].toArray), (38, .agg [.string ⟨#[116, 104, 114, 111, 119]⟩, .bool false, .bool false, .bool false, .bool false, .bool false, .int .i64 1, .int .i64 0].toArray)]).run Tryz.prog w = .ok (.agg tableC.toArray) w := by kernel_rfl
theorem enters_table : Enters Tryz.prog 198 := enters_of Tryz.func198 (by kernel_rfl) rfl
theorem zc238 : (Tryz.zeroCells204).toList.length = 312 := by kernel_rfl
set_option maxRecDepth 100000 in
theorem table_any (w : World) : Calls Tryz.prog 198 #[] w fun e w' => e = .returned (.agg tableC.toArray) ∧ Ext w w' := by
  refine calls_W (args := []) Tryz.func198 rfl rfl rfl ?_
  refine Wg rfl (W_region ?_)
  refine WL_alloc inf (cs := (Tryz.zeroCells204).toList) rfl rfl rfl rfl rfl ?_
  rintro g0 w1 rfl hB0 hE1
  repeat (first | refine WL1 rfl ?_ | refine WLe rfl rfl ?_ | refine W_region ?_)
  refine WL_bld rfl rfl rfl rfl bld207_0 ?_
  refine WL_bld rfl rfl rfl rfl bld207_a ?_
  refine WL_bld rfl rfl rfl rfl bld207_d ?_
  refine WL_alloc inf (cs := [.bool false, .bool false, .bool false, .bool false, .bool false]) rfl rfl rfl rfl rfl ?_
  rintro g1 w2 hg1 hB1 hE2
  refine WL_alloc inf (cs := [.bool false, .bool false, .bool false, .bool false, .bool false]) rfl rfl rfl rfl rfl ?_
  rintro g2 w3 hg2 hB2 hE3
  refine WL_alloc inf (cs := [.bool false, .bool false, .bool false, .bool false, .bool false]) rfl rfl rfl rfl rfl ?_
  rintro g3 w4 hg3 hB3 hE4
  have hs2 := hE2.size
  have hs3 := hE3.size
  have hs4 := hE4.size
  have l0 := hB0.lt
  have l1 := hB1.lt
  have l2 := hB2.lt
  have l3 := hB3.lt
  replace hB0 := ((hB0.ext hE2).ext hE3).ext hE4
  replace hB1 := (hB1.ext hE3).ext hE4
  replace hB2 := hB2.ext hE4
  refine WL_sta inf rfl rfl rfl rfl (by simp [Value.oneCell']) rfl hB1 rfl ?_
  rintro w5 hB1' u5
  replace hB0 := u5.blk hB0 (by omega)
  replace hB2 := u5.blk hB2 (by omega)
  replace hB3 := u5.blk hB3 (by omega)
  clear hB1
  refine WL_sta inf rfl rfl rfl rfl (by simp [Value.oneCell']) rfl hB2 rfl ?_
  rintro w6 hB2' u6
  replace hB0 := u6.blk hB0 (by omega)
  replace hB1' := u6.blk hB1' (by omega)
  replace hB3 := u6.blk hB3 (by omega)
  clear hB2
  refine WL_sta inf rfl rfl rfl rfl (by simp [Value.oneCell']) rfl hB3 rfl ?_
  rintro w7 hB3' u7
  replace hB0 := u7.blk hB0 (by omega)
  replace hB1' := u7.blk hB1' (by omega)
  replace hB2' := u7.blk hB2' (by omega)
  clear hB3
  have e7 : Ext w w7 := u7.ext (u6.ext (u5.ext (((hE1.then_ hE2).then_ hE3).then_ hE4) (by omega)) (by omega)) (by omega)
  have s7 : w7.heap.size = w4.heap.size := by rw [u7.size, u6.size, u5.size]
  repeat (first | refine WL1 rfl ?_ | refine WLe rfl rfl ?_ | refine W_region ?_)
  refine WL_bld rfl rfl rfl rfl bld207_m ?_
  refine WL_alloc inf (cs := [.bool false, .bool false, .bool false, .bool false, .bool false]) rfl rfl rfl rfl rfl ?_
  rintro g4 w8 hg4 hB4 hE8
  replace hB0 := hB0.ext hE8
  replace hB1' := hB1'.ext hE8
  replace hB2' := hB2'.ext hE8
  replace hB3' := hB3'.ext hE8
  refine WL_sta inf rfl rfl rfl rfl (by simp [Value.oneCell']) rfl hB4 rfl ?_
  rintro w9 hB4' u9
  replace hB0 := u9.blk hB0 (by omega)
  replace hB1' := u9.blk hB1' (by omega)
  replace hB2' := u9.blk hB2' (by omega)
  replace hB3' := u9.blk hB3' (by omega)
  have e9 : Ext w w9 := u9.ext (e7.then_ hE8) (by omega)
  repeat (first | refine WL1 rfl ?_ | refine WLe rfl rfl ?_ | refine W_region ?_)
  refine WL_lda inf rfl rfl rfl rfl (hB1').cells ?_
  refine WL_bld rfl rfl rfl rfl (bld225 _ _ _ _ _ _ _ _) ?_
  refine WL_lda inf rfl rfl rfl rfl (hB2').cells ?_
  refine WL_bld rfl rfl rfl rfl (bld225 _ _ _ _ _ _ _ _) ?_
  refine WL_bld rfl rfl rfl rfl bld207_ab ?_
  refine WL_bld rfl rfl rfl rfl (bld225 _ _ _ _ _ _ _ _) ?_
  refine WL_lda inf rfl rfl rfl rfl (hB1').cells ?_
  refine WL_bld rfl rfl rfl rfl (bld225 _ _ _ _ _ _ _ _) ?_
  refine WL_lda inf rfl rfl rfl rfl (hB2').cells ?_
  refine WL_bld rfl rfl rfl rfl (bld225 _ _ _ _ _ _ _ _) ?_
  refine WL_lda inf rfl rfl rfl rfl (hB2').cells ?_
  refine WL_bld rfl rfl rfl rfl (bld225 _ _ _ _ _ _ _ _) ?_
  refine WL_lda inf rfl rfl rfl rfl (hB1').cells ?_
  refine WL_bld rfl rfl rfl rfl (bld225 _ _ _ _ _ _ _ _) ?_
  refine WL_lda inf rfl rfl rfl rfl (hB1').cells ?_
  refine WL_bld rfl rfl rfl rfl (bld225 _ _ _ _ _ _ _ _) ?_
  refine WL_lda inf rfl rfl rfl rfl (hB1').cells ?_
  refine WL_bld rfl rfl rfl rfl (bld225 _ _ _ _ _ _ _ _) ?_
  refine WL_lda inf rfl rfl rfl rfl (hB1').cells ?_
  refine WL_bld rfl rfl rfl rfl (bld225 _ _ _ _ _ _ _ _) ?_
  refine WL_lda inf rfl rfl rfl rfl (hB1').cells ?_
  refine WL_bld rfl rfl rfl rfl (bld225 _ _ _ _ _ _ _ _) ?_
  refine WL_lda inf rfl rfl rfl rfl (hB1').cells ?_
  refine WL_bld rfl rfl rfl rfl (bld225 _ _ _ _ _ _ _ _) ?_
  refine WL_lda inf rfl rfl rfl rfl (hB1').cells ?_
  refine WL_bld rfl rfl rfl rfl (bld225 _ _ _ _ _ _ _ _) ?_
  refine WL_lda inf rfl rfl rfl rfl (hB1').cells ?_
  refine WL_bld rfl rfl rfl rfl (bld225 _ _ _ _ _ _ _ _) ?_
  refine WL_lda inf rfl rfl rfl rfl (hB1').cells ?_
  refine WL_bld rfl rfl rfl rfl (bld225 _ _ _ _ _ _ _ _) ?_
  refine WL_lda inf rfl rfl rfl rfl (hB1').cells ?_
  refine WL_bld rfl rfl rfl rfl (bld225 _ _ _ _ _ _ _ _) ?_
  refine WL_lda inf rfl rfl rfl rfl (hB2').cells ?_
  refine WL_bld rfl rfl rfl rfl (bld225 _ _ _ _ _ _ _ _) ?_
  refine WL_lda inf rfl rfl rfl rfl (hB2').cells ?_
  refine WL_bld rfl rfl rfl rfl (bld225 _ _ _ _ _ _ _ _) ?_
  refine WL_lda inf rfl rfl rfl rfl (hB2').cells ?_
  refine WL_bld rfl rfl rfl rfl (bld225 _ _ _ _ _ _ _ _) ?_
  refine WL_lda inf rfl rfl rfl rfl (hB2').cells ?_
  refine WL_bld rfl rfl rfl rfl (bld225 _ _ _ _ _ _ _ _) ?_
  refine WL_bld rfl rfl rfl rfl bld207_c ?_
  refine WL_bld rfl rfl rfl rfl (bld225 _ _ _ _ _ _ _ _) ?_
  refine WL_lda inf rfl rfl rfl rfl (hB4').cells ?_
  refine WL_bld rfl rfl rfl rfl (bld225 _ _ _ _ _ _ _ _) ?_
  refine WL_lda inf rfl rfl rfl rfl (hB4').cells ?_
  refine WL_bld rfl rfl rfl rfl (bld225 _ _ _ _ _ _ _ _) ?_
  refine WL_lda inf rfl rfl rfl rfl (hB4').cells ?_
  refine WL_bld rfl rfl rfl rfl (bld225 _ _ _ _ _ _ _ _) ?_
  refine WL_lda inf rfl rfl rfl rfl (hB4').cells ?_
  refine WL_bld rfl rfl rfl rfl (bld225 _ _ _ _ _ _ _ _) ?_
  refine WL_lda inf rfl rfl rfl rfl (hB3').cells ?_
  refine WL_bld rfl rfl rfl rfl (bld225 _ _ _ _ _ _ _ _) ?_
  refine WL_lda inf rfl rfl rfl rfl (hB1').cells ?_
  refine WL_bld rfl rfl rfl rfl (bld225 _ _ _ _ _ _ _ _) ?_
  refine WL_lda inf rfl rfl rfl rfl (hB1').cells ?_
  refine WL_bld rfl rfl rfl rfl (bld225 _ _ _ _ _ _ _ _) ?_
  refine WL_lda inf rfl rfl rfl rfl (hB1').cells ?_
  refine WL_bld rfl rfl rfl rfl (bld225 _ _ _ _ _ _ _ _) ?_
  refine WL_lda inf rfl rfl rfl rfl (hB3').cells ?_
  refine WL_bld rfl rfl rfl rfl (bld225 _ _ _ _ _ _ _ _) ?_
  refine WL_lda inf rfl rfl rfl rfl (hB3').cells ?_
  refine WL_bld rfl rfl rfl rfl (bld225 _ _ _ _ _ _ _ _) ?_
  refine WL_lda inf rfl rfl rfl rfl (hB4').cells ?_
  refine WL_bld rfl rfl rfl rfl (bld225 _ _ _ _ _ _ _ _) ?_
  refine WL_lda inf rfl rfl rfl rfl (hB4').cells ?_
  refine WL_bld rfl rfl rfl rfl (bld225 _ _ _ _ _ _ _ _) ?_
  refine WL_lda inf rfl rfl rfl rfl (hB4').cells ?_
  refine WL_bld rfl rfl rfl rfl (bld225 _ _ _ _ _ _ _ _) ?_
  refine WL_lda inf rfl rfl rfl rfl (hB4').cells ?_
  refine WL_bld rfl rfl rfl rfl (bld225 _ _ _ _ _ _ _ _) ?_
  refine WL_lda inf rfl rfl rfl rfl (hB1').cells ?_
  refine WL_bld rfl rfl rfl rfl (bld225 _ _ _ _ _ _ _ _) ?_
  refine WL_lda inf rfl rfl rfl rfl (hB1').cells ?_
  refine WL_bld rfl rfl rfl rfl (bld225 _ _ _ _ _ _ _ _) ?_
  refine WL_lda inf rfl rfl rfl rfl (hB1').cells ?_
  refine WL_bld rfl rfl rfl rfl (bld225 _ _ _ _ _ _ _ _) ?_
  refine WL_bld rfl rfl rfl rfl bld238 ?_
  refine WL_sta inf rfl rfl rfl (by rw [tableC_len]; rfl) tableC_one rfl hB0 (by rw [tableC_len]; exact zc238) ?_
  rintro wa hB0' ua
  repeat (first | refine WL1 rfl ?_ | refine WLe rfl rfl ?_ | refine W_region ?_)
  exact W_retL [.agg tableC.toArray] rfl rfl ⟨⟨_, rfl, loadVar_agg inf (by rw [tableC_len]; rfl) hB0'.cells⟩, trivial⟩ ⟨rfl, ua.ext e9 (Nat.le_refl _)⟩

end Go.Proofs.YtljcmmmajjmpoaaGreatDoor
