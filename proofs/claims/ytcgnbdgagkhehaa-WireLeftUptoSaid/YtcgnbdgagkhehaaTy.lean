/- YtcgnbdgagkhehaaTy: the facts on types and functions that V's rules ask for: written by ty.py. -/
import Derived.Test.YtcgnbdgagkhehaaV9
import Derived.Test.YtcgnbdgagkhehaaChecked
namespace Go.Proofs.Ytcgnbdgagkhehaa
open Go.V
instance : Sc Try.prog 3 := Sc.of (by kernel_rfl)
instance : Sz Try.prog 3 1 := Sz.of (by kernel_rfl)
instance : Zr Try.prog 3 ([.int .i64 0]) := Zr.of (v := .int .i64 0) (by kernel_rfl) rfl
instance : ZrV Try.prog 3 (.int .i64 0) := ZrV.of (by kernel_rfl)
instance : IntT Try.prog 3 .i64 := ⟨by kernel_rfl⟩
instance : Sc Try.prog 4 := Sc.of (by kernel_rfl)
instance : Sz Try.prog 4 1 := Sz.of (by kernel_rfl)
instance : Zr Try.prog 4 ([.bool false]) := Zr.of (v := .bool false) (by kernel_rfl) rfl
instance : ZrV Try.prog 4 (.bool false) := ZrV.of (by kernel_rfl)
instance : BoolT Try.prog 4 := ⟨by kernel_rfl⟩
instance : El Try.prog 4 1 1 ([.bool false]) := El.of (v := .bool false) (by kernel_rfl) (by kernel_rfl) rfl rfl
instance : Sc Try.prog 5 := Sc.of (by kernel_rfl)
instance : Sz Try.prog 5 1 := Sz.of (by kernel_rfl)
instance : Zr Try.prog 5 ([.int .u8 0]) := Zr.of (v := .int .u8 0) (by kernel_rfl) rfl
instance : ZrV Try.prog 5 (.int .u8 0) := ZrV.of (by kernel_rfl)
instance : El Try.prog 5 1 1 ([.int .u8 0]) := El.of (v := .int .u8 0) (by kernel_rfl) (by kernel_rfl) rfl rfl
instance : IntT Try.prog 5 .u8 := ⟨by kernel_rfl⟩
instance : Sc Try.prog 9 := Sc.of (by kernel_rfl)
instance : Sz Try.prog 9 1 := Sz.of (by kernel_rfl)
instance : Zr Try.prog 9 ([.string ⟨#[]⟩]) := Zr.of (v := .string ⟨#[]⟩) (by kernel_rfl) rfl
instance : ZrV Try.prog 9 (.string ⟨#[]⟩) := ZrV.of (by kernel_rfl)
instance : StrT Try.prog 9 := ⟨by kernel_rfl⟩
instance : Sc Try.prog 22 := Sc.of (by kernel_rfl)
instance : Sz Try.prog 22 1 := Sz.of (by kernel_rfl)
instance : Zr Try.prog 22 ([.slice none 0 0]) := Zr.of (v := .slice none 0 0) (by kernel_rfl) rfl
instance : ZrV Try.prog 22 (.slice none 0 0) := ZrV.of (by kernel_rfl)
instance : El Try.prog 22 1 24 ([.slice none 0 0]) := El.of (v := .slice none 0 0) (by kernel_rfl) (by kernel_rfl) rfl rfl
instance : SliceT Try.prog 22 5 := ⟨by kernel_rfl⟩
instance : Sc Try.prog 24 := Sc.of (by kernel_rfl)
instance : Sz Try.prog 24 1 := Sz.of (by kernel_rfl)
instance : Zr Try.prog 24 ([.int .u32 0]) := Zr.of (v := .int .u32 0) (by kernel_rfl) rfl
instance : ZrV Try.prog 24 (.int .u32 0) := ZrV.of (by kernel_rfl)
instance : IntT Try.prog 24 .u32 := ⟨by kernel_rfl⟩
instance : Sc Try.prog 28 := Sc.of (by kernel_rfl)
instance : Sz Try.prog 28 1 := Sz.of (by kernel_rfl)
instance : Zr Try.prog 28 ([.int .u64 0]) := Zr.of (v := .int .u64 0) (by kernel_rfl) rfl
instance : ZrV Try.prog 28 (.int .u64 0) := ZrV.of (by kernel_rfl)
instance : IntT Try.prog 28 .u64 := ⟨by kernel_rfl⟩
instance : Ag Try.prog 29 7 := Ag.of (by kernel_rfl)
instance : Sz Try.prog 29 7 := Sz.of (by kernel_rfl)
instance : Zr Try.prog 29 ([.int .u64 0, .int .u64 0, .int .u64 0, .int .u64 0, .int .u64 0, .int .u64 0, .int .u64 0]) := Zr.of (v := .agg ⟨[.int .u64 0, .int .u64 0, .int .u64 0, .int .u64 0, .int .u64 0, .int .u64 0, .int .u64 0]⟩) (by kernel_rfl) rfl
instance : ZrV Try.prog 29 (.agg ⟨[.int .u64 0, .int .u64 0, .int .u64 0, .int .u64 0, .int .u64 0, .int .u64 0, .int .u64 0]⟩) := ZrV.of (by kernel_rfl)
instance : EqT Try.prog 29 ([.i .u64, .i .u64, .i .u64, .i .u64, .i .u64, .i .u64, .i .u64]) := ⟨by kernel_rfl, by kernel_rfl, by kernel_rfl⟩
instance : ArrT Try.prog 29 7 28 := ⟨by kernel_rfl⟩
instance : Ag Try.prog 31 8 := Ag.of (by kernel_rfl)
instance : Sz Try.prog 31 8 := Sz.of (by kernel_rfl)
instance : Zr Try.prog 31 ([.int .u8 0, .int .u64 0, .int .u64 0, .int .u64 0, .int .u64 0, .int .u64 0, .int .u64 0, .int .u64 0]) := Zr.of (v := .agg ⟨[.int .u8 0, .int .u64 0, .int .u64 0, .int .u64 0, .int .u64 0, .int .u64 0, .int .u64 0, .int .u64 0]⟩) (by kernel_rfl) rfl
instance : ZrV Try.prog 31 (.agg ⟨[.int .u8 0, .int .u64 0, .int .u64 0, .int .u64 0, .int .u64 0, .int .u64 0, .int .u64 0, .int .u64 0]⟩) := ZrV.of (by kernel_rfl)
instance : EqT Try.prog 31 ([.i .u8, .i .u64, .i .u64, .i .u64, .i .u64, .i .u64, .i .u64, .i .u64]) := ⟨by kernel_rfl, by kernel_rfl, by kernel_rfl⟩
instance : StT Try.prog 31 [(0, 1), (1, 7)] ([.int .u8 0, .int .u64 0, .int .u64 0, .int .u64 0, .int .u64 0, .int .u64 0, .int .u64 0, .int .u64 0]) := StT.of (by kernel_rfl) (by kernel_rfl)
instance : Ag Try.prog 32 64 := Ag.of (by kernel_rfl)
instance : Sz Try.prog 32 64 := Sz.of (by kernel_rfl)
instance : Zr Try.prog 32 (List.replicate 64 (.int .u8 0)) := Zr.of (v := .agg ⟨List.replicate 64 (.int .u8 0)⟩) (by kernel_rfl) rfl
instance : ZrV Try.prog 32 (.agg ⟨List.replicate 64 (.int .u8 0)⟩) := ZrV.of (by kernel_rfl)
instance : EqT Try.prog 32 (List.replicate 64 (.i .u8)) := ⟨by kernel_rfl, by kernel_rfl, by kernel_rfl⟩
instance : ArrT Try.prog 32 64 5 := ⟨by kernel_rfl⟩
instance : Sc Try.prog 35 := Sc.of (by kernel_rfl)
instance : Sz Try.prog 35 1 := Sz.of (by kernel_rfl)
instance : Zr Try.prog 35 ([.int .i64 0]) := Zr.of (v := .int .i64 0) (by kernel_rfl) rfl
instance : ZrV Try.prog 35 (.int .i64 0) := ZrV.of (by kernel_rfl)
instance : IntT Try.prog 35 .i64 := ⟨by kernel_rfl⟩
instance : Sc Try.prog 42 := Sc.of (by kernel_rfl)
instance : Sz Try.prog 42 1 := Sz.of (by kernel_rfl)
instance : Zr Try.prog 42 ([.nilFunc]) := Zr.of (v := .nilFunc) (by kernel_rfl) rfl
instance : ZrV Try.prog 42 (.nilFunc) := ZrV.of (by kernel_rfl)
instance : Sc Try.prog 44 := Sc.of (by kernel_rfl)
instance : Sz Try.prog 44 1 := Sz.of (by kernel_rfl)
instance : Zr Try.prog 44 ([.slice none 0 0]) := Zr.of (v := .slice none 0 0) (by kernel_rfl) rfl
instance : ZrV Try.prog 44 (.slice none 0 0) := ZrV.of (by kernel_rfl)
instance : SliceT Try.prog 44 47 := ⟨by kernel_rfl⟩
instance : Ag Try.prog 47 9 := Ag.of (by kernel_rfl)
instance : Sz Try.prog 47 9 := Sz.of (by kernel_rfl)
instance : Zr Try.prog 47 ([.int .u8 0, .int .u64 0, .int .u64 0, .int .u64 0, .int .u64 0, .int .u64 0, .int .u64 0, .int .u64 0, .int .i64 0]) := Zr.of (v := .agg ⟨[.int .u8 0, .int .u64 0, .int .u64 0, .int .u64 0, .int .u64 0, .int .u64 0, .int .u64 0, .int .u64 0, .int .i64 0]⟩) (by kernel_rfl) rfl
instance : ZrV Try.prog 47 (.agg ⟨[.int .u8 0, .int .u64 0, .int .u64 0, .int .u64 0, .int .u64 0, .int .u64 0, .int .u64 0, .int .u64 0, .int .i64 0]⟩) := ZrV.of (by kernel_rfl)
instance : EqT Try.prog 47 ([.i .u8, .i .u64, .i .u64, .i .u64, .i .u64, .i .u64, .i .u64, .i .u64, .i .i64]) := ⟨by kernel_rfl, by kernel_rfl, by kernel_rfl⟩
instance : StT Try.prog 47 [(0, 8), (8, 1)] ([.int .u8 0, .int .u64 0, .int .u64 0, .int .u64 0, .int .u64 0, .int .u64 0, .int .u64 0, .int .u64 0, .int .i64 0]) := StT.of (by kernel_rfl) (by kernel_rfl)
instance : El Try.prog 47 9 72 ([.int .u8 0, .int .u64 0, .int .u64 0, .int .u64 0, .int .u64 0, .int .u64 0, .int .u64 0, .int .u64 0, .int .i64 0]) := El.of (v := .agg ⟨[.int .u8 0, .int .u64 0, .int .u64 0, .int .u64 0, .int .u64 0, .int .u64 0, .int .u64 0, .int .u64 0, .int .i64 0]⟩) (by kernel_rfl) (by kernel_rfl) rfl rfl
instance : Sc Try.prog 49 := Sc.of (by kernel_rfl)
instance : Sz Try.prog 49 1 := Sz.of (by kernel_rfl)
instance : Zr Try.prog 49 ([.slice none 0 0]) := Zr.of (v := .slice none 0 0) (by kernel_rfl) rfl
instance : ZrV Try.prog 49 (.slice none 0 0) := ZrV.of (by kernel_rfl)
instance : SliceT Try.prog 49 52 := ⟨by kernel_rfl⟩
instance : Ag Try.prog 52 9 := Ag.of (by kernel_rfl)
instance : Sz Try.prog 52 9 := Sz.of (by kernel_rfl)
instance : Zr Try.prog 52 ([.int .u8 0, .int .u64 0, .int .u64 0, .int .u64 0, .int .u64 0, .int .u64 0, .int .u64 0, .int .u64 0, .int .i64 0]) := Zr.of (v := .agg ⟨[.int .u8 0, .int .u64 0, .int .u64 0, .int .u64 0, .int .u64 0, .int .u64 0, .int .u64 0, .int .u64 0, .int .i64 0]⟩) (by kernel_rfl) rfl
instance : ZrV Try.prog 52 (.agg ⟨[.int .u8 0, .int .u64 0, .int .u64 0, .int .u64 0, .int .u64 0, .int .u64 0, .int .u64 0, .int .u64 0, .int .i64 0]⟩) := ZrV.of (by kernel_rfl)
instance : EqT Try.prog 52 ([.i .u8, .i .u64, .i .u64, .i .u64, .i .u64, .i .u64, .i .u64, .i .u64, .i .i64]) := ⟨by kernel_rfl, by kernel_rfl, by kernel_rfl⟩
instance : StT Try.prog 52 [(0, 8), (8, 1)] ([.int .u8 0, .int .u64 0, .int .u64 0, .int .u64 0, .int .u64 0, .int .u64 0, .int .u64 0, .int .u64 0, .int .i64 0]) := StT.of (by kernel_rfl) (by kernel_rfl)
instance : El Try.prog 52 9 72 ([.int .u8 0, .int .u64 0, .int .u64 0, .int .u64 0, .int .u64 0, .int .u64 0, .int .u64 0, .int .u64 0, .int .i64 0]) := El.of (v := .agg ⟨[.int .u8 0, .int .u64 0, .int .u64 0, .int .u64 0, .int .u64 0, .int .u64 0, .int .u64 0, .int .u64 0, .int .i64 0]⟩) (by kernel_rfl) (by kernel_rfl) rfl rfl
instance : Sc Try.prog 54 := Sc.of (by kernel_rfl)
instance : Sz Try.prog 54 1 := Sz.of (by kernel_rfl)
instance : Zr Try.prog 54 ([.slice none 0 0]) := Zr.of (v := .slice none 0 0) (by kernel_rfl) rfl
instance : ZrV Try.prog 54 (.slice none 0 0) := ZrV.of (by kernel_rfl)
instance : SliceT Try.prog 54 61 := ⟨by kernel_rfl⟩
instance : Sc Try.prog 55 := Sc.of (by kernel_rfl)
instance : Sz Try.prog 55 1 := Sz.of (by kernel_rfl)
instance : Zr Try.prog 55 ([.pointer none]) := Zr.of (v := .pointer none) (by kernel_rfl) rfl
instance : ZrV Try.prog 55 (.pointer none) := ZrV.of (by kernel_rfl)
instance : PtrT Try.prog 55 59 := ⟨by kernel_rfl⟩
instance : Sc Try.prog 56 := Sc.of (by kernel_rfl)
instance : Sz Try.prog 56 1 := Sz.of (by kernel_rfl)
instance : Zr Try.prog 56 ([.pointer none]) := Zr.of (v := .pointer none) (by kernel_rfl) rfl
instance : ZrV Try.prog 56 (.pointer none) := ZrV.of (by kernel_rfl)
instance : PtrT Try.prog 56 77 := ⟨by kernel_rfl⟩
instance : Ag Try.prog 59 2 := Ag.of (by kernel_rfl)
instance : Sz Try.prog 59 2 := Sz.of (by kernel_rfl)
instance : Zr Try.prog 59 ([.pointer none, .slice none 0 0]) := Zr.of (v := .agg ⟨[.pointer none, .slice none 0 0]⟩) (by kernel_rfl) rfl
instance : ZrV Try.prog 59 (.agg ⟨[.pointer none, .slice none 0 0]⟩) := ZrV.of (by kernel_rfl)
instance : StT Try.prog 59 [(0, 1), (1, 1)] ([.pointer none, .slice none 0 0]) := StT.of (by kernel_rfl) (by kernel_rfl)
instance : Ag Try.prog 61 3 := Ag.of (by kernel_rfl)
instance : Sz Try.prog 61 3 := Sz.of (by kernel_rfl)
instance : Zr Try.prog 61 ([.int .i64 0, .bool false, .slice none 0 0]) := Zr.of (v := .agg ⟨[.int .i64 0, .bool false, .slice none 0 0]⟩) (by kernel_rfl) rfl
instance : ZrV Try.prog 61 (.agg ⟨[.int .i64 0, .bool false, .slice none 0 0]⟩) := ZrV.of (by kernel_rfl)
instance : StT Try.prog 61 [(0, 1), (1, 1), (2, 1)] ([.int .i64 0, .bool false, .slice none 0 0]) := StT.of (by kernel_rfl) (by kernel_rfl)
instance : El Try.prog 61 3 40 ([.int .i64 0, .bool false, .slice none 0 0]) := El.of (v := .agg ⟨[.int .i64 0, .bool false, .slice none 0 0]⟩) (by kernel_rfl) (by kernel_rfl) rfl rfl
instance : Sc Try.prog 65 := Sc.of (by kernel_rfl)
instance : Sz Try.prog 65 1 := Sz.of (by kernel_rfl)
instance : Zr Try.prog 65 ([.slice none 0 0]) := Zr.of (v := .slice none 0 0) (by kernel_rfl) rfl
instance : ZrV Try.prog 65 (.slice none 0 0) := ZrV.of (by kernel_rfl)
instance : SliceT Try.prog 65 22 := ⟨by kernel_rfl⟩
instance : Sc Try.prog 71 := Sc.of (by kernel_rfl)
instance : Sz Try.prog 71 1 := Sz.of (by kernel_rfl)
instance : Zr Try.prog 71 ([.slice none 0 0]) := Zr.of (v := .slice none 0 0) (by kernel_rfl) rfl
instance : ZrV Try.prog 71 (.slice none 0 0) := ZrV.of (by kernel_rfl)
instance : SliceT Try.prog 71 4 := ⟨by kernel_rfl⟩
instance : Ag Try.prog 77 1 := Ag.of (by kernel_rfl)
instance : Sz Try.prog 77 1 := Sz.of (by kernel_rfl)
instance : Zr Try.prog 77 ([.slice none 0 0]) := Zr.of (v := .agg ⟨[.slice none 0 0]⟩) (by kernel_rfl) rfl
instance : ZrV Try.prog 77 (.agg ⟨[.slice none 0 0]⟩) := ZrV.of (by kernel_rfl)
instance : StT Try.prog 77 [(0, 1)] ([.slice none 0 0]) := StT.of (by kernel_rfl) (by kernel_rfl)
instance : FldV Try.prog 31 0 0 5 := FldV.of (by kernel_rfl)
instance : FldT Try.prog 31 0 0 := FldT.of (by kernel_rfl)
instance : FldV Try.prog 31 1 1 29 := FldV.of (by kernel_rfl)
instance : FldT Try.prog 31 1 1 := FldT.of (by kernel_rfl)
instance : FldV Try.prog 47 0 0 31 := FldV.of (by kernel_rfl)
instance : FldT Try.prog 47 0 0 := FldT.of (by kernel_rfl)
instance : FldV Try.prog 47 1 8 35 := FldV.of (by kernel_rfl)
instance : FldT Try.prog 47 1 8 := FldT.of (by kernel_rfl)
instance : FldV Try.prog 59 0 0 56 := FldV.of (by kernel_rfl)
instance : FldT Try.prog 59 0 0 := FldT.of (by kernel_rfl)
instance : FldV Try.prog 59 1 1 22 := FldV.of (by kernel_rfl)
instance : FldT Try.prog 59 1 1 := FldT.of (by kernel_rfl)
instance : FldV Try.prog 61 0 0 3 := FldV.of (by kernel_rfl)
instance : FldT Try.prog 61 0 0 := FldT.of (by kernel_rfl)
instance : FldV Try.prog 61 1 1 4 := FldV.of (by kernel_rfl)
instance : FldT Try.prog 61 1 1 := FldT.of (by kernel_rfl)
instance : FldV Try.prog 61 2 2 22 := FldV.of (by kernel_rfl)
instance : FldT Try.prog 61 2 2 := FldT.of (by kernel_rfl)
instance : FldV Try.prog 77 0 0 22 := FldV.of (by kernel_rfl)
instance : FldT Try.prog 77 0 0 := FldT.of (by kernel_rfl)
instance : FnT Try.prog 13 := FnT.of (by kernel_rfl)
instance : FnT Try.prog 14 := FnT.of (by kernel_rfl)
instance : FnT Try.prog 15 := FnT.of (by kernel_rfl)
instance : FnT Try.prog 16 := FnT.of (by kernel_rfl)
instance : FnT Try.prog 17 := FnT.of (by kernel_rfl)
instance : FnT Try.prog 18 := FnT.of (by kernel_rfl)
instance : FnT Try.prog 19 := FnT.of (by kernel_rfl)
instance : FnT Try.prog 20 := FnT.of (by kernel_rfl)
instance : FnT Try.prog 21 := FnT.of (by kernel_rfl)
instance : FnT Try.prog 22 := FnT.of (by kernel_rfl)
instance : FnT Try.prog 23 := FnT.of (by kernel_rfl)
instance : FnT Try.prog 24 := FnT.of (by kernel_rfl)
instance : FnT Try.prog 25 := FnT.of (by kernel_rfl)
instance : FnT Try.prog 26 := FnT.of (by kernel_rfl)
instance : FnT Try.prog 27 := FnT.of (by kernel_rfl)
instance : FnT Try.prog 28 := FnT.of (by kernel_rfl)
instance : FnT Try.prog 29 := FnT.of (by kernel_rfl)
instance : FnT Try.prog 30 := FnT.of (by kernel_rfl)
instance : FnT Try.prog 31 := FnT.of (by kernel_rfl)
instance : FnT Try.prog 32 := FnT.of (by kernel_rfl)
end Go.Proofs.Ytcgnbdgagkhehaa
