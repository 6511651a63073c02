/- YtmfobfamdaajmaaTy: the facts on types and functions that V's rules ask for: written by ty.py. -/
import Derived.Test.YtmfobfamdaajmaaV9
import Derived.Test.YtmfobfamdaajmaaChecked
namespace Go.Proofs.Ytmfobfamdaajmaa
open Go.V
instance : Sc Try.prog 3 := Sc.of (by kernel_rfl)
instance : Sz Try.prog 3 1 := Sz.of (by kernel_rfl)
instance : Zr Try.prog 3 ([.int .i64 0]) := Zr.of (v := .int .i64 0) (by kernel_rfl) rfl
instance : ZrV Try.prog 3 (.int .i64 0) := ZrV.of (by kernel_rfl)
instance : El Try.prog 3 1 8 ([.int .i64 0]) := El.of (v := .int .i64 0) (by kernel_rfl) (by kernel_rfl) rfl rfl
instance : IntT Try.prog 3 .i64 := ⟨by kernel_rfl⟩
instance : Sc Try.prog 4 := Sc.of (by kernel_rfl)
instance : Sz Try.prog 4 1 := Sz.of (by kernel_rfl)
instance : Zr Try.prog 4 ([.bool false]) := Zr.of (v := .bool false) (by kernel_rfl) rfl
instance : ZrV Try.prog 4 (.bool false) := ZrV.of (by kernel_rfl)
instance : BoolT Try.prog 4 := ⟨by kernel_rfl⟩
instance : Sc Try.prog 22 := Sc.of (by kernel_rfl)
instance : Sz Try.prog 22 1 := Sz.of (by kernel_rfl)
instance : Zr Try.prog 22 ([.int .u64 0]) := Zr.of (v := .int .u64 0) (by kernel_rfl) rfl
instance : ZrV Try.prog 22 (.int .u64 0) := ZrV.of (by kernel_rfl)
instance : IntT Try.prog 22 .u64 := ⟨by kernel_rfl⟩
instance : Sc Try.prog 23 := Sc.of (by kernel_rfl)
instance : Sz Try.prog 23 1 := Sz.of (by kernel_rfl)
instance : Zr Try.prog 23 ([.int .u32 0]) := Zr.of (v := .int .u32 0) (by kernel_rfl) rfl
instance : ZrV Try.prog 23 (.int .u32 0) := ZrV.of (by kernel_rfl)
instance : IntT Try.prog 23 .u32 := ⟨by kernel_rfl⟩
instance : Ag Try.prog 25 9 := Ag.of (by kernel_rfl)
instance : Sz Try.prog 25 9 := Sz.of (by kernel_rfl)
instance : Zr Try.prog 25 ([.int .i64 0, .int .u64 0, .int .u64 0, .int .u32 0, .int .i64 0, .int .i64 0, .int .i64 0, .int .u64 0, .int .u64 0]) := Zr.of (v := .agg ⟨[.int .i64 0, .int .u64 0, .int .u64 0, .int .u32 0, .int .i64 0, .int .i64 0, .int .i64 0, .int .u64 0, .int .u64 0]⟩) (by kernel_rfl) rfl
instance : ZrV Try.prog 25 (.agg ⟨[.int .i64 0, .int .u64 0, .int .u64 0, .int .u32 0, .int .i64 0, .int .i64 0, .int .i64 0, .int .u64 0, .int .u64 0]⟩) := ZrV.of (by kernel_rfl)
instance : EqT Try.prog 25 ([.i .i64, .i .u64, .i .u64, .i .u32, .i .i64, .i .i64, .i .i64, .i .u64, .i .u64]) := ⟨by kernel_rfl, by kernel_rfl, by kernel_rfl⟩
instance : StT Try.prog 25 [(0, 1), (1, 1), (2, 1), (3, 1), (4, 1), (5, 1), (6, 1), (7, 1), (8, 1)] ([.int .i64 0, .int .u64 0, .int .u64 0, .int .u32 0, .int .i64 0, .int .i64 0, .int .i64 0, .int .u64 0, .int .u64 0]) := StT.of (by kernel_rfl) (by kernel_rfl)
instance : El Try.prog 25 9 72 ([.int .i64 0, .int .u64 0, .int .u64 0, .int .u32 0, .int .i64 0, .int .i64 0, .int .i64 0, .int .u64 0, .int .u64 0]) := El.of (v := .agg ⟨[.int .i64 0, .int .u64 0, .int .u64 0, .int .u32 0, .int .i64 0, .int .i64 0, .int .i64 0, .int .u64 0, .int .u64 0]⟩) (by kernel_rfl) (by kernel_rfl) rfl rfl
instance : Ag Try.prog 27 2 := Ag.of (by kernel_rfl)
instance : Sz Try.prog 27 2 := Sz.of (by kernel_rfl)
instance : Zr Try.prog 27 ([.int .i64 0, .int .i64 0]) := Zr.of (v := .agg ⟨[.int .i64 0, .int .i64 0]⟩) (by kernel_rfl) rfl
instance : ZrV Try.prog 27 (.agg ⟨[.int .i64 0, .int .i64 0]⟩) := ZrV.of (by kernel_rfl)
instance : EqT Try.prog 27 ([.i .i64, .i .i64]) := ⟨by kernel_rfl, by kernel_rfl, by kernel_rfl⟩
instance : StT Try.prog 27 [(0, 1), (1, 1)] ([.int .i64 0, .int .i64 0]) := StT.of (by kernel_rfl) (by kernel_rfl)
instance : Sc Try.prog 28 := Sc.of (by kernel_rfl)
instance : Sz Try.prog 28 1 := Sz.of (by kernel_rfl)
instance : Zr Try.prog 28 ([.slice none 0 0]) := Zr.of (v := .slice none 0 0) (by kernel_rfl) rfl
instance : ZrV Try.prog 28 (.slice none 0 0) := ZrV.of (by kernel_rfl)
instance : El Try.prog 28 1 24 ([.slice none 0 0]) := El.of (v := .slice none 0 0) (by kernel_rfl) (by kernel_rfl) rfl rfl
instance : SliceT Try.prog 28 53 := ⟨by kernel_rfl⟩
instance : Ag Try.prog 30 6 := Ag.of (by kernel_rfl)
instance : Sz Try.prog 30 6 := Sz.of (by kernel_rfl)
instance : Zr Try.prog 30 ([.int .i64 0, .int .i64 0, .slice none 0 0, .slice none 0 0, .int .u64 0, .int .u64 0]) := Zr.of (v := .agg ⟨[.int .i64 0, .int .i64 0, .slice none 0 0, .slice none 0 0, .int .u64 0, .int .u64 0]⟩) (by kernel_rfl) rfl
instance : ZrV Try.prog 30 (.agg ⟨[.int .i64 0, .int .i64 0, .slice none 0 0, .slice none 0 0, .int .u64 0, .int .u64 0]⟩) := ZrV.of (by kernel_rfl)
instance : StT Try.prog 30 [(0, 2), (2, 1), (3, 1), (4, 1), (5, 1)] ([.int .i64 0, .int .i64 0, .slice none 0 0, .slice none 0 0, .int .u64 0, .int .u64 0]) := StT.of (by kernel_rfl) (by kernel_rfl)
instance : Sc Try.prog 32 := Sc.of (by kernel_rfl)
instance : Sz Try.prog 32 1 := Sz.of (by kernel_rfl)
instance : Zr Try.prog 32 ([.pointer none]) := Zr.of (v := .pointer none) (by kernel_rfl) rfl
instance : ZrV Try.prog 32 (.pointer none) := ZrV.of (by kernel_rfl)
instance : PtrT Try.prog 32 67 := ⟨by kernel_rfl⟩
instance : Sc Try.prog 33 := Sc.of (by kernel_rfl)
instance : Sz Try.prog 33 1 := Sz.of (by kernel_rfl)
instance : Zr Try.prog 33 ([.int .i64 0]) := Zr.of (v := .int .i64 0) (by kernel_rfl) rfl
instance : ZrV Try.prog 33 (.int .i64 0) := ZrV.of (by kernel_rfl)
instance : IntT Try.prog 33 .i64 := ⟨by kernel_rfl⟩
instance : Sc Try.prog 44 := Sc.of (by kernel_rfl)
instance : Sz Try.prog 44 1 := Sz.of (by kernel_rfl)
instance : Zr Try.prog 44 ([.slice none 0 0]) := Zr.of (v := .slice none 0 0) (by kernel_rfl) rfl
instance : ZrV Try.prog 44 (.slice none 0 0) := ZrV.of (by kernel_rfl)
instance : SliceT Try.prog 44 25 := ⟨by kernel_rfl⟩
instance : Sc Try.prog 47 := Sc.of (by kernel_rfl)
instance : Sz Try.prog 47 1 := Sz.of (by kernel_rfl)
instance : Zr Try.prog 47 ([.slice none 0 0]) := Zr.of (v := .slice none 0 0) (by kernel_rfl) rfl
instance : ZrV Try.prog 47 (.slice none 0 0) := ZrV.of (by kernel_rfl)
instance : SliceT Try.prog 47 50 := ⟨by kernel_rfl⟩
instance : Ag Try.prog 50 13 := Ag.of (by kernel_rfl)
instance : Sz Try.prog 50 13 := Sz.of (by kernel_rfl)
instance : Zr Try.prog 50 ([.int .u64 0, .int .i64 0, .int .u64 0, .int .u64 0, .int .u64 0, .int .u32 0, .int .i64 0, .int .i64 0, .int .i64 0, .int .u64 0, .int .u64 0, .int .i64 0, .int .i64 0]) := Zr.of (v := .agg ⟨[.int .u64 0, .int .i64 0, .int .u64 0, .int .u64 0, .int .u64 0, .int .u32 0, .int .i64 0, .int .i64 0, .int .i64 0, .int .u64 0, .int .u64 0, .int .i64 0, .int .i64 0]⟩) (by kernel_rfl) rfl
instance : ZrV Try.prog 50 (.agg ⟨[.int .u64 0, .int .i64 0, .int .u64 0, .int .u64 0, .int .u64 0, .int .u32 0, .int .i64 0, .int .i64 0, .int .i64 0, .int .u64 0, .int .u64 0, .int .i64 0, .int .i64 0]⟩) := ZrV.of (by kernel_rfl)
instance : EqT Try.prog 50 ([.i .u64, .i .i64, .i .u64, .i .u64, .i .u64, .i .u32, .i .i64, .i .i64, .i .i64, .i .u64, .i .u64, .i .i64, .i .i64]) := ⟨by kernel_rfl, by kernel_rfl, by kernel_rfl⟩
instance : StT Try.prog 50 [(0, 1), (1, 1), (2, 1), (3, 1), (4, 1), (5, 1), (6, 1), (7, 1), (8, 1), (9, 1), (10, 1), (11, 1), (12, 1)] ([.int .u64 0, .int .i64 0, .int .u64 0, .int .u64 0, .int .u64 0, .int .u32 0, .int .i64 0, .int .i64 0, .int .i64 0, .int .u64 0, .int .u64 0, .int .i64 0, .int .i64 0]) := StT.of (by kernel_rfl) (by kernel_rfl)
instance : El Try.prog 50 13 104 ([.int .u64 0, .int .i64 0, .int .u64 0, .int .u64 0, .int .u64 0, .int .u32 0, .int .i64 0, .int .i64 0, .int .i64 0, .int .u64 0, .int .u64 0, .int .i64 0, .int .i64 0]) := El.of (v := .agg ⟨[.int .u64 0, .int .i64 0, .int .u64 0, .int .u64 0, .int .u64 0, .int .u32 0, .int .i64 0, .int .i64 0, .int .i64 0, .int .u64 0, .int .u64 0, .int .i64 0, .int .i64 0]⟩) (by kernel_rfl) (by kernel_rfl) rfl rfl
instance : Ag Try.prog 53 7 := Ag.of (by kernel_rfl)
instance : Sz Try.prog 53 7 := Sz.of (by kernel_rfl)
instance : Zr Try.prog 53 ([.int .u64 0, .int .u32 0, .int .i64 0, .int .i64 0, .int .u64 0, .int .u64 0, .int .u64 0]) := Zr.of (v := .agg ⟨[.int .u64 0, .int .u32 0, .int .i64 0, .int .i64 0, .int .u64 0, .int .u64 0, .int .u64 0]⟩) (by kernel_rfl) rfl
instance : ZrV Try.prog 53 (.agg ⟨[.int .u64 0, .int .u32 0, .int .i64 0, .int .i64 0, .int .u64 0, .int .u64 0, .int .u64 0]⟩) := ZrV.of (by kernel_rfl)
instance : EqT Try.prog 53 ([.i .u64, .i .u32, .i .i64, .i .i64, .i .u64, .i .u64, .i .u64]) := ⟨by kernel_rfl, by kernel_rfl, by kernel_rfl⟩
instance : StT Try.prog 53 [(0, 1), (1, 1), (2, 1), (3, 1), (4, 1), (5, 1), (6, 1)] ([.int .u64 0, .int .u32 0, .int .i64 0, .int .i64 0, .int .u64 0, .int .u64 0, .int .u64 0]) := StT.of (by kernel_rfl) (by kernel_rfl)
instance : El Try.prog 53 7 56 ([.int .u64 0, .int .u32 0, .int .i64 0, .int .i64 0, .int .u64 0, .int .u64 0, .int .u64 0]) := El.of (v := .agg ⟨[.int .u64 0, .int .u32 0, .int .i64 0, .int .i64 0, .int .u64 0, .int .u64 0, .int .u64 0]⟩) (by kernel_rfl) (by kernel_rfl) rfl rfl
instance : Sc Try.prog 55 := Sc.of (by kernel_rfl)
instance : Sz Try.prog 55 1 := Sz.of (by kernel_rfl)
instance : Zr Try.prog 55 ([.slice none 0 0]) := Zr.of (v := .slice none 0 0) (by kernel_rfl) rfl
instance : ZrV Try.prog 55 (.slice none 0 0) := ZrV.of (by kernel_rfl)
instance : SliceT Try.prog 55 61 := ⟨by kernel_rfl⟩
instance : Ag Try.prog 61 5 := Ag.of (by kernel_rfl)
instance : Sz Try.prog 61 5 := Sz.of (by kernel_rfl)
instance : Zr Try.prog 61 ([.int .u64 0, .int .u64 0, .int .u64 0, .int .u64 0, .int .i64 0]) := Zr.of (v := .agg ⟨[.int .u64 0, .int .u64 0, .int .u64 0, .int .u64 0, .int .i64 0]⟩) (by kernel_rfl) rfl
instance : ZrV Try.prog 61 (.agg ⟨[.int .u64 0, .int .u64 0, .int .u64 0, .int .u64 0, .int .i64 0]⟩) := ZrV.of (by kernel_rfl)
instance : EqT Try.prog 61 ([.i .u64, .i .u64, .i .u64, .i .u64, .i .i64]) := ⟨by kernel_rfl, by kernel_rfl, by kernel_rfl⟩
instance : StT Try.prog 61 [(0, 1), (1, 1), (2, 1), (3, 1), (4, 1)] ([.int .u64 0, .int .u64 0, .int .u64 0, .int .u64 0, .int .i64 0]) := StT.of (by kernel_rfl) (by kernel_rfl)
instance : El Try.prog 61 5 40 ([.int .u64 0, .int .u64 0, .int .u64 0, .int .u64 0, .int .i64 0]) := El.of (v := .agg ⟨[.int .u64 0, .int .u64 0, .int .u64 0, .int .u64 0, .int .i64 0]⟩) (by kernel_rfl) (by kernel_rfl) rfl rfl
instance : Ag Try.prog 67 6 := Ag.of (by kernel_rfl)
instance : Sz Try.prog 67 6 := Sz.of (by kernel_rfl)
instance : Zr Try.prog 67 ([.int .i64 0, .int .i64 0, .slice none 0 0, .slice none 0 0, .int .u64 0, .int .u64 0]) := Zr.of (v := .agg ⟨[.int .i64 0, .int .i64 0, .slice none 0 0, .slice none 0 0, .int .u64 0, .int .u64 0]⟩) (by kernel_rfl) rfl
instance : ZrV Try.prog 67 (.agg ⟨[.int .i64 0, .int .i64 0, .slice none 0 0, .slice none 0 0, .int .u64 0, .int .u64 0]⟩) := ZrV.of (by kernel_rfl)
instance : StT Try.prog 67 [(0, 6)] ([.int .i64 0, .int .i64 0, .slice none 0 0, .slice none 0 0, .int .u64 0, .int .u64 0]) := StT.of (by kernel_rfl) (by kernel_rfl)
instance : Sc Try.prog 69 := Sc.of (by kernel_rfl)
instance : Sz Try.prog 69 1 := Sz.of (by kernel_rfl)
instance : Zr Try.prog 69 ([.map none]) := Zr.of (v := .map none) (by kernel_rfl) rfl
instance : ZrV Try.prog 69 (.map none) := ZrV.of (by kernel_rfl)
instance : MapT Try.prog 69 22 4 := ⟨by kernel_rfl⟩
instance : Sc Try.prog 70 := Sc.of (by kernel_rfl)
instance : Sz Try.prog 70 1 := Sz.of (by kernel_rfl)
instance : Zr Try.prog 70 ([.slice none 0 0]) := Zr.of (v := .slice none 0 0) (by kernel_rfl) rfl
instance : ZrV Try.prog 70 (.slice none 0 0) := ZrV.of (by kernel_rfl)
instance : SliceT Try.prog 70 28 := ⟨by kernel_rfl⟩
instance : Sc Try.prog 77 := Sc.of (by kernel_rfl)
instance : Sz Try.prog 77 1 := Sz.of (by kernel_rfl)
instance : Zr Try.prog 77 ([.pointer none]) := Zr.of (v := .pointer none) (by kernel_rfl) rfl
instance : ZrV Try.prog 77 (.pointer none) := ZrV.of (by kernel_rfl)
instance : PtrT Try.prog 77 79 := ⟨by kernel_rfl⟩
instance : Ag Try.prog 79 2 := Ag.of (by kernel_rfl)
instance : Sz Try.prog 79 2 := Sz.of (by kernel_rfl)
instance : Zr Try.prog 79 ([.pointer none, .slice none 0 0]) := Zr.of (v := .agg ⟨[.pointer none, .slice none 0 0]⟩) (by kernel_rfl) rfl
instance : ZrV Try.prog 79 (.agg ⟨[.pointer none, .slice none 0 0]⟩) := ZrV.of (by kernel_rfl)
instance : StT Try.prog 79 [(0, 1), (1, 1)] ([.pointer none, .slice none 0 0]) := StT.of (by kernel_rfl) (by kernel_rfl)
instance : Sc Try.prog 80 := Sc.of (by kernel_rfl)
instance : Sz Try.prog 80 1 := Sz.of (by kernel_rfl)
instance : Zr Try.prog 80 ([.pointer none]) := Zr.of (v := .pointer none) (by kernel_rfl) rfl
instance : ZrV Try.prog 80 (.pointer none) := ZrV.of (by kernel_rfl)
instance : PtrT Try.prog 80 53 := ⟨by kernel_rfl⟩
instance : Sc Try.prog 83 := Sc.of (by kernel_rfl)
instance : Sz Try.prog 83 1 := Sz.of (by kernel_rfl)
instance : Zr Try.prog 83 ([.pointer none]) := Zr.of (v := .pointer none) (by kernel_rfl) rfl
instance : ZrV Try.prog 83 (.pointer none) := ZrV.of (by kernel_rfl)
instance : PtrT Try.prog 83 28 := ⟨by kernel_rfl⟩
instance : Ag Try.prog 89 10 := Ag.of (by kernel_rfl)
instance : Sz Try.prog 89 10 := Sz.of (by kernel_rfl)
instance : Zr Try.prog 89 ([.int .u64 0, .int .u32 0, .int .i64 0, .int .i64 0, .int .u64 0, .int .u64 0, .int .u64 0, .int .i64 0, .int .i64 0, .int .u64 0]) := Zr.of (v := .agg ⟨[.int .u64 0, .int .u32 0, .int .i64 0, .int .i64 0, .int .u64 0, .int .u64 0, .int .u64 0, .int .i64 0, .int .i64 0, .int .u64 0]⟩) (by kernel_rfl) rfl
instance : ZrV Try.prog 89 (.agg ⟨[.int .u64 0, .int .u32 0, .int .i64 0, .int .i64 0, .int .u64 0, .int .u64 0, .int .u64 0, .int .i64 0, .int .i64 0, .int .u64 0]⟩) := ZrV.of (by kernel_rfl)
instance : EqT Try.prog 89 ([.i .u64, .i .u32, .i .i64, .i .i64, .i .u64, .i .u64, .i .u64, .i .i64, .i .i64, .i .u64]) := ⟨by kernel_rfl, by kernel_rfl, by kernel_rfl⟩
instance : StT Try.prog 89 [(0, 7), (7, 1), (8, 1), (9, 1)] ([.int .u64 0, .int .u32 0, .int .i64 0, .int .i64 0, .int .u64 0, .int .u64 0, .int .u64 0, .int .i64 0, .int .i64 0, .int .u64 0]) := StT.of (by kernel_rfl) (by kernel_rfl)
instance : Sc Try.prog 94 := Sc.of (by kernel_rfl)
instance : Sz Try.prog 94 1 := Sz.of (by kernel_rfl)
instance : Zr Try.prog 94 ([.slice none 0 0]) := Zr.of (v := .slice none 0 0) (by kernel_rfl) rfl
instance : ZrV Try.prog 94 (.slice none 0 0) := ZrV.of (by kernel_rfl)
instance : SliceT Try.prog 94 3 := ⟨by kernel_rfl⟩
instance : Sc Try.prog 96 := Sc.of (by kernel_rfl)
instance : Sz Try.prog 96 1 := Sz.of (by kernel_rfl)
instance : Zr Try.prog 96 ([.nilFunc]) := Zr.of (v := .nilFunc) (by kernel_rfl) rfl
instance : ZrV Try.prog 96 (.nilFunc) := ZrV.of (by kernel_rfl)
instance : Sc Try.prog 100 := Sc.of (by kernel_rfl)
instance : Sz Try.prog 100 1 := Sz.of (by kernel_rfl)
instance : Zr Try.prog 100 ([.pointer none]) := Zr.of (v := .pointer none) (by kernel_rfl) rfl
instance : ZrV Try.prog 100 (.pointer none) := ZrV.of (by kernel_rfl)
instance : PtrT Try.prog 100 89 := ⟨by kernel_rfl⟩
instance : FldV Try.prog 25 0 0 3 := FldV.of (by kernel_rfl)
instance : FldT Try.prog 25 0 0 := FldT.of (by kernel_rfl)
instance : FldV Try.prog 25 1 1 22 := FldV.of (by kernel_rfl)
instance : FldT Try.prog 25 1 1 := FldT.of (by kernel_rfl)
instance : FldV Try.prog 25 2 2 22 := FldV.of (by kernel_rfl)
instance : FldT Try.prog 25 2 2 := FldT.of (by kernel_rfl)
instance : FldV Try.prog 25 3 3 23 := FldV.of (by kernel_rfl)
instance : FldT Try.prog 25 3 3 := FldT.of (by kernel_rfl)
instance : FldV Try.prog 25 4 4 3 := FldV.of (by kernel_rfl)
instance : FldT Try.prog 25 4 4 := FldT.of (by kernel_rfl)
instance : FldV Try.prog 25 5 5 3 := FldV.of (by kernel_rfl)
instance : FldT Try.prog 25 5 5 := FldT.of (by kernel_rfl)
instance : FldV Try.prog 25 6 6 3 := FldV.of (by kernel_rfl)
instance : FldT Try.prog 25 6 6 := FldT.of (by kernel_rfl)
instance : FldV Try.prog 25 7 7 22 := FldV.of (by kernel_rfl)
instance : FldT Try.prog 25 7 7 := FldT.of (by kernel_rfl)
instance : FldV Try.prog 25 8 8 22 := FldV.of (by kernel_rfl)
instance : FldT Try.prog 25 8 8 := FldT.of (by kernel_rfl)
instance : FldV Try.prog 27 0 0 3 := FldV.of (by kernel_rfl)
instance : FldT Try.prog 27 0 0 := FldT.of (by kernel_rfl)
instance : FldV Try.prog 27 1 1 3 := FldV.of (by kernel_rfl)
instance : FldT Try.prog 27 1 1 := FldT.of (by kernel_rfl)
instance : FldV Try.prog 30 0 0 27 := FldV.of (by kernel_rfl)
instance : FldT Try.prog 30 0 0 := FldT.of (by kernel_rfl)
instance : FldV Try.prog 30 1 2 28 := FldV.of (by kernel_rfl)
instance : FldT Try.prog 30 1 2 := FldT.of (by kernel_rfl)
instance : FldV Try.prog 30 2 3 28 := FldV.of (by kernel_rfl)
instance : FldT Try.prog 30 2 3 := FldT.of (by kernel_rfl)
instance : FldV Try.prog 30 3 4 22 := FldV.of (by kernel_rfl)
instance : FldT Try.prog 30 3 4 := FldT.of (by kernel_rfl)
instance : FldV Try.prog 30 4 5 22 := FldV.of (by kernel_rfl)
instance : FldT Try.prog 30 4 5 := FldT.of (by kernel_rfl)
instance : FldV Try.prog 50 0 0 22 := FldV.of (by kernel_rfl)
instance : FldT Try.prog 50 0 0 := FldT.of (by kernel_rfl)
instance : FldV Try.prog 50 1 1 3 := FldV.of (by kernel_rfl)
instance : FldT Try.prog 50 1 1 := FldT.of (by kernel_rfl)
instance : FldV Try.prog 50 2 2 22 := FldV.of (by kernel_rfl)
instance : FldT Try.prog 50 2 2 := FldT.of (by kernel_rfl)
instance : FldV Try.prog 50 3 3 22 := FldV.of (by kernel_rfl)
instance : FldT Try.prog 50 3 3 := FldT.of (by kernel_rfl)
instance : FldV Try.prog 50 4 4 22 := FldV.of (by kernel_rfl)
instance : FldT Try.prog 50 4 4 := FldT.of (by kernel_rfl)
instance : FldV Try.prog 50 5 5 23 := FldV.of (by kernel_rfl)
instance : FldT Try.prog 50 5 5 := FldT.of (by kernel_rfl)
instance : FldV Try.prog 50 6 6 3 := FldV.of (by kernel_rfl)
instance : FldT Try.prog 50 6 6 := FldT.of (by kernel_rfl)
instance : FldV Try.prog 50 7 7 3 := FldV.of (by kernel_rfl)
instance : FldT Try.prog 50 7 7 := FldT.of (by kernel_rfl)
instance : FldV Try.prog 50 8 8 3 := FldV.of (by kernel_rfl)
instance : FldT Try.prog 50 8 8 := FldT.of (by kernel_rfl)
instance : FldV Try.prog 50 9 9 22 := FldV.of (by kernel_rfl)
instance : FldT Try.prog 50 9 9 := FldT.of (by kernel_rfl)
instance : FldV Try.prog 50 11 11 3 := FldV.of (by kernel_rfl)
instance : FldT Try.prog 50 11 11 := FldT.of (by kernel_rfl)
instance : FldV Try.prog 50 12 12 33 := FldV.of (by kernel_rfl)
instance : FldT Try.prog 50 12 12 := FldT.of (by kernel_rfl)
instance : FldV Try.prog 53 0 0 22 := FldV.of (by kernel_rfl)
instance : FldT Try.prog 53 0 0 := FldT.of (by kernel_rfl)
instance : FldV Try.prog 53 1 1 23 := FldV.of (by kernel_rfl)
instance : FldT Try.prog 53 1 1 := FldT.of (by kernel_rfl)
instance : FldV Try.prog 53 2 2 3 := FldV.of (by kernel_rfl)
instance : FldT Try.prog 53 2 2 := FldT.of (by kernel_rfl)
instance : FldV Try.prog 53 3 3 3 := FldV.of (by kernel_rfl)
instance : FldT Try.prog 53 3 3 := FldT.of (by kernel_rfl)
instance : FldV Try.prog 53 4 4 22 := FldV.of (by kernel_rfl)
instance : FldT Try.prog 53 4 4 := FldT.of (by kernel_rfl)
instance : FldV Try.prog 53 5 5 22 := FldV.of (by kernel_rfl)
instance : FldT Try.prog 53 5 5 := FldT.of (by kernel_rfl)
instance : FldV Try.prog 53 6 6 22 := FldV.of (by kernel_rfl)
instance : FldT Try.prog 53 6 6 := FldT.of (by kernel_rfl)
instance : FldV Try.prog 61 0 0 22 := FldV.of (by kernel_rfl)
instance : FldT Try.prog 61 0 0 := FldT.of (by kernel_rfl)
instance : FldV Try.prog 61 1 1 22 := FldV.of (by kernel_rfl)
instance : FldT Try.prog 61 1 1 := FldT.of (by kernel_rfl)
instance : FldV Try.prog 61 2 2 22 := FldV.of (by kernel_rfl)
instance : FldT Try.prog 61 2 2 := FldT.of (by kernel_rfl)
instance : FldV Try.prog 61 3 3 22 := FldV.of (by kernel_rfl)
instance : FldT Try.prog 61 3 3 := FldT.of (by kernel_rfl)
instance : FldV Try.prog 67 0 0 30 := FldV.of (by kernel_rfl)
instance : FldT Try.prog 67 0 0 := FldT.of (by kernel_rfl)
instance : FldV Try.prog 79 0 0 32 := FldV.of (by kernel_rfl)
instance : FldT Try.prog 79 0 0 := FldT.of (by kernel_rfl)
instance : FldV Try.prog 79 1 1 47 := FldV.of (by kernel_rfl)
instance : FldT Try.prog 79 1 1 := FldT.of (by kernel_rfl)
instance : FldV Try.prog 89 0 0 53 := FldV.of (by kernel_rfl)
instance : FldT Try.prog 89 0 0 := FldT.of (by kernel_rfl)
instance : FldV Try.prog 89 1 7 3 := FldV.of (by kernel_rfl)
instance : FldT Try.prog 89 1 7 := FldT.of (by kernel_rfl)
instance : FldV Try.prog 89 2 8 3 := FldV.of (by kernel_rfl)
instance : FldT Try.prog 89 2 8 := FldT.of (by kernel_rfl)
instance : FldV Try.prog 89 3 9 22 := FldV.of (by kernel_rfl)
instance : FldT Try.prog 89 3 9 := FldT.of (by kernel_rfl)
instance : FnT Try.prog 11 := FnT.of (by kernel_rfl)
instance : FnT Try.prog 12 := FnT.of (by kernel_rfl)
instance : FnT Try.prog 13 := FnT.of (by kernel_rfl)
instance : FnT Try.prog 14 := FnT.of (by kernel_rfl)
instance : FnT Try.prog 15 := FnT.of (by kernel_rfl)
instance : FnT Try.prog 16 := FnT.of (by kernel_rfl)
instance : FnT Try.prog 17 := FnT.of (by kernel_rfl)
instance : FnT Try.prog 18 := FnT.of (by kernel_rfl)
instance : FnT Try.prog 19 := FnT.of (by kernel_rfl)
instance : FnT Try.prog 20 := FnT.of (by kernel_rfl)
instance : FnT Try.prog 21 := FnT.of (by kernel_rfl)
instance : FnT Try.prog 22 := FnT.of (by kernel_rfl)
instance : FnT Try.prog 23 := FnT.of (by kernel_rfl)
instance : FnT Try.prog 24 := FnT.of (by kernel_rfl)
instance : FnT Try.prog 25 := FnT.of (by kernel_rfl)
instance : FnT Try.prog 26 := FnT.of (by kernel_rfl)
instance : FnT Try.prog 27 := FnT.of (by kernel_rfl)
instance : FnT Try.prog 28 := FnT.of (by kernel_rfl)
instance : FnT Try.prog 29 := FnT.of (by kernel_rfl)
instance : FnT Try.prog 30 := FnT.of (by kernel_rfl)
instance : FnT Try.prog 31 := FnT.of (by kernel_rfl)
instance : FnT Try.prog 32 := FnT.of (by kernel_rfl)
instance : FnT Try.prog 33 := FnT.of (by kernel_rfl)
instance : FnT Try.prog 34 := FnT.of (by kernel_rfl)
instance : FnT Try.prog 35 := FnT.of (by kernel_rfl)
instance : FnT Try.prog 36 := FnT.of (by kernel_rfl)
instance : FnT Try.prog 37 := FnT.of (by kernel_rfl)
instance : FnT Try.prog 38 := FnT.of (by kernel_rfl)
instance : FnT Try.prog 39 := FnT.of (by kernel_rfl)
instance : FnT Try.prog 40 := FnT.of (by kernel_rfl)
instance : FnT Try.prog 41 := FnT.of (by kernel_rfl)
instance : FnT Try.prog 42 := FnT.of (by kernel_rfl)
instance : FnT Try.prog 43 := FnT.of (by kernel_rfl)
instance : FnT Try.prog 44 := FnT.of (by kernel_rfl)
instance : FnT Try.prog 45 := FnT.of (by kernel_rfl)
instance : FnT Try.prog 46 := FnT.of (by kernel_rfl)
instance : FnT Try.prog 47 := FnT.of (by kernel_rfl)
instance : FnT Try.prog 48 := FnT.of (by kernel_rfl)
instance : FnT Try.prog 49 := FnT.of (by kernel_rfl)
instance : FnT Try.prog 50 := FnT.of (by kernel_rfl)
instance : FnT Try.prog 51 := FnT.of (by kernel_rfl)
instance : FnT Try.prog 52 := FnT.of (by kernel_rfl)
instance : FnT Try.prog 53 := FnT.of (by kernel_rfl)
instance : FnT Try.prog 54 := FnT.of (by kernel_rfl)
instance : FnT Try.prog 55 := FnT.of (by kernel_rfl)
instance : FnT Try.prog 56 := FnT.of (by kernel_rfl)
instance : FnT Try.prog 57 := FnT.of (by kernel_rfl)
instance : FnT Try.prog 58 := FnT.of (by kernel_rfl)
instance : FnT Try.prog 60 := FnT.of (by kernel_rfl)
instance : FnT Try.prog 61 := FnT.of (by kernel_rfl)
instance : FnT Try.prog 62 := FnT.of (by kernel_rfl)
end Go.Proofs.Ytmfobfamdaajmaa
