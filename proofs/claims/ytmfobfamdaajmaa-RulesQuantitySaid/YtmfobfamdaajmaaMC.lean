/- MC: several texts in one. -/
import Derived.Test.YtmfobfamdaajmaaMA
import Derived.Test.YtmfobfamdaajmaaChecked
import Derived.Test.YtmfobfamdaajmaaMB
/- YtmfobfamdaajmaaTy: the facts on types and functions that V's rules ask for: written by ty.py. -/
namespace Go.Proofs.Ytmfobfamdaajmaa
open Go.V
instance : Sc Try.prog 3 := Sc.of (by kernel_rfl)
instance : Sz Try.prog 3 1 := Sz.of (by kernel_rfl)
instance : Zr Try.prog 3 ([.int .i64 0]) := Zr.of (v := .int .i64 0) (by kernel_rfl) rfl
instance : ZrV Try.prog 3 (.int .i64 0) := ZrV.of (by kernel_rfl)
instance : El Try.prog 3 1 8 ([.int .i64 0]) := El.of (v := .int .i64 0) (by kernel_rfl) (by kernel_rfl) rfl rfl
instance : IntT Try.prog 3 .i64 := ⟨by kernel_rfl⟩
instance : Sc Try.prog 4 := Sc.of (by kernel_rfl)
instance : Sz Try.prog 4 1 := Sz.of (by kernel_rfl)
instance : Zr Try.prog 4 ([.bool false]) := Zr.of (v := .bool false) (by kernel_rfl) rfl
instance : ZrV Try.prog 4 (.bool false) := ZrV.of (by kernel_rfl)
instance : BoolT Try.prog 4 := ⟨by kernel_rfl⟩
instance : Sc Try.prog 22 := Sc.of (by kernel_rfl)
instance : Sz Try.prog 22 1 := Sz.of (by kernel_rfl)
instance : Zr Try.prog 22 ([.int .u64 0]) := Zr.of (v := .int .u64 0) (by kernel_rfl) rfl
instance : ZrV Try.prog 22 (.int .u64 0) := ZrV.of (by kernel_rfl)
instance : IntT Try.prog 22 .u64 := ⟨by kernel_rfl⟩
instance : Sc Try.prog 23 := Sc.of (by kernel_rfl)
instance : Sz Try.prog 23 1 := Sz.of (by kernel_rfl)
instance : Zr Try.prog 23 ([.int .u32 0]) := Zr.of (v := .int .u32 0) (by kernel_rfl) rfl
instance : ZrV Try.prog 23 (.int .u32 0) := ZrV.of (by kernel_rfl)
instance : IntT Try.prog 23 .u32 := ⟨by kernel_rfl⟩
instance : Ag Try.prog 25 9 := Ag.of (by kernel_rfl)
instance : Sz Try.prog 25 9 := Sz.of (by kernel_rfl)
instance : Zr Try.prog 25 ([.int .i64 0, .int .u64 0, .int .u64 0, .int .u32 0, .int .i64 0, .int .i64 0, .int .i64 0, .int .u64 0, .int .u64 0]) := Zr.of (v := .agg ⟨[.int .i64 0, .int .u64 0, .int .u64 0, .int .u32 0, .int .i64 0, .int .i64 0, .int .i64 0, .int .u64 0, .int .u64 0]⟩) (by kernel_rfl) rfl
instance : ZrV Try.prog 25 (.agg ⟨[.int .i64 0, .int .u64 0, .int .u64 0, .int .u32 0, .int .i64 0, .int .i64 0, .int .i64 0, .int .u64 0, .int .u64 0]⟩) := ZrV.of (by kernel_rfl)
instance : EqT Try.prog 25 ([.i .i64, .i .u64, .i .u64, .i .u32, .i .i64, .i .i64, .i .i64, .i .u64, .i .u64]) := ⟨by kernel_rfl, by kernel_rfl, by kernel_rfl⟩
instance : StT Try.prog 25 [(0, 1), (1, 1), (2, 1), (3, 1), (4, 1), (5, 1), (6, 1), (7, 1), (8, 1)] ([.int .i64 0, .int .u64 0, .int .u64 0, .int .u32 0, .int .i64 0, .int .i64 0, .int .i64 0, .int .u64 0, .int .u64 0]) := StT.of (by kernel_rfl) (by kernel_rfl)
instance : El Try.prog 25 9 72 ([.int .i64 0, .int .u64 0, .int .u64 0, .int .u32 0, .int .i64 0, .int .i64 0, .int .i64 0, .int .u64 0, .int .u64 0]) := El.of (v := .agg ⟨[.int .i64 0, .int .u64 0, .int .u64 0, .int .u32 0, .int .i64 0, .int .i64 0, .int .i64 0, .int .u64 0, .int .u64 0]⟩) (by kernel_rfl) (by kernel_rfl) rfl rfl
instance : Ag Try.prog 27 2 := Ag.of (by kernel_rfl)
instance : Sz Try.prog 27 2 := Sz.of (by kernel_rfl)
instance : Zr Try.prog 27 ([.int .i64 0, .int .i64 0]) := Zr.of (v := .agg ⟨[.int .i64 0, .int .i64 0]⟩) (by kernel_rfl) rfl
instance : ZrV Try.prog 27 (.agg ⟨[.int .i64 0, .int .i64 0]⟩) := ZrV.of (by kernel_rfl)
instance : EqT Try.prog 27 ([.i .i64, .i .i64]) := ⟨by kernel_rfl, by kernel_rfl, by kernel_rfl⟩
instance : StT Try.prog 27 [(0, 1), (1, 1)] ([.int .i64 0, .int .i64 0]) := StT.of (by kernel_rfl) (by kernel_rfl)
instance : Sc Try.prog 28 := Sc.of (by kernel_rfl)
instance : Sz Try.prog 28 1 := Sz.of (by kernel_rfl)
instance : Zr Try.prog 28 ([.slice none 0 0]) := Zr.of (v := .slice none 0 0) (by kernel_rfl) rfl
instance : ZrV Try.prog 28 (.slice none 0 0) := ZrV.of (by kernel_rfl)
instance : El Try.prog 28 1 24 ([.slice none 0 0]) := El.of (v := .slice none 0 0) (by kernel_rfl) (by kernel_rfl) rfl rfl
instance : SliceT Try.prog 28 53 := ⟨by kernel_rfl⟩
instance : Ag Try.prog 30 6 := Ag.of (by kernel_rfl)
instance : Sz Try.prog 30 6 := Sz.of (by kernel_rfl)
instance : Zr Try.prog 30 ([.int .i64 0, .int .i64 0, .slice none 0 0, .slice none 0 0, .int .u64 0, .int .u64 0]) := Zr.of (v := .agg ⟨[.int .i64 0, .int .i64 0, .slice none 0 0, .slice none 0 0, .int .u64 0, .int .u64 0]⟩) (by kernel_rfl) rfl
instance : ZrV Try.prog 30 (.agg ⟨[.int .i64 0, .int .i64 0, .slice none 0 0, .slice none 0 0, .int .u64 0, .int .u64 0]⟩) := ZrV.of (by kernel_rfl)
instance : StT Try.prog 30 [(0, 2), (2, 1), (3, 1), (4, 1), (5, 1)] ([.int .i64 0, .int .i64 0, .slice none 0 0, .slice none 0 0, .int .u64 0, .int .u64 0]) := StT.of (by kernel_rfl) (by kernel_rfl)
instance : Sc Try.prog 32 := Sc.of (by kernel_rfl)
instance : Sz Try.prog 32 1 := Sz.of (by kernel_rfl)
instance : Zr Try.prog 32 ([.pointer none]) := Zr.of (v := .pointer none) (by kernel_rfl) rfl
instance : ZrV Try.prog 32 (.pointer none) := ZrV.of (by kernel_rfl)
instance : PtrT Try.prog 32 67 := ⟨by kernel_rfl⟩
instance : Sc Try.prog 33 := Sc.of (by kernel_rfl)
instance : Sz Try.prog 33 1 := Sz.of (by kernel_rfl)
instance : Zr Try.prog 33 ([.int .i64 0]) := Zr.of (v := .int .i64 0) (by kernel_rfl) rfl
instance : ZrV Try.prog 33 (.int .i64 0) := ZrV.of (by kernel_rfl)
instance : IntT Try.prog 33 .i64 := ⟨by kernel_rfl⟩
instance : Sc Try.prog 44 := Sc.of (by kernel_rfl)
instance : Sz Try.prog 44 1 := Sz.of (by kernel_rfl)
instance : Zr Try.prog 44 ([.slice none 0 0]) := Zr.of (v := .slice none 0 0) (by kernel_rfl) rfl
instance : ZrV Try.prog 44 (.slice none 0 0) := ZrV.of (by kernel_rfl)
instance : SliceT Try.prog 44 25 := ⟨by kernel_rfl⟩
instance : Sc Try.prog 47 := Sc.of (by kernel_rfl)
instance : Sz Try.prog 47 1 := Sz.of (by kernel_rfl)
instance : Zr Try.prog 47 ([.slice none 0 0]) := Zr.of (v := .slice none 0 0) (by kernel_rfl) rfl
instance : ZrV Try.prog 47 (.slice none 0 0) := ZrV.of (by kernel_rfl)
instance : SliceT Try.prog 47 50 := ⟨by kernel_rfl⟩
instance : Ag Try.prog 50 13 := Ag.of (by kernel_rfl)
instance : Sz Try.prog 50 13 := Sz.of (by kernel_rfl)
instance : Zr Try.prog 50 ([.int .u64 0, .int .i64 0, .int .u64 0, .int .u64 0, .int .u64 0, .int .u32 0, .int .i64 0, .int .i64 0, .int .i64 0, .int .u64 0, .int .u64 0, .int .i64 0, .int .i64 0]) := Zr.of (v := .agg ⟨[.int .u64 0, .int .i64 0, .int .u64 0, .int .u64 0, .int .u64 0, .int .u32 0, .int .i64 0, .int .i64 0, .int .i64 0, .int .u64 0, .int .u64 0, .int .i64 0, .int .i64 0]⟩) (by kernel_rfl) rfl
instance : ZrV Try.prog 50 (.agg ⟨[.int .u64 0, .int .i64 0, .int .u64 0, .int .u64 0, .int .u64 0, .int .u32 0, .int .i64 0, .int .i64 0, .int .i64 0, .int .u64 0, .int .u64 0, .int .i64 0, .int .i64 0]⟩) := ZrV.of (by kernel_rfl)
instance : EqT Try.prog 50 ([.i .u64, .i .i64, .i .u64, .i .u64, .i .u64, .i .u32, .i .i64, .i .i64, .i .i64, .i .u64, .i .u64, .i .i64, .i .i64]) := ⟨by kernel_rfl, by kernel_rfl, by kernel_rfl⟩
instance : StT Try.prog 50 [(0, 1), (1, 1), (2, 1), (3, 1), (4, 1), (5, 1), (6, 1), (7, 1), (8, 1), (9, 1), (10, 1), (11, 1), (12, 1)] ([.int .u64 0, .int .i64 0, .int .u64 0, .int .u64 0, .int .u64 0, .int .u32 0, .int .i64 0, .int .i64 0, .int .i64 0, .int .u64 0, .int .u64 0, .int .i64 0, .int .i64 0]) := StT.of (by kernel_rfl) (by kernel_rfl)
instance : El Try.prog 50 13 104 ([.int .u64 0, .int .i64 0, .int .u64 0, .int .u64 0, .int .u64 0, .int .u32 0, .int .i64 0, .int .i64 0, .int .i64 0, .int .u64 0, .int .u64 0, .int .i64 0, .int .i64 0]) := El.of (v := .agg ⟨[.int .u64 0, .int .i64 0, .int .u64 0, .int .u64 0, .int .u64 0, .int .u32 0, .int .i64 0, .int .i64 0, .int .i64 0, .int .u64 0, .int .u64 0, .int .i64 0, .int .i64 0]⟩) (by kernel_rfl) (by kernel_rfl) rfl rfl
instance : Ag Try.prog 53 7 := Ag.of (by kernel_rfl)
instance : Sz Try.prog 53 7 := Sz.of (by kernel_rfl)
instance : Zr Try.prog 53 ([.int .u64 0, .int .u32 0, .int .i64 0, .int .i64 0, .int .u64 0, .int .u64 0, .int .u64 0]) := Zr.of (v := .agg ⟨[.int .u64 0, .int .u32 0, .int .i64 0, .int .i64 0, .int .u64 0, .int .u64 0, .int .u64 0]⟩) (by kernel_rfl) rfl
instance : ZrV Try.prog 53 (.agg ⟨[.int .u64 0, .int .u32 0, .int .i64 0, .int .i64 0, .int .u64 0, .int .u64 0, .int .u64 0]⟩) := ZrV.of (by kernel_rfl)
instance : EqT Try.prog 53 ([.i .u64, .i .u32, .i .i64, .i .i64, .i .u64, .i .u64, .i .u64]) := ⟨by kernel_rfl, by kernel_rfl, by kernel_rfl⟩
instance : StT Try.prog 53 [(0, 1), (1, 1), (2, 1), (3, 1), (4, 1), (5, 1), (6, 1)] ([.int .u64 0, .int .u32 0, .int .i64 0, .int .i64 0, .int .u64 0, .int .u64 0, .int .u64 0]) := StT.of (by kernel_rfl) (by kernel_rfl)
instance : El Try.prog 53 7 56 ([.int .u64 0, .int .u32 0, .int .i64 0, .int .i64 0, .int .u64 0, .int .u64 0, .int .u64 0]) := El.of (v := .agg ⟨[.int .u64 0, .int .u32 0, .int .i64 0, .int .i64 0, .int .u64 0, .int .u64 0, .int .u64 0]⟩) (by kernel_rfl) (by kernel_rfl) rfl rfl
instance : Sc Try.prog 55 := Sc.of (by kernel_rfl)
instance : Sz Try.prog 55 1 := Sz.of (by kernel_rfl)
instance : Zr Try.prog 55 ([.slice none 0 0]) := Zr.of (v := .slice none 0 0) (by kernel_rfl) rfl
instance : ZrV Try.prog 55 (.slice none 0 0) := ZrV.of (by kernel_rfl)
instance : SliceT Try.prog 55 61 := ⟨by kernel_rfl⟩
instance : Ag Try.prog 61 5 := Ag.of (by kernel_rfl)
instance : Sz Try.prog 61 5 := Sz.of (by kernel_rfl)
instance : Zr Try.prog 61 ([.int .u64 0, .int .u64 0, .int .u64 0, .int .u64 0, .int .i64 0]) := Zr.of (v := .agg ⟨[.int .u64 0, .int .u64 0, .int .u64 0, .int .u64 0, .int .i64 0]⟩) (by kernel_rfl) rfl
instance : ZrV Try.prog 61 (.agg ⟨[.int .u64 0, .int .u64 0, .int .u64 0, .int .u64 0, .int .i64 0]⟩) := ZrV.of (by kernel_rfl)
instance : EqT Try.prog 61 ([.i .u64, .i .u64, .i .u64, .i .u64, .i .i64]) := ⟨by kernel_rfl, by kernel_rfl, by kernel_rfl⟩
instance : StT Try.prog 61 [(0, 1), (1, 1), (2, 1), (3, 1), (4, 1)] ([.int .u64 0, .int .u64 0, .int .u64 0, .int .u64 0, .int .i64 0]) := StT.of (by kernel_rfl) (by kernel_rfl)
instance : El Try.prog 61 5 40 ([.int .u64 0, .int .u64 0, .int .u64 0, .int .u64 0, .int .i64 0]) := El.of (v := .agg ⟨[.int .u64 0, .int .u64 0, .int .u64 0, .int .u64 0, .int .i64 0]⟩) (by kernel_rfl) (by kernel_rfl) rfl rfl
instance : Ag Try.prog 67 6 := Ag.of (by kernel_rfl)
instance : Sz Try.prog 67 6 := Sz.of (by kernel_rfl)
instance : Zr Try.prog 67 ([.int .i64 0, .int .i64 0, .slice none 0 0, .slice none 0 0, .int .u64 0, .int .u64 0]) := Zr.of (v := .agg ⟨[.int .i64 0, .int .i64 0, .slice none 0 0, .slice none 0 0, .int .u64 0, .int .u64 0]⟩) (by kernel_rfl) rfl
instance : ZrV Try.prog 67 (.agg ⟨[.int .i64 0, .int .i64 0, .slice none 0 0, .slice none 0 0, .int .u64 0, .int .u64 0]⟩) := ZrV.of (by kernel_rfl)
instance : StT Try.prog 67 [(0, 6)] ([.int .i64 0, .int .i64 0, .slice none 0 0, .slice none 0 0, .int .u64 0, .int .u64 0]) := StT.of (by kernel_rfl) (by kernel_rfl)
instance : Sc Try.prog 69 := Sc.of (by kernel_rfl)
instance : Sz Try.prog 69 1 := Sz.of (by kernel_rfl)
instance : Zr Try.prog 69 ([.map none]) := Zr.of (v := .map none) (by kernel_rfl) rfl
instance : ZrV Try.prog 69 (.map none) := ZrV.of (by kernel_rfl)
instance : MapT Try.prog 69 22 4 := ⟨by kernel_rfl⟩
instance : Sc Try.prog 70 := Sc.of (by kernel_rfl)
instance : Sz Try.prog 70 1 := Sz.of (by kernel_rfl)
instance : Zr Try.prog 70 ([.slice none 0 0]) := Zr.of (v := .slice none 0 0) (by kernel_rfl) rfl
instance : ZrV Try.prog 70 (.slice none 0 0) := ZrV.of (by kernel_rfl)
instance : SliceT Try.prog 70 28 := ⟨by kernel_rfl⟩
instance : Sc Try.prog 77 := Sc.of (by kernel_rfl)
instance : Sz Try.prog 77 1 := Sz.of (by kernel_rfl)
instance : Zr Try.prog 77 ([.pointer none]) := Zr.of (v := .pointer none) (by kernel_rfl) rfl
instance : ZrV Try.prog 77 (.pointer none) := ZrV.of (by kernel_rfl)
instance : PtrT Try.prog 77 79 := ⟨by kernel_rfl⟩
instance : Ag Try.prog 79 2 := Ag.of (by kernel_rfl)
instance : Sz Try.prog 79 2 := Sz.of (by kernel_rfl)
instance : Zr Try.prog 79 ([.pointer none, .slice none 0 0]) := Zr.of (v := .agg ⟨[.pointer none, .slice none 0 0]⟩) (by kernel_rfl) rfl
instance : ZrV Try.prog 79 (.agg ⟨[.pointer none, .slice none 0 0]⟩) := ZrV.of (by kernel_rfl)
instance : StT Try.prog 79 [(0, 1), (1, 1)] ([.pointer none, .slice none 0 0]) := StT.of (by kernel_rfl) (by kernel_rfl)
instance : Sc Try.prog 80 := Sc.of (by kernel_rfl)
instance : Sz Try.prog 80 1 := Sz.of (by kernel_rfl)
instance : Zr Try.prog 80 ([.pointer none]) := Zr.of (v := .pointer none) (by kernel_rfl) rfl
instance : ZrV Try.prog 80 (.pointer none) := ZrV.of (by kernel_rfl)
instance : PtrT Try.prog 80 53 := ⟨by kernel_rfl⟩
instance : Sc Try.prog 83 := Sc.of (by kernel_rfl)
instance : Sz Try.prog 83 1 := Sz.of (by kernel_rfl)
instance : Zr Try.prog 83 ([.pointer none]) := Zr.of (v := .pointer none) (by kernel_rfl) rfl
instance : ZrV Try.prog 83 (.pointer none) := ZrV.of (by kernel_rfl)
instance : PtrT Try.prog 83 28 := ⟨by kernel_rfl⟩
instance : Ag Try.prog 89 10 := Ag.of (by kernel_rfl)
instance : Sz Try.prog 89 10 := Sz.of (by kernel_rfl)
instance : Zr Try.prog 89 ([.int .u64 0, .int .u32 0, .int .i64 0, .int .i64 0, .int .u64 0, .int .u64 0, .int .u64 0, .int .i64 0, .int .i64 0, .int .u64 0]) := Zr.of (v := .agg ⟨[.int .u64 0, .int .u32 0, .int .i64 0, .int .i64 0, .int .u64 0, .int .u64 0, .int .u64 0, .int .i64 0, .int .i64 0, .int .u64 0]⟩) (by kernel_rfl) rfl
instance : ZrV Try.prog 89 (.agg ⟨[.int .u64 0, .int .u32 0, .int .i64 0, .int .i64 0, .int .u64 0, .int .u64 0, .int .u64 0, .int .i64 0, .int .i64 0, .int .u64 0]⟩) := ZrV.of (by kernel_rfl)
instance : EqT Try.prog 89 ([.i .u64, .i .u32, .i .i64, .i .i64, .i .u64, .i .u64, .i .u64, .i .i64, .i .i64, .i .u64]) := ⟨by kernel_rfl, by kernel_rfl, by kernel_rfl⟩
instance : StT Try.prog 89 [(0, 7), (7, 1), (8, 1), (9, 1)] ([.int .u64 0, .int .u32 0, .int .i64 0, .int .i64 0, .int .u64 0, .int .u64 0, .int .u64 0, .int .i64 0, .int .i64 0, .int .u64 0]) := StT.of (by kernel_rfl) (by kernel_rfl)
instance : Sc Try.prog 94 := Sc.of (by kernel_rfl)
instance : Sz Try.prog 94 1 := Sz.of (by kernel_rfl)
instance : Zr Try.prog 94 ([.slice none 0 0]) := Zr.of (v := .slice none 0 0) (by kernel_rfl) rfl
instance : ZrV Try.prog 94 (.slice none 0 0) := ZrV.of (by kernel_rfl)
instance : SliceT Try.prog 94 3 := ⟨by kernel_rfl⟩
instance : Sc Try.prog 96 := Sc.of (by kernel_rfl)
instance : Sz Try.prog 96 1 := Sz.of (by kernel_rfl)
instance : Zr Try.prog 96 ([.nilFunc]) := Zr.of (v := .nilFunc) (by kernel_rfl) rfl
instance : ZrV Try.prog 96 (.nilFunc) := ZrV.of (by kernel_rfl)
instance : Sc Try.prog 100 := Sc.of (by kernel_rfl)
instance : Sz Try.prog 100 1 := Sz.of (by kernel_rfl)
instance : Zr Try.prog 100 ([.pointer none]) := Zr.of (v := .pointer none) (by kernel_rfl) rfl
instance : ZrV Try.prog 100 (.pointer none) := ZrV.of (by kernel_rfl)
instance : PtrT Try.prog 100 89 := ⟨by kernel_rfl⟩
instance : FldV Try.prog 25 0 0 3 := FldV.of (by kernel_rfl)
instance : FldT Try.prog 25 0 0 := FldT.of (by kernel_rfl)
instance : FldV Try.prog 25 1 1 22 := FldV.of (by kernel_rfl)
instance : FldT Try.prog 25 1 1 := FldT.of (by kernel_rfl)
instance : FldV Try.prog 25 2 2 22 := FldV.of (by kernel_rfl)
instance : FldT Try.prog 25 2 2 := FldT.of (by kernel_rfl)
instance : FldV Try.prog 25 3 3 23 := FldV.of (by kernel_rfl)
instance : FldT Try.prog 25 3 3 := FldT.of (by kernel_rfl)
instance : FldV Try.prog 25 4 4 3 := FldV.of (by kernel_rfl)
instance : FldT Try.prog 25 4 4 := FldT.of (by kernel_rfl)
instance : FldV Try.prog 25 5 5 3 := FldV.of (by kernel_rfl)
instance : FldT Try.prog 25 5 5 := FldT.of (by kernel_rfl)
instance : FldV Try.prog 25 6 6 3 := FldV.of (by kernel_rfl)
instance : FldT Try.prog 25 6 6 := FldT.of (by kernel_rfl)
instance : FldV Try.prog 25 7 7 22 := FldV.of (by kernel_rfl)
instance : FldT Try.prog 25 7 7 := FldT.of (by kernel_rfl)
instance : FldV Try.prog 25 8 8 22 := FldV.of (by kernel_rfl)
instance : FldT Try.prog 25 8 8 := FldT.of (by kernel_rfl)
instance : FldV Try.prog 27 0 0 3 := FldV.of (by kernel_rfl)
instance : FldT Try.prog 27 0 0 := FldT.of (by kernel_rfl)
instance : FldV Try.prog 27 1 1 3 := FldV.of (by kernel_rfl)
instance : FldT Try.prog 27 1 1 := FldT.of (by kernel_rfl)
instance : FldV Try.prog 30 0 0 27 := FldV.of (by kernel_rfl)
instance : FldT Try.prog 30 0 0 := FldT.of (by kernel_rfl)
instance : FldV Try.prog 30 1 2 28 := FldV.of (by kernel_rfl)
instance : FldT Try.prog 30 1 2 := FldT.of (by kernel_rfl)
instance : FldV Try.prog 30 2 3 28 := FldV.of (by kernel_rfl)
instance : FldT Try.prog 30 2 3 := FldT.of (by kernel_rfl)
instance : FldV Try.prog 30 3 4 22 := FldV.of (by kernel_rfl)
instance : FldT Try.prog 30 3 4 := FldT.of (by kernel_rfl)
instance : FldV Try.prog 30 4 5 22 := FldV.of (by kernel_rfl)
instance : FldT Try.prog 30 4 5 := FldT.of (by kernel_rfl)
instance : FldV Try.prog 50 0 0 22 := FldV.of (by kernel_rfl)
instance : FldT Try.prog 50 0 0 := FldT.of (by kernel_rfl)
instance : FldV Try.prog 50 1 1 3 := FldV.of (by kernel_rfl)
instance : FldT Try.prog 50 1 1 := FldT.of (by kernel_rfl)
instance : FldV Try.prog 50 2 2 22 := FldV.of (by kernel_rfl)
instance : FldT Try.prog 50 2 2 := FldT.of (by kernel_rfl)
instance : FldV Try.prog 50 3 3 22 := FldV.of (by kernel_rfl)
instance : FldT Try.prog 50 3 3 := FldT.of (by kernel_rfl)
instance : FldV Try.prog 50 4 4 22 := FldV.of (by kernel_rfl)
instance : FldT Try.prog 50 4 4 := FldT.of (by kernel_rfl)
instance : FldV Try.prog 50 5 5 23 := FldV.of (by kernel_rfl)
instance : FldT Try.prog 50 5 5 := FldT.of (by kernel_rfl)
instance : FldV Try.prog 50 6 6 3 := FldV.of (by kernel_rfl)
instance : FldT Try.prog 50 6 6 := FldT.of (by kernel_rfl)
instance : FldV Try.prog 50 7 7 3 := FldV.of (by kernel_rfl)
instance : FldT Try.prog 50 7 7 := FldT.of (by kernel_rfl)
instance : FldV Try.prog 50 8 8 3 := FldV.of (by kernel_rfl)
instance : FldT Try.prog 50 8 8 := FldT.of (by kernel_rfl)
instance : FldV Try.prog 50 9 9 22 := FldV.of (by kernel_rfl)
instance : FldT Try.prog 50 9 9 := FldT.of (by kernel_rfl)
instance : FldV Try.prog 50 11 11 3 := FldV.of (by kernel_rfl)
instance : FldT Try.prog 50 11 11 := FldT.of (by kernel_rfl)
instance : FldV Try.prog 50 12 12 33 := FldV.of (by kernel_rfl)
instance : FldT Try.prog 50 12 12 := FldT.of (by kernel_rfl)
instance : FldV Try.prog 53 0 0 22 := FldV.of (by kernel_rfl)
instance : FldT Try.prog 53 0 0 := FldT.of (by kernel_rfl)
instance : FldV Try.prog 53 1 1 23 := FldV.of (by kernel_rfl)
instance : FldT Try.prog 53 1 1 := FldT.of (by kernel_rfl)
instance : FldV Try.prog 53 2 2 3 := FldV.of (by kernel_rfl)
instance : FldT Try.prog 53 2 2 := FldT.of (by kernel_rfl)
instance : FldV Try.prog 53 3 3 3 := FldV.of (by kernel_rfl)
instance : FldT Try.prog 53 3 3 := FldT.of (by kernel_rfl)
instance : FldV Try.prog 53 4 4 22 := FldV.of (by kernel_rfl)
instance : FldT Try.prog 53 4 4 := FldT.of (by kernel_rfl)
instance : FldV Try.prog 53 5 5 22 := FldV.of (by kernel_rfl)
instance : FldT Try.prog 53 5 5 := FldT.of (by kernel_rfl)
instance : FldV Try.prog 53 6 6 22 := FldV.of (by kernel_rfl)
instance : FldT Try.prog 53 6 6 := FldT.of (by kernel_rfl)
instance : FldV Try.prog 61 0 0 22 := FldV.of (by kernel_rfl)
instance : FldT Try.prog 61 0 0 := FldT.of (by kernel_rfl)
instance : FldV Try.prog 61 1 1 22 := FldV.of (by kernel_rfl)
instance : FldT Try.prog 61 1 1 := FldT.of (by kernel_rfl)
instance : FldV Try.prog 61 2 2 22 := FldV.of (by kernel_rfl)
instance : FldT Try.prog 61 2 2 := FldT.of (by kernel_rfl)
instance : FldV Try.prog 61 3 3 22 := FldV.of (by kernel_rfl)
instance : FldT Try.prog 61 3 3 := FldT.of (by kernel_rfl)
instance : FldV Try.prog 67 0 0 30 := FldV.of (by kernel_rfl)
instance : FldT Try.prog 67 0 0 := FldT.of (by kernel_rfl)
instance : FldV Try.prog 79 0 0 32 := FldV.of (by kernel_rfl)
instance : FldT Try.prog 79 0 0 := FldT.of (by kernel_rfl)
instance : FldV Try.prog 79 1 1 47 := FldV.of (by kernel_rfl)
instance : FldT Try.prog 79 1 1 := FldT.of (by kernel_rfl)
instance : FldV Try.prog 89 0 0 53 := FldV.of (by kernel_rfl)
instance : FldT Try.prog 89 0 0 := FldT.of (by kernel_rfl)
instance : FldV Try.prog 89 1 7 3 := FldV.of (by kernel_rfl)
instance : FldT Try.prog 89 1 7 := FldT.of (by kernel_rfl)
instance : FldV Try.prog 89 2 8 3 := FldV.of (by kernel_rfl)
instance : FldT Try.prog 89 2 8 := FldT.of (by kernel_rfl)
instance : FldV Try.prog 89 3 9 22 := FldV.of (by kernel_rfl)
instance : FldT Try.prog 89 3 9 := FldT.of (by kernel_rfl)
instance : FnT Try.prog 11 := FnT.of (by kernel_rfl)
instance : FnT Try.prog 12 := FnT.of (by kernel_rfl)
instance : FnT Try.prog 13 := FnT.of (by kernel_rfl)
instance : FnT Try.prog 14 := FnT.of (by kernel_rfl)
instance : FnT Try.prog 15 := FnT.of (by kernel_rfl)
instance : FnT Try.prog 16 := FnT.of (by kernel_rfl)
instance : FnT Try.prog 17 := FnT.of (by kernel_rfl)
instance : FnT Try.prog 18 := FnT.of (by kernel_rfl)
instance : FnT Try.prog 19 := FnT.of (by kernel_rfl)
instance : FnT Try.prog 20 := FnT.of (by kernel_rfl)
instance : FnT Try.prog 21 := FnT.of (by kernel_rfl)
instance : FnT Try.prog 22 := FnT.of (by kernel_rfl)
instance : FnT Try.prog 23 := FnT.of (by kernel_rfl)
instance : FnT Try.prog 24 := FnT.of (by kernel_rfl)
instance : FnT Try.prog 25 := FnT.of (by kernel_rfl)
instance : FnT Try.prog 26 := FnT.of (by kernel_rfl)
instance : FnT Try.prog 27 := FnT.of (by kernel_rfl)
instance : FnT Try.prog 28 := FnT.of (by kernel_rfl)
instance : FnT Try.prog 29 := FnT.of (by kernel_rfl)
instance : FnT Try.prog 30 := FnT.of (by kernel_rfl)
instance : FnT Try.prog 31 := FnT.of (by kernel_rfl)
instance : FnT Try.prog 32 := FnT.of (by kernel_rfl)
instance : FnT Try.prog 33 := FnT.of (by kernel_rfl)
instance : FnT Try.prog 34 := FnT.of (by kernel_rfl)
instance : FnT Try.prog 35 := FnT.of (by kernel_rfl)
instance : FnT Try.prog 36 := FnT.of (by kernel_rfl)
instance : FnT Try.prog 37 := FnT.of (by kernel_rfl)
instance : FnT Try.prog 38 := FnT.of (by kernel_rfl)
instance : FnT Try.prog 39 := FnT.of (by kernel_rfl)
instance : FnT Try.prog 40 := FnT.of (by kernel_rfl)
instance : FnT Try.prog 41 := FnT.of (by kernel_rfl)
instance : FnT Try.prog 42 := FnT.of (by kernel_rfl)
instance : FnT Try.prog 43 := FnT.of (by kernel_rfl)
instance : FnT Try.prog 44 := FnT.of (by kernel_rfl)
instance : FnT Try.prog 45 := FnT.of (by kernel_rfl)
instance : FnT Try.prog 46 := FnT.of (by kernel_rfl)
instance : FnT Try.prog 47 := FnT.of (by kernel_rfl)
instance : FnT Try.prog 48 := FnT.of (by kernel_rfl)
instance : FnT Try.prog 49 := FnT.of (by kernel_rfl)
instance : FnT Try.prog 50 := FnT.of (by kernel_rfl)
instance : FnT Try.prog 51 := FnT.of (by kernel_rfl)
instance : FnT Try.prog 52 := FnT.of (by kernel_rfl)
instance : FnT Try.prog 53 := FnT.of (by kernel_rfl)
instance : FnT Try.prog 54 := FnT.of (by kernel_rfl)
instance : FnT Try.prog 55 := FnT.of (by kernel_rfl)
instance : FnT Try.prog 56 := FnT.of (by kernel_rfl)
instance : FnT Try.prog 57 := FnT.of (by kernel_rfl)
instance : FnT Try.prog 58 := FnT.of (by kernel_rfl)
instance : FnT Try.prog 60 := FnT.of (by kernel_rfl)
instance : FnT Try.prog 61 := FnT.of (by kernel_rfl)
instance : FnT Try.prog 62 := FnT.of (by kernel_rfl)
end Go.Proofs.Ytmfobfamdaajmaa

/- rules.Check and the document's: what a command is refused for, by itself. -/
namespace Go.Proofs.Ytmfobfamdaajmaa
open Go.V
set_option linter.unusedVariables false
set_option linter.unusedSimpArgs false

/-- a command's cells -/
def ccells (k id tg mb sd ty pr q pk : Int) : List Value := [.int .i64 k, .int .u64 id, .int .u64 tg, .int .u32 mb, .int .i64 sd, .int .i64 ty, .int .i64 pr, .int .u64 q, .int .u64 pk]
def szd (id pr q pk ty : Int) : Int :=
  if pr < 0 ∨ 262144 ≤ pr ∨ ty = 2 ∧ pr ≠ 0 then 94
  else if q < 1 ∨ 4294967295 < q then 95
  else if q < pk ∨ pk ≠ 0 ∧ (¬ (ty = 1 ∨ ty = 5) ∨ IntKind.u64.wrap (256 * pk) < q) then 96
  else if id = 0 then 97 else 0
def chk (k id sd ty pr q pk : Int) : Int :=
  if k = 1 then (if sd ≠ 1 ∧ sd ≠ 2 then 92 else if ty < 1 ∨ 5 < ty then 93 else szd id pr q pk ty)
  else if k = 3 then szd id pr q pk 1 else if k = 2 then 0 else 90
theorem configured_ok (w : World) (c m : Int) : Is Try.prog 28 [.agg ⟨[.int .i64 c, .int .i64 m]⟩] w (.bool (decide (1 ≤ c ∧ c ≤ 4096 ∧ 0 ≤ m ∧ m ≤ 3))) := by
  refine Does.pure (Does.of (n := 21) Try.func28 rfl rfl rfl rfl ?_)
  refine .seq ((.region (.nw (.box rfl rfl) fun b1 => (.v (.assign rfl) (.nil ?_)))))
  refine .seq ((.region (.v (.fieldAddr rfl) (.v (.load rfl (.one rfl)) (.v (.geq rfl rfl) (.v (.move rfl) (.and 6 9 3 3 rfl rfl (fun g1 => .v (.fieldAddr rfl) (.v (.load rfl (.one rfl)) (.v (.leq rfl rfl) (.nil ⟨rfl, rfl, rfl, rfl⟩)))) (.v (.move rfl) (.and 11 14 3 3 rfl rfl (fun g2 => .v (.fieldAddr rfl) (.v (.load rfl (.one rfl)) (.v (.geq rfl rfl) (.nil ⟨rfl, rfl, rfl, rfl⟩)))) (.v (.move rfl) (.and 16 19 3 3 rfl rfl (fun g3 => .v (.fieldAddr rfl) (.v (.load rfl (.one rfl)) (.v (.leq rfl rfl) (.nil ⟨rfl, rfl, rfl, rfl⟩)))) (.v (.assign rfl) (.nil ?_)))))))))))))
  refine .ret ⟨[_], ⟨rfl, trivial⟩, vb ?_⟩
  simp only [Bool.and_eq_true, Bool.or_eq_true, Bool.not_eq_true', Bool.and_eq_false_iff, Bool.or_eq_false_iff, Bool.not_eq_false', decide_eq_true_eq, decide_eq_false_iff_not, Bool.false_eq_true, false_iff]; omega
theorem refConfig_ok (w : World) (c m : Int) : Is Try.prog 29 [.agg ⟨[.int .i64 c, .int .i64 m]⟩] w (.bool (decide (1 ≤ c ∧ c ≤ 4096 ∧ 0 ≤ m ∧ m ≤ 3))) := by
  refine Does.pure (Does.of (n := 21) Try.func29 rfl rfl rfl rfl ?_)
  refine .seq ((.region (.nw (.box rfl rfl) fun b1 => (.v (.assign rfl) (.nil ?_)))))
  refine .seq ((.region (.v (.fieldAddr rfl) (.v (.load rfl (.one rfl)) (.v (.geq rfl rfl) (.v (.move rfl) (.and 6 9 3 3 rfl rfl (fun g1 => .v (.fieldAddr rfl) (.v (.load rfl (.one rfl)) (.v (.leq rfl rfl) (.nil ⟨rfl, rfl, rfl, rfl⟩)))) (.v (.move rfl) (.and 11 14 3 3 rfl rfl (fun g2 => .v (.fieldAddr rfl) (.v (.load rfl (.one rfl)) (.v (.geq rfl rfl) (.nil ⟨rfl, rfl, rfl, rfl⟩)))) (.v (.move rfl) (.and 16 19 3 3 rfl rfl (fun g3 => .v (.fieldAddr rfl) (.v (.load rfl (.one rfl)) (.v (.leq rfl rfl) (.nil ⟨rfl, rfl, rfl, rfl⟩)))) (.v (.assign rfl) (.nil ?_)))))))))))))
  refine .ret ⟨[_], ⟨rfl, trivial⟩, vb ?_⟩
  simp only [Bool.and_eq_true, Bool.or_eq_true, Bool.not_eq_true', Bool.and_eq_false_iff, Bool.or_eq_false_iff, Bool.not_eq_false', decide_eq_true_eq, decide_eq_false_iff_not, Bool.false_eq_true, false_iff]; omega
theorem sized_ok (w : World) (k id tg mb sd t0 pr q pk ty : Int) : Is Try.prog 30 [.agg ⟨ccells k id tg mb sd t0 pr q pk⟩, .int .i64 ty] w (.int .i64 (szd id pr q pk ty)) := by
  refine Does.pure (Does.of (n := 66) Try.func30 rfl rfl rfl rfl ?_)
  refine .seq ((.region (.nw (.box rfl rfl) fun b2 => (.v (.assign rfl) (.nil ?_)))))
  refine .seq ((.region (.v (.move rfl) (.v (.eqi rfl rfl) (.v (.move rfl) (.or 8 10 2 2 rfl rfl (fun g1 => .v (.move rfl) (.v (.eqi rfl rfl) (.nil ⟨rfl, rfl, rfl, rfl⟩))) (.v (.assign rfl) (.nil ?_))))))))
  refine .seq (.block (.seq ((.region (.v (.fieldAddr rfl) (.v (.load rfl (.one rfl)) (.v (.lss rfl rfl) (.v (.move rfl) (.or 16 19 3 3 rfl rfl (fun g2 => .v (.fieldAddr rfl) (.v (.load rfl (.one rfl)) (.v (.geq rfl rfl) (.nil ⟨rfl, rfl, rfl, rfl⟩)))) (.v (.move rfl) (.or 21 28 7 4 rfl rfl (fun g3 => .v (.move rfl) (.v (.eqi rfl rfl) (.v (.move rfl) (.and 24 27 3 3 rfl rfl (fun g4 => .v (.fieldAddr rfl) (.v (.load rfl (.one rfl)) (.v (.nei rfl rfl) (.nil ⟨rfl, rfl, rfl, rfl⟩)))) (.nil ⟨rfl, rfl, rfl, rfl⟩))))) (.v (.assign rfl) (.nil ?_)))))))))))))
  refine .cond rfl (fun h1 => ?_) (fun h1 => ?_) <;> simp only [Bool.and_eq_true, Bool.or_eq_true, Bool.not_eq_true', Bool.and_eq_false_iff, Bool.or_eq_false_iff, Bool.not_eq_false', decide_eq_true_eq, decide_eq_false_iff_not, Bool.false_eq_true, false_iff] at h1
  · refine .seq ((.region (.v (.assign rfl) (.nil ?_))))
    exact .ret ⟨[_], ⟨rfl, trivial⟩, by rw [show szd id pr q pk ty = 94 from by unfold szd; rw [if_pos (by omega)]]; rfl⟩
  · refine .seq ((.region (.v (.fieldAddr rfl) (.v (.load rfl (.one rfl)) (.v (.lss rfl rfl) (.v (.move rfl) (.or 34 37 3 3 rfl rfl (fun g5 => .v (.fieldAddr rfl) (.v (.load rfl (.one rfl)) (.v (.gtr rfl rfl) (.nil ⟨rfl, rfl, rfl, rfl⟩)))) (.v (.assign rfl) (.nil ?_)))))))))
    refine .cond rfl (fun h2 => ?_) (fun h2 => ?_) <;> simp only [Bool.and_eq_true, Bool.or_eq_true, Bool.not_eq_true', Bool.and_eq_false_iff, Bool.or_eq_false_iff, Bool.not_eq_false', decide_eq_true_eq, decide_eq_false_iff_not, Bool.false_eq_true, false_iff] at h2
    · refine .seq ((.region (.v (.assign rfl) (.nil ?_))))
      exact .ret ⟨[_], ⟨rfl, trivial⟩, by rw [show szd id pr q pk ty = 95 from by unfold szd; rw [if_neg (by omega), if_pos (by omega)]]; rfl⟩
    · refine .seq ((.region (.v (.fieldAddr rfl) (.v (.load rfl (.one rfl)) (.v (.fieldAddr rfl) (.v (.load rfl (.one rfl)) (.v (.gtr rfl rfl) (.v (.move rfl) (.or 45 60 15 5 rfl rfl (fun g6 => .v (.fieldAddr rfl) (.v (.load rfl (.one rfl)) (.v (.nei rfl rfl) (.v (.move rfl) (.and 49 59 10 4 rfl rfl (fun g7 => .v (.move rfl) (.v (.not rfl) (.v (.move rfl) (.or 52 58 6 6 rfl rfl (fun g8 => .v (.fieldAddr rfl) (.v (.load rfl (.one rfl)) (.v (.mul rfl rfl) (.v (.fieldAddr rfl) (.v (.load rfl (.one rfl)) (.v (.lss rfl rfl) (.nil ⟨rfl, rfl, rfl, rfl⟩))))))) (.nil ⟨rfl, rfl, rfl, rfl⟩))))) (.nil ⟨rfl, rfl, rfl, rfl⟩)))))) (.v (.assign rfl) (.nil ?_)))))))))))
      refine .cond rfl (fun h3 => ?_) (fun h3 => ?_) <;> simp only [Bool.and_eq_true, Bool.or_eq_true, Bool.not_eq_true', Bool.and_eq_false_iff, Bool.or_eq_false_iff, Bool.not_eq_false', decide_eq_true_eq, decide_eq_false_iff_not, Bool.false_eq_true, false_iff] at h3
      · refine .seq ((.region (.v (.assign rfl) (.nil ?_))))
        exact .ret ⟨[_], ⟨rfl, trivial⟩, by rw [show szd id pr q pk ty = 96 from by unfold szd; rw [if_neg (by omega), if_neg (by omega), if_pos (by omega)]]; rfl⟩
      · refine .seq ((.region (.v (.fieldAddr rfl) (.v (.load rfl (.one rfl)) (.v (.eqi rfl rfl) (.v (.assign rfl) (.nil ?_)))))))
        refine .cond_dec rfl (fun h4 => ?_) (fun h4 => .skip ?_)
        · refine .seq ((.region (.v (.assign rfl) (.nil ?_))))
          exact .ret ⟨[_], ⟨rfl, trivial⟩, by rw [show szd id pr q pk ty = 97 from by unfold szd; rw [if_neg (by omega), if_neg (by omega), if_neg (by omega), if_pos (by omega)]]; rfl⟩
        · refine .seq ((.region (.v (.assign rfl) (.nil ?_))))
          exact .ret ⟨[_], ⟨rfl, trivial⟩, by rw [show szd id pr q pk ty = 0 from by unfold szd; rw [if_neg (by omega), if_neg (by omega), if_neg (by omega), if_neg (by omega)]]; rfl⟩
theorem amounts_ok (w : World) (k id tg mb sd t0 pr q pk ty : Int) : Is Try.prog 31 [.agg ⟨ccells k id tg mb sd t0 pr q pk⟩, .int .i64 ty] w (.int .i64 (szd id pr q pk ty)) := by
  refine Does.pure (Does.of (n := 59) Try.func31 rfl rfl rfl rfl ?_)
  refine .seq ((.region (.nw (.box rfl rfl) fun b2 => (.v (.assign rfl) (.nil ?_)))))
  refine .seq (.seq ((.region (.v (.fieldAddr rfl) (.v (.load rfl (.one rfl)) (.v (.lss rfl rfl) (.v (.move rfl) (.or 8 11 3 3 rfl rfl (fun g1 => .v (.fieldAddr rfl) (.v (.load rfl (.one rfl)) (.v (.geq rfl rfl) (.nil ⟨rfl, rfl, rfl, rfl⟩)))) (.v (.move rfl) (.or 13 20 7 4 rfl rfl (fun g2 => .v (.move rfl) (.v (.eqi rfl rfl) (.v (.move rfl) (.and 16 19 3 3 rfl rfl (fun g3 => .v (.fieldAddr rfl) (.v (.load rfl (.one rfl)) (.v (.nei rfl rfl) (.nil ⟨rfl, rfl, rfl, rfl⟩)))) (.nil ⟨rfl, rfl, rfl, rfl⟩))))) (.nil ?_)))))))))))
  refine .cond rfl (fun h1 => ?_) (fun h1 => .skip ?_) <;> simp only [Bool.and_eq_true, Bool.or_eq_true, Bool.not_eq_true', Bool.and_eq_false_iff, Bool.or_eq_false_iff, Bool.not_eq_false', decide_eq_true_eq, decide_eq_false_iff_not, Bool.false_eq_true, false_iff] at h1
  · refine .seq ((.region (.v (.assign rfl) (.nil ?_))))
    exact .ret ⟨[_], ⟨rfl, trivial⟩, by rw [show szd id pr q pk ty = 94 from by unfold szd; rw [if_pos (by omega)]]; rfl⟩
  · refine .seq (.seq ((.region (.v (.fieldAddr rfl) (.v (.load rfl (.one rfl)) (.v (.lss rfl rfl) (.v (.move rfl) (.or 25 28 3 3 rfl rfl (fun g4 => .v (.fieldAddr rfl) (.v (.load rfl (.one rfl)) (.v (.gtr rfl rfl) (.nil ⟨rfl, rfl, rfl, rfl⟩)))) (.nil ?_)))))))))
    refine .cond rfl (fun h2 => ?_) (fun h2 => .skip ?_) <;> simp only [Bool.and_eq_true, Bool.or_eq_true, Bool.not_eq_true', Bool.and_eq_false_iff, Bool.or_eq_false_iff, Bool.not_eq_false', decide_eq_true_eq, decide_eq_false_iff_not, Bool.false_eq_true, false_iff] at h2
    · refine .seq ((.region (.v (.assign rfl) (.nil ?_))))
      exact .ret ⟨[_], ⟨rfl, trivial⟩, by rw [show szd id pr q pk ty = 95 from by unfold szd; rw [if_neg (by omega), if_pos (by omega)]]; rfl⟩
    · refine .seq (.seq ((.region (.v (.fieldAddr rfl) (.v (.load rfl (.one rfl)) (.v (.fieldAddr rfl) (.v (.load rfl (.one rfl)) (.v (.gtr rfl rfl) (.v (.move rfl) (.or 35 54 19 5 rfl rfl (fun g5 => .v (.fieldAddr rfl) (.v (.load rfl (.one rfl)) (.v (.nei rfl rfl) (.v (.move rfl) (.and 39 53 14 6 rfl rfl (fun g6 => .v (.move rfl) (.v (.nei rfl rfl) (.v (.move rfl) (.and 42 44 2 2 rfl rfl (fun g7 => .v (.move rfl) (.v (.nei rfl rfl) (.nil ⟨rfl, rfl, rfl, rfl⟩))) (.v (.move rfl) (.or 46 52 6 6 rfl rfl (fun g8 => .v (.fieldAddr rfl) (.v (.load rfl (.one rfl)) (.v (.mul rfl rfl) (.v (.fieldAddr rfl) (.v (.load rfl (.one rfl)) (.v (.lss rfl rfl) (.nil ⟨rfl, rfl, rfl, rfl⟩))))))) (.nil ⟨rfl, rfl, rfl, rfl⟩))))))) (.nil ⟨rfl, rfl, rfl, rfl⟩)))))) (.nil ?_)))))))))))
      refine .cond rfl (fun h3 => ?_) (fun h3 => .skip ?_) <;> simp only [Bool.and_eq_true, Bool.or_eq_true, Bool.not_eq_true', Bool.and_eq_false_iff, Bool.or_eq_false_iff, Bool.not_eq_false', decide_eq_true_eq, decide_eq_false_iff_not, Bool.false_eq_true, false_iff] at h3
      · refine .seq ((.region (.v (.assign rfl) (.nil ?_))))
        exact .ret ⟨[_], ⟨rfl, trivial⟩, by rw [show szd id pr q pk ty = 96 from by unfold szd; rw [if_neg (by omega), if_neg (by omega), if_pos (by omega)]]; rfl⟩
      · refine .seq (.seq ((.region (.v (.fieldAddr rfl) (.v (.load rfl (.one rfl)) (.v (.eqi rfl rfl) (.nil ?_)))))))
        refine .cond_dec rfl (fun h4 => ?_) (fun h4 => .skip ?_)
        · refine .seq ((.region (.v (.assign rfl) (.nil ?_))))
          exact .ret ⟨[_], ⟨rfl, trivial⟩, by rw [show szd id pr q pk ty = 97 from by unfold szd; rw [if_neg (by omega), if_neg (by omega), if_neg (by omega), if_pos (by omega)]]; rfl⟩
        · refine .seq ((.region (.v (.assign rfl) (.nil ?_))))
          exact .ret ⟨[_], ⟨rfl, trivial⟩, by rw [show szd id pr q pk ty = 0 from by unfold szd; rw [if_neg (by omega), if_neg (by omega), if_neg (by omega), if_neg (by omega)]]; rfl⟩
theorem Check_ok (w : World) (k id tg mb sd ty pr q pk : Int) : Is Try.prog 14 [.agg ⟨ccells k id tg mb sd ty pr q pk⟩] w (.int .i64 (chk k id sd ty pr q pk)) := by
  refine Does.pure (Does.of (n := 33) Try.func14 rfl rfl rfl rfl ?_)
  refine .seq ((.region (.nw (.box rfl rfl) fun b1 => (.v (.assign rfl) (.nil ?_)))))
  refine .seq (.seq ((.region (.v (.fieldAddr rfl) (.v (.load rfl (.one rfl)) (.nil ?_))))))
  refine .block (.seq ((.region (.v (.eqi rfl rfl) (.v (.assign rfl) (.nil ?_))))))
  refine .cond_dec rfl (fun h1 => ?_) (fun h1 => ?_)
  · refine .seq (.seq ((.region (.v (.fieldAddr rfl) (.v (.load rfl (.one rfl)) (.v (.nei rfl rfl) (.v (.move rfl) (.and 10 13 3 3 rfl rfl (fun g1 => .v (.fieldAddr rfl) (.v (.load rfl (.one rfl)) (.v (.nei rfl rfl) (.nil ⟨rfl, rfl, rfl, rfl⟩)))) (.nil ?_)))))))))
    refine .cond rfl (fun h2 => ?_) (fun h2 => .skip ?_) <;> simp only [Bool.and_eq_true, Bool.or_eq_true, Bool.not_eq_true', Bool.and_eq_false_iff, Bool.or_eq_false_iff, Bool.not_eq_false', decide_eq_true_eq, decide_eq_false_iff_not, Bool.false_eq_true, false_iff] at h2
    · refine .seq ((.region (.v (.assign rfl) (.nil ?_))))
      exact .ret ⟨[_], ⟨rfl, trivial⟩, by rw [show chk k id sd ty pr q pk = 92 from by unfold chk; rw [if_pos (by omega), if_pos (by omega)]]; rfl⟩
    · refine .seq (.seq ((.region (.v (.fieldAddr rfl) (.v (.load rfl (.one rfl)) (.v (.lss rfl rfl) (.v (.move rfl) (.or 18 21 3 3 rfl rfl (fun g2 => .v (.fieldAddr rfl) (.v (.load rfl (.one rfl)) (.v (.gtr rfl rfl) (.nil ⟨rfl, rfl, rfl, rfl⟩)))) (.nil ?_)))))))))
      refine .cond rfl (fun h3 => ?_) (fun h3 => .skip ?_) <;> simp only [Bool.and_eq_true, Bool.or_eq_true, Bool.not_eq_true', Bool.and_eq_false_iff, Bool.or_eq_false_iff, Bool.not_eq_false', decide_eq_true_eq, decide_eq_false_iff_not, Bool.false_eq_true, false_iff] at h3
      · refine .seq ((.region (.v (.assign rfl) (.nil ?_))))
        exact .ret ⟨[_], ⟨rfl, trivial⟩, by rw [show chk k id sd ty pr q pk = 93 from by unfold chk; rw [if_pos (by omega), if_neg (by omega), if_pos (by omega)]]; rfl⟩
      · refine .seq ((.region (.v (.loadA rfl .whole rfl) (.v (.fieldAddr rfl) (.v (.load rfl (.one rfl)) (.pc rfl rfl (fun w s => sized_ok w k id tg mb sd ty pr q pk ty) (.v (.assign rfl) (.nil ?_))))))))
        exact .ret ⟨[_], ⟨rfl, trivial⟩, by rw [show chk k id sd ty pr q pk = szd id pr q pk ty from by unfold chk; rw [if_pos (by omega), if_neg (by omega), if_neg (by omega)]]; rfl⟩
  · refine .seq ((.region (.v (.eqi rfl rfl) (.v (.assign rfl) (.nil ?_)))))
    refine .cond_dec rfl (fun h4 => ?_) (fun h4 => ?_)
    · refine .seq ((.region (.v (.loadA rfl .whole rfl) (.pc rfl rfl (fun w s => sized_ok w k id tg mb sd ty pr q pk 1) (.v (.assign rfl) (.nil ?_))))))
      exact .ret ⟨[_], ⟨rfl, trivial⟩, by rw [show chk k id sd ty pr q pk = szd id pr q pk 1 from by unfold chk; rw [if_neg (by omega), if_pos (by omega)]]; rfl⟩
    · refine .seq ((.region (.v (.eqi rfl rfl) (.v (.assign rfl) (.nil ?_)))))
      refine .cond_dec rfl (fun h5 => ?_) (fun h5 => .skip ?_)
      · refine .seq ((.region (.v (.assign rfl) (.nil ?_))))
        exact .ret ⟨[_], ⟨rfl, trivial⟩, by rw [show chk k id sd ty pr q pk = 0 from by unfold chk; rw [if_neg (by omega), if_neg (by omega), if_pos (by omega)]]; rfl⟩
      · refine .seq ((.region (.v (.assign rfl) (.nil ?_))))
        exact .ret ⟨[_], ⟨rfl, trivial⟩, by rw [show chk k id sd ty pr q pk = 90 from by unfold chk; rw [if_neg (by omega), if_neg (by omega), if_neg (by omega)]]; rfl⟩
theorem refCheck_ok (w : World) (k id tg mb sd ty pr q pk : Int) : Is Try.prog 15 [.agg ⟨ccells k id tg mb sd ty pr q pk⟩] w (.int .i64 (chk k id sd ty pr q pk)) := by
  refine Does.pure (Does.of (n := 33) Try.func15 rfl rfl rfl rfl ?_)
  refine .seq ((.region (.nw (.box rfl rfl) fun b1 => (.v (.assign rfl) (.nil ?_)))))
  refine .seq (.seq ((.region (.v (.fieldAddr rfl) (.v (.load rfl (.one rfl)) (.nil ?_))))))
  refine .block (.seq ((.region (.v (.eqi rfl rfl) (.v (.assign rfl) (.nil ?_))))))
  refine .cond_dec rfl (fun h1 => ?_) (fun h1 => ?_)
  · refine .seq ((.region (.v (.assign rfl) (.nil ?_))))
    exact .ret ⟨[_], ⟨rfl, trivial⟩, by rw [show chk k id sd ty pr q pk = 0 from by unfold chk; rw [if_neg (by omega), if_neg (by omega), if_pos (by omega)]]; rfl⟩
  · refine .seq ((.region (.v (.eqi rfl rfl) (.v (.assign rfl) (.nil ?_)))))
    refine .cond_dec rfl (fun h2 => ?_) (fun h2 => ?_)
    · refine .seq ((.region (.v (.loadA rfl .whole rfl) (.pc rfl rfl (fun w s => amounts_ok w k id tg mb sd ty pr q pk 1) (.v (.assign rfl) (.nil ?_))))))
      exact .ret ⟨[_], ⟨rfl, trivial⟩, by rw [show chk k id sd ty pr q pk = szd id pr q pk 1 from by unfold chk; rw [if_neg (by omega), if_pos (by omega)]]; rfl⟩
    · refine .seq ((.region (.v (.eqi rfl rfl) (.v (.assign rfl) (.nil ?_)))))
      refine .cond_dec rfl (fun h3 => ?_) (fun h3 => .skip ?_)
      · refine .seq (.seq ((.region (.v (.fieldAddr rfl) (.v (.load rfl (.one rfl)) (.v (.nei rfl rfl) (.v (.move rfl) (.and 16 19 3 3 rfl rfl (fun g1 => .v (.fieldAddr rfl) (.v (.load rfl (.one rfl)) (.v (.nei rfl rfl) (.nil ⟨rfl, rfl, rfl, rfl⟩)))) (.nil ?_)))))))))
        refine .cond rfl (fun h4 => ?_) (fun h4 => .skip ?_) <;> simp only [Bool.and_eq_true, Bool.or_eq_true, Bool.not_eq_true', Bool.and_eq_false_iff, Bool.or_eq_false_iff, Bool.not_eq_false', decide_eq_true_eq, decide_eq_false_iff_not, Bool.false_eq_true, false_iff] at h4
        · refine .seq ((.region (.v (.assign rfl) (.nil ?_))))
          exact .ret ⟨[_], ⟨rfl, trivial⟩, by rw [show chk k id sd ty pr q pk = 92 from by unfold chk; rw [if_pos (by omega), if_pos (by omega)]]; rfl⟩
        · refine .seq (.seq ((.region (.v (.fieldAddr rfl) (.v (.load rfl (.one rfl)) (.v (.lss rfl rfl) (.v (.move rfl) (.or 24 27 3 3 rfl rfl (fun g2 => .v (.fieldAddr rfl) (.v (.load rfl (.one rfl)) (.v (.gtr rfl rfl) (.nil ⟨rfl, rfl, rfl, rfl⟩)))) (.nil ?_)))))))))
          refine .cond rfl (fun h5 => ?_) (fun h5 => .skip ?_) <;> simp only [Bool.and_eq_true, Bool.or_eq_true, Bool.not_eq_true', Bool.and_eq_false_iff, Bool.or_eq_false_iff, Bool.not_eq_false', decide_eq_true_eq, decide_eq_false_iff_not, Bool.false_eq_true, false_iff] at h5
          · refine .seq ((.region (.v (.assign rfl) (.nil ?_))))
            exact .ret ⟨[_], ⟨rfl, trivial⟩, by rw [show chk k id sd ty pr q pk = 93 from by unfold chk; rw [if_pos (by omega), if_neg (by omega), if_pos (by omega)]]; rfl⟩
          · refine .seq ((.region (.v (.loadA rfl .whole rfl) (.v (.fieldAddr rfl) (.v (.load rfl (.one rfl)) (.pc rfl rfl (fun w s => amounts_ok w k id tg mb sd ty pr q pk ty) (.v (.assign rfl) (.nil ?_))))))))
            exact .ret ⟨[_], ⟨rfl, trivial⟩, by rw [show chk k id sd ty pr q pk = szd id pr q pk ty from by unfold chk; rw [if_pos (by omega), if_neg (by omega), if_neg (by omega)]]; rfl⟩
      · refine .seq ((.region (.v (.assign rfl) (.nil ?_))))
        exact .ret ⟨[_], ⟨rfl, trivial⟩, by rw [show chk k id sd ty pr q pk = 90 from by unfold chk; rw [if_neg (by omega), if_neg (by omega), if_neg (by omega)]]; rfl⟩
end Go.Proofs.Ytmfobfamdaajmaa

/- rules.canRest and the document's order; better: what they compute. -/
namespace Go.Proofs.Ytmfobfamdaajmaa
open Go.V
set_option linter.unusedVariables false
set_option linter.unusedSimpArgs false

/-- a resting order's cells -/
def rcells (id mb ty pr v hd pk : Int) : List Value := [.int .u64 id, .int .u32 mb, .int .i64 ty, .int .i64 pr, .int .u64 v, .int .u64 hd, .int .u64 pk]
/-- can it rest? -/
def Rests (id ty pr v hd pk high : Int) : Prop :=
  (1 ≤ id ∧ id ≤ high) ∧ (ty = 1 ∨ ty = 5) ∧ (0 ≤ pr ∧ pr < 262144) ∧ (1 ≤ v ∧ v ≤ 4294967295) ∧ pk ≤ 4294967295 ∧ v + hd ≤ 4294967295 ∧ (pk = 0 ∧ hd = 0 ∨ 0 < pk ∧ v ≤ pk ∧ v + hd ≤ 256 * pk)
instance (id ty pr v hd pk high : Int) : Decidable (Rests id ty pr v hd pk high) := by unfold Rests; infer_instance
/-- u64 -/
def U (x : Int) : Prop := 0 ≤ x ∧ x ≤ 18446744073709551615
theorem canRest_ok (w : World) (id mb ty pr v hd pk high : Int) (hi : U id) (hv : U v) (hh : U hd) (hp : U pk) : Is Try.prog 32 [.agg ⟨rcells id mb ty pr v hd pk⟩, .int .u64 high] w (.bool (decide (Rests id ty pr v hd pk high))) := by
  refine Does.pure (Does.of (n := 93) Try.func32 rfl rfl rfl rfl ?_)
  refine .seq ((.region (.nw (.box rfl rfl) fun b2 => (.v (.assign rfl) (.nil ?_)))))
  refine .seq ((.region (.v (.fieldAddr rfl) (.v (.load rfl (.one rfl)) (.v (.eqi rfl rfl) (.v (.move rfl) (.and 9 12 3 3 rfl rfl (fun g1 => .v (.fieldAddr rfl) (.v (.load rfl (.one rfl)) (.v (.eqi rfl rfl) (.nil ⟨rfl, rfl, rfl, rfl⟩)))) (.v (.move rfl) (.or 14 36 22 7 rfl rfl (fun g2 => .v (.fieldAddr rfl) (.v (.load rfl (.one rfl)) (.v (.gtr rfl rfl) (.v (.move rfl) (.and 18 23 5 5 rfl rfl (fun g3 => .v (.fieldAddr rfl) (.v (.load rfl (.one rfl)) (.v (.fieldAddr rfl) (.v (.load rfl (.one rfl)) (.v (.leq rfl rfl) (.nil ⟨rfl, rfl, rfl, rfl⟩)))))) (.v (.move rfl) (.and 25 35 10 10 rfl rfl (fun g4 => .v (.fieldAddr rfl) (.v (.load rfl (.one rfl)) (.v (.fieldAddr rfl) (.v (.load rfl (.one rfl)) (.v (.min2 rfl rfl) (.v (.mul rfl rfl) (.v (.fieldAddr rfl) (.v (.load rfl (.one rfl)) (.v (.sub_ rfl rfl) (.v (.leq rfl rfl) (.nil ⟨rfl, rfl, rfl, rfl⟩))))))))))) (.nil ⟨rfl, rfl, rfl, rfl⟩)))))))) (.v (.assign rfl) (.nil ?_)))))))))))
  refine .seq ((.region (.v (.fieldAddr rfl) (.v (.load rfl (.one rfl)) (.v (.geq rfl rfl) (.v (.move rfl) (.and 41 45 4 4 rfl rfl (fun g5 => .v (.fieldAddr rfl) (.v (.load rfl (.one rfl)) (.v (.move rfl) (.v (.leq rfl rfl) (.nil ⟨rfl, rfl, rfl, rfl⟩))))) (.v (.move rfl) (.and 47 55 8 5 rfl rfl (fun g6 => .v (.fieldAddr rfl) (.v (.load rfl (.one rfl)) (.v (.eqi rfl rfl) (.v (.move rfl) (.or 51 54 3 3 rfl rfl (fun g7 => .v (.fieldAddr rfl) (.v (.load rfl (.one rfl)) (.v (.eqi rfl rfl) (.nil ⟨rfl, rfl, rfl, rfl⟩)))) (.nil ⟨rfl, rfl, rfl, rfl⟩)))))) (.v (.move rfl) (.and 57 60 3 3 rfl rfl (fun g8 => .v (.fieldAddr rfl) (.v (.load rfl (.one rfl)) (.v (.geq rfl rfl) (.nil ⟨rfl, rfl, rfl, rfl⟩)))) (.v (.move rfl) (.and 62 65 3 3 rfl rfl (fun g9 => .v (.fieldAddr rfl) (.v (.load rfl (.one rfl)) (.v (.lss rfl rfl) (.nil ⟨rfl, rfl, rfl, rfl⟩)))) (.v (.move rfl) (.and 67 70 3 3 rfl rfl (fun g10 => .v (.fieldAddr rfl) (.v (.load rfl (.one rfl)) (.v (.geq rfl rfl) (.nil ⟨rfl, rfl, rfl, rfl⟩)))) (.v (.move rfl) (.and 72 75 3 3 rfl rfl (fun g11 => .v (.fieldAddr rfl) (.v (.load rfl (.one rfl)) (.v (.leq rfl rfl) (.nil ⟨rfl, rfl, rfl, rfl⟩)))) (.v (.move rfl) (.and 77 80 3 3 rfl rfl (fun g12 => .v (.fieldAddr rfl) (.v (.load rfl (.one rfl)) (.v (.leq rfl rfl) (.nil ⟨rfl, rfl, rfl, rfl⟩)))) (.v (.move rfl) (.and 82 88 6 6 rfl rfl (fun g13 => .v (.fieldAddr rfl) (.v (.load rfl (.one rfl)) (.v (.fieldAddr rfl) (.v (.load rfl (.one rfl)) (.v (.sub_ rfl rfl) (.v (.leq rfl rfl) (.nil ⟨rfl, rfl, rfl, rfl⟩))))))) (.v (.move rfl) (.and 90 91 1 1 rfl rfl (fun g14 => .v (.move rfl) (.nil ⟨rfl, rfl, rfl, rfl⟩)) (.v (.assign rfl) (.nil ?_)))))))))))))))))))))))))
  refine .ret ⟨[_], ⟨rfl, trivial⟩, vb ?_⟩
  simp only [Bool.and_eq_true, Bool.or_eq_true, Bool.not_eq_true', Bool.and_eq_false_iff, Bool.or_eq_false_iff, Bool.not_eq_false', decide_eq_true_eq, decide_eq_false_iff_not, Bool.false_eq_true, false_iff, u64w]
  unfold Rests
  unfold U at hi hv hh hp
  omega
theorem order_ok (w : World) (id mb ty pr v hd pk high : Int) (hi : U id) (hv : U v) (hh : U hd) (hp : U pk) : Is Try.prog 34 [.agg ⟨rcells id mb ty pr v hd pk⟩, .int .u64 high] w (.bool (decide (Rests id ty pr v hd pk high))) := by
  refine Does.pure (Does.of (n := 82) Try.func34 rfl rfl rfl rfl ?_)
  unfold U at hi hv hh hp
  refine .seq ((.region (.nw (.box rfl rfl) fun b2 => (.v (.assign rfl) (.nil ?_)))))
  refine .seq (.seq ((.region (.v (.fieldAddr rfl) (.v (.load rfl (.one rfl)) (.v (.lss rfl rfl) (.v (.move rfl) (.or 8 12 4 4 rfl rfl (fun g1 => .v (.fieldAddr rfl) (.v (.load rfl (.one rfl)) (.v (.move rfl) (.v (.gtr rfl rfl) (.nil ⟨rfl, rfl, rfl, rfl⟩))))) (.v (.move rfl) (.or 14 22 8 5 rfl rfl (fun g2 => .v (.fieldAddr rfl) (.v (.load rfl (.one rfl)) (.v (.nei rfl rfl) (.v (.move rfl) (.and 18 21 3 3 rfl rfl (fun g3 => .v (.fieldAddr rfl) (.v (.load rfl (.one rfl)) (.v (.nei rfl rfl) (.nil ⟨rfl, rfl, rfl, rfl⟩)))) (.nil ⟨rfl, rfl, rfl, rfl⟩)))))) (.v (.move rfl) (.or 24 27 3 3 rfl rfl (fun g4 => .v (.fieldAddr rfl) (.v (.load rfl (.one rfl)) (.v (.lss rfl rfl) (.nil ⟨rfl, rfl, rfl, rfl⟩)))) (.v (.move rfl) (.or 29 32 3 3 rfl rfl (fun g5 => .v (.fieldAddr rfl) (.v (.load rfl (.one rfl)) (.v (.geq rfl rfl) (.nil ⟨rfl, rfl, rfl, rfl⟩)))) (.nil ?_)))))))))))))))
  refine .cond rfl (fun h1 => ?_) (fun h1 => .skip ?_) <;> simp only [Bool.and_eq_true, Bool.or_eq_true, Bool.not_eq_true', Bool.and_eq_false_iff, Bool.or_eq_false_iff, Bool.not_eq_false', decide_eq_true_eq, decide_eq_false_iff_not, Bool.false_eq_true, false_iff, u64w] at h1
  · refine .seq ((.region (.v (.assign rfl) (.nil ?_))))
    refine .ret ⟨[_], ⟨rfl, trivial⟩, vb ?_⟩
    simp only [Bool.and_eq_true, Bool.or_eq_true, Bool.not_eq_true', Bool.and_eq_false_iff, Bool.or_eq_false_iff, Bool.not_eq_false', decide_eq_true_eq, decide_eq_false_iff_not, Bool.false_eq_true, false_iff, u64w]; unfold Rests; omega
  · refine .seq (.seq ((.region (.v (.fieldAddr rfl) (.v (.load rfl (.one rfl)) (.v (.lss rfl rfl) (.v (.move rfl) (.or 37 40 3 3 rfl rfl (fun g6 => .v (.fieldAddr rfl) (.v (.load rfl (.one rfl)) (.v (.gtr rfl rfl) (.nil ⟨rfl, rfl, rfl, rfl⟩)))) (.v (.move rfl) (.or 42 45 3 3 rfl rfl (fun g7 => .v (.fieldAddr rfl) (.v (.load rfl (.one rfl)) (.v (.gtr rfl rfl) (.nil ⟨rfl, rfl, rfl, rfl⟩)))) (.v (.move rfl) (.or 47 50 3 3 rfl rfl (fun g8 => .v (.fieldAddr rfl) (.v (.load rfl (.one rfl)) (.v (.gtr rfl rfl) (.nil ⟨rfl, rfl, rfl, rfl⟩)))) (.v (.move rfl) (.or 52 58 6 6 rfl rfl (fun g9 => .v (.fieldAddr rfl) (.v (.load rfl (.one rfl)) (.v (.fieldAddr rfl) (.v (.load rfl (.one rfl)) (.v (.add rfl rfl) (.v (.gtr rfl rfl) (.nil ⟨rfl, rfl, rfl, rfl⟩))))))) (.nil ?_)))))))))))))))
    refine .cond rfl (fun h2 => ?_) (fun h2 => .skip ?_) <;> simp only [Bool.and_eq_true, Bool.or_eq_true, Bool.not_eq_true', Bool.and_eq_false_iff, Bool.or_eq_false_iff, Bool.not_eq_false', decide_eq_true_eq, decide_eq_false_iff_not, Bool.false_eq_true, false_iff, u64w] at h2
    · refine .seq ((.region (.v (.assign rfl) (.nil ?_))))
      refine .ret ⟨[_], ⟨rfl, trivial⟩, vb ?_⟩
      simp only [Bool.and_eq_true, Bool.or_eq_true, Bool.not_eq_true', Bool.and_eq_false_iff, Bool.or_eq_false_iff, Bool.not_eq_false', decide_eq_true_eq, decide_eq_false_iff_not, Bool.false_eq_true, false_iff, u64w]; unfold Rests; omega
    · refine .seq (.seq ((.region (.v (.fieldAddr rfl) (.v (.load rfl (.one rfl)) (.v (.eqi rfl rfl) (.nil ?_)))))))
      refine .cond_dec rfl (fun h3 => ?_) (fun h3 => .skip ?_)
      · refine .seq ((.region (.v (.fieldAddr rfl) (.v (.load rfl (.one rfl)) (.v (.eqi rfl rfl) (.v (.assign rfl) (.nil ?_)))))))
        refine .ret ⟨[_], ⟨rfl, trivial⟩, vb ?_⟩
        simp only [Bool.and_eq_true, Bool.or_eq_true, Bool.not_eq_true', Bool.and_eq_false_iff, Bool.or_eq_false_iff, Bool.not_eq_false', decide_eq_true_eq, decide_eq_false_iff_not, Bool.false_eq_true, false_iff, u64w]; unfold Rests; omega
      · refine .seq ((.region (.v (.fieldAddr rfl) (.v (.load rfl (.one rfl)) (.v (.fieldAddr rfl) (.v (.load rfl (.one rfl)) (.v (.leq rfl rfl) (.v (.move rfl) (.and 71 80 9 9 rfl rfl (fun g10 => .v (.fieldAddr rfl) (.v (.load rfl (.one rfl)) (.v (.fieldAddr rfl) (.v (.load rfl (.one rfl)) (.v (.add rfl rfl) (.v (.fieldAddr rfl) (.v (.load rfl (.one rfl)) (.v (.mul rfl rfl) (.v (.leq rfl rfl) (.nil ⟨rfl, rfl, rfl, rfl⟩)))))))))) (.v (.assign rfl) (.nil ?_)))))))))))
        refine .ret ⟨[_], ⟨rfl, trivial⟩, vb ?_⟩
        simp only [Bool.and_eq_true, Bool.or_eq_true, Bool.not_eq_true', Bool.and_eq_false_iff, Bool.or_eq_false_iff, Bool.not_eq_false', decide_eq_true_eq, decide_eq_false_iff_not, Bool.false_eq_true, false_iff, u64w]; unfold Rests; omega

theorem better_ok (w : World) (s p q : Int) : Is Try.prog 33 [.int .i64 s, .int .i64 p, .int .i64 q] w (.bool (if s = 1 then decide (q < p) else decide (p < q))) := by
  refine Does.pure (Does.of (n := 15) Try.func33 rfl rfl rfl rfl ?_)
  refine .seq ((.region (.v (.assign rfl) (.nil ?_))))
  refine .seq (.seq ((.region (.v (.move rfl) (.v (.eqi rfl rfl) (.nil ?_))))))
  refine .cond_dec rfl (fun h1 => ?_) (fun h1 => .skip ?_)
  · refine .seq ((.region (.v (.move rfl) (.v (.move rfl) (.v (.gtr rfl rfl) (.v (.assign rfl) (.nil ?_)))))))
    exact .ret ⟨[_], ⟨rfl, trivial⟩, by rw [if_pos h1]; rfl⟩
  · refine .seq ((.region (.v (.move rfl) (.v (.move rfl) (.v (.lss rfl rfl) (.v (.assign rfl) (.nil ?_)))))))
    exact .ret ⟨[_], ⟨rfl, trivial⟩, by rw [if_neg h1]; rfl⟩
theorem refBetter_ok (w : World) (s p q : Int) : Is Try.prog 49 [.int .i64 s, .int .i64 p, .int .i64 q] w (.bool (if s = 1 then decide (q < p) else decide (p < q))) := by
  refine Does.pure (Does.of (n := 15) Try.func49 rfl rfl rfl rfl ?_)
  refine .seq ((.region (.v (.assign rfl) (.nil ?_))))
  refine .seq (.seq ((.region (.v (.move rfl) (.v (.eqi rfl rfl) (.nil ?_))))))
  refine .cond_dec rfl (fun h1 => ?_) (fun h1 => .skip ?_)
  · refine .seq ((.region (.v (.move rfl) (.v (.move rfl) (.v (.gtr rfl rfl) (.v (.assign rfl) (.nil ?_)))))))
    exact .ret ⟨[_], ⟨rfl, trivial⟩, by rw [if_pos h1]; rfl⟩
  · refine .seq ((.region (.v (.move rfl) (.v (.move rfl) (.v (.lss rfl rfl) (.v (.assign rfl) (.nil ?_)))))))
    exact .ret ⟨[_], ⟨rfl, trivial⟩, by rw [if_neg h1]; rfl⟩
end Go.Proofs.Ytmfobfamdaajmaa

/- Sides of a book: lists of resting orders; the document's twice and sorted. -/
namespace Go.Proofs.Ytmfobfamdaajmaa
open Go.V
set_option linter.unusedVariables false
set_option linter.unusedSimpArgs false

structure Ord where
  id : Int
  mb : Int
  ty : Int
  pr : Int
  v : Int
  hd : Int
  pk : Int
def Ord.cells (o : Ord) : List Value := rcells o.id o.mb o.ty o.pr o.v o.hd o.pk
def rows (l : List Ord) : List Value := l.flatMap Ord.cells
theorem rows_length (l : List Ord) : (rows l).length = l.length * 7 := flatMap_length _ 7 (fun _ => rfl) l
theorem rows_get (l : List Ord) (i j : Nat) (hi : i < l.length) (hj : j < 7) : (rows l)[i * 7 + j]? = (l[i].cells)[j]? := flatMap_get _ 7 (fun _ => rfl) l i j hi hj
/-- an order's field, where a side is read -/
theorem Rd.ord {w : World} {no : List Nat} {A : Option Addr} {l : List Ord} (h : Rd w no A (rows l)) (hn : 0 < l.length) :
    ∃ b o, A = some ⟨b, o, none⟩ ∧ b ∉ no ∧ ∀ (i : Nat) (hi : i < l.length) (j : Nat) (v : Value), j < 7 → (l[i].cells)[j]? = some v → w.cell? ⟨b, o + i * 7 + j, none⟩ = some v := by
  obtain ⟨b, o, e, hb, hc⟩ := h.base (by rw [rows_length]; omega)
  refine ⟨b, o, e, hb, fun i hi j v hj hv => ?_⟩
  have := hc (i * 7 + j) v (by rw [rows_get l i j hi hj]; exact hv)
  rw [Nat.add_assoc]; exact this
def bet (s p q : Int) : Bool := if s = 1 then decide (q < p) else decide (p < q)
/-- no number stands twice -/
def Dist (l : List Ord) : Prop := ∀ i, (hi : i < l.length) → ∀ j, (hj : j < i) → l[i].id ≠ l[j].id
instance (l : List Ord) : Decidable (Dist l) := by unfold Dist; infer_instance
/-- in their priority, as far as prices tell -/
def Srt (s : Int) (l : List Ord) : Prop := ∀ i, (hi : i < l.length) → 0 < i → bet s l[i].pr l[i - 1].pr = false
instance (s : Int) (l : List Ord) : Decidable (Srt s l) := by unfold Srt; infer_instance
set_option maxRecDepth 10000 in
theorem twice_ok (w : World) (A : Option Addr) (len cap : Nat) (l : List Ord) (hx : Rd w [] A (rows l)) (hl : len = l.length) (hb : len ≤ 2513169434843) :
    Is Try.prog 35 [.slice A len cap] w (.bool (!decide (Dist l))) := by
  refine Does.pure (Does.of (n := 27) Try.func35 rfl rfl rfl rfl ?_)
  refine .seq ((.region (.v (.assign rfl) (.nil ?_))))
  refine .seq (.seq ((.region (.v (.assign rfl) (.nil ?_)))))
  refine .block (.loop (X := Nat) (fun i => [(0, .slice A len cap), (3, .int .i64 i)]) (fun i => []) (fun i => i ≤ len ∧ ∀ m, (hm : m < l.length) → m < i → ∀ j, (hj : j < m) → l[m].id ≠ l[j].id) (fun i => len - i) 0 ⟨by omega, fun m _ hm => by omega⟩
    (.cons rfl (.cons rfl (.nil _))) (fun _ s => s) ?_)
  rintro i ⟨hi, hI⟩
  refine .seq (.seq ((.region (.v (.move rfl) (.v (.move rfl) (.v (.len rfl) (.v (.lss rfl rfl) (.nil ?_))))))))
  refine .cond_dec rfl (fun h1 => .skip ?_) (fun h1 => .exit ?_)
  · have hil : i < l.length := by omega
    obtain ⟨b, o, rfl, -, hc⟩ := Rd.ord hx (by omega)
    refine .seq (.block (.seq ((.region (.v (.assign rfl) (.nil ?_))))))
    refine .block (.loop (X := Nat) (fun j => [(0, .slice (some ⟨b, o, none⟩) len cap), (3, .int .i64 i), (4, .int .i64 j)]) (fun j => []) (fun j => j ≤ i ∧ ∀ m, (hm : m < j) → (hm2 : m < l.length) → l[i].id ≠ l[m].id) (fun j => i - j) 0 ⟨by omega, fun m hm => by omega⟩
      (.cons rfl (.cons rfl (.cons rfl (.nil _)))) (fun _ s => s) ?_)
    rintro j ⟨hj, hJ⟩
    refine .seq (.seq ((.region (.v (.move rfl) (.v (.move rfl) (.v (.lss rfl rfl) (.nil ?_)))))))
    refine .cond_dec rfl (fun h2 => .skip ?_) (fun h2 => .exit ?_)
    · have hji : j < l.length := by omega
      refine .seq (.block (.seq ((.drawS (by kernel_rfl) (by kernel_rfl) (.v (.move rfl) (.v (.move rfl) (.v (.indexAddr rfl rfl (by omega) (by omega)) (.v (.fieldAddr rfl) (.v (.load (v := .int .u64 l[i].id) rfl (.old1 (by rw [Int.toNat_natCast]; exact hc i hil 0 (.int .u64 l[i].id) (by omega) rfl) (by simp [bl]))) (.v (.move rfl) (.v (.move rfl) (.v (.indexAddr rfl rfl (by omega) (by omega)) (.v (.fieldAddr rfl) (.v (.load (v := .int .u64 l[j].id) rfl (.old1 (by rw [Int.toNat_natCast]; exact hc j hji 0 (.int .u64 l[j].id) (by omega) rfl) (by simp [bl]))) (.v (.eqi rfl rfl) (.nil ?_))))))))))))))))
      refine .cond_dec rfl (fun h3 => ?_) (fun h3 => .skip ?_)
      · refine .seq ((.region (.v (.assign rfl) (.nil ?_))))
        refine .ret ⟨[_], ⟨rfl, trivial⟩, ?_⟩
        rw [decide_eq_false (fun hd => hd i hil j (by omega) h3)]; rfl
      · refine .region (.v (.move rfl) (.v (.addi rfl rfl (by omega)) (.v (.assign rfl) (.nil ?_))))
        refine ⟨j + 1, ⟨by omega, fun m hm hm2 => ?_⟩, by omega, .cons rfl (.cons rfl (.cons rfl (.nil _))), fun _ s => s⟩
        by_cases e : m = j
        · subst e; exact h3
        · exact hJ m (by omega) hm2
    · refine .region (.v (.move rfl) (.v (.addi rfl rfl (by omega)) (.v (.assign rfl) (.nil ?_))))
      refine ⟨i + 1, ⟨by omega, fun m hm hmi j' hj' => ?_⟩, by omega, .cons rfl (.cons rfl (.nil _)), fun _ s => s⟩
      by_cases e : m = i
      · subst e; exact hJ j' (by omega) (by omega)
      · exact hI m hm (by omega) j' hj'
  · refine .seq ((.region (.v (.assign rfl) (.nil ?_))))
    refine .ret ⟨[_], ⟨rfl, trivial⟩, ?_⟩
    rw [decide_eq_true (show Dist l from fun m hm j hj => hI m hm (by omega) j hj)]; rfl
set_option maxRecDepth 10000 in
theorem sorted_ok (w : World) (s : Int) (A : Option Addr) (len cap : Nat) (l : List Ord) (hx : Rd w [] A (rows l)) (hl : len = l.length) (hb : len ≤ 2513169434843) :
    Is Try.prog 36 [.int .i64 s, .slice A len cap] w (.bool (decide (Srt s l))) := by
  refine Does.pure (Does.of (n := 25) Try.func36 rfl rfl rfl rfl ?_)
  refine .seq ((.region (.v (.assign rfl) (.nil ?_))))
  refine .seq (.seq ((.region (.v (.assign rfl) (.nil ?_)))))
  refine .block (.loop (X := Nat) (fun i => [(0, .int .i64 s), (1, .slice A len cap), (5, .int .i64 i)]) (fun i => []) (fun i => 1 ≤ i ∧ (i ≤ len ∨ i = 1) ∧ ∀ m, (hm : m < l.length) → m < i → 0 < m → bet s l[m].pr l[m - 1].pr = false) (fun i => len - i) 1 ⟨by omega, by omega, fun m _ hm h0 => by omega⟩
    (.cons rfl (.cons rfl (.cons rfl (.nil _)))) (fun _ s => s) ?_)
  rintro i ⟨hi1, hi, hI⟩
  refine .seq (.seq ((.region (.v (.move rfl) (.v (.move rfl) (.v (.len rfl) (.v (.lss rfl rfl) (.nil ?_))))))))
  refine .cond_dec rfl (fun h1 => .skip ?_) (fun h1 => .exit ?_)
  · have hil : i < l.length := by omega
    obtain ⟨b, o, rfl, -, hc⟩ := Rd.ord hx (by omega)
    refine .seq (.block (.seq ((.drawT 12 (by kernel_rfl) (by kernel_rfl) (.v (.move rfl) (.v (.move rfl) (.v (.move rfl) (.v (.indexAddr rfl rfl (by omega) (by omega)) (.v (.fieldAddr rfl) (.v (.load (v := .int .i64 l[i].pr) rfl (.old1 (by rw [Int.toNat_natCast]; exact hc i hil 3 (.int .i64 l[i].pr) (by omega) rfl) (by simp [bl]))) (.v (.move rfl) (.v (.move rfl) (.v (.subi rfl rfl (by omega)) (.v (.indexAddr rfl rfl (by omega) (by omega)) (.v (.fieldAddr rfl) (.v (.load (v := .int .i64 l[i - 1].pr) rfl (.old1 (by rw [show ((i : Int) - 1).toNat = i - 1 from by omega]; exact hc (i - 1) (by omega) 3 (.int .i64 l[i - 1].pr) (by omega) rfl) (by simp [bl]))) (.nil ?_)))))))))))))))))
    refine .pc (v := .bool (bet s l[i].pr l[i - 1].pr)) rfl rfl (fun w _ => refBetter_ok w s _ _) (.nil ?_)
    refine .cond rfl (fun h2 => ?_) (fun h2 => .skip ?_)
    · refine .seq ((.region (.v (.assign rfl) (.nil ?_))))
      refine .ret ⟨[_], ⟨rfl, trivial⟩, ?_⟩
      rw [decide_eq_false (fun hd : Srt s l => absurd (hd i hil (by omega)) (by rw [h2]; simp))]; rfl
    · refine .region (.v (.move rfl) (.v (.addi rfl rfl (by omega)) (.v (.assign rfl) (.nil ?_))))
      refine ⟨i + 1, ⟨by omega, by omega, fun m hm hmi h0 => ?_⟩, by omega, .cons rfl (.cons rfl (.cons rfl (.nil _))), fun _ s => s⟩
      by_cases e : m = i
      · subst e; exact h2
      · exact hI m hm (by omega) h0
  · refine .seq ((.region (.v (.assign rfl) (.nil ?_))))
    refine .ret ⟨[_], ⟨rfl, trivial⟩, ?_⟩
    rw [decide_eq_true (show Srt s l from fun m hm h0 => hI m hm (by omega) h0)]; rfl
end Go.Proofs.Ytmfobfamdaajmaa

/- The document's Valid: what it computes. -/
namespace Go.Proofs.Ytmfobfamdaajmaa
open Go.V
set_option linter.unusedVariables false
set_option linter.unusedSimpArgs false

/-- a book's cells -/
def bcells (cap meet : Int) (B S : Value) (high seq : Int) : List Value := [.int .i64 cap, .int .i64 meet, B, S, .int .u64 high, .int .u64 seq]
def Ord.wf (o : Ord) : Prop := U o.id ∧ U o.v ∧ U o.hd ∧ U o.pk
def Ord.rests (o : Ord) (high : Int) : Prop := Rests o.id o.ty o.pr o.v o.hd o.pk high
instance (o : Ord) (high : Int) : Decidable (o.rests high) := by unfold Ord.rests; infer_instance
def crossB : List Ord → List Ord → Bool
  | b :: _, s :: _ => decide (s.pr ≤ b.pr)
  | _, _ => false
def Vld (cap meet high : Int) (bs ss : List Ord) : Prop :=
  (1 ≤ cap ∧ cap ≤ 4096 ∧ 0 ≤ meet ∧ meet ≤ 3) ∧ (bs.length : Int) ≤ 4096 ∧ (ss.length : Int) ≤ 4096 ∧ (bs.length : Int) + (ss.length : Int) ≤ cap ∧ (∀ o ∈ bs ++ ss, o.rests high) ∧ Dist (bs ++ ss) ∧ Srt 1 bs ∧ Srt 2 ss ∧ crossB bs ss = false
instance (cap meet high : Int) (bs ss : List Ord) : Decidable (Vld cap meet high bs ss) := by unfold Vld; infer_instance
def vld (cap meet high : Int) (bs ss : List Ord) : Int := if Vld cap meet high bs ss then 0 else 120
theorem rows_app (a b : List Ord) : rows (a ++ b) = rows a ++ rows b := by simp [rows]
theorem rows_ones (l : List Ord) : ones (rows l) = true := by
  induction l with
  | nil => rfl
  | cons a l ih =>
    have e : rows (a :: l) = a.cells ++ rows l := rfl
    have h1 : ones a.cells = true := rfl
    simp only [ones] at *
    rw [e, List.all_append, h1, ih]; rfl
set_option maxRecDepth 10000 in
theorem refValid_ok (w : World) (cap meet high seq : Int) (A1 A2 : Option Addr) (c1 c2 : Nat) (bs ss : List Ord) (h1 : Rd w [] A1 (rows bs)) (h2 : Rd w [] A2 (rows ss)) (hw : ∀ o ∈ bs ++ ss, o.wf)
    (hb1 : bs.length ≤ 2513169434843) (hb2 : ss.length ≤ 2513169434843) :
    Is Try.prog 17 [.agg ⟨bcells cap meet (.slice A1 bs.length c1) (.slice A2 ss.length c2) high seq⟩] w (.int .i64 (vld cap meet high bs ss)) := by
  refine Does.pure (Does.of (n := 92) Try.func17 rfl rfl rfl rfl ?_)
  refine .seq ((.region (.nw (.box rfl rfl) fun b1 => (.v (.assign rfl) (.nil ?_)))))
  refine .seq (.seq ((.region (.v (.fieldAddr rfl) (.v (.loadA (vs := [.int .i64 cap, .int .i64 meet]) rfl (.chunk fun j v hv => ?_) rfl) (.pc rfl rfl (fun w s => refConfig_ok w cap meet) (.v (.not rfl) (.v (.move rfl) (.or 9 13 4 4 rfl rfl (fun g1 => .v (.fieldAddr rfl) (.v (.load rfl (.one rfl)) (.v (.len rfl) (.v (.gtr rfl rfl) (.nil ⟨rfl, rfl, rfl, rfl⟩))))) (.v (.move rfl) (.or 15 19 4 4 rfl rfl (fun g2 => .v (.fieldAddr rfl) (.v (.load rfl (.one rfl)) (.v (.len rfl) (.v (.gtr rfl rfl) (.nil ⟨rfl, rfl, rfl, rfl⟩))))) (.v (.move rfl) (.or 21 32 11 11 rfl rfl (fun g3 => .v (.fieldAddr rfl) (.v (.load rfl (.one rfl)) (.v (.len rfl) (.v (.fieldAddr rfl) (.v (.load rfl (.one rfl)) (.v (.len rfl) (.v (.addi rfl rfl (by omega)) (.v (.fieldAddr rfl) (.v (.fieldAddr rfl) (.v (.load rfl (.one rfl)) (.v (.gtr rfl rfl) (.nil ⟨rfl, rfl, rfl, rfl⟩)))))))))))) (.nil ?_))))))))))))))
  · match j, hv with
    | 0, hv => exact hv
    | 1, hv => exact hv
    | _ + 2, hv => cases hv
  refine .cond rfl (fun g => ?_) (fun g => .skip ?_) <;> simp only [Bool.and_eq_true, Bool.or_eq_true, Bool.not_eq_true', Bool.and_eq_false_iff, Bool.or_eq_false_iff, Bool.not_eq_false', decide_eq_true_eq, decide_eq_false_iff_not, Bool.false_eq_true, false_iff] at g
  · refine .seq ((.region (.v (.assign rfl) (.nil ?_))))
    exact .ret ⟨[_], ⟨rfl, trivial⟩, by rw [vld, if_neg (fun k : Vld cap meet high bs ss => by have := k.1; have := k.2.1; have := k.2.2.1; have := k.2.2.2.1; omega)]; rfl⟩
  have q1 : 1 ≤ cap ∧ cap ≤ 4096 ∧ 0 ≤ meet ∧ meet ≤ 3 := by omega
  refine .seq ((.draw [(b1, .cells (bcells cap meet (.slice A1 bs.length c1) (.slice A2 ss.length c2) high seq) 30)] (fun _ h => h) (by kernel_rfl) ?_))
  refine .v 1 rfl (by kernel_rfl) (fun hs' f => .fieldAddr rfl) ?_
  refine .v 2 rfl (by kernel_rfl) (fun hs' f => .load (v := .slice A1 bs.length c1) rfl (.one (hb := .sub f) rfl)) ?_
  refine .v 4 rfl (by kernel_rfl) (fun hs' f => .fieldAddr rfl) ?_
  refine .v 5 rfl (by kernel_rfl) (fun hs' f => .load (v := .slice A2 ss.length c2) rfl (.one (hb := .sub f) rfl)) ?_
  refine .ef 0 rfl (by kernel_rfl) (.buildSlice (out := []) rfl (by decide) rfl rfl) ?_ (fun v hs' ⟨b, _, e⟩ f => by subst e; exact fun p hp => List.mem_cons_of_mem _ (f hp))
  rintro _ _ ⟨b6, rfl, rfl⟩
  refine .ef 3 rfl (by kernel_rfl) (.append (c := 0) (k := bs.length) (vs := []) (news := rows bs) (h := [(b6, .cells [] 53)]) (fr := [(b1, .cells (bcells cap meet (.slice A1 bs.length c1) (.slice A2 ss.length c2) high seq) 30)]) rfl rfl ⟨rfl, .inr ⟨b6, 0, 0, [], rfl, rfl, by omega, by simp, by simp⟩⟩ (by exact List.Perm.refl _)
    (fun w' s => (h1.keep0 s).src (rows_length bs) (by omega)) (rows_length bs) (rows_ones _) (by omega) (by omega)) ?_ (fun v hs' ⟨h', _, e⟩ _ => by subst e; exact fun p hp => List.mem_append_right _ hp)
  rintro v6 _ ⟨h6, k6, rfl⟩
  refine .ef 6 rfl (by kernel_rfl) (.append (c := 0 + bs.length) (k := ss.length) (vs := [] ++ rows bs) (news := rows ss) (h := h6) (fr := [(b1, .cells (bcells cap meet (.slice A1 bs.length c1) (.slice A2 ss.length c2) high seq) 30)]) rfl rfl k6 (by exact List.Perm.refl _)
    (fun w' s => (h2.keep0 s).src (rows_length ss) (by omega)) (rows_length ss) (rows_ones _) (by omega) (by omega)) ?_ (fun v hs' ⟨h', _, e⟩ _ => by subst e; exact fun p hp => List.mem_append_right _ hp)
  rintro v7 _ ⟨h7, k7, rfl⟩
  refine .v 7 rfl (by kernel_rfl) (fun hs' f => .assign rfl) ?_
  refine .done (by kernel_rfl) ?_
  have ka : OwnS 53 7 v7 (bs ++ ss).length (rows (bs ++ ss)) h7 := by
    rw [rows_app, List.length_append]
    simpa using k7
  clear k7
  generalize hall : bs ++ ss = all at *
  have hln : all.length = bs.length + ss.length := by rw [← hall]; simp
  obtain ⟨A, c, rfl⟩ := ka.slice
  refine .seq (.seq ((.region (.v (.assign rfl) (.nil ?_)))))
  refine .block (.loop (X := Nat) (fun i => [(1, .pointer (some ⟨b1, 0, none⟩)), (3, .slice A all.length c), (4, .int .i64 i)]) (fun _ => h7 ++ [(b1, .cells (bcells cap meet (.slice A1 bs.length c1) (.slice A2 ss.length c2) high seq) 30)])
    (fun i => i ≤ all.length ∧ ∀ m, (hm : m < all.length) → m < i → all[m].rests high) (fun i => all.length - i) 0 ⟨by omega, fun m _ hm => by omega⟩ (.cons rfl (.cons rfl (.cons rfl (.nil _)))) (fun _ s => s) ?_)
  rintro i ⟨hi, hI⟩
  refine .seq (.seq ((.region (.v (.move rfl) (.v (.move rfl) (.v (.len rfl) (.v (.lss rfl rfl) (.nil ?_))))))))
  refine .cond_dec rfl (fun g1 => .skip ?_) (fun g1 => .exit ?_)
  · have hil : i < all.length := by omega
    obtain ⟨b, o, cp, l, e, rfl, hc, hlen, htk, -⟩ := ka.pos (by omega)
    cases e
    have hmem : all[i] ∈ all := List.getElem_mem hil
    obtain ⟨u1, u2, u3, u4⟩ := hw all[i] hmem
    refine .seq (.block (.seq ((.drawT 6 (by kernel_rfl) (by kernel_rfl) (.v (.move rfl) (.v (.move rfl) (.v (.indexAddr rfl rfl (by omega) (by omega)) (.v (.loadA (vs := all[i].cells) rfl (.chunk (l := l) (T := 53) fun j v hv => ?_) rfl) (.v (.fieldAddr rfl) (.v (.load (v := .int .u64 high) rfl (.one (l := bcells cap meet (.slice A1 bs.length c1) (.slice A2 ss.length c2) high seq) (T := 30) rfl)) (.nil ?_)))))))))))
    · rw [Int.toNat_natCast]
      have hj : j < 7 := (List.getElem?_eq_some_iff.1 hv).1
      have h9 := rows_get all i j hil hj
      rw [hv, ← htk, List.getElem?_take] at h9
      split at h9
      · rw [List.getElem?_drop] at h9; rw [Nat.add_assoc]; exact h9
      · cases h9
    refine .pc (v := .bool (decide (all[i].rests high))) rfl rfl (fun w _ => order_ok w _ _ _ _ _ _ _ high u1 u2 u3 u4) (.v (.not rfl) (.nil ?_))
    refine .cond rfl (fun g2 => ?_) (fun g2 => .skip ?_)
    · refine .seq ((.region (.v (.assign rfl) (.nil ?_))))
      have g3 : ¬ all[i].rests high := by simpa using g2
      exact .ret ⟨[_], ⟨rfl, trivial⟩, by rw [vld, if_neg (fun k : Vld cap meet high bs ss => g3 (k.2.2.2.2.1 _ (by rw [hall]; exact hmem)))]; rfl⟩
    · have g3 : all[i].rests high := by simpa using g2
      refine .region (.v (.move rfl) (.v (.addi rfl rfl (by omega)) (.v (.assign rfl) (.nil ?_))))
      refine ⟨i + 1, ⟨by omega, fun m hm hmi => ?_⟩, by omega, .cons rfl (.cons rfl (.cons rfl (.nil _))), fun _ s => s⟩
      by_cases e : m = i
      · subst e; exact g3
      · exact hI m hm (by omega)
  have hrest : ∀ o ∈ all, o.rests high := by
    intro o ho
    obtain ⟨m, hm, rfl⟩ := List.mem_iff_getElem.1 ho
    exact hI m hm (by omega)
  refine .seq (.seq ((.region (.v (.move rfl) (.pc rfl rfl (fun w' s => twice_ok w' A all.length c all (ka.rd s (fun p hp => by simp [hp]) (by simp)) rfl (by omega)) (.v (.move rfl) (.or 57 61 4 4 rfl rfl (fun _ => .v (.fieldAddr rfl) (.v (.load (v := .slice A1 bs.length c1) rfl (.one rfl)) (.pc rfl rfl (fun w' s => sorted_ok w' 1 A1 bs.length c1 bs (h1.keep0 s) rfl hb1) (.v (.not rfl) (.nil ⟨rfl, rfl, rfl, rfl⟩))))) (.v (.move rfl) (.or 63 67 4 4 rfl rfl (fun _ => .v (.fieldAddr rfl) (.v (.load (v := .slice A2 ss.length c2) rfl (.one rfl)) (.pc rfl rfl (fun w' s => sorted_ok w' 2 A2 ss.length c2 ss (h2.keep0 s) rfl hb2) (.v (.not rfl) (.nil ⟨rfl, rfl, rfl, rfl⟩))))) (.nil ?_))))))))))
  refine .cond rfl (fun g4 => ?_) (fun g4 => .skip ?_) <;> simp only [Bool.and_eq_true, Bool.or_eq_true, Bool.not_eq_true', Bool.and_eq_false_iff, Bool.or_eq_false_iff, Bool.not_eq_false', decide_eq_true_eq, decide_eq_false_iff_not, Bool.false_eq_true, false_iff] at g4
  · refine .seq ((.region (.v (.assign rfl) (.nil ?_))))
    refine .ret ⟨[_], ⟨rfl, trivial⟩, ?_⟩
    rw [vld, if_neg (fun k : Vld cap meet high bs ss => ?_)]; rfl
    have := k.2.2.2.2.2
    rw [hall] at this
    rcases g4 with (g4 | g4) | g4
    · exact g4 this.1
    · exact g4 this.2.1
    · exact g4 this.2.2.1
  have hfin : ∀ x : Bool, crossB bs ss = x → vld cap meet high bs ss = if x then 120 else 0 := by
    intro x hx
    cases x with
    | true => rw [vld, if_neg (fun k : Vld cap meet high bs ss => by rw [k.2.2.2.2.2.2.2.2] at hx; cases hx)]; rfl
    | false => rw [vld, if_pos ⟨q1, by omega, by omega, by omega, by rw [hall]; exact hrest, by rw [hall]; exact (by simpa using g4.1.1), by simpa using g4.1.2, by simpa using g4.2, hx⟩]; rfl
  by_cases hboth : 0 < bs.length ∧ 0 < ss.length
  · obtain ⟨b, o, rfl, -, hc⟩ := Rd.ord h1 hboth.1
    obtain ⟨b', o', rfl, -, hc'⟩ := Rd.ord h2 hboth.2
    have hcr : crossB bs ss = decide ((ss[0]'hboth.2).pr ≤ (bs[0]'hboth.1).pr) := by
      match bs, ss, hboth with
      | _ :: _, _ :: _, _ => rfl
    refine .seq (.seq ((.drawS (by kernel_rfl) (by kernel_rfl) (.v (.fieldAddr rfl) (.v (.load (v := .slice (some ⟨b, o, none⟩) bs.length c1) rfl (.one rfl)) (.v (.len rfl) (.v (.gtr rfl rfl) (.v (.move rfl) (.and 73 77 4 4 rfl rfl (fun _ => .v (.fieldAddr rfl) (.v (.load (v := .slice (some ⟨b', o', none⟩) ss.length c2) rfl (.one rfl)) (.v (.len rfl) (.v (.gtr rfl rfl) (.nil ⟨rfl, rfl, rfl⟩))))) (.v (.move rfl) (.and 79 90 11 11 rfl rfl (fun _ => .v (.fieldAddr rfl) (.v (.load (v := .slice (some ⟨b, o, none⟩) bs.length c1) rfl (.one rfl)) (.v (.indexAddr rfl rfl (by omega) (by omega)) (.v (.fieldAddr rfl) (.v (.load (v := .int .i64 (bs[0]'hboth.1).pr) rfl (.old1 (hc 0 hboth.1 3 (.int .i64 (bs[0]'hboth.1).pr) (by omega) rfl) (by simp [bl]))) (.v (.fieldAddr rfl) (.v (.load (v := .slice (some ⟨b', o', none⟩) ss.length c2) rfl (.one rfl)) (.v (.indexAddr rfl rfl (by omega) (by omega)) (.v (.fieldAddr rfl) (.v (.load (v := .int .i64 (ss[0]'hboth.2).pr) rfl (.old1 (hc' 0 hboth.2 3 (.int .i64 (ss[0]'hboth.2).pr) (by omega) rfl) (by simp [bl]))) (.v (.geq rfl rfl) (.nil ⟨rfl, rfl, rfl⟩)))))))))))) (.nil ?_))))))))))))
    refine .cond rfl (fun g5 => ?_) (fun g5 => .skip ?_) <;> simp only [Bool.and_eq_true, Bool.or_eq_true, Bool.not_eq_true', Bool.and_eq_false_iff, Bool.or_eq_false_iff, Bool.not_eq_false', decide_eq_true_eq, decide_eq_false_iff_not, Bool.false_eq_true, false_iff] at g5
    · refine .seq ((.region (.v (.assign rfl) (.nil ?_))))
      exact .ret ⟨[_], ⟨rfl, trivial⟩, by rw [hfin true (by rw [hcr]; exact decide_eq_true g5.2)]; rfl⟩
    · refine .seq ((.region (.v (.assign rfl) (.nil ?_))))
      exact .ret ⟨[_], ⟨rfl, trivial⟩, by rw [hfin false (by rw [hcr]; exact decide_eq_false (fun k => by rcases g5 with (g5 | g5) | g5 <;> omega))]; rfl⟩
  · have hcr : crossB bs ss = false := by
      match bs, ss, hboth with
      | [], _, _ => rfl
      | _ :: _, [], _ => rfl
      | _ :: _, _ :: _, h => exact absurd ⟨by simp, by simp⟩ h
    refine .seq (.seq ((.drawS (by kernel_rfl) (by kernel_rfl) (.v (.fieldAddr rfl) (.v (.load (v := .slice A1 bs.length c1) rfl (.one rfl)) (.v (.len rfl) (.v (.gtr rfl rfl) (.v (.move rfl) (.and 73 77 4 4 rfl rfl (fun _ => .v (.fieldAddr rfl) (.v (.load (v := .slice A2 ss.length c2) rfl (.one rfl)) (.v (.len rfl) (.v (.gtr rfl rfl) (.nil ⟨rfl, rfl, rfl⟩))))) (.v (.move rfl) (.and (b2 := false) 79 90 11 11 rfl rfl (fun g => absurd g (by simp only [Bool.and_eq_true, Bool.or_eq_true, Bool.not_eq_true', Bool.and_eq_false_iff, Bool.or_eq_false_iff, Bool.not_eq_false', decide_eq_true_eq, decide_eq_false_iff_not, Bool.false_eq_true, false_iff]; omega)) (.nil ?_))))))))))))
    refine .cond rfl (fun g5 => absurd g5 (by simp)) (fun _ => .skip ?_)
    refine .seq ((.region (.v (.assign rfl) (.nil ?_))))
    exact .ret ⟨[_], ⟨rfl, trivial⟩, by rw [hfin false hcr]; rfl⟩
end Go.Proofs.Ytmfobfamdaajmaa

/- rules.Valid: what it computes. -/
namespace Go.Proofs.Ytmfobfamdaajmaa
open Go.V
set_option linter.unusedVariables false
set_option linter.unusedSimpArgs false

/-- the numbers that were seen -/
def seenFrom (n : Nat) : List Ord → List ME
  | [] => []
  | o :: l => (o.id, .bool true, n) :: seenFrom (n + 1) l
theorem seen_app : ∀ (l : List Ord) (o : Ord) (n : Nat), seenFrom n (l ++ [o]) = seenFrom n l ++ [(o.id, .bool true, n + l.length)]
  | [], o, n => rfl
  | a :: l, o, n => by
    simp only [List.cons_append, seenFrom, seen_app l o (n + 1), List.length_cons]
    rw [show n + 1 + l.length = n + (l.length + 1) from by omega]
theorem mfind_seen (k : Int) : ∀ (l : List Ord) (n i : Nat), (mfind k (seenFrom n l) i).map (·.2) = if ∃ o ∈ l, o.id = k then some (.bool true) else none
  | [], n, i => by simp [seenFrom, mfind]
  | a :: l, n, i => by
    unfold seenFrom mfind
    by_cases h : k = a.id
    · subst h; simp
    · have hb : (k == a.id) = false := by simpa using h
      simp only [hb, Bool.false_eq_true, if_false]
      rw [mfind_seen k l (n + 1) (i + 1)]
      have : (∃ o ∈ a :: l, o.id = k) ↔ (∃ o ∈ l, o.id = k) := by
        constructor
        · rintro ⟨o, ho, e⟩
          rcases List.mem_cons.1 ho with rfl | ho
          · exact absurd e.symm h
          · exact ⟨o, ho, e⟩
        · rintro ⟨o, ho, e⟩; exact ⟨o, List.mem_cons_of_mem _ ho, e⟩
      by_cases hh : ∃ o ∈ l, o.id = k
      · rw [if_pos hh, if_pos (this.2 hh)]
      · rw [if_neg hh, if_neg (fun q => hh (this.1 q))]
theorem mget_seen (k : Int) (l : List Ord) : (mget k (seenFrom 0 l)).getD (.bool false) = .bool (decide (∃ o ∈ l, o.id = k)) := by
  unfold mget
  rw [mfind_seen]
  by_cases h : ∃ o ∈ l, o.id = k <;> simp [h]
theorem mset_seen (l : List Ord) (o : Ord) (h : ¬ ∃ x ∈ l, x.id = o.id) : mset o.id (.bool true) (seenFrom 0 l) l.length = (seenFrom 0 (l ++ [o]), (l ++ [o]).length) := by
  have hm := mfind_seen o.id l 0 0
  rw [if_neg h] at hm
  have hn : mfind o.id (seenFrom 0 l) 0 = none := by
    cases hf : mfind o.id (seenFrom 0 l) 0 with
    | none => rfl
    | some p => rw [hf] at hm; cases hm
  unfold mset
  rw [hn, seen_app]
  simp
/-- all of a side is right, next to what stood ahead -/
def SideOk (high : Int) (s : Int) (ahead l : List Ord) (n : Nat) : Prop :=
  ∀ i, (hi : i < l.length) → i < n → l[i].rests high ∧ (¬ ∃ x ∈ ahead ++ l.take i, x.id = l[i].id) ∧ (0 < i → bet s l[i].pr l[i - 1].pr = false)
theorem dist_of {ahead l : List Ord} {high s : Int} (h1 : Dist ahead) (h2 : SideOk high s ahead l l.length) : Dist (ahead ++ l) := by
  intro i hi j hj
  by_cases ha : i < ahead.length
  · rw [List.getElem_append_left ha, List.getElem_append_left (by omega)]
    exact h1 i ha j hj
  · have hi' : i - ahead.length < l.length := by simp at hi; omega
    have := (h2 (i - ahead.length) hi' hi').2.1
    rw [List.getElem_append_right (by omega)]
    intro e
    apply this
    refine ⟨(ahead ++ l)[j], ?_, e.symm⟩
    have : (ahead ++ l)[j] ∈ (ahead ++ l).take i := by
      rw [List.mem_iff_getElem]
      exact ⟨j, by simp at hi ⊢; omega, by simp⟩
    rw [List.take_append] at this
    rwa [List.take_of_length_le (by omega)] at this
theorem not_dist {ahead l : List Ord} {i : Nat} (hi : i < l.length) (h : ∃ x ∈ ahead ++ l.take i, x.id = l[i].id) (rest : List Ord) : ¬ Dist (ahead ++ l ++ rest) := by
  intro hd
  obtain ⟨x, hx, e⟩ := h
  obtain ⟨j, hj, rfl⟩ := List.mem_iff_getElem.1 hx
  simp at hj
  have hj2 : j < ahead.length + i := by omega
  refine hd (ahead.length + i) (by simp; omega) j hj2 ?_
  have e1 : (ahead ++ l ++ rest)[ahead.length + i]'(by simp; omega) = l[i] := by
    rw [List.getElem_append_left (by simp; omega), List.getElem_append_right (by omega)]
    simp
  have e2 : (ahead ++ l ++ rest)[j]'(by simp; omega) = (ahead ++ l.take i)[j]'(by simp; omega) := by
    rw [List.getElem_append_left (by simp; omega)]
    by_cases ha : j < ahead.length
    · rw [List.getElem_append_left ha, List.getElem_append_left ha]
    · rw [List.getElem_append_right (by omega), List.getElem_append_right (by omega)]
      simp
  rw [e1, e2, e]
end Go.Proofs.Ytmfobfamdaajmaa

/- rules.Valid: the walk. -/
namespace Go.Proofs.Ytmfobfamdaajmaa
open Go.V
set_option linter.unusedVariables false
set_option linter.unusedSimpArgs false

def ah (bs ss : List Ord) : Nat → List Ord
  | 0 => []
  | 1 => bs
  | _ => bs ++ ss
theorem side_facts (bs ss : List Ord) (A1 A2 : Option Addr) (c1 c2 : Nat) (high : Int) (w : World) (h1 : Rd w [] A1 (rows bs)) (h2 : Rd w [] A2 (rows ss)) (hb1 : bs.length ≤ 2513169434843) (hb2 : ss.length ≤ 2513169434843) (s : Nat) (hs : s < 2) :
    ∃ (L : List Ord) (A : Option Addr) (c : Nat), ([.slice A1 bs.length c1, .slice A2 ss.length c2] : List Value)[s]? = some (.slice A L.length c) ∧ Rd w [] A (rows L) ∧ L.length ≤ 2513169434843 ∧ (∀ o ∈ L, o ∈ bs ++ ss) ∧
      (∀ (i : Nat) (hi : i < L.length), (∃ x ∈ ah bs ss s ++ L.take i, x.id = L[i].id) → ¬ Dist (bs ++ ss)) ∧ (∀ (i : Nat) (hi : i < L.length), 0 < i → bet ((s : Int) + 1) L[i].pr L[i - 1].pr = true → ¬ (Srt 1 bs ∧ Srt 2 ss)) ∧
      ah bs ss (s + 1) = ah bs ss s ++ L ∧ (SideOk high ((s : Int) + 1) (ah bs ss s) L L.length → (s = 0 → Srt 1 bs) ∧ (s = 1 → Srt 2 ss)) := by
  match s, hs with
  | 0, _ =>
    refine ⟨bs, A1, c1, rfl, h1, hb1, fun o ho => by simp [ho], fun i hi h => ?_, fun i hi h0 hb k => ?_, by simp [ah], fun k => ⟨fun _ i hi h0 => ?_, fun h => by cases h⟩⟩
    · have := not_dist hi h ss
      simpa [ah] using this
    · have := k.1 i hi h0
      simp at hb
      rw [hb] at this; cases this
    · have := (k i hi hi).2.2 h0
      simpa using this
  | 1, _ =>
    refine ⟨ss, A2, c2, rfl, h2, hb2, fun o ho => by simp [ho], fun i hi h => ?_, fun i hi h0 hb k => ?_, rfl, fun k => ⟨fun h => (nomatch h), fun _ i hi h0 => ?_⟩⟩
    · have := not_dist hi h []
      simpa [ah] using this
    · have := k.2 i hi h0
      simp at hb
      rw [hb] at this; cases this
    · have := (k i hi hi).2.2 h0
      simpa using this
set_option maxRecDepth 10000 in
theorem Valid_ok (w : World) (cap meet high seq : Int) (A1 A2 : Option Addr) (c1 c2 : Nat) (bs ss : List Ord) (h1 : Rd w [] A1 (rows bs)) (h2 : Rd w [] A2 (rows ss)) (hw : ∀ o ∈ bs ++ ss, o.wf)
    (hb1 : bs.length ≤ 2513169434843) (hb2 : ss.length ≤ 2513169434843) :
    Is Try.prog 16 [.agg ⟨bcells cap meet (.slice A1 bs.length c1) (.slice A2 ss.length c2) high seq⟩] w (.int .i64 (vld cap meet high bs ss)) := by
  refine Does.pure (Does.of (n := 109) Try.func16 rfl rfl rfl rfl ?_)
  refine .seq ((.region (.nw (.box rfl rfl) fun b1 => (.v (.assign rfl) (.nil ?_)))))
  refine .seq (.seq ((.region (.v (.fieldAddr rfl) (.v (.loadA (vs := [.int .i64 cap, .int .i64 meet]) rfl (.chunk fun j v hv => ?_) rfl) (.pc rfl rfl (fun w s => configured_ok w cap meet) (.v (.not rfl) (.v (.move rfl) (.or 12 19 7 7 rfl rfl (fun g1 => .v (.fieldAddr rfl) (.v (.load rfl (.one rfl)) (.v (.len rfl) (.v (.fieldAddr rfl) (.v (.fieldAddr rfl) (.v (.load rfl (.one rfl)) (.v (.gtr rfl rfl) (.nil ⟨rfl, rfl, rfl, rfl⟩)))))))) (.v (.move rfl) (.or 21 32 11 11 rfl rfl (fun g2 => .v (.fieldAddr rfl) (.v (.load rfl (.one rfl)) (.v (.len rfl) (.v (.fieldAddr rfl) (.v (.fieldAddr rfl) (.v (.load rfl (.one rfl)) (.v (.fieldAddr rfl) (.v (.load rfl (.one rfl)) (.v (.len rfl) (.v (.subi rfl rfl (by simp only [Bool.and_eq_true, Bool.or_eq_true, Bool.not_eq_true', Bool.and_eq_false_iff, Bool.or_eq_false_iff, Bool.not_eq_false', decide_eq_true_eq, decide_eq_false_iff_not, Bool.false_eq_true, false_iff] at g2; omega)) (.v (.gtr rfl rfl) (.nil ⟨rfl, rfl, rfl, rfl⟩)))))))))))) (.nil ?_))))))))))))
  · match j, hv with
    | 0, hv => exact hv
    | 1, hv => exact hv
    | _ + 2, hv => cases hv
  refine .cond rfl (fun g => ?_) (fun g => .skip ?_) <;> simp only [Bool.and_eq_true, Bool.or_eq_true, Bool.not_eq_true', Bool.and_eq_false_iff, Bool.or_eq_false_iff, Bool.not_eq_false', decide_eq_true_eq, decide_eq_false_iff_not, Bool.false_eq_true, false_iff] at g
  · refine .seq ((.region (.v (.assign rfl) (.nil ?_))))
    exact .ret ⟨[_], ⟨rfl, trivial⟩, by rw [vld, if_neg (fun k : Vld cap meet high bs ss => by have := k.1; have := k.2.1; have := k.2.2.1; have := k.2.2.2.1; omega)]; rfl⟩
  have q1 : 1 ≤ cap ∧ cap ≤ 4096 ∧ 0 ≤ meet ∧ meet ≤ 3 := by omega
  refine .seq ((.region (.ef (.makeMap .u64) ?_)))
  rintro _ _ ⟨bm, rfl, rfl⟩
  refine .v (.assign rfl) (.nil ?_)
  refine .seq (.seq ((.region (.v (.fieldAddr rfl) (.v (.load (v := .slice A1 bs.length c1) rfl (.one rfl)) (.v (.fieldAddr rfl) (.v (.load (v := .slice A2 ss.length c2) rfl (.one rfl)) (.ef (.buildSlice (out := [.slice A1 bs.length c1, .slice A2 ss.length c2]) rfl (by decide) rfl rfl) ?_))))))))
  rintro _ _ ⟨b2, rfl, rfl⟩
  refine .v (.len rfl) (.v (.move rfl) (.nil ?_))
  refine .block (.loop (X := Nat) (fun s => [(1, .pointer (some ⟨b1, 0, none⟩)), (3, .map (some bm)), (39, .slice (some ⟨b2, 0, none⟩) 2 2), (40, .int .i64 2), (41, .int .i64 s)])
    (fun s => [(b2, .cells [.slice A1 bs.length c1, .slice A2 ss.length c2] 28), (bm, .obj (mapOf .u64 (seenFrom 0 (ah bs ss s)) (ah bs ss s).length)), (b1, .cells (bcells cap meet (.slice A1 bs.length c1) (.slice A2 ss.length c2) high seq) 30)])
    (fun s => s ≤ 2 ∧ Dist (ah bs ss s) ∧ (∀ o ∈ ah bs ss s, o.rests high) ∧ (0 < s → Srt 1 bs) ∧ (1 < s → Srt 2 ss)) (fun s => 2 - s) 0 ⟨by omega, fun i hi => by simp [ah] at hi, fun o ho => by simp [ah] at ho, fun h => by omega, fun h => by omega⟩
    (.cons rfl (.cons rfl (.cons rfl (.cons rfl (.cons rfl (.nil _)))))) (fun _ s => s) ?_)
  rintro s ⟨hs, hD, hR, hS1, hS2⟩
  refine .seq ((.region (.v (.lss rfl rfl) (.nil ?_))))
  refine .seq (.cond_dec rfl (fun g1 => .skip ?_) (fun g1 => .exit ?_))
  · obtain ⟨L, A, c, hcell, hL, hbL, hmem, hbadD, hbadS, hnext, hgood⟩ := side_facts bs ss A1 A2 c1 c2 high w h1 h2 hb1 hb2 s (by omega)
    refine .seq (.block (.seq ((.region (.v (.move rfl) (.v (.indexAddr1 rfl rfl (by omega) (by omega)) (.v (.load (v := .slice A L.length c) rfl (.one (by rw [Nat.zero_add, Int.toNat_natCast]; exact hcell))) (.v (.assign rfl) (.v (.assign rfl) (.nil ?_))))))))))
    refine .seq ((.region (.v (.move rfl) (.v (.len rfl) (.v (.move rfl) (.nil ?_))))))
    refine .block (.loop (X := Nat) (fun i => [(1, .pointer (some ⟨b1, 0, none⟩)), (3, .map (some bm)), (4, .int .i64 s), (5, .slice A L.length c), (39, .slice (some ⟨b2, 0, none⟩) 2 2), (40, .int .i64 2), (41, .int .i64 s), (46, .slice A L.length c), (47, .int .i64 L.length), (48, .int .i64 i)])
      (fun i => [(b2, .cells [.slice A1 bs.length c1, .slice A2 ss.length c2] 28), (bm, .obj (mapOf .u64 (seenFrom 0 (ah bs ss s ++ L.take i)) (ah bs ss s ++ L.take i).length)), (b1, .cells (bcells cap meet (.slice A1 bs.length c1) (.slice A2 ss.length c2) high seq) 30)]) (fun i => i ≤ L.length ∧ SideOk high ((s : Int) + 1) (ah bs ss s) L i) (fun i => L.length - i) 0 ⟨by omega, fun i _ hi => by omega⟩
      (.cons rfl (.cons rfl (.cons rfl (.cons rfl (.cons rfl (.cons rfl (.cons rfl (.cons rfl (.cons rfl (.cons rfl (.nil _))))))))))) (fun _ s => by simpa using s) ?_)
    rintro i ⟨hi, hI⟩
    refine .seq ((.region (.v (.lss rfl rfl) (.nil ?_))))
    refine .seq (.cond_dec rfl (fun g2 => .skip ?_) (fun g2 => .exit ?_))
    · have hil : i < L.length := by omega
      obtain ⟨b, o, rfl, -, hc⟩ := Rd.ord hL (by omega)
      obtain ⟨u1, u2, u3, u4⟩ := hw L[i] (hmem _ (List.getElem_mem hil))
      refine .seq (.block (.seq ((.region (.v (.move rfl) (.v (.indexAddr rfl rfl (by omega) (by omega)) (.v (.loadA (vs := L[i].cells) rfl (.old (fun j v hv => ?_) (by simp [bl])) rfl) (.nw .alloc fun b7 => (.v (.assign rfl) (.st (.sw rfl rfl) (.nil ?_)))))))))))
      · rw [add_none, Int.toNat_natCast]; exact hc i hil j v (List.getElem?_eq_some_iff.1 hv).1 hv
      refine .seq (.seq ((.drawK [(b7, .cells L[i].cells 53), (b2, .cells [.slice A1 bs.length c1, .slice A2 ss.length c2] 28), (bm, .obj (mapOf .u64 (seenFrom 0 (ah bs ss s ++ L.take i)) (ah bs ss s ++ L.take i).length)), (b1, .cells (bcells cap meet (.slice A1 bs.length c1) (.slice A2 ss.length c2) high seq) 30)] (fun _ h => h) (by kernel_rfl) (by kernel_rfl) (.v (fun _ f => .loadA rfl (.whole (hb := .sub f)) rfl) (.v (fun _ f => .fieldAddr rfl) (.v (fun _ f => .load (v := .int .u64 high) rfl (.one (hb := .sub f) rfl)) (.pc (v := .bool (decide (L[i].rests high))) rfl rfl (fun w _ => canRest_ok w _ _ _ _ _ _ _ high u1 u2 u3 u4) (.v (fun _ f => .not rfl) (.v (fun _ f => .move rfl) (.or 58 62 4 4 rfl rfl (fun _ => .v (fun _ f => .move rfl) (.v (fun _ f => .fieldAddr rfl) (.v (fun _ f => .load (v := .int .u64 L[i].id) rfl (.one (hb := .sub f) rfl)) (.v (v := .bool (decide (∃ x ∈ ah bs ss s ++ L.take i, x.id = L[i].id))) (fun _ f => .lookupE (es := seenFrom 0 (ah bs ss s ++ L.take i)) (hb := .sub f) rfl rfl (mget_seen _ _)) (.nil ⟨rfl, rfl, rfl, rfl⟩))))) (.v (fun _ f => .move rfl) (.or 64 79 15 4 rfl rfl (fun _ => .v (fun _ f => .move rfl) (.v (fun _ f => .gtr rfl rfl) (.v (fun _ f => .move rfl) (.and 67 78 11 11 rfl rfl (fun g5 => .v (fun _ f => .move rfl) (.v (fun _ f => .addi rfl rfl (by omega)) (.v (fun _ f => .fieldAddr rfl) (.v (fun _ f => .load (v := .int .i64 L[i].pr) rfl (.one (hb := .sub f) rfl)) (.v (fun _ f => .move rfl) (.v (fun _ f => .move rfl) (.v (fun _ f => .subi rfl rfl (by omega)) (.v (fun _ f => .indexAddr rfl rfl (by have := of_decide_eq_true g5; omega) (by omega)) (.v (fun _ f => .fieldAddr rfl) (.v (fun _ f => .load (v := .int .i64 L[i - 1].pr) rfl (.old1 (by rw [show ((i : Int) - 1).toNat = i - 1 from by omega]; exact hc (i - 1) (by omega) 3 (.int .i64 L[i - 1].pr) (by omega) rfl) (by simp [bl]))) (.pc (v := .bool (bet ((s : Int) + 1) L[i].pr L[i - 1].pr)) rfl rfl (fun w _ => better_ok w _ _ _) (.nil ⟨rfl, rfl, rfl, rfl⟩)))))))))))) (.nil ⟨rfl, rfl, rfl, rfl⟩))))) (.nil ?_)))))))))))))
      refine .cond rfl (fun g3 => ?_) (fun g3 => .skip ?_) <;> simp only [Bool.and_eq_true, Bool.or_eq_true, Bool.not_eq_true', Bool.and_eq_false_iff, Bool.or_eq_false_iff, Bool.not_eq_false', decide_eq_true_eq, decide_eq_false_iff_not, Bool.false_eq_true, false_iff] at g3
      · refine .seq ((.region (.v (.assign rfl) (.nil ?_))))
        refine .ret ⟨[_], ⟨rfl, trivial⟩, ?_⟩
        rw [vld, if_neg (fun k : Vld cap meet high bs ss => ?_)]; rfl
        rcases g3 with (g3 | g3) | g3
        · exact g3 (k.2.2.2.2.1 _ (hmem _ (List.getElem_mem hil)))
        · exact hbadD i hil g3 k.2.2.2.2.2.1
        · exact hbadS i hil (by omega) g3.2 ⟨k.2.2.2.2.2.2.1, k.2.2.2.2.2.2.2.1⟩
      · have hns : ¬ ∃ x ∈ ah bs ss s ++ L.take i, x.id = L[i].id := g3.1.2
        refine .region (.v (.move rfl) (.v (.fieldAddr rfl) (.v (.load (v := .int .u64 L[i].id) rfl (.one rfl)) (.st (.mapUpdate (k := L[i].id) rfl rfl rfl) (.nil ?_)))))
        refine .region (.v (.addi rfl rfl (by omega)) (.v (.move rfl) (.nil ?_)))
        refine ⟨i + 1, ⟨by omega, fun m hm hmi => ?_⟩, by omega, .cons rfl (.cons rfl (.cons rfl (.cons rfl (.cons rfl (.cons rfl (.cons rfl (.cons rfl (.cons rfl (.cons rfl (.nil _)))))))))), fun _ s => ?_⟩
        · by_cases e : m = i
          · subst e
            refine ⟨by simpa using g3.1.1, hns, fun h0 => ?_⟩
            cases hbb : bet ((s : Int) + 1) L[m].pr L[m - 1].pr with
            | false => rfl
            | true => rcases g3.2 with g4 | g4
                      · omega
                      · rw [hbb] at g4; cases g4
          · exact hI m hm (by omega)
        · rw [mset_seen _ _ hns, List.append_assoc, ← List.take_succ_eq_append_getElem hil] at s
          exact s.sub (List.sublist_cons_self _ _)
    · obtain rfl : i = L.length := by omega
      refine .region (.v (.addi rfl rfl (by omega)) (.v (.move rfl) (.nil ?_)))
      have hg := hgood hI
      refine ⟨s + 1, ⟨by omega, by rw [hnext]; exact dist_of hD hI, fun o ho => ?_, fun h0 => ?_, fun h0 => ?_⟩, by omega, .cons rfl (.cons rfl (.cons rfl (.cons rfl (.cons rfl (.nil _))))), fun _ s => ?_⟩
      · rw [hnext] at ho
        rcases List.mem_append.1 ho with ho | ho
        · exact hR o ho
        · obtain ⟨m, hm, rfl⟩ := List.mem_iff_getElem.1 ho
          exact (hI m hm hm).1
      · by_cases e : s = 0
        · exact hg.1 e
        · exact hS1 (by omega)
      · exact hg.2 (by omega)
      · rw [List.take_length, ← hnext] at s
        exact s
  · obtain rfl : s = 2 := by omega
    have hfin : ∀ x : Bool, crossB bs ss = x → vld cap meet high bs ss = if x then 120 else 0 := by
      intro x hx
      cases x with
      | true => rw [vld, if_neg (fun k : Vld cap meet high bs ss => by rw [k.2.2.2.2.2.2.2.2] at hx; cases hx)]; rfl
      | false => rw [vld, if_pos ⟨q1, by omega, by omega, by omega, hR, hD, hS1 (by omega), hS2 (by omega), hx⟩]; rfl
    by_cases hboth : 0 < bs.length ∧ 0 < ss.length
    · obtain ⟨b, o, rfl, -, hc⟩ := Rd.ord h1 hboth.1
      obtain ⟨b', o', rfl, -, hc'⟩ := Rd.ord h2 hboth.2
      have hcr : crossB bs ss = decide ((ss[0]'hboth.2).pr ≤ (bs[0]'hboth.1).pr) := by
        match bs, ss, hboth with
        | _ :: _, _ :: _, _ => rfl
      refine .seq (.seq ((.drawS (by kernel_rfl) (by kernel_rfl) (.v (.fieldAddr rfl) (.v (.load (v := .slice (some ⟨b, o, none⟩) bs.length c1) rfl (.one rfl)) (.v (.len rfl) (.v (.gtr rfl rfl) (.v (.move rfl) (.and 90 94 4 4 rfl rfl (fun _ => .v (.fieldAddr rfl) (.v (.load (v := .slice (some ⟨b', o', none⟩) ss.length c2) rfl (.one rfl)) (.v (.len rfl) (.v (.gtr rfl rfl) (.nil ⟨rfl, rfl, rfl⟩))))) (.v (.move rfl) (.and 96 107 11 11 rfl rfl (fun _ => .v (.fieldAddr rfl) (.v (.load (v := .slice (some ⟨b, o, none⟩) bs.length c1) rfl (.one rfl)) (.v (.indexAddr rfl rfl (by omega) (by omega)) (.v (.fieldAddr rfl) (.v (.load (v := .int .i64 (bs[0]'hboth.1).pr) rfl (.old1 (hc 0 hboth.1 3 (.int .i64 (bs[0]'hboth.1).pr) (by omega) rfl) (by simp [bl]))) (.v (.fieldAddr rfl) (.v (.load (v := .slice (some ⟨b', o', none⟩) ss.length c2) rfl (.one rfl)) (.v (.indexAddr rfl rfl (by omega) (by omega)) (.v (.fieldAddr rfl) (.v (.load (v := .int .i64 (ss[0]'hboth.2).pr) rfl (.old1 (hc' 0 hboth.2 3 (.int .i64 (ss[0]'hboth.2).pr) (by omega) rfl) (by simp [bl]))) (.v (.geq rfl rfl) (.nil ⟨rfl, rfl, rfl⟩)))))))))))) (.nil ?_))))))))))))
      refine .cond rfl (fun g5 => ?_) (fun g5 => .skip ?_) <;> simp only [Bool.and_eq_true, Bool.or_eq_true, Bool.not_eq_true', Bool.and_eq_false_iff, Bool.or_eq_false_iff, Bool.not_eq_false', decide_eq_true_eq, decide_eq_false_iff_not, Bool.false_eq_true, false_iff] at g5
      · refine .seq ((.region (.v (.assign rfl) (.nil ?_))))
        exact .ret ⟨[_], ⟨rfl, trivial⟩, by rw [hfin true (by rw [hcr]; exact decide_eq_true g5.2)]; rfl⟩
      · refine .seq ((.region (.v (.assign rfl) (.nil ?_))))
        exact .ret ⟨[_], ⟨rfl, trivial⟩, by rw [hfin false (by rw [hcr]; exact decide_eq_false (fun k => by rcases g5 with (g5 | g5) | g5 <;> omega))]; rfl⟩
    · have hcr : crossB bs ss = false := by
        match bs, ss, hboth with
        | [], _, _ => rfl
        | _ :: _, [], _ => rfl
        | _ :: _, _ :: _, h => exact absurd ⟨by simp, by simp⟩ h
      refine .seq (.seq ((.drawS (by kernel_rfl) (by kernel_rfl) (.v (.fieldAddr rfl) (.v (.load (v := .slice A1 bs.length c1) rfl (.one rfl)) (.v (.len rfl) (.v (.gtr rfl rfl) (.v (.move rfl) (.and 90 94 4 4 rfl rfl (fun _ => .v (.fieldAddr rfl) (.v (.load (v := .slice A2 ss.length c2) rfl (.one rfl)) (.v (.len rfl) (.v (.gtr rfl rfl) (.nil ⟨rfl, rfl, rfl⟩))))) (.v (.move rfl) (.and (b2 := false) 96 107 11 11 rfl rfl (fun g => absurd g (by simp only [Bool.and_eq_true, Bool.or_eq_true, Bool.not_eq_true', Bool.and_eq_false_iff, Bool.or_eq_false_iff, Bool.not_eq_false', decide_eq_true_eq, decide_eq_false_iff_not, Bool.false_eq_true, false_iff]; omega)) (.nil ?_))))))))))))
      refine .cond rfl (fun g5 => absurd g5 (by simp)) (fun _ => .skip ?_)
      refine .seq ((.region (.v (.assign rfl) (.nil ?_))))
      exact .ret ⟨[_], ⟨rfl, trivial⟩, by rw [hfin false hcr]; rfl⟩
end Go.Proofs.Ytmfobfamdaajmaa

/- rules.New and the document's. -/
namespace Go.Proofs.Ytmfobfamdaajmaa
open Go.V
set_option linter.unusedVariables false
set_option linter.unusedSimpArgs false

def Cfg (c m : Int) : Prop := 1 ≤ c ∧ c ≤ 4096 ∧ 0 ≤ m ∧ m ≤ 3
instance (c m : Int) : Decidable (Cfg c m) := by unfold Cfg; infer_instance
/-- a book of a config without orders -/
def bnew (c m : Int) : List Value := bcells c m (.slice none 0 0) (.slice none 0 0) 0 0
theorem New_ok (w : World) (c m : Int) : Does Try.prog 12 [.agg ⟨[.int .i64 c, .int .i64 m]⟩] [] w (fun v hs => if Cfg c m then ∃ b, v = .tuple ⟨[.pointer (some ⟨b, 0, none⟩), .int .i64 0]⟩ ∧ hs = [(b, .cells (bnew c m) 67)] else v = .tuple ⟨[.pointer none, .int .i64 1]⟩ ∧ hs = []) := by
  refine Does.less (Does.of (n := 11) Try.func12 rfl rfl rfl rfl ?_)
  refine .seq ((.region (.nw (.box rfl rfl) fun b1 => (.v (.assign rfl) (.v (.assign rfl) (.nil ?_))))))
  refine .seq (.seq ((.region (.v (.loadA rfl .whole rfl) (.pc (v := .bool (decide (Cfg c m))) rfl rfl (fun w _ => configured_ok w c m) (.v (.not rfl) (.nil ?_)))))))
  refine .cond rfl (fun h1 => ?_) (fun h1 => .skip ?_)
  · have hc : ¬ Cfg c m := by simpa using h1
    refine .seq ((.region (.v (.assign rfl) (.v (.assign rfl) (.nil ?_)))))
    exact .ret ⟨[_, _], ⟨rfl, rfl, trivial⟩, [], fun _ s => s.sub (List.nil_sublist _), by rw [if_neg hc]; exact ⟨rfl, rfl⟩⟩
  · have hc : Cfg c m := by simpa using h1
    refine .seq ((.region (.v (.loadA rfl .whole rfl) (.v (.build (out := bnew c m) rfl rfl) (.v (.build (out := bnew c m) rfl rfl) (.nw (.box rfl rfl) fun b10 => (.v (.assign rfl) (.v (.assign rfl) (.nil ?_)))))))))
    exact .ret ⟨[_, _], ⟨rfl, rfl, trivial⟩, [(b10, .cells (bnew c m) 67)], fun _ s => s.sub (.cons_cons _ (List.nil_sublist _)), by rw [if_pos hc]; exact ⟨b10, rfl, rfl⟩⟩
theorem refNew_ok (w : World) (c m : Int) : Is Try.prog 13 [.agg ⟨[.int .i64 c, .int .i64 m]⟩] w (.tuple ⟨[.agg ⟨if Cfg c m then bnew c m else bnew 0 0⟩, .int .i64 (if Cfg c m then 0 else 1)]⟩) := by
  refine Does.pure (Does.of (n := 10) Try.func13 rfl rfl rfl rfl ?_)
  refine .seq ((.region (.nw (.box rfl rfl) fun b1 => (.nw .alloc fun b2 => (.v (.assign rfl) (.nil ?_))))))
  refine .seq (.seq ((.region (.v (.loadA rfl .whole rfl) (.pc (v := .bool (decide (Cfg c m))) rfl rfl (fun w _ => refConfig_ok w c m) (.v (.not rfl) (.nil ?_)))))))
  refine .cond rfl (fun h1 => ?_) (fun h1 => .skip ?_)
  · have hc : ¬ Cfg c m := by simpa using h1
    refine .seq ((.region (.v (.build (out := bnew 0 0) rfl rfl) (.st (.sw rfl rfl) (.v (.assign rfl) (.nil ?_))))))
    exact .ret ⟨[_, _], ⟨⟨_, rfl, .inr ⟨6, _, inferInstance, rfl, rfl, .whole⟩⟩, rfl, trivial⟩, by rw [if_neg hc, if_neg hc]; rfl⟩
  · have hc : Cfg c m := by simpa using h1
    refine .seq ((.region (.v (.loadA rfl .whole rfl) (.v (.build (out := bnew c m) rfl rfl) (.st (.sw rfl rfl) (.v (.assign rfl) (.nil ?_)))))))
    exact .ret ⟨[_, _], ⟨⟨_, rfl, .inr ⟨6, _, inferInstance, rfl, rfl, .whole⟩⟩, rfl, trivial⟩, by rw [if_pos hc, if_pos hc]; rfl⟩
end Go.Proofs.Ytmfobfamdaajmaa

/- slices.Clone of a side. -/
namespace Go.Proofs.Ytmfobfamdaajmaa
open Go.V
set_option linter.unusedVariables false
set_option linter.unusedSimpArgs false

set_option maxRecDepth 10000 in
theorem clone_ok (w : World) (A : Option Addr) (len cap : Nat) (l : List Ord) (hx : Rd w [] A (rows l)) (hl : len = l.length) (hb : len ≤ 2513169434843) :
    Does Try.prog 50 [.slice A len cap] [] w (fun v hs => OwnS 53 7 v l.length (rows l) hs) := by
  refine Does.less (Does.of (n := 8) Try.func50 rfl rfl rfl rfl ?_)
  refine .seq ((.region (.v (.assign rfl) (.nil ?_))))
  refine .seq (.seq ((.region (.v (.move rfl) (.v (.eql_slice_nil rfl rfl) (.nil ?_))))))
  refine .cond rfl (fun h1 => ?_) (fun h1 => .skip ?_)
  · have hA : A = none := by simpa using h1
    subst hA
    have h0 : l.length = 0 := by
      have := congrArg List.length hx.empty
      rw [rows_length] at this
      simp only [List.length_nil] at this; omega
    have hl0 : l = [] := List.eq_nil_of_length_eq_zero h0
    subst hl0
    refine .seq ((.region (.v (.assign rfl) (.nil ?_))))
    exact .ret ⟨[_], ⟨rfl, trivial⟩, [], fun _ s => s, OwnS.nil _ _⟩
  · refine .seq ((.region (.ef (.buildSlice (out := []) rfl (by decide) rfl rfl) ?_)))
    rintro _ _ ⟨b6, rfl, rfl⟩
    refine .v (.move rfl) ?_
    refine .ef (.append (c := 0) (k := len) (vs := []) (news := rows l) (h := [(b6, .cells [] 53)]) (fr := []) rfl rfl ⟨rfl, .inr ⟨b6, 0, 0, [], rfl, rfl, by omega, by simp, by simp⟩⟩ (by exact List.Perm.refl _)
      (fun w' s => (hx.keep0 s).src (by rw [rows_length, hl]) (by omega)) (by rw [rows_length, hl]) (rows_ones _) (by omega) (by omega)) ?_
    rintro v _ ⟨h', k', rfl⟩
    refine .v (.assign rfl) (.nil ?_)
    refine .ret ⟨[_], ⟨rfl, trivial⟩, h', fun _ s => by simpa using s, ?_⟩
    rw [Nat.zero_add, hl] at k'
    exact k'
end Go.Proofs.Ytmfobfamdaajmaa

/- Two sides that read alike are alike. -/
namespace Go.Proofs.Ytmfobfamdaajmaa
open Go.V
set_option linter.unusedVariables false
set_option linter.unusedSimpArgs false

abbrev OL : List Lf := [.i .u64, .i .u32, .i .i64, .i .i64, .i .u64, .i .u64, .i .u64]
theorem Ord.oks (o : Ord) : V.oks OL o.cells := ⟨rfl, rfl, rfl, rfl, rfl, rfl, rfl, trivial⟩
set_option maxRecDepth 10000 in
theorem orders_ok (w : World) (A B : Option Addr) (len ca cb : Nat) (l : List Ord) (hA : Rd w [] A (rows l)) (hB : Rd w [] B (rows l)) (hl : len = l.length) (hb : len ≤ 2513169434843) :
    Is Try.prog 37 [.slice A len ca, .slice B len cb] w (.bool true) := by
  refine Does.pure (Does.of (n := 26) Try.func37 rfl rfl rfl rfl ?_)
  refine .seq ((.region (.v (.assign rfl) (.nil ?_))))
  refine .seq (.seq ((.region (.v (.move rfl) (.v (.len rfl) (.v (.move rfl) (.v (.len rfl) (.v (.nei rfl rfl) (.nil ?_)))))))))
  refine .cond_dec rfl (fun g => absurd rfl g) (fun g => .skip ?_)
  refine .seq (.seq ((.region (.v (.assign rfl) (.nil ?_)))))
  refine .block (.loop (X := Nat) (fun i => [(0, .slice A len ca), (1, .slice B len cb), (5, .int .i64 i)]) (fun _ => []) (fun i => i ≤ len) (fun i => len - i) 0 (by omega) (.cons rfl (.cons rfl (.cons rfl (.nil _)))) (fun _ s => s) ?_)
  intro i hi
  refine .seq (.seq ((.region (.v (.move rfl) (.v (.move rfl) (.v (.len rfl) (.v (.lss rfl rfl) (.nil ?_))))))))
  refine .cond_dec rfl (fun g2 => .skip ?_) (fun g2 => .exit ?_)
  · have hil : i < l.length := by omega
    obtain ⟨b, o, rfl, -, hc⟩ := Rd.ord hA (by omega)
    obtain ⟨b', o', rfl, -, hc'⟩ := Rd.ord hB (by omega)
    refine .seq (.block (.seq ((.drawS (by kernel_rfl) (by kernel_rfl) (.v (.move rfl) (.v (.move rfl) (.v (.indexAddr rfl rfl (by omega) (by omega)) (.v (.loadA (vs := l[i].cells) rfl (.old (fun j v hv => ?_) (by simp [bl])) rfl) (.v (.move rfl) (.v (.move rfl) (.v (.indexAddr rfl rfl (by omega) (by omega)) (.v (.loadA (vs := l[i].cells) rfl (.old (fun j v hv => ?_) (by simp [bl])) rfl) (.v (.neA rfl rfl l[i].oks l[i].oks) (.nil ?_))))))))))))))
    · rw [add_none, Int.toNat_natCast]; exact hc i hil j v (List.getElem?_eq_some_iff.1 hv).1 hv
    · rw [add_none, Int.toNat_natCast]; exact hc' i hil j v (List.getElem?_eq_some_iff.1 hv).1 hv
    refine .cond rfl (fun g3 => absurd g3 (by rw [(cellsEq_iff l[i].oks l[i].oks).2 rfl]; simp)) (fun _ => .skip ?_)
    refine .region (.v (.move rfl) (.v (.addi rfl rfl (by omega)) (.v (.assign rfl) (.nil ?_))))
    exact ⟨i + 1, by omega, by omega, .cons rfl (.cons rfl (.cons rfl (.nil _))), fun _ s => s⟩
  · refine .seq ((.region (.v (.assign rfl) (.nil ?_))))
    exact .ret ⟨[_], ⟨rfl, trivial⟩, rfl⟩
end Go.Proofs.Ytmfobfamdaajmaa

/- Two books that read alike are alike. -/
namespace Go.Proofs.Ytmfobfamdaajmaa
open Go.V
set_option linter.unusedVariables false
set_option linter.unusedSimpArgs false

theorem cfg_oks (c m : Int) : oks [.i .i64, .i .i64] [.int .i64 c, .int .i64 m] := ⟨rfl, rfl, trivial⟩
set_option maxRecDepth 10000 in
theorem books_ok (w : World) (cap meet high seq : Int) (A1 A2 B1 B2 : Option Addr) (c1 c2 d1 d2 : Nat) (bs ss : List Ord) (h1 : Rd w [] A1 (rows bs)) (h2 : Rd w [] A2 (rows ss)) (k1 : Rd w [] B1 (rows bs)) (k2 : Rd w [] B2 (rows ss)) (hb1 : bs.length ≤ 2513169434843) (hb2 : ss.length ≤ 2513169434843) :
    Is Try.prog 18 [.agg ⟨bcells cap meet (.slice A1 bs.length c1) (.slice A2 ss.length c2) high seq⟩, .agg ⟨bcells cap meet (.slice B1 bs.length d1) (.slice B2 ss.length d2) high seq⟩] w (.bool true) := by
  refine Does.pure (Does.of (n := 38) Try.func18 rfl rfl rfl rfl ?_)
  have e1 : cellsEq [.int .i64 cap, .int .i64 meet] [.int .i64 cap, .int .i64 meet] = true := (cellsEq_iff (cfg_oks cap meet) (cfg_oks cap meet)).2 rfl
  have pre2 : ∀ (S T : Value) (j : Nat) (v : Value), ([.int .i64 cap, .int .i64 meet] : List Value)[j]? = some v → (bcells cap meet S T high seq)[0 + 0 + j]? = some v := by
    intro S T j v hv
    match j, hv with
    | 0, hv => exact hv
    | 1, hv => exact hv
    | _ + 2, hv => cases hv
  refine .seq ((.region (.nw (.box rfl rfl) fun b2 => (.nw (.box rfl rfl) fun b3 => (.v (.assign rfl) (.nil ?_))))))
  refine .seq ((.region (.v (.fieldAddr rfl) (.v (.loadA (vs := [.int .i64 cap, .int .i64 meet]) rfl (.chunk (pre2 _ _)) rfl) (.v (.fieldAddr rfl) (.v (.loadA (vs := [.int .i64 cap, .int .i64 meet]) rfl (.chunk (pre2 _ _)) rfl) (.v (.eqA rfl rfl (cfg_oks cap meet) (cfg_oks cap meet)) (.v (.move rfl) (.and 10 15 5 5 rfl rfl (fun g1 => .v (.fieldAddr rfl) (.v (.load rfl (.one rfl)) (.v (.fieldAddr rfl) (.v (.load rfl (.one rfl)) (.v (.eqi rfl rfl) (.nil ⟨rfl, rfl, rfl, rfl⟩)))))) (.v (.move rfl) (.and 17 22 5 5 rfl rfl (fun g2 => .v (.fieldAddr rfl) (.v (.load rfl (.one rfl)) (.v (.fieldAddr rfl) (.v (.load rfl (.one rfl)) (.v (.eqi rfl rfl) (.nil ⟨rfl, rfl, rfl, rfl⟩)))))) (.v (.move rfl) (.and 24 29 5 5 rfl rfl (fun g3 => .v (.fieldAddr rfl) (.v (.load rfl (.one rfl)) (.v (.fieldAddr rfl) (.v (.load rfl (.one rfl)) (.pc rfl rfl (fun w s => orders_ok w A1 B1 bs.length c1 d1 bs (h1.keep0 s) (k1.keep0 s) rfl hb1) (.nil ⟨rfl, rfl, rfl, rfl⟩)))))) (.v (.move rfl) (.and 31 36 5 5 rfl rfl (fun g4 => .v (.fieldAddr rfl) (.v (.load rfl (.one rfl)) (.v (.fieldAddr rfl) (.v (.load rfl (.one rfl)) (.pc rfl rfl (fun w s => orders_ok w A2 B2 ss.length c2 d2 ss (h2.keep0 s) (k2.keep0 s) rfl hb2) (.nil ⟨rfl, rfl, rfl, rfl⟩)))))) (.v (.assign rfl) (.nil ?_)))))))))))))))))
  exact .ret ⟨[_], ⟨rfl, trivial⟩, congrArg Value.bool (by rw [e1]; simp)⟩
end Go.Proofs.Ytmfobfamdaajmaa

/- bourseref09.Copy; (*rules.Book).Len. -/
namespace Go.Proofs.Ytmfobfamdaajmaa
open Go.V
set_option linter.unusedVariables false
set_option linter.unusedSimpArgs false

set_option maxRecDepth 10000 in
theorem Len_ok (w : World) (b : Nat) (cap meet high seq : Int) (A1 A2 : Option Addr) (n1 n2 c1 c2 : Nat) (hn1 : n1 ≤ 2513169434843) (hn2 : n2 ≤ 2513169434843) :
    Does Try.prog 20 [.pointer (some ⟨b, 0, none⟩)] [(b, .cells (bcells cap meet (.slice A1 n1 c1) (.slice A2 n2 c2) high seq) 67)] w
      (fun u hs => u = .int .i64 (n1 + n2) ∧ hs = [(b, .cells (bcells cap meet (.slice A1 n1 c1) (.slice A2 n2 c2) high seq) 67)]) := by
  refine Does.of (n := 16) Try.func20 rfl rfl rfl rfl ?_
  refine .seq ((.region (.v (.assign rfl) (.nil ?_))))
  refine .seq ((.drawS (by kernel_rfl) (by kernel_rfl) (.v (.move rfl) (.v (.nilCheck rfl) (.v (.fieldAddr rfl) (.v (.fieldAddr rfl) (.v (.load rfl (.one rfl)) (.v (.len rfl) (.v (.move rfl) (.v (.nilCheck rfl) (.v (.fieldAddr rfl) (.v (.fieldAddr rfl) (.v (.load rfl (.one rfl)) (.v (.len rfl) (.v (.addi rfl rfl (by omega)) (.v (.assign rfl) (.nil ?_)))))))))))))))))
  exact .ret ⟨[_], ⟨rfl, trivial⟩, rfl, rfl⟩

set_option maxRecDepth 10000 in
theorem Copy_ok (w : World) (cap meet high seq : Int) (A1 A2 : Option Addr) (c1 c2 : Nat) (bs ss : List Ord) (h1 : Rd w [] A1 (rows bs)) (h2 : Rd w [] A2 (rows ss)) (hb1 : bs.length ≤ 2513169434843) (hb2 : ss.length ≤ 2513169434843) :
    Does Try.prog 11 [.agg ⟨bcells cap meet (.slice A1 bs.length c1) (.slice A2 ss.length c2) high seq⟩] [] w
      (fun v hs => ∃ v1 v2 k1 k2, v = .agg ⟨bcells cap meet v1 v2 high seq⟩ ∧ hs = k2 ++ k1 ∧ OwnS 53 7 v1 bs.length (rows bs) k1 ∧ OwnS 53 7 v2 ss.length (rows ss) k2) := by
  refine Does.less (Does.of (n := 14) Try.func11 rfl rfl rfl rfl ?_)
  refine .seq ((.region (.nw (.box rfl rfl) fun b1 => (.nw .alloc fun b2 => (.nil ?_)))))
  refine .seq ((.region (.ef (.buildSlice (out := []) rfl (by decide) rfl rfl) ?_)))
  rintro _ _ ⟨b3, rfl, rfl⟩
  refine .v (.fieldAddr rfl) (.v (.load (v := .slice A1 bs.length c1) rfl (.one rfl)) ?_)
  refine .ef (.append (c := 0) (k := bs.length) (vs := []) (news := rows bs) (h := [(b3, .cells [] 53)]) (fr := [(b2, .cells (bcells 0 0 (.slice none 0 0) (.slice none 0 0) 0 0) 30), (b1, .cells (bcells cap meet (.slice A1 bs.length c1) (.slice A2 ss.length c2) high seq) 30)]) rfl rfl ⟨rfl, .inr ⟨b3, 0, 0, [], rfl, rfl, by omega, by simp, by simp⟩⟩ (by exact List.Perm.refl _)
    (fun w' s => (h1.keep0 s).src (rows_length bs) (by omega)) (rows_length bs) (rows_ones _) (by omega) (by omega)) ?_
  rintro v1 _ ⟨k1, o1, rfl⟩
  rw [Nat.zero_add] at o1
  refine .v (.fieldAddr rfl) (.st (.store rfl rfl (by obtain ⟨_, _, rfl⟩ := o1.slice; rfl) (by simp [bcells])) (.nil ?_))
  refine .seq ((.region (.ef (.buildSlice (out := []) rfl (by decide) rfl rfl) ?_)))
  rintro _ _ ⟨b4, rfl, rfl⟩
  refine .v (.fieldAddr rfl) (.v (.load (v := .slice A2 ss.length c2) rfl (.one rfl)) ?_)
  refine .ef (.append (c := 0) (k := ss.length) (vs := []) (news := rows ss) (h := [(b4, .cells [] 53)]) (fr := k1 ++ [(b2, .cells (bcells 0 0 (.slice none 0 0) (.slice none 0 0) 0 0) 30), (b1, .cells (bcells cap meet v1 (.slice A2 ss.length c2) high seq) 30)]) rfl rfl ⟨rfl, .inr ⟨b4, 0, 0, [], rfl, rfl, by omega, by simp, by simp⟩⟩ (by exact List.Perm.refl _)
    (fun w' s => (h2.keep0 s).src (rows_length ss) (by omega)) (rows_length ss) (rows_ones _) (by omega) (by omega)) ?_
  rintro v2 _ ⟨k2, o2, rfl⟩
  rw [Nat.zero_add] at o2
  refine .v (.fieldAddr rfl) (.st (.store rfl rfl (by obtain ⟨_, _, rfl⟩ := o2.slice; rfl) (by simp [bcells])) (.nil ?_))
  refine .seq ((.region (.v (.loadA (vs := bcells cap meet v1 v2 high seq) rfl .whole rfl) (.st (.sw rfl rfl rfl (by obtain ⟨_, _, rfl⟩ := o1.slice; obtain ⟨_, _, rfl⟩ := o2.slice; rfl)) (.nil ?_)))))
  refine .ret ⟨[_], ⟨⟨_, rfl, .inr ⟨6, _, inferInstance, rfl, rfl, .whole⟩⟩, trivial⟩, k2 ++ k1, fun _ s => s.sub (List.Sublist.append_left (List.sublist_append_left _ _) _), v1, v2, k1, k2, rfl, rfl, o1, o2⟩
end Go.Proofs.Ytmfobfamdaajmaa

/- rules.copied and (*rules.Book).Book. -/
namespace Go.Proofs.Ytmfobfamdaajmaa
open Go.V
set_option linter.unusedVariables false
set_option linter.unusedSimpArgs false

/-- a book whose sides are new -/
def NewBook (cap meet high seq : Int) (bs ss : List Ord) (v : Value) (hs : Hp) : Prop :=
  ∃ A1 A2 d1 d2 k1 k2, v = .agg ⟨bcells cap meet (.slice A1 bs.length d1) (.slice A2 ss.length d2) high seq⟩ ∧ hs = k2 ++ k1 ∧ OwnS 53 7 (.slice A1 bs.length d1) bs.length (rows bs) k1 ∧ OwnS 53 7 (.slice A2 ss.length d2) ss.length (rows ss) k2
theorem OwnS.sl {E m n : Nat} {v : Value} {vs : List Value} {h : Hp} (k : OwnS E m v n vs h) : ∃ A c, v = .slice A n c := by
  obtain ⟨A, c, rfl⟩ := k.slice
  exact ⟨A, c, rfl⟩
set_option maxRecDepth 10000 in
theorem copied_ok (w : World) (cap meet high seq : Int) (A1 A2 : Option Addr) (c1 c2 : Nat) (bs ss : List Ord) (h1 : Rd w [] A1 (rows bs)) (h2 : Rd w [] A2 (rows ss)) (hb1 : bs.length ≤ 2513169434843) (hb2 : ss.length ≤ 2513169434843) :
    Does Try.prog 38 [.agg ⟨bcells cap meet (.slice A1 bs.length c1) (.slice A2 ss.length c2) high seq⟩] [] w (NewBook cap meet high seq bs ss) := by
  refine Does.less (Does.of (n := 12) Try.func38 rfl rfl rfl rfl ?_)
  refine .seq ((.region (.nw (.box rfl rfl) fun b1 => (.nw .alloc fun b2 => (.nil ?_)))))
  refine .seq (.drawZ 7 [(b1, .cells (bcells cap meet (.slice A1 bs.length c1) (.slice A2 ss.length c2) high seq) 30)] (by intro p hp; simp at hp; subst hp; simp) (by kernel_rfl) ?_)
  refine .v 0 rfl (by kernel_rfl) (fun hs' f => .fieldAddr rfl) ?_
  refine .v 1 rfl (by kernel_rfl) (fun hs' f => .load (v := .slice A1 bs.length c1) rfl (.one (hb := .sub f) rfl)) ?_
  refine .v 3 rfl (by kernel_rfl) (fun hs' f => .fieldAddr rfl) ?_
  refine .v 4 rfl (by kernel_rfl) (fun hs' f => .load (v := .slice A2 ss.length c2) rfl (.one (hb := .sub f) rfl)) ?_
  refine .ef 2 rfl (by kernel_rfl) (.call0 rfl rfl fun w s => clone_ok w A1 bs.length c1 bs (h1.keep0 s) rfl hb1) ?_ (fun v hs' ⟨h, _, e⟩ f => by subst e; exact fun p hp => List.mem_append_right _ (f hp)) rfl
  rintro v1 _ ⟨k1, o1, rfl⟩
  refine .v 6 rfl (by kernel_rfl) (fun hs' f => .fieldAddr rfl) ?_
  refine .ef 5 rfl (by kernel_rfl) (.call0 rfl rfl fun w s => clone_ok w A2 ss.length c2 ss (h2.keep0 s) rfl hb2) ?_ (fun v hs' ⟨h, _, e⟩ f => by subst e; exact fun p hp => List.mem_append_right _ (f hp)) rfl
  rintro v2 _ ⟨k2, o2, rfl⟩
  obtain ⟨B1, d1, rfl⟩ := OwnS.sl o1
  obtain ⟨B2, d2, rfl⟩ := OwnS.sl o2
  refine .st rfl (by kernel_rfl) rfl (.store rfl rfl rfl (by simp [bcells])) ?_
  refine .v1 8 rfl (by kernel_rfl) (.fieldAddr rfl) ?_ rfl
  refine .st2 9 rfl (by kernel_rfl) rfl rfl (.store rfl rfl rfl (by simp [bcells])) ?_
  refine .done (by kernel_rfl) ?_
  refine .seq ((.region (.v (.loadA (vs := bcells cap meet (.slice B1 bs.length d1) (.slice B2 ss.length d2) high seq) rfl .whole rfl) (.st (.sw rfl rfl) (.nil ?_)))))
  refine .ret ⟨[_], ⟨⟨_, rfl, .inr ⟨6, _, inferInstance, rfl, rfl, .whole⟩⟩, trivial⟩, k2 ++ k1, fun _ s => s.sub ?_, B1, B2, d1, d2, k1, k2, rfl, rfl, o1, o2⟩
  exact List.Sublist.append_left (List.sublist_append_left _ _) _
set_option maxRecDepth 10000 in
theorem Book_ok (w : World) (b : Nat) (cap meet high seq : Int) (A1 A2 : Option Addr) (c1 c2 : Nat) (bs ss : List Ord) (hb : Rd w [] (some ⟨b, 0, none⟩) (bcells cap meet (.slice A1 bs.length c1) (.slice A2 ss.length c2) high seq))
    (h1 : Rd w [] A1 (rows bs)) (h2 : Rd w [] A2 (rows ss)) (hb1 : bs.length ≤ 2513169434843) (hb2 : ss.length ≤ 2513169434843) :
    Does Try.prog 19 [.pointer (some ⟨b, 0, none⟩)] [] w (NewBook cap meet high seq bs ss) := by
  refine Does.less (Does.of (n := 8) Try.func19 rfl rfl rfl rfl ?_)
  refine .seq ((.region (.nw .alloc fun b2 => (.nil ?_))))
  refine .seq ((.region (.v (.move rfl) (.v (.nilCheck rfl) (.v (.fieldAddr rfl) (.v (.loadA (vs := bcells cap meet (.slice A1 bs.length c1) (.slice A2 ss.length c2) high seq) rfl hb.whole rfl) ?_))))))
  refine .ef (.call0 rfl rfl fun w s => copied_ok w cap meet high seq A1 A2 c1 c2 bs ss (h1.keep0 s) (h2.keep0 s) hb1 hb2) ?_
  rintro _ _ ⟨_, ⟨B1, B2, d1, d2, k1, k2, rfl, rfl, o1, o2⟩, rfl⟩
  refine .st (.sw rfl rfl) (.nil ?_)
  refine .ret ⟨[_], ⟨⟨_, rfl, .inr ⟨6, _, inferInstance, rfl, rfl, .whole⟩⟩, trivial⟩, k2 ++ k1, fun _ s => s.sub ?_, B1, B2, d1, d2, k1, k2, rfl, rfl, o1, o2⟩
  exact List.sublist_append_left _ _
end Go.Proofs.Ytmfobfamdaajmaa

/- The law RulesChecks: its walk. -/
namespace Go.Proofs.Ytmfobfamdaajmaa
open Go.V
set_option linter.unusedVariables false
set_option linter.unusedSimpArgs false

set_option maxRecDepth 10000 in
theorem Len_is (w : World) (b : Nat) (cap meet high seq : Int) (A1 A2 : Option Addr) (n1 n2 c1 c2 : Nat) (hb : Rd w [] (some ⟨b, 0, none⟩) (bcells cap meet (.slice A1 n1 c1) (.slice A2 n2 c2) high seq)) (hn1 : n1 ≤ 2513169434843) (hn2 : n2 ≤ 2513169434843) :
    Is Try.prog 20 [.pointer (some ⟨b, 0, none⟩)] w (.int .i64 (n1 + n2)) := by
  refine Does.pure (Does.of (n := 16) Try.func20 rfl rfl rfl rfl ?_)
  refine .seq ((.region (.v (.assign rfl) (.nil ?_))))
  refine .seq ((.drawS (by kernel_rfl) (by kernel_rfl) (.v (.move rfl) (.v (.nilCheck rfl) (.v (.fieldAddr rfl) (.v (.fieldAddr rfl) (.v (.load (v := .slice A1 n1 c1) rfl (hb.cell (i := 2) rfl)) (.v (.len rfl) (.v (.move rfl) (.v (.nilCheck rfl) (.v (.fieldAddr rfl) (.v (.fieldAddr rfl) (.v (.load (v := .slice A2 n2 c2) rfl (hb.cell (i := 3) rfl)) (.v (.len rfl) (.v (.addi rfl rfl (by omega)) (.v (.assign rfl) (.nil ?_)))))))))))))))))
  exact .ret ⟨[_], ⟨rfl, trivial⟩, rfl⟩

set_option maxRecDepth 20000 in
theorem RulesChecks_ok (w : World) (k id tg mb sd ty pr q pk : Int) (cap meet high seq : Int) (A1 A2 : Option Addr) (c1 c2 : Nat) (bs ss : List Ord) (h1 : Rd w [] A1 (rows bs)) (h2 : Rd w [] A2 (rows ss)) (hw : ∀ o ∈ bs ++ ss, o.wf)
    (hb1 : bs.length ≤ 2513169434843) (hb2 : ss.length ≤ 2513169434843) :
    Is Try.prog 3 [.agg ⟨ccells k id tg mb sd ty pr q pk⟩, .agg ⟨bcells cap meet (.slice A1 bs.length c1) (.slice A2 ss.length c2) high seq⟩] w (.bool true) := by
  refine Does.pure (Does.of (n := 76) Try.func3 rfl rfl rfl rfl ?_)
  refine .seq ((.region (.nw (.box rfl rfl) fun b2 => (.nw (.box rfl rfl) fun b3 => (.v (.assign rfl) (.nil ?_))))))
  refine .seq ((.region (.v (.loadA rfl .whole rfl) ?_)))
  refine .ef (.call0 rfl rfl fun w s => Copy_ok w cap meet high seq A1 A2 c1 c2 bs ss (h1.keep0 s) (h2.keep0 s) hb1 hb2) ?_
  rintro _ _ ⟨_, ⟨v1, v2, k1, k2, rfl, rfl, o1, o2⟩, rfl⟩
  obtain ⟨B1, d1, rfl⟩ := OwnS.sl o1
  obtain ⟨B2, d2, rfl⟩ := OwnS.sl o2
  refine .nw .alloc fun b5 => (.st (.sw rfl rfl) (.nil ?_))
  have pre2 : ∀ (S T : Value) (j : Nat) (v : Value), ([.int .i64 cap, .int .i64 meet] : List Value)[j]? = some v → (bcells cap meet S T high seq)[0 + 0 + j]? = some v := by
    intro S T j v hv
    match j, hv with
    | 0, hv => exact hv
    | 1, hv => exact hv
    | _ + 2, hv => cases hv
  by_cases hc : Cfg cap meet
  · refine .seq ((.region (.v (.fieldAddr rfl) (.v (.loadA (vs := [.int .i64 cap, .int .i64 meet]) rfl (.chunk (pre2 _ _)) rfl) ?_))))
    refine .ef (.call0 rfl rfl fun w s => New_ok w cap meet) ?_
    rintro _ _ ⟨_, hN, rfl⟩
    rw [if_pos hc] at hN
    obtain ⟨bn, rfl, rfl⟩ := hN
    refine .v (.move rfl) (.v (.extract rfl rfl) (.v (.extract rfl rfl) (.v (.assign rfl) (.v (.assign rfl) (.nil ?_)))))
    refine .seq ((.region (.v (.fieldAddr rfl) (.v (.loadA (vs := [.int .i64 cap, .int .i64 meet]) rfl (.chunk (pre2 _ _)) rfl) (.pc rfl rfl (fun w s => refNew_ok w cap meet) ?_)))))
    rw [if_pos hc, if_pos hc]
    refine .v (.move rfl) (.v (.extract rfl rfl) (.v (.extract rfl rfl) (.nw .alloc fun b8 => (.st (.sw rfl rfl) (.v (.assign rfl) (.nil ?_))))))
    refine .seq (.seq (.drawP [0, 2, 1, 3, 4, 5, 6, 8, 7, 9, 10, 11, 12, 13, 14, 15, 16, 17, 18, 19, 20, 21, 22, 23, 24, 25, 26, 27, 28, 29] _ (fun _ h => h) (by kernel_rfl) (by kernel_rfl) ?_))
    refine .v (fun _ f => .loadA (vs := ccells k id tg mb sd ty pr q pk) rfl (.whole (hb := .sub f)) rfl) (.v (fun _ f => .loadA (vs := ccells k id tg mb sd ty pr q pk) rfl (.whole (hb := .sub f)) rfl) (.pc rfl rfl (fun w s => Check_ok w k id tg mb sd ty pr q pk) (.pc rfl rfl (fun w s => refCheck_ok w k id tg mb sd ty pr q pk) ?_)))
    refine .v (fun _ f => .nei rfl rfl) (.v (fun _ f => .move rfl) (?_))
    refine .or 29 34 5 5 rfl rfl (fun g1 => .v (fun _ f => .loadA (vs := bcells cap meet (.slice B1 bs.length d1) (.slice B2 ss.length d2) high seq) rfl (.whole (hb := .sub f)) rfl) (.v (fun _ f => .loadA (vs := bcells cap meet (.slice A1 bs.length c1) (.slice A2 ss.length c2) high seq) rfl (.whole (hb := .sub f)) rfl) (.pc rfl rfl (fun w s => Valid_ok w cap meet high seq B1 B2 d1 d2 bs ss (OwnS.rd o1 s (no := []) (fun p hp => by simp [hp]) (by simp)) (OwnS.rd o2 s (no := []) (fun p hp => by simp [hp]) (by simp)) hw hb1 hb2) (.pc rfl rfl (fun w s => refValid_ok w cap meet high seq A1 A2 c1 c2 bs ss (h1.keep0 s) (h2.keep0 s) hw hb1 hb2) (.v (fun _ f => .nei rfl rfl) (.nil ⟨rfl, rfl, rfl, rfl⟩)))))) ?_
    refine .v (fun _ f => .move rfl) (?_)
    refine .or 36 40 4 4 rfl rfl (fun g2 => .v (fun _ f => .loadA (vs := bcells cap meet (.slice B1 bs.length d1) (.slice B2 ss.length d2) high seq) rfl (.whole (hb := .sub f)) rfl) (.v (fun _ f => .loadA (vs := bcells cap meet (.slice A1 bs.length c1) (.slice A2 ss.length c2) high seq) rfl (.whole (hb := .sub f)) rfl) (.pc rfl rfl (fun w s => books_ok w cap meet high seq B1 B2 A1 A2 d1 d2 c1 c2 bs ss (OwnS.rd o1 s (no := []) (fun p hp => by simp [hp]) (by simp)) (OwnS.rd o2 s (no := []) (fun p hp => by simp [hp]) (by simp)) (h1.keep0 s) (h2.keep0 s) hb1 hb2) (.v (fun _ f => .not rfl) (.nil ⟨rfl, rfl, rfl, rfl⟩))))) ?_
    refine .v (fun _ f => .move rfl) (?_)
    refine .or 42 45 3 3 rfl rfl (fun g3 => .v (fun _ f => .move rfl) (.v (fun _ f => .move rfl) (.v (fun _ f => .nei rfl rfl) (.nil ⟨rfl, rfl, rfl, rfl⟩)))) ?_
    refine .v (fun _ f => .move rfl) (?_)
    refine .or 47 52 5 5 rfl rfl (fun g4 => .v (fun _ f => .move rfl) (.v (fun _ f => .eql_ptr_nil rfl rfl) (.v (fun _ f => .move rfl) (.v (fun _ f => .nei rfl rfl) (.v (fun _ f => .neb rfl rfl) (.nil ⟨rfl, rfl, rfl, rfl⟩)))))) ?_
    refine .nil ?_
    refine .cond rfl (fun h => absurd h (by simp)) (fun _ => .skip ?_)
    refine .seq (.seq (.drawP [0, 1, 2, 3, 5, 4, 6, 7, 8, 9, 10, 11, 12, 13] _ (fun _ h => h) (by kernel_rfl) (by kernel_rfl) ?_))
    refine .v (fun _ f => .move rfl) (.v (fun _ f => .neq_ptr_nil rfl rfl) (.v (fun _ f => .move rfl) (.v (fun _ f => .move rfl) (.v (fun _ f => .loadA (vs := bnew cap meet) rfl (.whole (hb := .sub f)) rfl) ?_))))
    refine .cl rfl rfl (fun w s => Book_ok w bn cap meet 0 0 none none 0 0 [] [] (Rd.chunk s (l := bnew cap meet) (T := 67) (by simp) (fun j v hv => by rw [Nat.zero_add]; exact hv)) (Rd.nil _ _ _) (Rd.nil _ _ _) (by simp) (by simp)) ?_
    rintro _ _ ⟨E1, E2, e1, e2, q1, q2, rfl, rfl, oe1, oe2⟩
    refine .pc (v := .bool true) rfl rfl (fun w s => books_ok w cap meet 0 0 E1 E2 none none e1 e2 0 0 [] [] (Rd.nil _ _ _) (Rd.nil _ _ _) (Rd.nil _ _ _) (Rd.nil _ _ _) (by simp) (by simp)) ?_
    refine .v (fun _ f => .not rfl) (.v (fun _ f => .move rfl) ?_)
    refine .or 62 65 3 3 rfl rfl (fun g6 => .v (fun _ f => .move rfl) (.pc rfl rfl (fun w s => Len_is w bn cap meet 0 0 none none 0 0 0 0 (Rd.chunk s (l := bnew cap meet) (T := 67) (by simp) (fun j v hv => by rw [Nat.zero_add]; exact hv)) (by simp) (by simp)) (.v (fun _ f => .nei rfl rfl) (.nil ⟨rfl, rfl, rfl, rfl⟩)))) ?_
    refine .v (fun _ f => .pick rfl rfl rfl) (.nil ?_)
    refine .cond rfl (fun h => absurd h (by simp)) (fun _ => .skip ?_)
    refine .seq ((.region (.v (.build (out := ccells 0 0 0 0 0 0 0 0 0) rfl rfl) (.pc rfl rfl (fun w s => Check_ok w 0 0 0 0 0 0 0 0 0) (.v (.eqi rfl rfl) (.v (.move rfl) (.and 71 74 3 3 rfl rfl (fun g7 => .v (.build (out := ccells 2 0 0 0 0 0 0 0 0) rfl rfl) (.pc rfl rfl (fun w s => Check_ok w 2 0 0 0 0 0 0 0 0) (.v (.eqi rfl rfl) (.nil ⟨rfl, rfl, rfl, rfl⟩)))) (.v (.assign rfl) (.nil ?_)))))))))
    exact .ret ⟨[_], ⟨rfl, trivial⟩, congrArg Value.bool (by decide)⟩
  · refine .seq ((.region (.v (.fieldAddr rfl) (.v (.loadA (vs := [.int .i64 cap, .int .i64 meet]) rfl (.chunk (pre2 _ _)) rfl) ?_))))
    refine .ef (.call0 rfl rfl fun w s => New_ok w cap meet) ?_
    rintro _ _ ⟨_, hN, rfl⟩
    rw [if_neg hc] at hN
    obtain ⟨rfl, rfl⟩ := hN
    refine .v (.move rfl) (.v (.extract rfl rfl) (.v (.extract rfl rfl) (.v (.assign rfl) (.v (.assign rfl) (.nil ?_)))))
    refine .seq ((.region (.v (.fieldAddr rfl) (.v (.loadA (vs := [.int .i64 cap, .int .i64 meet]) rfl (.chunk (pre2 _ _)) rfl) (.pc rfl rfl (fun w s => refNew_ok w cap meet) ?_)))))
    rw [if_neg hc, if_neg hc]
    refine .v (.move rfl) (.v (.extract rfl rfl) (.v (.extract rfl rfl) (.nw .alloc fun b8 => (.st (.sw rfl rfl) (.v (.assign rfl) (.nil ?_))))))
    refine .seq (.seq (.drawP [0, 2, 1, 3, 4, 5, 6, 8, 7, 9, 10, 11, 12, 13, 14, 15, 16, 17, 18, 19, 20, 21, 22, 23, 24, 25, 26, 27, 28, 29] _ (fun _ h => h) (by kernel_rfl) (by kernel_rfl) ?_))
    refine .v (fun _ f => .loadA (vs := ccells k id tg mb sd ty pr q pk) rfl (.whole (hb := .sub f)) rfl) (.v (fun _ f => .loadA (vs := ccells k id tg mb sd ty pr q pk) rfl (.whole (hb := .sub f)) rfl) (.pc rfl rfl (fun w s => Check_ok w k id tg mb sd ty pr q pk) (.pc rfl rfl (fun w s => refCheck_ok w k id tg mb sd ty pr q pk) ?_)))
    refine .v (fun _ f => .nei rfl rfl) (.v (fun _ f => .move rfl) (?_))
    refine .or 29 34 5 5 rfl rfl (fun g1 => .v (fun _ f => .loadA (vs := bcells cap meet (.slice B1 bs.length d1) (.slice B2 ss.length d2) high seq) rfl (.whole (hb := .sub f)) rfl) (.v (fun _ f => .loadA (vs := bcells cap meet (.slice A1 bs.length c1) (.slice A2 ss.length c2) high seq) rfl (.whole (hb := .sub f)) rfl) (.pc rfl rfl (fun w s => Valid_ok w cap meet high seq B1 B2 d1 d2 bs ss (OwnS.rd o1 s (no := []) (fun p hp => by simp [hp]) (by simp)) (OwnS.rd o2 s (no := []) (fun p hp => by simp [hp]) (by simp)) hw hb1 hb2) (.pc rfl rfl (fun w s => refValid_ok w cap meet high seq A1 A2 c1 c2 bs ss (h1.keep0 s) (h2.keep0 s) hw hb1 hb2) (.v (fun _ f => .nei rfl rfl) (.nil ⟨rfl, rfl, rfl, rfl⟩)))))) ?_
    refine .v (fun _ f => .move rfl) (?_)
    refine .or 36 40 4 4 rfl rfl (fun g2 => .v (fun _ f => .loadA (vs := bcells cap meet (.slice B1 bs.length d1) (.slice B2 ss.length d2) high seq) rfl (.whole (hb := .sub f)) rfl) (.v (fun _ f => .loadA (vs := bcells cap meet (.slice A1 bs.length c1) (.slice A2 ss.length c2) high seq) rfl (.whole (hb := .sub f)) rfl) (.pc rfl rfl (fun w s => books_ok w cap meet high seq B1 B2 A1 A2 d1 d2 c1 c2 bs ss (OwnS.rd o1 s (no := []) (fun p hp => by simp [hp]) (by simp)) (OwnS.rd o2 s (no := []) (fun p hp => by simp [hp]) (by simp)) (h1.keep0 s) (h2.keep0 s) hb1 hb2) (.v (fun _ f => .not rfl) (.nil ⟨rfl, rfl, rfl, rfl⟩))))) ?_
    refine .v (fun _ f => .move rfl) (?_)
    refine .or 42 45 3 3 rfl rfl (fun g3 => .v (fun _ f => .move rfl) (.v (fun _ f => .move rfl) (.v (fun _ f => .nei rfl rfl) (.nil ⟨rfl, rfl, rfl, rfl⟩)))) ?_
    refine .v (fun _ f => .move rfl) (?_)
    refine .or 47 52 5 5 rfl rfl (fun g4 => .v (fun _ f => .move rfl) (.v (fun _ f => .eql_ptr_nil rfl rfl) (.v (fun _ f => .move rfl) (.v (fun _ f => .nei rfl rfl) (.v (fun _ f => .neb rfl rfl) (.nil ⟨rfl, rfl, rfl, rfl⟩)))))) ?_
    refine .nil ?_
    refine .cond rfl (fun h => absurd h (by simp)) (fun _ => .skip ?_)
    refine .seq (.seq (.drawP [0, 1, 2, 3, 5, 4, 6, 7, 8, 9, 10, 11, 12, 13] _ (fun _ h => h) (by kernel_rfl) (by kernel_rfl) ?_))
    refine .v (fun _ f => .move rfl) (.v (fun _ f => .neq_ptr_nil rfl rfl) (.v (fun _ f => .move rfl) ?_))
    refine .and (b2 := false) 56 66 10 7 rfl rfl (fun g => absurd g (by simp)) (.nil ?_)
    refine .cond rfl (fun h => absurd h (by simp)) (fun _ => .skip ?_)
    refine .seq ((.region (.v (.build (out := ccells 0 0 0 0 0 0 0 0 0) rfl rfl) (.pc rfl rfl (fun w s => Check_ok w 0 0 0 0 0 0 0 0 0) (.v (.eqi rfl rfl) (.v (.move rfl) (.and 71 74 3 3 rfl rfl (fun g7 => .v (.build (out := ccells 2 0 0 0 0 0 0 0 0) rfl rfl) (.pc rfl rfl (fun w s => Check_ok w 2 0 0 0 0 0 0 0 0) (.v (.eqi rfl rfl) (.nil ⟨rfl, rfl, rfl, rfl⟩)))) (.v (.assign rfl) (.nil ?_)))))))))
    exact .ret ⟨[_], ⟨rfl, trivial⟩, congrArg Value.bool (by decide)⟩
end Go.Proofs.Ytmfobfamdaajmaa
