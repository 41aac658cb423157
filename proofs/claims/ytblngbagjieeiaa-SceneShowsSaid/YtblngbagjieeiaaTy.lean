/- What the reader asks of types and functions, closed facts of this program. -/
import Derived.Test.YtblngbagjieeiaaV8
namespace Go.Proofs.Ytblngbagjieeiaa
open Go.RowKit
instance : Mixed Try.prog := ⟨by kernel_rfl⟩
instance : One Try.prog 1 := ⟨fun _ => by kernel_rfl, fun _ => by kernel_rfl⟩
instance : One Try.prog 2 := ⟨fun _ => by kernel_rfl, fun _ => by kernel_rfl⟩
instance : One Try.prog 3 := ⟨fun _ => by kernel_rfl, fun _ => by kernel_rfl⟩
instance : One Try.prog 4 := ⟨fun _ => by kernel_rfl, fun _ => by kernel_rfl⟩
instance : One Try.prog 5 := ⟨fun _ => by kernel_rfl, fun _ => by kernel_rfl⟩
instance : One Try.prog 6 := ⟨fun _ => by kernel_rfl, fun _ => by kernel_rfl⟩
instance : FOff Try.prog 7 0 0 := ⟨fun _ _ _ => by kernel_rfl⟩
instance : FOff Try.prog 7 1 1 := ⟨fun _ _ _ => by kernel_rfl⟩
instance : FOff Try.prog 7 2 2 := ⟨fun _ _ _ => by kernel_rfl⟩
instance : FOff Try.prog 7 3 3 := ⟨fun _ _ _ => by kernel_rfl⟩
instance : FOff Try.prog 8 0 0 := ⟨fun _ _ _ => by kernel_rfl⟩
instance : FOff Try.prog 8 1 1 := ⟨fun _ _ _ => by kernel_rfl⟩
instance : FOff Try.prog 8 2 2 := ⟨fun _ _ _ => by kernel_rfl⟩
instance : FOff Try.prog 8 3 3 := ⟨fun _ _ _ => by kernel_rfl⟩
instance : StrT Try.prog 9 := ⟨by kernel_rfl⟩
instance : One Try.prog 9 := ⟨fun _ => by kernel_rfl, fun _ => by kernel_rfl⟩
instance : StrT Try.prog 10 := ⟨by kernel_rfl⟩
instance : One Try.prog 10 := ⟨fun _ => by kernel_rfl, fun _ => by kernel_rfl⟩
instance : StrT Try.prog 11 := ⟨by kernel_rfl⟩
instance : One Try.prog 11 := ⟨fun _ => by kernel_rfl, fun _ => by kernel_rfl⟩
instance : One Try.prog 12 := ⟨fun _ => by kernel_rfl, fun _ => by kernel_rfl⟩
instance : FOff Try.prog 13 0 0 := ⟨fun _ _ _ => by kernel_rfl⟩
instance : FOff Try.prog 13 1 1 := ⟨fun _ _ _ => by kernel_rfl⟩
instance : FOff Try.prog 14 0 0 := ⟨fun _ _ _ => by kernel_rfl⟩
instance : FOff Try.prog 14 1 1 := ⟨fun _ _ _ => by kernel_rfl⟩
instance : PtrT Try.prog 15 := ⟨by kernel_rfl⟩
instance : One Try.prog 15 := ⟨fun _ => by kernel_rfl, fun _ => by kernel_rfl⟩
instance : PtrT Try.prog 16 := ⟨by kernel_rfl⟩
instance : One Try.prog 16 := ⟨fun _ => by kernel_rfl, fun _ => by kernel_rfl⟩
instance : PtrT Try.prog 17 := ⟨by kernel_rfl⟩
instance : One Try.prog 17 := ⟨fun _ => by kernel_rfl, fun _ => by kernel_rfl⟩
instance : FOff Try.prog 18 0 0 := ⟨fun _ _ _ => by kernel_rfl⟩
instance : FOff Try.prog 19 0 0 := ⟨fun _ _ _ => by kernel_rfl⟩
instance : One Try.prog 20 := ⟨fun _ => by kernel_rfl, fun _ => by kernel_rfl⟩
instance : One Try.prog 21 := ⟨fun _ => by kernel_rfl, fun _ => by kernel_rfl⟩
instance : SlT Try.prog 22 33 8 := ⟨by kernel_rfl, fun _ => by kernel_rfl⟩
instance : One Try.prog 22 := ⟨fun _ => by kernel_rfl, fun _ => by kernel_rfl⟩
instance : One Try.prog 23 := ⟨fun _ => by kernel_rfl, fun _ => by kernel_rfl⟩
instance : One Try.prog 24 := ⟨fun _ => by kernel_rfl, fun _ => by kernel_rfl⟩
instance : FOff Try.prog 25 0 0 := ⟨fun _ _ _ => by kernel_rfl⟩
instance : FOff Try.prog 25 1 1 := ⟨fun _ _ _ => by kernel_rfl⟩
instance : FOff Try.prog 26 0 0 := ⟨fun _ _ _ => by kernel_rfl⟩
instance : FOff Try.prog 26 1 1 := ⟨fun _ _ _ => by kernel_rfl⟩
instance : One Try.prog 27 := ⟨fun _ => by kernel_rfl, fun _ => by kernel_rfl⟩
instance : FOff Try.prog 28 0 0 := ⟨fun _ _ _ => by kernel_rfl⟩
instance : FOff Try.prog 28 1 1 := ⟨fun _ _ _ => by kernel_rfl⟩
instance : FOff Try.prog 28 2 2 := ⟨fun _ _ _ => by kernel_rfl⟩
instance : FOff Try.prog 29 0 0 := ⟨fun _ _ _ => by kernel_rfl⟩
instance : FOff Try.prog 29 1 1 := ⟨fun _ _ _ => by kernel_rfl⟩
instance : FOff Try.prog 29 2 2 := ⟨fun _ _ _ => by kernel_rfl⟩
instance : FOff Try.prog 30 0 0 := ⟨fun _ _ _ => by kernel_rfl⟩
instance : FOff Try.prog 30 1 1 := ⟨fun _ _ _ => by kernel_rfl⟩
instance : FOff Try.prog 30 2 2 := ⟨fun _ _ _ => by kernel_rfl⟩
instance : FOff Try.prog 31 0 0 := ⟨fun _ _ _ => by kernel_rfl⟩
instance : FOff Try.prog 31 1 1 := ⟨fun _ _ _ => by kernel_rfl⟩
instance : FOff Try.prog 31 2 2 := ⟨fun _ _ _ => by kernel_rfl⟩
instance : FOff Try.prog 32 0 0 := ⟨fun _ _ _ => by kernel_rfl⟩
instance : FOff Try.prog 32 1 1 := ⟨fun _ _ _ => by kernel_rfl⟩
instance : FOff Try.prog 32 2 2 := ⟨fun _ _ _ => by kernel_rfl⟩
instance : FOff Try.prog 32 3 5 := ⟨fun _ _ _ => by kernel_rfl⟩
instance : FOff Try.prog 33 0 0 := ⟨fun _ _ _ => by kernel_rfl⟩
instance : FOff Try.prog 33 1 1 := ⟨fun _ _ _ => by kernel_rfl⟩
instance : FOff Try.prog 33 2 2 := ⟨fun _ _ _ => by kernel_rfl⟩
instance : FOff Try.prog 33 3 5 := ⟨fun _ _ _ => by kernel_rfl⟩
instance : One Try.prog 34 := ⟨fun _ => by kernel_rfl, fun _ => by kernel_rfl⟩
instance : One Try.prog 35 := ⟨fun _ => by kernel_rfl, fun _ => by kernel_rfl⟩
instance : One Try.prog 36 := ⟨fun _ => by kernel_rfl, fun _ => by kernel_rfl⟩
instance : One Try.prog 37 := ⟨fun _ => by kernel_rfl, fun _ => by kernel_rfl⟩
instance : One Try.prog 38 := ⟨fun _ => by kernel_rfl, fun _ => by kernel_rfl⟩
instance : One Try.prog 39 := ⟨fun _ => by kernel_rfl, fun _ => by kernel_rfl⟩
instance : One Try.prog 40 := ⟨fun _ => by kernel_rfl, fun _ => by kernel_rfl⟩
instance : One Try.prog 41 := ⟨fun _ => by kernel_rfl, fun _ => by kernel_rfl⟩
instance : One Try.prog 42 := ⟨fun _ => by kernel_rfl, fun _ => by kernel_rfl⟩
instance : SlT Try.prog 43 49 9 := ⟨by kernel_rfl, fun _ => by kernel_rfl⟩
instance : One Try.prog 43 := ⟨fun _ => by kernel_rfl, fun _ => by kernel_rfl⟩
instance : One Try.prog 45 := ⟨fun _ => by kernel_rfl, fun _ => by kernel_rfl⟩
instance : One Try.prog 46 := ⟨fun _ => by kernel_rfl, fun _ => by kernel_rfl⟩
instance : One Try.prog 47 := ⟨fun _ => by kernel_rfl, fun _ => by kernel_rfl⟩
instance : FOff Try.prog 48 0 0 := ⟨fun _ _ _ => by kernel_rfl⟩
instance : FOff Try.prog 48 1 1 := ⟨fun _ _ _ => by kernel_rfl⟩
instance : FOff Try.prog 48 2 4 := ⟨fun _ _ _ => by kernel_rfl⟩
instance : FOff Try.prog 48 3 7 := ⟨fun _ _ _ => by kernel_rfl⟩
instance : FOff Try.prog 48 4 8 := ⟨fun _ _ _ => by kernel_rfl⟩
instance : FOff Try.prog 49 0 0 := ⟨fun _ _ _ => by kernel_rfl⟩
instance : FOff Try.prog 49 1 1 := ⟨fun _ _ _ => by kernel_rfl⟩
instance : FOff Try.prog 49 2 4 := ⟨fun _ _ _ => by kernel_rfl⟩
instance : FOff Try.prog 49 3 7 := ⟨fun _ _ _ => by kernel_rfl⟩
instance : FOff Try.prog 49 4 8 := ⟨fun _ _ _ => by kernel_rfl⟩
instance : PtrT Try.prog 50 := ⟨by kernel_rfl⟩
instance : One Try.prog 50 := ⟨fun _ => by kernel_rfl, fun _ => by kernel_rfl⟩
instance : One Try.prog 52 := ⟨fun _ => by kernel_rfl, fun _ => by kernel_rfl⟩
instance : FOff Try.prog 53 0 0 := ⟨fun _ _ _ => by kernel_rfl⟩
instance : FOff Try.prog 53 1 1 := ⟨fun _ _ _ => by kernel_rfl⟩
instance : FOff Try.prog 53 2 2 := ⟨fun _ _ _ => by kernel_rfl⟩
instance : FOff Try.prog 53 3 3 := ⟨fun _ _ _ => by kernel_rfl⟩
instance : FOff Try.prog 53 4 4 := ⟨fun _ _ _ => by kernel_rfl⟩
instance : FOff Try.prog 53 5 5 := ⟨fun _ _ _ => by kernel_rfl⟩
instance : FOff Try.prog 53 6 6 := ⟨fun _ _ _ => by kernel_rfl⟩
instance : FOff Try.prog 54 0 0 := ⟨fun _ _ _ => by kernel_rfl⟩
instance : FOff Try.prog 54 1 1 := ⟨fun _ _ _ => by kernel_rfl⟩
instance : FOff Try.prog 54 2 2 := ⟨fun _ _ _ => by kernel_rfl⟩
instance : FOff Try.prog 54 3 3 := ⟨fun _ _ _ => by kernel_rfl⟩
instance : FOff Try.prog 54 4 4 := ⟨fun _ _ _ => by kernel_rfl⟩
instance : FOff Try.prog 54 5 5 := ⟨fun _ _ _ => by kernel_rfl⟩
instance : FOff Try.prog 54 6 6 := ⟨fun _ _ _ => by kernel_rfl⟩
instance : SlT Try.prog 55 87 1 := ⟨by kernel_rfl, fun _ => by kernel_rfl⟩
instance : One Try.prog 55 := ⟨fun _ => by kernel_rfl, fun _ => by kernel_rfl⟩
instance : SlT Try.prog 56 3 1 := ⟨by kernel_rfl, fun _ => by kernel_rfl⟩
instance : One Try.prog 56 := ⟨fun _ => by kernel_rfl, fun _ => by kernel_rfl⟩
instance : SlT Try.prog 57 5 1 := ⟨by kernel_rfl, fun _ => by kernel_rfl⟩
instance : One Try.prog 57 := ⟨fun _ => by kernel_rfl, fun _ => by kernel_rfl⟩
instance : FOff Try.prog 58 0 0 := ⟨fun _ _ _ => by kernel_rfl⟩
instance : FOff Try.prog 58 1 7 := ⟨fun _ _ _ => by kernel_rfl⟩
instance : FOff Try.prog 58 2 8 := ⟨fun _ _ _ => by kernel_rfl⟩
instance : FOff Try.prog 58 3 9 := ⟨fun _ _ _ => by kernel_rfl⟩
instance : FOff Try.prog 59 0 0 := ⟨fun _ _ _ => by kernel_rfl⟩
instance : FOff Try.prog 59 1 7 := ⟨fun _ _ _ => by kernel_rfl⟩
instance : FOff Try.prog 59 2 8 := ⟨fun _ _ _ => by kernel_rfl⟩
instance : FOff Try.prog 59 3 9 := ⟨fun _ _ _ => by kernel_rfl⟩
instance : One Try.prog 60 := ⟨fun _ => by kernel_rfl, fun _ => by kernel_rfl⟩
instance : One Try.prog 62 := ⟨fun _ => by kernel_rfl, fun _ => by kernel_rfl⟩
instance : One Try.prog 63 := ⟨fun _ => by kernel_rfl, fun _ => by kernel_rfl⟩
instance : SlT Try.prog 64 9 1 := ⟨by kernel_rfl, fun _ => by kernel_rfl⟩
instance : One Try.prog 64 := ⟨fun _ => by kernel_rfl, fun _ => by kernel_rfl⟩
instance : One Try.prog 65 := ⟨fun _ => by kernel_rfl, fun _ => by kernel_rfl⟩
instance : One Try.prog 66 := ⟨fun _ => by kernel_rfl, fun _ => by kernel_rfl⟩
instance : One Try.prog 67 := ⟨fun _ => by kernel_rfl, fun _ => by kernel_rfl⟩
instance : One Try.prog 68 := ⟨fun _ => by kernel_rfl, fun _ => by kernel_rfl⟩
instance : One Try.prog 70 := ⟨fun _ => by kernel_rfl, fun _ => by kernel_rfl⟩
instance : One Try.prog 71 := ⟨fun _ => by kernel_rfl, fun _ => by kernel_rfl⟩
instance : One Try.prog 72 := ⟨fun _ => by kernel_rfl, fun _ => by kernel_rfl⟩
instance : PtrT Try.prog 73 := ⟨by kernel_rfl⟩
instance : One Try.prog 73 := ⟨fun _ => by kernel_rfl, fun _ => by kernel_rfl⟩
instance : PtrT Try.prog 74 := ⟨by kernel_rfl⟩
instance : One Try.prog 74 := ⟨fun _ => by kernel_rfl, fun _ => by kernel_rfl⟩
instance : FOff Try.prog 75 0 0 := ⟨fun _ _ _ => by kernel_rfl⟩
instance : FOff Try.prog 75 1 1 := ⟨fun _ _ _ => by kernel_rfl⟩
instance : FOff Try.prog 76 0 0 := ⟨fun _ _ _ => by kernel_rfl⟩
instance : FOff Try.prog 76 1 1 := ⟨fun _ _ _ => by kernel_rfl⟩
instance : One Try.prog 77 := ⟨fun _ => by kernel_rfl, fun _ => by kernel_rfl⟩
instance : One Try.prog 78 := ⟨fun _ => by kernel_rfl, fun _ => by kernel_rfl⟩
instance : One Try.prog 79 := ⟨fun _ => by kernel_rfl, fun _ => by kernel_rfl⟩
instance : One Try.prog 80 := ⟨fun _ => by kernel_rfl, fun _ => by kernel_rfl⟩
instance : One Try.prog 82 := ⟨fun _ => by kernel_rfl, fun _ => by kernel_rfl⟩
instance : One Try.prog 83 := ⟨fun _ => by kernel_rfl, fun _ => by kernel_rfl⟩
instance : One Try.prog 84 := ⟨fun _ => by kernel_rfl, fun _ => by kernel_rfl⟩
instance : One Try.prog 85 := ⟨fun _ => by kernel_rfl, fun _ => by kernel_rfl⟩
instance : One Try.prog 86 := ⟨fun _ => by kernel_rfl, fun _ => by kernel_rfl⟩
instance : SlT Try.prog 87 29 3 := ⟨by kernel_rfl, fun _ => by kernel_rfl⟩
instance : One Try.prog 87 := ⟨fun _ => by kernel_rfl, fun _ => by kernel_rfl⟩
instance : One Try.prog 88 := ⟨fun _ => by kernel_rfl, fun _ => by kernel_rfl⟩
instance : One Try.prog 89 := ⟨fun _ => by kernel_rfl, fun _ => by kernel_rfl⟩
instance : One Try.prog 90 := ⟨fun _ => by kernel_rfl, fun _ => by kernel_rfl⟩
instance : One Try.prog 91 := ⟨fun _ => by kernel_rfl, fun _ => by kernel_rfl⟩
instance : One Try.prog 92 := ⟨fun _ => by kernel_rfl, fun _ => by kernel_rfl⟩
instance : One Try.prog 93 := ⟨fun _ => by kernel_rfl, fun _ => by kernel_rfl⟩
instance : PtrT Try.prog 94 := ⟨by kernel_rfl⟩
instance : One Try.prog 94 := ⟨fun _ => by kernel_rfl, fun _ => by kernel_rfl⟩
instance : One Try.prog 95 := ⟨fun _ => by kernel_rfl, fun _ => by kernel_rfl⟩
instance : One Try.prog 96 := ⟨fun _ => by kernel_rfl, fun _ => by kernel_rfl⟩
instance : One Try.prog 98 := ⟨fun _ => by kernel_rfl, fun _ => by kernel_rfl⟩
instance : One Try.prog 101 := ⟨fun _ => by kernel_rfl, fun _ => by kernel_rfl⟩
instance : One Try.prog 103 := ⟨fun _ => by kernel_rfl, fun _ => by kernel_rfl⟩
instance : One Try.prog 104 := ⟨fun _ => by kernel_rfl, fun _ => by kernel_rfl⟩
instance : One Try.prog 105 := ⟨fun _ => by kernel_rfl, fun _ => by kernel_rfl⟩
instance : One Try.prog 106 := ⟨fun _ => by kernel_rfl, fun _ => by kernel_rfl⟩
instance : One Try.prog 108 := ⟨fun _ => by kernel_rfl, fun _ => by kernel_rfl⟩
instance : FOff Try.prog 109 0 0 := ⟨fun _ _ _ => by kernel_rfl⟩
instance : FOff Try.prog 109 1 7 := ⟨fun _ _ _ => by kernel_rfl⟩
instance : FOff Try.prog 109 2 8 := ⟨fun _ _ _ => by kernel_rfl⟩
instance : FOff Try.prog 109 3 9 := ⟨fun _ _ _ => by kernel_rfl⟩
instance : FOff Try.prog 109 4 10 := ⟨fun _ _ _ => by kernel_rfl⟩
instance : FOff Try.prog 109 5 11 := ⟨fun _ _ _ => by kernel_rfl⟩
instance : FOff Try.prog 109 6 12 := ⟨fun _ _ _ => by kernel_rfl⟩
instance : FOff Try.prog 109 7 13 := ⟨fun _ _ _ => by kernel_rfl⟩
instance : FOff Try.prog 109 8 14 := ⟨fun _ _ _ => by kernel_rfl⟩
instance : FOff Try.prog 110 0 0 := ⟨fun _ _ _ => by kernel_rfl⟩
instance : FOff Try.prog 110 1 7 := ⟨fun _ _ _ => by kernel_rfl⟩
instance : FOff Try.prog 110 2 8 := ⟨fun _ _ _ => by kernel_rfl⟩
instance : FOff Try.prog 110 3 9 := ⟨fun _ _ _ => by kernel_rfl⟩
instance : FOff Try.prog 110 4 10 := ⟨fun _ _ _ => by kernel_rfl⟩
instance : FOff Try.prog 110 5 11 := ⟨fun _ _ _ => by kernel_rfl⟩
instance : FOff Try.prog 110 6 12 := ⟨fun _ _ _ => by kernel_rfl⟩
instance : FOff Try.prog 110 7 13 := ⟨fun _ _ _ => by kernel_rfl⟩
instance : FOff Try.prog 110 8 14 := ⟨fun _ _ _ => by kernel_rfl⟩
instance : One Try.prog 112 := ⟨fun _ => by kernel_rfl, fun _ => by kernel_rfl⟩
instance : One Try.prog 113 := ⟨fun _ => by kernel_rfl, fun _ => by kernel_rfl⟩
instance : FOff Try.prog 114 0 0 := ⟨fun _ _ _ => by kernel_rfl⟩
instance : FOff Try.prog 114 1 1 := ⟨fun _ _ _ => by kernel_rfl⟩
instance : FOff Try.prog 114 2 2 := ⟨fun _ _ _ => by kernel_rfl⟩
instance : FOff Try.prog 115 0 0 := ⟨fun _ _ _ => by kernel_rfl⟩
instance : FOff Try.prog 115 1 1 := ⟨fun _ _ _ => by kernel_rfl⟩
instance : FOff Try.prog 115 2 2 := ⟨fun _ _ _ => by kernel_rfl⟩
instance : One Try.prog 116 := ⟨fun _ => by kernel_rfl, fun _ => by kernel_rfl⟩
instance : SlT Try.prog 117 115 3 := ⟨by kernel_rfl, fun _ => by kernel_rfl⟩
instance : One Try.prog 117 := ⟨fun _ => by kernel_rfl, fun _ => by kernel_rfl⟩
instance : FOff Try.prog 118 0 0 := ⟨fun _ _ _ => by kernel_rfl⟩
instance : FOff Try.prog 118 1 1 := ⟨fun _ _ _ => by kernel_rfl⟩
instance : FOff Try.prog 118 2 2 := ⟨fun _ _ _ => by kernel_rfl⟩
instance : FOff Try.prog 118 3 3 := ⟨fun _ _ _ => by kernel_rfl⟩
instance : FOff Try.prog 119 0 0 := ⟨fun _ _ _ => by kernel_rfl⟩
instance : FOff Try.prog 119 1 1 := ⟨fun _ _ _ => by kernel_rfl⟩
instance : FOff Try.prog 119 2 2 := ⟨fun _ _ _ => by kernel_rfl⟩
instance : FOff Try.prog 119 3 3 := ⟨fun _ _ _ => by kernel_rfl⟩
instance : One Try.prog 123 := ⟨fun _ => by kernel_rfl, fun _ => by kernel_rfl⟩
instance : One Try.prog 124 := ⟨fun _ => by kernel_rfl, fun _ => by kernel_rfl⟩
instance : One Try.prog 125 := ⟨fun _ => by kernel_rfl, fun _ => by kernel_rfl⟩
instance : One Try.prog 126 := ⟨fun _ => by kernel_rfl, fun _ => by kernel_rfl⟩
instance : One Try.prog 127 := ⟨fun _ => by kernel_rfl, fun _ => by kernel_rfl⟩
instance : One Try.prog 128 := ⟨fun _ => by kernel_rfl, fun _ => by kernel_rfl⟩
instance : FOff Try.prog 129 0 0 := ⟨fun _ _ _ => by kernel_rfl⟩
instance : FOff Try.prog 129 1 1 := ⟨fun _ _ _ => by kernel_rfl⟩
instance : FOff Try.prog 129 2 2 := ⟨fun _ _ _ => by kernel_rfl⟩
instance : FOff Try.prog 129 3 3 := ⟨fun _ _ _ => by kernel_rfl⟩
instance : FOff Try.prog 129 4 4 := ⟨fun _ _ _ => by kernel_rfl⟩
instance : FOff Try.prog 129 5 5 := ⟨fun _ _ _ => by kernel_rfl⟩
instance : FOff Try.prog 129 6 6 := ⟨fun _ _ _ => by kernel_rfl⟩
instance : FOff Try.prog 129 7 7 := ⟨fun _ _ _ => by kernel_rfl⟩
instance : FOff Try.prog 129 8 8 := ⟨fun _ _ _ => by kernel_rfl⟩
instance : FOff Try.prog 129 9 9 := ⟨fun _ _ _ => by kernel_rfl⟩
instance : FOff Try.prog 129 10 10 := ⟨fun _ _ _ => by kernel_rfl⟩
instance : FOff Try.prog 130 0 0 := ⟨fun _ _ _ => by kernel_rfl⟩
instance : FOff Try.prog 130 1 1 := ⟨fun _ _ _ => by kernel_rfl⟩
instance : FOff Try.prog 130 2 2 := ⟨fun _ _ _ => by kernel_rfl⟩
instance : FOff Try.prog 130 3 3 := ⟨fun _ _ _ => by kernel_rfl⟩
instance : FOff Try.prog 130 4 4 := ⟨fun _ _ _ => by kernel_rfl⟩
instance : FOff Try.prog 130 5 5 := ⟨fun _ _ _ => by kernel_rfl⟩
instance : FOff Try.prog 130 6 6 := ⟨fun _ _ _ => by kernel_rfl⟩
instance : FOff Try.prog 130 7 7 := ⟨fun _ _ _ => by kernel_rfl⟩
instance : FOff Try.prog 130 8 8 := ⟨fun _ _ _ => by kernel_rfl⟩
instance : FOff Try.prog 130 9 9 := ⟨fun _ _ _ => by kernel_rfl⟩
instance : FOff Try.prog 130 10 10 := ⟨fun _ _ _ => by kernel_rfl⟩
instance : One Try.prog 131 := ⟨fun _ => by kernel_rfl, fun _ => by kernel_rfl⟩
instance : ElemT Try.prog 2 1 8 := ⟨Try.t2, _, by kernel_rfl, rfl, rfl, rfl, rfl, by decide⟩
instance : ElemT Try.prog 3 1 8 := ⟨Try.t3, _, by kernel_rfl, rfl, rfl, rfl, rfl, by decide⟩
instance : ElemT Try.prog 4 1 1 := ⟨Try.t4, _, by kernel_rfl, rfl, rfl, rfl, rfl, by decide⟩
instance : ElemT Try.prog 5 1 1 := ⟨Try.t5, _, by kernel_rfl, rfl, rfl, rfl, rfl, by decide⟩
instance : ElemT Try.prog 6 1 1 := ⟨Try.t6, _, by kernel_rfl, rfl, rfl, rfl, rfl, by decide⟩
instance : ElemT Try.prog 7 4 24 := ⟨Try.t7, _, by kernel_rfl, rfl, rfl, rfl, rfl, by decide⟩
instance : ElemT Try.prog 8 4 24 := ⟨Try.t8, _, by kernel_rfl, rfl, rfl, rfl, rfl, by decide⟩
instance : ElemT Try.prog 9 1 16 := ⟨Try.t9, _, by kernel_rfl, rfl, rfl, rfl, rfl, by decide⟩
instance : ElemT Try.prog 10 1 16 := ⟨Try.t10, _, by kernel_rfl, rfl, rfl, rfl, rfl, by decide⟩
instance : ElemT Try.prog 11 1 16 := ⟨Try.t11, _, by kernel_rfl, rfl, rfl, rfl, rfl, by decide⟩
instance : ElemT Try.prog 12 1 8 := ⟨Try.t12, _, by kernel_rfl, rfl, rfl, rfl, rfl, by decide⟩
instance : ElemT Try.prog 13 2 24 := ⟨Try.t13, _, by kernel_rfl, rfl, rfl, rfl, rfl, by decide⟩
instance : ElemT Try.prog 14 2 24 := ⟨Try.t14, _, by kernel_rfl, rfl, rfl, rfl, rfl, by decide⟩
instance : ElemT Try.prog 15 1 8 := ⟨Try.t15, _, by kernel_rfl, rfl, rfl, rfl, rfl, by decide⟩
instance : ElemT Try.prog 16 1 8 := ⟨Try.t16, _, by kernel_rfl, rfl, rfl, rfl, rfl, by decide⟩
instance : ElemT Try.prog 17 1 8 := ⟨Try.t17, _, by kernel_rfl, rfl, rfl, rfl, rfl, by decide⟩
instance : ElemT Try.prog 18 1 8 := ⟨Try.t18, _, by kernel_rfl, rfl, rfl, rfl, rfl, by decide⟩
instance : ElemT Try.prog 19 1 8 := ⟨Try.t19, _, by kernel_rfl, rfl, rfl, rfl, rfl, by decide⟩
instance : ElemT Try.prog 21 1 4 := ⟨Try.t21, _, by kernel_rfl, rfl, rfl, rfl, rfl, by decide⟩
instance : ElemT Try.prog 22 1 24 := ⟨Try.t22, _, by kernel_rfl, rfl, rfl, rfl, rfl, by decide⟩
instance : ElemT Try.prog 25 2 32 := ⟨Try.t25, _, by kernel_rfl, rfl, rfl, rfl, rfl, by decide⟩
instance : ElemT Try.prog 26 2 32 := ⟨Try.t26, _, by kernel_rfl, rfl, rfl, rfl, rfl, by decide⟩
instance : ElemT Try.prog 27 1 4 := ⟨Try.t27, _, by kernel_rfl, rfl, rfl, rfl, rfl, by decide⟩
instance : ElemT Try.prog 28 3 16 := ⟨Try.t28, _, by kernel_rfl, rfl, rfl, rfl, rfl, by decide⟩
instance : ElemT Try.prog 29 3 16 := ⟨Try.t29, _, by kernel_rfl, rfl, rfl, rfl, rfl, by decide⟩
instance : ElemT Try.prog 30 3 16 := ⟨Try.t30, _, by kernel_rfl, rfl, rfl, rfl, rfl, by decide⟩
instance : ElemT Try.prog 31 3 16 := ⟨Try.t31, _, by kernel_rfl, rfl, rfl, rfl, rfl, by decide⟩
instance : ElemT Try.prog 32 8 48 := ⟨Try.t32, _, by kernel_rfl, rfl, rfl, rfl, rfl, by decide⟩
instance : ElemT Try.prog 33 8 48 := ⟨Try.t33, _, by kernel_rfl, rfl, rfl, rfl, rfl, by decide⟩
instance : ElemT Try.prog 34 1 8 := ⟨Try.t34, _, by kernel_rfl, rfl, rfl, rfl, rfl, by decide⟩
instance : ElemT Try.prog 43 1 24 := ⟨Try.t43, _, by kernel_rfl, rfl, rfl, rfl, rfl, by decide⟩
instance : ElemT Try.prog 48 9 56 := ⟨Try.t48, _, by kernel_rfl, rfl, rfl, rfl, rfl, by decide⟩
instance : ElemT Try.prog 49 9 56 := ⟨Try.t49, _, by kernel_rfl, rfl, rfl, rfl, rfl, by decide⟩
instance : ElemT Try.prog 50 1 8 := ⟨Try.t50, _, by kernel_rfl, rfl, rfl, rfl, rfl, by decide⟩
instance : ElemT Try.prog 53 7 56 := ⟨Try.t53, _, by kernel_rfl, rfl, rfl, rfl, rfl, by decide⟩
instance : ElemT Try.prog 54 7 56 := ⟨Try.t54, _, by kernel_rfl, rfl, rfl, rfl, rfl, by decide⟩
instance : ElemT Try.prog 55 1 24 := ⟨Try.t55, _, by kernel_rfl, rfl, rfl, rfl, rfl, by decide⟩
instance : ElemT Try.prog 56 1 24 := ⟨Try.t56, _, by kernel_rfl, rfl, rfl, rfl, rfl, by decide⟩
instance : ElemT Try.prog 57 1 24 := ⟨Try.t57, _, by kernel_rfl, rfl, rfl, rfl, rfl, by decide⟩
instance : ElemT Try.prog 58 10 128 := ⟨Try.t58, _, by kernel_rfl, rfl, rfl, rfl, rfl, by decide⟩
instance : ElemT Try.prog 59 10 128 := ⟨Try.t59, _, by kernel_rfl, rfl, rfl, rfl, rfl, by decide⟩
instance : ElemT Try.prog 64 1 24 := ⟨Try.t64, _, by kernel_rfl, rfl, rfl, rfl, rfl, by decide⟩
instance : ElemT Try.prog 73 1 8 := ⟨Try.t73, _, by kernel_rfl, rfl, rfl, rfl, rfl, by decide⟩
instance : ElemT Try.prog 74 1 8 := ⟨Try.t74, _, by kernel_rfl, rfl, rfl, rfl, rfl, by decide⟩
instance : ElemT Try.prog 75 2 32 := ⟨Try.t75, _, by kernel_rfl, rfl, rfl, rfl, rfl, by decide⟩
instance : ElemT Try.prog 76 2 32 := ⟨Try.t76, _, by kernel_rfl, rfl, rfl, rfl, rfl, by decide⟩
instance : ElemT Try.prog 86 1 8 := ⟨Try.t86, _, by kernel_rfl, rfl, rfl, rfl, rfl, by decide⟩
instance : ElemT Try.prog 87 1 24 := ⟨Try.t87, _, by kernel_rfl, rfl, rfl, rfl, rfl, by decide⟩
instance : ElemT Try.prog 94 1 8 := ⟨Try.t94, _, by kernel_rfl, rfl, rfl, rfl, rfl, by decide⟩
instance : ElemT Try.prog 97 3 48 := ⟨Try.t97, _, by kernel_rfl, rfl, rfl, rfl, rfl, by decide⟩
instance : ElemT Try.prog 99 7 56 := ⟨Try.t99, _, by kernel_rfl, rfl, rfl, rfl, rfl, by decide⟩
instance : ElemT Try.prog 100 7 56 := ⟨Try.t100, _, by kernel_rfl, rfl, rfl, rfl, rfl, by decide⟩
instance : ElemT Try.prog 102 7 112 := ⟨Try.t102, _, by kernel_rfl, rfl, rfl, rfl, rfl, by decide⟩
instance : ElemT Try.prog 105 1 8 := ⟨Try.t105, _, by kernel_rfl, rfl, rfl, rfl, rfl, by decide⟩
instance : ElemT Try.prog 109 15 120 := ⟨Try.t109, _, by kernel_rfl, rfl, rfl, rfl, rfl, by decide⟩
instance : ElemT Try.prog 110 15 120 := ⟨Try.t110, _, by kernel_rfl, rfl, rfl, rfl, rfl, by decide⟩
instance : ElemT Try.prog 114 3 24 := ⟨Try.t114, _, by kernel_rfl, rfl, rfl, rfl, rfl, by decide⟩
instance : ElemT Try.prog 115 3 24 := ⟨Try.t115, _, by kernel_rfl, rfl, rfl, rfl, rfl, by decide⟩
instance : ElemT Try.prog 117 1 24 := ⟨Try.t117, _, by kernel_rfl, rfl, rfl, rfl, rfl, by decide⟩
instance : ElemT Try.prog 118 4 40 := ⟨Try.t118, _, by kernel_rfl, rfl, rfl, rfl, rfl, by decide⟩
instance : ElemT Try.prog 119 4 40 := ⟨Try.t119, _, by kernel_rfl, rfl, rfl, rfl, rfl, by decide⟩
instance : ElemT Try.prog 124 1 1 := ⟨Try.t124, _, by kernel_rfl, rfl, rfl, rfl, rfl, by decide⟩
instance : ElemT Try.prog 125 1 1 := ⟨Try.t125, _, by kernel_rfl, rfl, rfl, rfl, rfl, by decide⟩
instance : ElemT Try.prog 127 1 4 := ⟨Try.t127, _, by kernel_rfl, rfl, rfl, rfl, rfl, by decide⟩
instance : ElemT Try.prog 128 1 4 := ⟨Try.t128, _, by kernel_rfl, rfl, rfl, rfl, rfl, by decide⟩
instance : ElemT Try.prog 129 11 48 := ⟨Try.t129, _, by kernel_rfl, rfl, rfl, rfl, rfl, by decide⟩
instance : ElemT Try.prog 130 11 48 := ⟨Try.t130, _, by kernel_rfl, rfl, rfl, rfl, rfl, by decide⟩
instance : ElemZ Try.prog 2 (.int .i64 0) 8 := ⟨by kernel_rfl, rfl⟩
instance : IntT Try.prog 2 .i64 := ⟨by kernel_rfl⟩
instance : ElemZ Try.prog 3 (.int .i64 0) 8 := ⟨by kernel_rfl, rfl⟩
instance : IntT Try.prog 3 .i64 := ⟨by kernel_rfl⟩
instance : ElemZ Try.prog 4 (.bool false) 1 := ⟨by kernel_rfl, rfl⟩
instance : BoolT Try.prog 4 := ⟨by kernel_rfl⟩
instance : ElemZ Try.prog 5 (.int .u8 0) 1 := ⟨by kernel_rfl, rfl⟩
instance : IntT Try.prog 5 .u8 := ⟨by kernel_rfl⟩
instance : ElemZ Try.prog 6 (.int .u8 0) 1 := ⟨by kernel_rfl, rfl⟩
instance : IntT Try.prog 6 .u8 := ⟨by kernel_rfl⟩
instance : AggT Try.prog 7 4 := ⟨⟨_, Try.underlying7, rfl⟩, by kernel_rfl⟩
instance : FldOne Try.prog 7 0 0 := ⟨_, _, Try.underlying7, rfl, rfl, inferInstanceAs (One Try.prog 2)⟩
instance : FldOne Try.prog 7 1 1 := ⟨_, _, Try.underlying7, rfl, rfl, inferInstanceAs (One Try.prog 3)⟩
instance : FldOne Try.prog 7 2 2 := ⟨_, _, Try.underlying7, rfl, rfl, inferInstanceAs (One Try.prog 4)⟩
instance : FldOne Try.prog 7 3 3 := ⟨_, _, Try.underlying7, rfl, rfl, inferInstanceAs (One Try.prog 6)⟩
instance : AggT Try.prog 8 4 := ⟨⟨_, Try.underlying8, rfl⟩, by kernel_rfl⟩
instance : FldOne Try.prog 8 0 0 := ⟨_, _, Try.underlying8, rfl, rfl, inferInstanceAs (One Try.prog 2)⟩
instance : FldOne Try.prog 8 1 1 := ⟨_, _, Try.underlying8, rfl, rfl, inferInstanceAs (One Try.prog 3)⟩
instance : FldOne Try.prog 8 2 2 := ⟨_, _, Try.underlying8, rfl, rfl, inferInstanceAs (One Try.prog 4)⟩
instance : FldOne Try.prog 8 3 3 := ⟨_, _, Try.underlying8, rfl, rfl, inferInstanceAs (One Try.prog 6)⟩
instance : ElemZ Try.prog 9 (.string ByteArray.empty) 16 := ⟨by kernel_rfl, rfl⟩
instance : ElemZ Try.prog 10 (.string ByteArray.empty) 16 := ⟨by kernel_rfl, rfl⟩
instance : ElemZ Try.prog 11 (.string ByteArray.empty) 16 := ⟨by kernel_rfl, rfl⟩
instance : ElemZ Try.prog 12 (.int .u64 0) 8 := ⟨by kernel_rfl, rfl⟩
instance : IntT Try.prog 12 .u64 := ⟨by kernel_rfl⟩
instance : AggT Try.prog 13 2 := ⟨⟨_, Try.underlying13, rfl⟩, by kernel_rfl⟩
instance : FldOne Try.prog 13 0 0 := ⟨_, _, Try.underlying13, rfl, rfl, inferInstanceAs (One Try.prog 9)⟩
instance : FldOne Try.prog 13 1 1 := ⟨_, _, Try.underlying13, rfl, rfl, inferInstanceAs (One Try.prog 12)⟩
instance : AggT Try.prog 14 2 := ⟨⟨_, Try.underlying14, rfl⟩, by kernel_rfl⟩
instance : FldOne Try.prog 14 0 0 := ⟨_, _, Try.underlying14, rfl, rfl, inferInstanceAs (One Try.prog 9)⟩
instance : FldOne Try.prog 14 1 1 := ⟨_, _, Try.underlying14, rfl, rfl, inferInstanceAs (One Try.prog 12)⟩
instance : ElemZ Try.prog 15 (.pointer none) 8 := ⟨by kernel_rfl, rfl⟩
instance : ElemZ Try.prog 16 (.pointer none) 8 := ⟨by kernel_rfl, rfl⟩
instance : ElemZ Try.prog 17 (.pointer none) 8 := ⟨by kernel_rfl, rfl⟩
instance : AggT Try.prog 18 1 := ⟨⟨_, Try.underlying18, rfl⟩, by kernel_rfl⟩
instance : FldOne Try.prog 18 0 0 := ⟨_, _, Try.underlying18, rfl, rfl, inferInstanceAs (One Try.prog 17)⟩
instance : AggT Try.prog 19 1 := ⟨⟨_, Try.underlying19, rfl⟩, by kernel_rfl⟩
instance : FldOne Try.prog 19 0 0 := ⟨_, _, Try.underlying19, rfl, rfl, inferInstanceAs (One Try.prog 17)⟩
instance : ElemZ Try.prog 21 (.int .i32 0) 4 := ⟨by kernel_rfl, rfl⟩
instance : IntT Try.prog 21 .i32 := ⟨by kernel_rfl⟩
instance : ElemZ Try.prog 22 (.slice none 0 0) 24 := ⟨by kernel_rfl, rfl⟩
instance : AggT Try.prog 25 2 := ⟨⟨_, Try.underlying25, rfl⟩, by kernel_rfl⟩
instance : FldOne Try.prog 25 0 0 := ⟨_, _, Try.underlying25, rfl, rfl, inferInstanceAs (One Try.prog 22)⟩
instance : AggT Try.prog 26 2 := ⟨⟨_, Try.underlying26, rfl⟩, by kernel_rfl⟩
instance : FldOne Try.prog 26 0 0 := ⟨_, _, Try.underlying26, rfl, rfl, inferInstanceAs (One Try.prog 22)⟩
instance : ElemZ Try.prog 27 (.int .u32 0) 4 := ⟨by kernel_rfl, rfl⟩
instance : IntT Try.prog 27 .u32 := ⟨by kernel_rfl⟩
instance : AggT Try.prog 28 3 := ⟨⟨_, Try.underlying28, rfl⟩, by kernel_rfl⟩
instance : EqT Try.prog 28 [.i .i64, .i .u32, .i .u32] := ⟨by kernel_rfl, by kernel_rfl, by kernel_rfl, by kernel_rfl⟩
instance : FldOne Try.prog 28 0 0 := ⟨_, _, Try.underlying28, rfl, rfl, inferInstanceAs (One Try.prog 3)⟩
instance : FldOne Try.prog 28 1 1 := ⟨_, _, Try.underlying28, rfl, rfl, inferInstanceAs (One Try.prog 27)⟩
instance : FldOne Try.prog 28 2 2 := ⟨_, _, Try.underlying28, rfl, rfl, inferInstanceAs (One Try.prog 27)⟩
instance : AggT Try.prog 29 3 := ⟨⟨_, Try.underlying29, rfl⟩, by kernel_rfl⟩
instance : EqT Try.prog 29 [.i .i64, .i .u32, .i .u32] := ⟨by kernel_rfl, by kernel_rfl, by kernel_rfl, by kernel_rfl⟩
instance : FldOne Try.prog 29 0 0 := ⟨_, _, Try.underlying29, rfl, rfl, inferInstanceAs (One Try.prog 3)⟩
instance : FldOne Try.prog 29 1 1 := ⟨_, _, Try.underlying29, rfl, rfl, inferInstanceAs (One Try.prog 27)⟩
instance : FldOne Try.prog 29 2 2 := ⟨_, _, Try.underlying29, rfl, rfl, inferInstanceAs (One Try.prog 27)⟩
instance : AggT Try.prog 30 3 := ⟨⟨_, Try.underlying30, rfl⟩, by kernel_rfl⟩
instance : EqT Try.prog 30 [.i .i64, .i .u32, .i .u32] := ⟨by kernel_rfl, by kernel_rfl, by kernel_rfl, by kernel_rfl⟩
instance : FldOne Try.prog 30 0 0 := ⟨_, _, Try.underlying30, rfl, rfl, inferInstanceAs (One Try.prog 3)⟩
instance : FldOne Try.prog 30 1 1 := ⟨_, _, Try.underlying30, rfl, rfl, inferInstanceAs (One Try.prog 27)⟩
instance : FldOne Try.prog 30 2 2 := ⟨_, _, Try.underlying30, rfl, rfl, inferInstanceAs (One Try.prog 27)⟩
instance : AggT Try.prog 31 3 := ⟨⟨_, Try.underlying31, rfl⟩, by kernel_rfl⟩
instance : EqT Try.prog 31 [.i .i64, .i .u32, .i .u32] := ⟨by kernel_rfl, by kernel_rfl, by kernel_rfl, by kernel_rfl⟩
instance : FldOne Try.prog 31 0 0 := ⟨_, _, Try.underlying31, rfl, rfl, inferInstanceAs (One Try.prog 3)⟩
instance : FldOne Try.prog 31 1 1 := ⟨_, _, Try.underlying31, rfl, rfl, inferInstanceAs (One Try.prog 27)⟩
instance : FldOne Try.prog 31 2 2 := ⟨_, _, Try.underlying31, rfl, rfl, inferInstanceAs (One Try.prog 27)⟩
instance : AggT Try.prog 32 8 := ⟨⟨_, Try.underlying32, rfl⟩, by kernel_rfl⟩
instance : FldOne Try.prog 32 0 0 := ⟨_, _, Try.underlying32, rfl, rfl, inferInstanceAs (One Try.prog 3)⟩
instance : FldOne Try.prog 32 1 1 := ⟨_, _, Try.underlying32, rfl, rfl, inferInstanceAs (One Try.prog 4)⟩
instance : AggT Try.prog 33 8 := ⟨⟨_, Try.underlying33, rfl⟩, by kernel_rfl⟩
instance : FldOne Try.prog 33 0 0 := ⟨_, _, Try.underlying33, rfl, rfl, inferInstanceAs (One Try.prog 3)⟩
instance : FldOne Try.prog 33 1 1 := ⟨_, _, Try.underlying33, rfl, rfl, inferInstanceAs (One Try.prog 4)⟩
instance : ElemZ Try.prog 34 (.int .i64 0) 8 := ⟨by kernel_rfl, rfl⟩
instance : IntT Try.prog 34 .i64 := ⟨by kernel_rfl⟩
instance : ElemZ Try.prog 43 (.slice none 0 0) 24 := ⟨by kernel_rfl, rfl⟩
instance : AggT Try.prog 48 9 := ⟨⟨_, Try.underlying48, rfl⟩, by kernel_rfl⟩
instance : FldOne Try.prog 48 0 0 := ⟨_, _, Try.underlying48, rfl, rfl, inferInstanceAs (One Try.prog 3)⟩
instance : FldOne Try.prog 48 3 7 := ⟨_, _, Try.underlying48, rfl, rfl, inferInstanceAs (One Try.prog 3)⟩
instance : FldOne Try.prog 48 4 8 := ⟨_, _, Try.underlying48, rfl, rfl, inferInstanceAs (One Try.prog 3)⟩
instance : AggT Try.prog 49 9 := ⟨⟨_, Try.underlying49, rfl⟩, by kernel_rfl⟩
instance : FldOne Try.prog 49 0 0 := ⟨_, _, Try.underlying49, rfl, rfl, inferInstanceAs (One Try.prog 3)⟩
instance : FldOne Try.prog 49 3 7 := ⟨_, _, Try.underlying49, rfl, rfl, inferInstanceAs (One Try.prog 3)⟩
instance : FldOne Try.prog 49 4 8 := ⟨_, _, Try.underlying49, rfl, rfl, inferInstanceAs (One Try.prog 3)⟩
instance : ElemZ Try.prog 50 (.pointer none) 8 := ⟨by kernel_rfl, rfl⟩
instance : AggT Try.prog 53 7 := ⟨⟨_, Try.underlying53, rfl⟩, by kernel_rfl⟩
instance : EqT Try.prog 53 [.i .i64, .i .i64, .i .i64, .i .i64, .i .i64, .i .i64, .i .i64] := ⟨by kernel_rfl, by kernel_rfl, by kernel_rfl, by kernel_rfl⟩
instance : FldOne Try.prog 53 0 0 := ⟨_, _, Try.underlying53, rfl, rfl, inferInstanceAs (One Try.prog 3)⟩
instance : FldOne Try.prog 53 1 1 := ⟨_, _, Try.underlying53, rfl, rfl, inferInstanceAs (One Try.prog 3)⟩
instance : FldOne Try.prog 53 2 2 := ⟨_, _, Try.underlying53, rfl, rfl, inferInstanceAs (One Try.prog 3)⟩
instance : FldOne Try.prog 53 3 3 := ⟨_, _, Try.underlying53, rfl, rfl, inferInstanceAs (One Try.prog 3)⟩
instance : FldOne Try.prog 53 4 4 := ⟨_, _, Try.underlying53, rfl, rfl, inferInstanceAs (One Try.prog 3)⟩
instance : FldOne Try.prog 53 5 5 := ⟨_, _, Try.underlying53, rfl, rfl, inferInstanceAs (One Try.prog 3)⟩
instance : FldOne Try.prog 53 6 6 := ⟨_, _, Try.underlying53, rfl, rfl, inferInstanceAs (One Try.prog 3)⟩
instance : AggT Try.prog 54 7 := ⟨⟨_, Try.underlying54, rfl⟩, by kernel_rfl⟩
instance : EqT Try.prog 54 [.i .i64, .i .i64, .i .i64, .i .i64, .i .i64, .i .i64, .i .i64] := ⟨by kernel_rfl, by kernel_rfl, by kernel_rfl, by kernel_rfl⟩
instance : FldOne Try.prog 54 0 0 := ⟨_, _, Try.underlying54, rfl, rfl, inferInstanceAs (One Try.prog 3)⟩
instance : FldOne Try.prog 54 1 1 := ⟨_, _, Try.underlying54, rfl, rfl, inferInstanceAs (One Try.prog 3)⟩
instance : FldOne Try.prog 54 2 2 := ⟨_, _, Try.underlying54, rfl, rfl, inferInstanceAs (One Try.prog 3)⟩
instance : FldOne Try.prog 54 3 3 := ⟨_, _, Try.underlying54, rfl, rfl, inferInstanceAs (One Try.prog 3)⟩
instance : FldOne Try.prog 54 4 4 := ⟨_, _, Try.underlying54, rfl, rfl, inferInstanceAs (One Try.prog 3)⟩
instance : FldOne Try.prog 54 5 5 := ⟨_, _, Try.underlying54, rfl, rfl, inferInstanceAs (One Try.prog 3)⟩
instance : FldOne Try.prog 54 6 6 := ⟨_, _, Try.underlying54, rfl, rfl, inferInstanceAs (One Try.prog 3)⟩
instance : ElemZ Try.prog 55 (.slice none 0 0) 24 := ⟨by kernel_rfl, rfl⟩
instance : ElemZ Try.prog 56 (.slice none 0 0) 24 := ⟨by kernel_rfl, rfl⟩
instance : ElemZ Try.prog 57 (.slice none 0 0) 24 := ⟨by kernel_rfl, rfl⟩
instance : AggT Try.prog 58 10 := ⟨⟨_, Try.underlying58, rfl⟩, by kernel_rfl⟩
instance : FldOne Try.prog 58 1 7 := ⟨_, _, Try.underlying58, rfl, rfl, inferInstanceAs (One Try.prog 55)⟩
instance : FldOne Try.prog 58 2 8 := ⟨_, _, Try.underlying58, rfl, rfl, inferInstanceAs (One Try.prog 56)⟩
instance : FldOne Try.prog 58 3 9 := ⟨_, _, Try.underlying58, rfl, rfl, inferInstanceAs (One Try.prog 57)⟩
instance : AggT Try.prog 59 10 := ⟨⟨_, Try.underlying59, rfl⟩, by kernel_rfl⟩
instance : FldOne Try.prog 59 1 7 := ⟨_, _, Try.underlying59, rfl, rfl, inferInstanceAs (One Try.prog 55)⟩
instance : FldOne Try.prog 59 2 8 := ⟨_, _, Try.underlying59, rfl, rfl, inferInstanceAs (One Try.prog 56)⟩
instance : FldOne Try.prog 59 3 9 := ⟨_, _, Try.underlying59, rfl, rfl, inferInstanceAs (One Try.prog 57)⟩
instance : ElemZ Try.prog 64 (.slice none 0 0) 24 := ⟨by kernel_rfl, rfl⟩
instance : ElemZ Try.prog 73 (.pointer none) 8 := ⟨by kernel_rfl, rfl⟩
instance : ElemZ Try.prog 74 (.pointer none) 8 := ⟨by kernel_rfl, rfl⟩
instance : AggT Try.prog 75 2 := ⟨⟨_, Try.underlying75, rfl⟩, by kernel_rfl⟩
instance : FldOne Try.prog 75 0 0 := ⟨_, _, Try.underlying75, rfl, rfl, inferInstanceAs (One Try.prog 74)⟩
instance : FldOne Try.prog 75 1 1 := ⟨_, _, Try.underlying75, rfl, rfl, inferInstanceAs (One Try.prog 57)⟩
instance : AggT Try.prog 76 2 := ⟨⟨_, Try.underlying76, rfl⟩, by kernel_rfl⟩
instance : FldOne Try.prog 76 0 0 := ⟨_, _, Try.underlying76, rfl, rfl, inferInstanceAs (One Try.prog 74)⟩
instance : FldOne Try.prog 76 1 1 := ⟨_, _, Try.underlying76, rfl, rfl, inferInstanceAs (One Try.prog 57)⟩
instance : ElemZ Try.prog 86 (.int .u64 0) 8 := ⟨by kernel_rfl, rfl⟩
instance : IntT Try.prog 86 .u64 := ⟨by kernel_rfl⟩
instance : ElemZ Try.prog 87 (.slice none 0 0) 24 := ⟨by kernel_rfl, rfl⟩
instance : ElemZ Try.prog 94 (.pointer none) 8 := ⟨by kernel_rfl, rfl⟩
instance : ArrT Try.prog 97 3 9 1 := ⟨by kernel_rfl, fun _ => by kernel_rfl⟩
instance : AggT Try.prog 97 3 := ⟨⟨_, Try.underlying97, rfl⟩, by kernel_rfl⟩
instance : ArrT Try.prog 99 7 3 1 := ⟨by kernel_rfl, fun _ => by kernel_rfl⟩
instance : AggT Try.prog 99 7 := ⟨⟨_, Try.underlying99, rfl⟩, by kernel_rfl⟩
instance : ArrT Try.prog 100 7 3 1 := ⟨by kernel_rfl, fun _ => by kernel_rfl⟩
instance : AggT Try.prog 100 7 := ⟨⟨_, Try.underlying100, rfl⟩, by kernel_rfl⟩
instance : ArrT Try.prog 102 7 9 1 := ⟨by kernel_rfl, fun _ => by kernel_rfl⟩
instance : AggT Try.prog 102 7 := ⟨⟨_, Try.underlying102, rfl⟩, by kernel_rfl⟩
instance : ElemZ Try.prog 105 (.int .u64 0) 8 := ⟨by kernel_rfl, rfl⟩
instance : IntT Try.prog 105 .u64 := ⟨by kernel_rfl⟩
instance : AggT Try.prog 109 15 := ⟨⟨_, Try.underlying109, rfl⟩, by kernel_rfl⟩
instance : FldOne Try.prog 109 1 7 := ⟨_, _, Try.underlying109, rfl, rfl, inferInstanceAs (One Try.prog 3)⟩
instance : FldOne Try.prog 109 2 8 := ⟨_, _, Try.underlying109, rfl, rfl, inferInstanceAs (One Try.prog 3)⟩
instance : FldOne Try.prog 109 3 9 := ⟨_, _, Try.underlying109, rfl, rfl, inferInstanceAs (One Try.prog 3)⟩
instance : FldOne Try.prog 109 4 10 := ⟨_, _, Try.underlying109, rfl, rfl, inferInstanceAs (One Try.prog 3)⟩
instance : FldOne Try.prog 109 5 11 := ⟨_, _, Try.underlying109, rfl, rfl, inferInstanceAs (One Try.prog 3)⟩
instance : FldOne Try.prog 109 6 12 := ⟨_, _, Try.underlying109, rfl, rfl, inferInstanceAs (One Try.prog 3)⟩
instance : FldOne Try.prog 109 7 13 := ⟨_, _, Try.underlying109, rfl, rfl, inferInstanceAs (One Try.prog 3)⟩
instance : FldOne Try.prog 109 8 14 := ⟨_, _, Try.underlying109, rfl, rfl, inferInstanceAs (One Try.prog 3)⟩
instance : AggT Try.prog 110 15 := ⟨⟨_, Try.underlying110, rfl⟩, by kernel_rfl⟩
instance : FldOne Try.prog 110 1 7 := ⟨_, _, Try.underlying110, rfl, rfl, inferInstanceAs (One Try.prog 3)⟩
instance : FldOne Try.prog 110 2 8 := ⟨_, _, Try.underlying110, rfl, rfl, inferInstanceAs (One Try.prog 3)⟩
instance : FldOne Try.prog 110 3 9 := ⟨_, _, Try.underlying110, rfl, rfl, inferInstanceAs (One Try.prog 3)⟩
instance : FldOne Try.prog 110 4 10 := ⟨_, _, Try.underlying110, rfl, rfl, inferInstanceAs (One Try.prog 3)⟩
instance : FldOne Try.prog 110 5 11 := ⟨_, _, Try.underlying110, rfl, rfl, inferInstanceAs (One Try.prog 3)⟩
instance : FldOne Try.prog 110 6 12 := ⟨_, _, Try.underlying110, rfl, rfl, inferInstanceAs (One Try.prog 3)⟩
instance : FldOne Try.prog 110 7 13 := ⟨_, _, Try.underlying110, rfl, rfl, inferInstanceAs (One Try.prog 3)⟩
instance : FldOne Try.prog 110 8 14 := ⟨_, _, Try.underlying110, rfl, rfl, inferInstanceAs (One Try.prog 3)⟩
instance : AggT Try.prog 114 3 := ⟨⟨_, Try.underlying114, rfl⟩, by kernel_rfl⟩
instance : EqT Try.prog 114 [.i .i64, .i .i64, .i .i64] := ⟨by kernel_rfl, by kernel_rfl, by kernel_rfl, by kernel_rfl⟩
instance : FldOne Try.prog 114 0 0 := ⟨_, _, Try.underlying114, rfl, rfl, inferInstanceAs (One Try.prog 3)⟩
instance : FldOne Try.prog 114 1 1 := ⟨_, _, Try.underlying114, rfl, rfl, inferInstanceAs (One Try.prog 3)⟩
instance : FldOne Try.prog 114 2 2 := ⟨_, _, Try.underlying114, rfl, rfl, inferInstanceAs (One Try.prog 3)⟩
instance : AggT Try.prog 115 3 := ⟨⟨_, Try.underlying115, rfl⟩, by kernel_rfl⟩
instance : EqT Try.prog 115 [.i .i64, .i .i64, .i .i64] := ⟨by kernel_rfl, by kernel_rfl, by kernel_rfl, by kernel_rfl⟩
instance : FldOne Try.prog 115 0 0 := ⟨_, _, Try.underlying115, rfl, rfl, inferInstanceAs (One Try.prog 3)⟩
instance : FldOne Try.prog 115 1 1 := ⟨_, _, Try.underlying115, rfl, rfl, inferInstanceAs (One Try.prog 3)⟩
instance : FldOne Try.prog 115 2 2 := ⟨_, _, Try.underlying115, rfl, rfl, inferInstanceAs (One Try.prog 3)⟩
instance : ElemZ Try.prog 117 (.slice none 0 0) 24 := ⟨by kernel_rfl, rfl⟩
instance : AggT Try.prog 118 4 := ⟨⟨_, Try.underlying118, rfl⟩, by kernel_rfl⟩
instance : FldOne Try.prog 118 0 0 := ⟨_, _, Try.underlying118, rfl, rfl, inferInstanceAs (One Try.prog 17)⟩
instance : FldOne Try.prog 118 1 1 := ⟨_, _, Try.underlying118, rfl, rfl, inferInstanceAs (One Try.prog 17)⟩
instance : FldOne Try.prog 118 2 2 := ⟨_, _, Try.underlying118, rfl, rfl, inferInstanceAs (One Try.prog 17)⟩
instance : FldOne Try.prog 118 3 3 := ⟨_, _, Try.underlying118, rfl, rfl, inferInstanceAs (One Try.prog 9)⟩
instance : AggT Try.prog 119 4 := ⟨⟨_, Try.underlying119, rfl⟩, by kernel_rfl⟩
instance : FldOne Try.prog 119 0 0 := ⟨_, _, Try.underlying119, rfl, rfl, inferInstanceAs (One Try.prog 17)⟩
instance : FldOne Try.prog 119 1 1 := ⟨_, _, Try.underlying119, rfl, rfl, inferInstanceAs (One Try.prog 17)⟩
instance : FldOne Try.prog 119 2 2 := ⟨_, _, Try.underlying119, rfl, rfl, inferInstanceAs (One Try.prog 17)⟩
instance : FldOne Try.prog 119 3 3 := ⟨_, _, Try.underlying119, rfl, rfl, inferInstanceAs (One Try.prog 9)⟩
instance : ElemZ Try.prog 124 (.int .u8 0) 1 := ⟨by kernel_rfl, rfl⟩
instance : IntT Try.prog 124 .u8 := ⟨by kernel_rfl⟩
instance : ElemZ Try.prog 125 (.int .u8 0) 1 := ⟨by kernel_rfl, rfl⟩
instance : IntT Try.prog 125 .u8 := ⟨by kernel_rfl⟩
instance : ElemZ Try.prog 127 (.int .i32 0) 4 := ⟨by kernel_rfl, rfl⟩
instance : IntT Try.prog 127 .i32 := ⟨by kernel_rfl⟩
instance : ElemZ Try.prog 128 (.int .i32 0) 4 := ⟨by kernel_rfl, rfl⟩
instance : IntT Try.prog 128 .i32 := ⟨by kernel_rfl⟩
instance : AggT Try.prog 129 11 := ⟨⟨_, Try.underlying129, rfl⟩, by kernel_rfl⟩
instance : FldOne Try.prog 129 0 0 := ⟨_, _, Try.underlying129, rfl, rfl, inferInstanceAs (One Try.prog 12)⟩
instance : FldOne Try.prog 129 1 1 := ⟨_, _, Try.underlying129, rfl, rfl, inferInstanceAs (One Try.prog 12)⟩
instance : FldOne Try.prog 129 2 2 := ⟨_, _, Try.underlying129, rfl, rfl, inferInstanceAs (One Try.prog 27)⟩
instance : FldOne Try.prog 129 3 3 := ⟨_, _, Try.underlying129, rfl, rfl, inferInstanceAs (One Try.prog 124)⟩
instance : FldOne Try.prog 129 4 4 := ⟨_, _, Try.underlying129, rfl, rfl, inferInstanceAs (One Try.prog 5)⟩
instance : FldOne Try.prog 129 5 5 := ⟨_, _, Try.underlying129, rfl, rfl, inferInstanceAs (One Try.prog 5)⟩
instance : FldOne Try.prog 129 6 6 := ⟨_, _, Try.underlying129, rfl, rfl, inferInstanceAs (One Try.prog 125)⟩
instance : FldOne Try.prog 129 7 7 := ⟨_, _, Try.underlying129, rfl, rfl, inferInstanceAs (One Try.prog 126)⟩
instance : FldOne Try.prog 129 8 8 := ⟨_, _, Try.underlying129, rfl, rfl, inferInstanceAs (One Try.prog 94)⟩
instance : FldOne Try.prog 129 9 9 := ⟨_, _, Try.underlying129, rfl, rfl, inferInstanceAs (One Try.prog 127)⟩
instance : FldOne Try.prog 129 10 10 := ⟨_, _, Try.underlying129, rfl, rfl, inferInstanceAs (One Try.prog 128)⟩
instance : AggT Try.prog 130 11 := ⟨⟨_, Try.underlying130, rfl⟩, by kernel_rfl⟩
instance : FldOne Try.prog 130 0 0 := ⟨_, _, Try.underlying130, rfl, rfl, inferInstanceAs (One Try.prog 12)⟩
instance : FldOne Try.prog 130 1 1 := ⟨_, _, Try.underlying130, rfl, rfl, inferInstanceAs (One Try.prog 12)⟩
instance : FldOne Try.prog 130 2 2 := ⟨_, _, Try.underlying130, rfl, rfl, inferInstanceAs (One Try.prog 27)⟩
instance : FldOne Try.prog 130 3 3 := ⟨_, _, Try.underlying130, rfl, rfl, inferInstanceAs (One Try.prog 124)⟩
instance : FldOne Try.prog 130 4 4 := ⟨_, _, Try.underlying130, rfl, rfl, inferInstanceAs (One Try.prog 5)⟩
instance : FldOne Try.prog 130 5 5 := ⟨_, _, Try.underlying130, rfl, rfl, inferInstanceAs (One Try.prog 5)⟩
instance : FldOne Try.prog 130 6 6 := ⟨_, _, Try.underlying130, rfl, rfl, inferInstanceAs (One Try.prog 125)⟩
instance : FldOne Try.prog 130 7 7 := ⟨_, _, Try.underlying130, rfl, rfl, inferInstanceAs (One Try.prog 126)⟩
instance : FldOne Try.prog 130 8 8 := ⟨_, _, Try.underlying130, rfl, rfl, inferInstanceAs (One Try.prog 94)⟩
instance : FldOne Try.prog 130 9 9 := ⟨_, _, Try.underlying130, rfl, rfl, inferInstanceAs (One Try.prog 127)⟩
instance : FldOne Try.prog 130 10 10 := ⟨_, _, Try.underlying130, rfl, rfl, inferInstanceAs (One Try.prog 128)⟩
instance : HasBody Try.prog 3 := ⟨fun _ _ => by kernel_rfl⟩
instance : HasBody Try.prog 4 := ⟨fun _ _ => by kernel_rfl⟩
instance : HasBody Try.prog 5 := ⟨fun _ _ => by kernel_rfl⟩
instance : HasBody Try.prog 6 := ⟨fun _ _ => by kernel_rfl⟩
instance : HasBody Try.prog 7 := ⟨fun _ _ => by kernel_rfl⟩
instance : HasBody Try.prog 8 := ⟨fun _ _ => by kernel_rfl⟩
instance : HasBody Try.prog 9 := ⟨fun _ _ => by kernel_rfl⟩
instance : HasBody Try.prog 10 := ⟨fun _ _ => by kernel_rfl⟩
instance : HasBody Try.prog 11 := ⟨fun _ _ => by kernel_rfl⟩
instance : HasBody Try.prog 12 := ⟨fun _ _ => by kernel_rfl⟩
instance : HasBody Try.prog 13 := ⟨fun _ _ => by kernel_rfl⟩
instance : HasBody Try.prog 14 := ⟨fun _ _ => by kernel_rfl⟩
instance : HasBody Try.prog 15 := ⟨fun _ _ => by kernel_rfl⟩
instance : HasBody Try.prog 16 := ⟨fun _ _ => by kernel_rfl⟩
instance : HasBody Try.prog 17 := ⟨fun _ _ => by kernel_rfl⟩
instance : HasBody Try.prog 18 := ⟨fun _ _ => by kernel_rfl⟩
instance : HasBody Try.prog 19 := ⟨fun _ _ => by kernel_rfl⟩
instance : HasBody Try.prog 20 := ⟨fun _ _ => by kernel_rfl⟩
instance : HasBody Try.prog 21 := ⟨fun _ _ => by kernel_rfl⟩
instance : HasBody Try.prog 22 := ⟨fun _ _ => by kernel_rfl⟩
instance : HasBody Try.prog 23 := ⟨fun _ _ => by kernel_rfl⟩
instance : HasBody Try.prog 24 := ⟨fun _ _ => by kernel_rfl⟩
instance : HasBody Try.prog 25 := ⟨fun _ _ => by kernel_rfl⟩
instance : HasBody Try.prog 26 := ⟨fun _ _ => by kernel_rfl⟩
instance : HasBody Try.prog 27 := ⟨fun _ _ => by kernel_rfl⟩
instance : HasBody Try.prog 28 := ⟨fun _ _ => by kernel_rfl⟩
instance : HasBody Try.prog 29 := ⟨fun _ _ => by kernel_rfl⟩
instance : HasBody Try.prog 30 := ⟨fun _ _ => by kernel_rfl⟩
instance : HasBody Try.prog 31 := ⟨fun _ _ => by kernel_rfl⟩
instance : HasBody Try.prog 32 := ⟨fun _ _ => by kernel_rfl⟩
instance : HasBody Try.prog 33 := ⟨fun _ _ => by kernel_rfl⟩
instance : HasBody Try.prog 34 := ⟨fun _ _ => by kernel_rfl⟩
instance : HasBody Try.prog 35 := ⟨fun _ _ => by kernel_rfl⟩
instance : HasBody Try.prog 36 := ⟨fun _ _ => by kernel_rfl⟩
instance : HasBody Try.prog 37 := ⟨fun _ _ => by kernel_rfl⟩
instance : HasBody Try.prog 38 := ⟨fun _ _ => by kernel_rfl⟩
instance : HasBody Try.prog 39 := ⟨fun _ _ => by kernel_rfl⟩
instance : HasBody Try.prog 40 := ⟨fun _ _ => by kernel_rfl⟩
instance : HasBody Try.prog 41 := ⟨fun _ _ => by kernel_rfl⟩
instance : HasBody Try.prog 42 := ⟨fun _ _ => by kernel_rfl⟩
instance : HasBody Try.prog 43 := ⟨fun _ _ => by kernel_rfl⟩
instance : HasBody Try.prog 44 := ⟨fun _ _ => by kernel_rfl⟩
instance : HasBody Try.prog 45 := ⟨fun _ _ => by kernel_rfl⟩
instance : HasBody Try.prog 46 := ⟨fun _ _ => by kernel_rfl⟩
instance : HasBody Try.prog 47 := ⟨fun _ _ => by kernel_rfl⟩
instance : HasBody Try.prog 48 := ⟨fun _ _ => by kernel_rfl⟩
instance : HasBody Try.prog 49 := ⟨fun _ _ => by kernel_rfl⟩
instance : HasBody Try.prog 50 := ⟨fun _ _ => by kernel_rfl⟩
instance : HasBody Try.prog 51 := ⟨fun _ _ => by kernel_rfl⟩
instance : HasBody Try.prog 52 := ⟨fun _ _ => by kernel_rfl⟩
instance : HasBody Try.prog 53 := ⟨fun _ _ => by kernel_rfl⟩
instance : HasBody Try.prog 54 := ⟨fun _ _ => by kernel_rfl⟩
instance : HasBody Try.prog 55 := ⟨fun _ _ => by kernel_rfl⟩
instance : HasBody Try.prog 56 := ⟨fun _ _ => by kernel_rfl⟩
instance : HasBody Try.prog 57 := ⟨fun _ _ => by kernel_rfl⟩
instance : HasBody Try.prog 58 := ⟨fun _ _ => by kernel_rfl⟩
instance : HasBody Try.prog 59 := ⟨fun _ _ => by kernel_rfl⟩
instance : HasBody Try.prog 60 := ⟨fun _ _ => by kernel_rfl⟩
instance : HasBody Try.prog 61 := ⟨fun _ _ => by kernel_rfl⟩
instance : HasBody Try.prog 62 := ⟨fun _ _ => by kernel_rfl⟩
instance : HasBody Try.prog 63 := ⟨fun _ _ => by kernel_rfl⟩
instance : HasBody Try.prog 64 := ⟨fun _ _ => by kernel_rfl⟩
instance : HasBody Try.prog 65 := ⟨fun _ _ => by kernel_rfl⟩
instance : HasBody Try.prog 66 := ⟨fun _ _ => by kernel_rfl⟩
instance : HasBody Try.prog 68 := ⟨fun _ _ => by kernel_rfl⟩
instance : HasBody Try.prog 69 := ⟨fun _ _ => by kernel_rfl⟩
instance : HasBody Try.prog 70 := ⟨fun _ _ => by kernel_rfl⟩
instance : HasBody Try.prog 71 := ⟨fun _ _ => by kernel_rfl⟩
end Go.Proofs.Ytblngbagjieeiaa
