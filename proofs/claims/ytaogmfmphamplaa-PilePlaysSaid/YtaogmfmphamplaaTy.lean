/- What the reader asks of types and functions, closed facts of this program. -/
import Derived.Test.YtaogmfmphamplaaV8
namespace Go.Proofs.Ytaogmfmphamplaa
open Go.RowKit
instance : Mixed Try.prog := ⟨by kernel_rfl⟩
instance : One Try.prog 1 := ⟨fun _ => by kernel_rfl, fun _ => by kernel_rfl⟩
instance : One Try.prog 2 := ⟨fun _ => by kernel_rfl, fun _ => by kernel_rfl⟩
instance : One Try.prog 3 := ⟨fun _ => by kernel_rfl, fun _ => by kernel_rfl⟩
instance : One Try.prog 4 := ⟨fun _ => by kernel_rfl, fun _ => by kernel_rfl⟩
instance : One Try.prog 5 := ⟨fun _ => by kernel_rfl, fun _ => by kernel_rfl⟩
instance : One Try.prog 6 := ⟨fun _ => by kernel_rfl, fun _ => by kernel_rfl⟩
instance : FOff Try.prog 7 0 0 := ⟨fun _ _ _ => by kernel_rfl⟩
instance : FOff Try.prog 7 1 1 := ⟨fun _ _ _ => by kernel_rfl⟩
instance : FOff Try.prog 7 2 2 := ⟨fun _ _ _ => by kernel_rfl⟩
instance : FOff Try.prog 7 3 3 := ⟨fun _ _ _ => by kernel_rfl⟩
instance : FOff Try.prog 8 0 0 := ⟨fun _ _ _ => by kernel_rfl⟩
instance : FOff Try.prog 8 1 1 := ⟨fun _ _ _ => by kernel_rfl⟩
instance : FOff Try.prog 8 2 2 := ⟨fun _ _ _ => by kernel_rfl⟩
instance : FOff Try.prog 8 3 3 := ⟨fun _ _ _ => by kernel_rfl⟩
instance : StrT Try.prog 9 := ⟨by kernel_rfl⟩
instance : One Try.prog 9 := ⟨fun _ => by kernel_rfl, fun _ => by kernel_rfl⟩
instance : StrT Try.prog 10 := ⟨by kernel_rfl⟩
instance : One Try.prog 10 := ⟨fun _ => by kernel_rfl, fun _ => by kernel_rfl⟩
instance : StrT Try.prog 11 := ⟨by kernel_rfl⟩
instance : One Try.prog 11 := ⟨fun _ => by kernel_rfl, fun _ => by kernel_rfl⟩
instance : One Try.prog 12 := ⟨fun _ => by kernel_rfl, fun _ => by kernel_rfl⟩
instance : FOff Try.prog 13 0 0 := ⟨fun _ _ _ => by kernel_rfl⟩
instance : FOff Try.prog 13 1 1 := ⟨fun _ _ _ => by kernel_rfl⟩
instance : FOff Try.prog 14 0 0 := ⟨fun _ _ _ => by kernel_rfl⟩
instance : FOff Try.prog 14 1 1 := ⟨fun _ _ _ => by kernel_rfl⟩
instance : PtrT Try.prog 15 := ⟨by kernel_rfl⟩
instance : One Try.prog 15 := ⟨fun _ => by kernel_rfl, fun _ => by kernel_rfl⟩
instance : PtrT Try.prog 16 := ⟨by kernel_rfl⟩
instance : One Try.prog 16 := ⟨fun _ => by kernel_rfl, fun _ => by kernel_rfl⟩
instance : PtrT Try.prog 17 := ⟨by kernel_rfl⟩
instance : One Try.prog 17 := ⟨fun _ => by kernel_rfl, fun _ => by kernel_rfl⟩
instance : FOff Try.prog 18 0 0 := ⟨fun _ _ _ => by kernel_rfl⟩
instance : FOff Try.prog 19 0 0 := ⟨fun _ _ _ => by kernel_rfl⟩
instance : One Try.prog 20 := ⟨fun _ => by kernel_rfl, fun _ => by kernel_rfl⟩
instance : One Try.prog 21 := ⟨fun _ => by kernel_rfl, fun _ => by kernel_rfl⟩
instance : One Try.prog 22 := ⟨fun _ => by kernel_rfl, fun _ => by kernel_rfl⟩
instance : One Try.prog 23 := ⟨fun _ => by kernel_rfl, fun _ => by kernel_rfl⟩
instance : One Try.prog 24 := ⟨fun _ => by kernel_rfl, fun _ => by kernel_rfl⟩
instance : One Try.prog 26 := ⟨fun _ => by kernel_rfl, fun _ => by kernel_rfl⟩
instance : One Try.prog 28 := ⟨fun _ => by kernel_rfl, fun _ => by kernel_rfl⟩
instance : One Try.prog 29 := ⟨fun _ => by kernel_rfl, fun _ => by kernel_rfl⟩
instance : One Try.prog 30 := ⟨fun _ => by kernel_rfl, fun _ => by kernel_rfl⟩
instance : One Try.prog 31 := ⟨fun _ => by kernel_rfl, fun _ => by kernel_rfl⟩
instance : One Try.prog 32 := ⟨fun _ => by kernel_rfl, fun _ => by kernel_rfl⟩
instance : One Try.prog 33 := ⟨fun _ => by kernel_rfl, fun _ => by kernel_rfl⟩
instance : One Try.prog 34 := ⟨fun _ => by kernel_rfl, fun _ => by kernel_rfl⟩
instance : One Try.prog 35 := ⟨fun _ => by kernel_rfl, fun _ => by kernel_rfl⟩
instance : One Try.prog 36 := ⟨fun _ => by kernel_rfl, fun _ => by kernel_rfl⟩
instance : One Try.prog 37 := ⟨fun _ => by kernel_rfl, fun _ => by kernel_rfl⟩
instance : One Try.prog 38 := ⟨fun _ => by kernel_rfl, fun _ => by kernel_rfl⟩
instance : One Try.prog 39 := ⟨fun _ => by kernel_rfl, fun _ => by kernel_rfl⟩
instance : One Try.prog 40 := ⟨fun _ => by kernel_rfl, fun _ => by kernel_rfl⟩
instance : One Try.prog 41 := ⟨fun _ => by kernel_rfl, fun _ => by kernel_rfl⟩
instance : SlT Try.prog 42 3 1 := ⟨by kernel_rfl, fun _ => by kernel_rfl⟩
instance : One Try.prog 42 := ⟨fun _ => by kernel_rfl, fun _ => by kernel_rfl⟩
instance : FOff Try.prog 43 0 0 := ⟨fun _ _ _ => by kernel_rfl⟩
instance : FOff Try.prog 44 0 0 := ⟨fun _ _ _ => by kernel_rfl⟩
instance : One Try.prog 45 := ⟨fun _ => by kernel_rfl, fun _ => by kernel_rfl⟩
instance : One Try.prog 47 := ⟨fun _ => by kernel_rfl, fun _ => by kernel_rfl⟩
instance : One Try.prog 48 := ⟨fun _ => by kernel_rfl, fun _ => by kernel_rfl⟩
instance : SlT Try.prog 49 5 1 := ⟨by kernel_rfl, fun _ => by kernel_rfl⟩
instance : One Try.prog 49 := ⟨fun _ => by kernel_rfl, fun _ => by kernel_rfl⟩
instance : PtrT Try.prog 50 := ⟨by kernel_rfl⟩
instance : One Try.prog 50 := ⟨fun _ => by kernel_rfl, fun _ => by kernel_rfl⟩
instance : One Try.prog 51 := ⟨fun _ => by kernel_rfl, fun _ => by kernel_rfl⟩
instance : One Try.prog 52 := ⟨fun _ => by kernel_rfl, fun _ => by kernel_rfl⟩
instance : One Try.prog 53 := ⟨fun _ => by kernel_rfl, fun _ => by kernel_rfl⟩
instance : One Try.prog 54 := ⟨fun _ => by kernel_rfl, fun _ => by kernel_rfl⟩
instance : SlT Try.prog 55 61 2 := ⟨by kernel_rfl, fun _ => by kernel_rfl⟩
instance : One Try.prog 55 := ⟨fun _ => by kernel_rfl, fun _ => by kernel_rfl⟩
instance : PtrT Try.prog 56 := ⟨by kernel_rfl⟩
instance : One Try.prog 56 := ⟨fun _ => by kernel_rfl, fun _ => by kernel_rfl⟩
instance : One Try.prog 57 := ⟨fun _ => by kernel_rfl, fun _ => by kernel_rfl⟩
instance : FOff Try.prog 58 0 0 := ⟨fun _ _ _ => by kernel_rfl⟩
instance : FOff Try.prog 58 1 1 := ⟨fun _ _ _ => by kernel_rfl⟩
instance : FOff Try.prog 59 0 0 := ⟨fun _ _ _ => by kernel_rfl⟩
instance : FOff Try.prog 59 1 1 := ⟨fun _ _ _ => by kernel_rfl⟩
instance : FOff Try.prog 60 0 0 := ⟨fun _ _ _ => by kernel_rfl⟩
instance : FOff Try.prog 60 1 1 := ⟨fun _ _ _ => by kernel_rfl⟩
instance : FOff Try.prog 61 0 0 := ⟨fun _ _ _ => by kernel_rfl⟩
instance : FOff Try.prog 61 1 1 := ⟨fun _ _ _ => by kernel_rfl⟩
instance : One Try.prog 62 := ⟨fun _ => by kernel_rfl, fun _ => by kernel_rfl⟩
instance : One Try.prog 63 := ⟨fun _ => by kernel_rfl, fun _ => by kernel_rfl⟩
instance : One Try.prog 65 := ⟨fun _ => by kernel_rfl, fun _ => by kernel_rfl⟩
instance : One Try.prog 66 := ⟨fun _ => by kernel_rfl, fun _ => by kernel_rfl⟩
instance : One Try.prog 67 := ⟨fun _ => by kernel_rfl, fun _ => by kernel_rfl⟩
instance : SlT Try.prog 68 70 2 := ⟨by kernel_rfl, fun _ => by kernel_rfl⟩
instance : One Try.prog 68 := ⟨fun _ => by kernel_rfl, fun _ => by kernel_rfl⟩
instance : FOff Try.prog 69 0 0 := ⟨fun _ _ _ => by kernel_rfl⟩
instance : FOff Try.prog 69 1 1 := ⟨fun _ _ _ => by kernel_rfl⟩
instance : FOff Try.prog 70 0 0 := ⟨fun _ _ _ => by kernel_rfl⟩
instance : FOff Try.prog 70 1 1 := ⟨fun _ _ _ => by kernel_rfl⟩
instance : One Try.prog 72 := ⟨fun _ => by kernel_rfl, fun _ => by kernel_rfl⟩
instance : One Try.prog 73 := ⟨fun _ => by kernel_rfl, fun _ => by kernel_rfl⟩
instance : One Try.prog 74 := ⟨fun _ => by kernel_rfl, fun _ => by kernel_rfl⟩
instance : One Try.prog 75 := ⟨fun _ => by kernel_rfl, fun _ => by kernel_rfl⟩
instance : One Try.prog 76 := ⟨fun _ => by kernel_rfl, fun _ => by kernel_rfl⟩
instance : One Try.prog 77 := ⟨fun _ => by kernel_rfl, fun _ => by kernel_rfl⟩
instance : SlT Try.prog 78 9 1 := ⟨by kernel_rfl, fun _ => by kernel_rfl⟩
instance : One Try.prog 78 := ⟨fun _ => by kernel_rfl, fun _ => by kernel_rfl⟩
instance : FOff Try.prog 79 0 0 := ⟨fun _ _ _ => by kernel_rfl⟩
instance : FOff Try.prog 80 0 0 := ⟨fun _ _ _ => by kernel_rfl⟩
instance : PtrT Try.prog 81 := ⟨by kernel_rfl⟩
instance : One Try.prog 81 := ⟨fun _ => by kernel_rfl, fun _ => by kernel_rfl⟩
instance : One Try.prog 82 := ⟨fun _ => by kernel_rfl, fun _ => by kernel_rfl⟩
instance : One Try.prog 84 := ⟨fun _ => by kernel_rfl, fun _ => by kernel_rfl⟩
instance : One Try.prog 85 := ⟨fun _ => by kernel_rfl, fun _ => by kernel_rfl⟩
instance : One Try.prog 86 := ⟨fun _ => by kernel_rfl, fun _ => by kernel_rfl⟩
instance : One Try.prog 87 := ⟨fun _ => by kernel_rfl, fun _ => by kernel_rfl⟩
instance : One Try.prog 88 := ⟨fun _ => by kernel_rfl, fun _ => by kernel_rfl⟩
instance : One Try.prog 89 := ⟨fun _ => by kernel_rfl, fun _ => by kernel_rfl⟩
instance : One Try.prog 90 := ⟨fun _ => by kernel_rfl, fun _ => by kernel_rfl⟩
instance : One Try.prog 91 := ⟨fun _ => by kernel_rfl, fun _ => by kernel_rfl⟩
instance : One Try.prog 92 := ⟨fun _ => by kernel_rfl, fun _ => by kernel_rfl⟩
instance : PtrT Try.prog 93 := ⟨by kernel_rfl⟩
instance : One Try.prog 93 := ⟨fun _ => by kernel_rfl, fun _ => by kernel_rfl⟩
instance : FOff Try.prog 94 0 0 := ⟨fun _ _ _ => by kernel_rfl⟩
instance : FOff Try.prog 94 1 1 := ⟨fun _ _ _ => by kernel_rfl⟩
instance : FOff Try.prog 95 0 0 := ⟨fun _ _ _ => by kernel_rfl⟩
instance : FOff Try.prog 95 1 1 := ⟨fun _ _ _ => by kernel_rfl⟩
instance : FOff Try.prog 96 0 0 := ⟨fun _ _ _ => by kernel_rfl⟩
instance : FOff Try.prog 96 1 1 := ⟨fun _ _ _ => by kernel_rfl⟩
instance : FOff Try.prog 97 0 0 := ⟨fun _ _ _ => by kernel_rfl⟩
instance : FOff Try.prog 97 1 1 := ⟨fun _ _ _ => by kernel_rfl⟩
instance : One Try.prog 98 := ⟨fun _ => by kernel_rfl, fun _ => by kernel_rfl⟩
instance : One Try.prog 99 := ⟨fun _ => by kernel_rfl, fun _ => by kernel_rfl⟩
instance : One Try.prog 100 := ⟨fun _ => by kernel_rfl, fun _ => by kernel_rfl⟩
instance : One Try.prog 101 := ⟨fun _ => by kernel_rfl, fun _ => by kernel_rfl⟩
instance : One Try.prog 102 := ⟨fun _ => by kernel_rfl, fun _ => by kernel_rfl⟩
instance : One Try.prog 103 := ⟨fun _ => by kernel_rfl, fun _ => by kernel_rfl⟩
instance : One Try.prog 104 := ⟨fun _ => by kernel_rfl, fun _ => by kernel_rfl⟩
instance : One Try.prog 105 := ⟨fun _ => by kernel_rfl, fun _ => by kernel_rfl⟩
instance : One Try.prog 106 := ⟨fun _ => by kernel_rfl, fun _ => by kernel_rfl⟩
instance : One Try.prog 107 := ⟨fun _ => by kernel_rfl, fun _ => by kernel_rfl⟩
instance : One Try.prog 108 := ⟨fun _ => by kernel_rfl, fun _ => by kernel_rfl⟩
instance : One Try.prog 109 := ⟨fun _ => by kernel_rfl, fun _ => by kernel_rfl⟩
instance : One Try.prog 110 := ⟨fun _ => by kernel_rfl, fun _ => by kernel_rfl⟩
instance : SlT Try.prog 111 22 1 := ⟨by kernel_rfl, fun _ => by kernel_rfl⟩
instance : One Try.prog 111 := ⟨fun _ => by kernel_rfl, fun _ => by kernel_rfl⟩
instance : One Try.prog 112 := ⟨fun _ => by kernel_rfl, fun _ => by kernel_rfl⟩
instance : One Try.prog 113 := ⟨fun _ => by kernel_rfl, fun _ => by kernel_rfl⟩
instance : One Try.prog 114 := ⟨fun _ => by kernel_rfl, fun _ => by kernel_rfl⟩
instance : FOff Try.prog 115 0 0 := ⟨fun _ _ _ => by kernel_rfl⟩
instance : FOff Try.prog 115 1 1 := ⟨fun _ _ _ => by kernel_rfl⟩
instance : FOff Try.prog 115 2 2 := ⟨fun _ _ _ => by kernel_rfl⟩
instance : FOff Try.prog 115 3 3 := ⟨fun _ _ _ => by kernel_rfl⟩
instance : FOff Try.prog 116 0 0 := ⟨fun _ _ _ => by kernel_rfl⟩
instance : FOff Try.prog 116 1 1 := ⟨fun _ _ _ => by kernel_rfl⟩
instance : FOff Try.prog 116 2 2 := ⟨fun _ _ _ => by kernel_rfl⟩
instance : FOff Try.prog 116 3 3 := ⟨fun _ _ _ => by kernel_rfl⟩
instance : One Try.prog 120 := ⟨fun _ => by kernel_rfl, fun _ => by kernel_rfl⟩
instance : One Try.prog 121 := ⟨fun _ => by kernel_rfl, fun _ => by kernel_rfl⟩
instance : One Try.prog 122 := ⟨fun _ => by kernel_rfl, fun _ => by kernel_rfl⟩
instance : One Try.prog 123 := ⟨fun _ => by kernel_rfl, fun _ => by kernel_rfl⟩
instance : PtrT Try.prog 124 := ⟨by kernel_rfl⟩
instance : One Try.prog 124 := ⟨fun _ => by kernel_rfl, fun _ => by kernel_rfl⟩
instance : One Try.prog 125 := ⟨fun _ => by kernel_rfl, fun _ => by kernel_rfl⟩
instance : One Try.prog 126 := ⟨fun _ => by kernel_rfl, fun _ => by kernel_rfl⟩
instance : FOff Try.prog 127 0 0 := ⟨fun _ _ _ => by kernel_rfl⟩
instance : FOff Try.prog 127 1 1 := ⟨fun _ _ _ => by kernel_rfl⟩
instance : FOff Try.prog 127 2 2 := ⟨fun _ _ _ => by kernel_rfl⟩
instance : FOff Try.prog 127 3 3 := ⟨fun _ _ _ => by kernel_rfl⟩
instance : FOff Try.prog 127 4 4 := ⟨fun _ _ _ => by kernel_rfl⟩
instance : FOff Try.prog 127 5 5 := ⟨fun _ _ _ => by kernel_rfl⟩
instance : FOff Try.prog 127 6 6 := ⟨fun _ _ _ => by kernel_rfl⟩
instance : FOff Try.prog 127 7 7 := ⟨fun _ _ _ => by kernel_rfl⟩
instance : FOff Try.prog 127 8 8 := ⟨fun _ _ _ => by kernel_rfl⟩
instance : FOff Try.prog 127 9 9 := ⟨fun _ _ _ => by kernel_rfl⟩
instance : FOff Try.prog 127 10 10 := ⟨fun _ _ _ => by kernel_rfl⟩
instance : FOff Try.prog 128 0 0 := ⟨fun _ _ _ => by kernel_rfl⟩
instance : FOff Try.prog 128 1 1 := ⟨fun _ _ _ => by kernel_rfl⟩
instance : FOff Try.prog 128 2 2 := ⟨fun _ _ _ => by kernel_rfl⟩
instance : FOff Try.prog 128 3 3 := ⟨fun _ _ _ => by kernel_rfl⟩
instance : FOff Try.prog 128 4 4 := ⟨fun _ _ _ => by kernel_rfl⟩
instance : FOff Try.prog 128 5 5 := ⟨fun _ _ _ => by kernel_rfl⟩
instance : FOff Try.prog 128 6 6 := ⟨fun _ _ _ => by kernel_rfl⟩
instance : FOff Try.prog 128 7 7 := ⟨fun _ _ _ => by kernel_rfl⟩
instance : FOff Try.prog 128 8 8 := ⟨fun _ _ _ => by kernel_rfl⟩
instance : FOff Try.prog 128 9 9 := ⟨fun _ _ _ => by kernel_rfl⟩
instance : FOff Try.prog 128 10 10 := ⟨fun _ _ _ => by kernel_rfl⟩
instance : ElemT Try.prog 2 1 8 := ⟨Try.t2, _, by kernel_rfl, rfl, rfl, rfl, rfl, by decide⟩
instance : ElemT Try.prog 3 1 8 := ⟨Try.t3, _, by kernel_rfl, rfl, rfl, rfl, rfl, by decide⟩
instance : ElemT Try.prog 4 1 1 := ⟨Try.t4, _, by kernel_rfl, rfl, rfl, rfl, rfl, by decide⟩
instance : ElemT Try.prog 5 1 1 := ⟨Try.t5, _, by kernel_rfl, rfl, rfl, rfl, rfl, by decide⟩
instance : ElemT Try.prog 6 1 1 := ⟨Try.t6, _, by kernel_rfl, rfl, rfl, rfl, rfl, by decide⟩
instance : ElemT Try.prog 7 4 24 := ⟨Try.t7, _, by kernel_rfl, rfl, rfl, rfl, rfl, by decide⟩
instance : ElemT Try.prog 8 4 24 := ⟨Try.t8, _, by kernel_rfl, rfl, rfl, rfl, rfl, by decide⟩
instance : ElemT Try.prog 9 1 16 := ⟨Try.t9, _, by kernel_rfl, rfl, rfl, rfl, rfl, by decide⟩
instance : ElemT Try.prog 10 1 16 := ⟨Try.t10, _, by kernel_rfl, rfl, rfl, rfl, rfl, by decide⟩
instance : ElemT Try.prog 11 1 16 := ⟨Try.t11, _, by kernel_rfl, rfl, rfl, rfl, rfl, by decide⟩
instance : ElemT Try.prog 12 1 8 := ⟨Try.t12, _, by kernel_rfl, rfl, rfl, rfl, rfl, by decide⟩
instance : ElemT Try.prog 13 2 24 := ⟨Try.t13, _, by kernel_rfl, rfl, rfl, rfl, rfl, by decide⟩
instance : ElemT Try.prog 14 2 24 := ⟨Try.t14, _, by kernel_rfl, rfl, rfl, rfl, rfl, by decide⟩
instance : ElemT Try.prog 15 1 8 := ⟨Try.t15, _, by kernel_rfl, rfl, rfl, rfl, rfl, by decide⟩
instance : ElemT Try.prog 16 1 8 := ⟨Try.t16, _, by kernel_rfl, rfl, rfl, rfl, rfl, by decide⟩
instance : ElemT Try.prog 17 1 8 := ⟨Try.t17, _, by kernel_rfl, rfl, rfl, rfl, rfl, by decide⟩
instance : ElemT Try.prog 18 1 8 := ⟨Try.t18, _, by kernel_rfl, rfl, rfl, rfl, rfl, by decide⟩
instance : ElemT Try.prog 19 1 8 := ⟨Try.t19, _, by kernel_rfl, rfl, rfl, rfl, rfl, by decide⟩
instance : ElemT Try.prog 21 1 4 := ⟨Try.t21, _, by kernel_rfl, rfl, rfl, rfl, rfl, by decide⟩
instance : ElemT Try.prog 22 1 8 := ⟨Try.t22, _, by kernel_rfl, rfl, rfl, rfl, rfl, by decide⟩
instance : ElemT Try.prog 23 1 8 := ⟨Try.t23, _, by kernel_rfl, rfl, rfl, rfl, rfl, by decide⟩
instance : ElemT Try.prog 24 1 8 := ⟨Try.t24, _, by kernel_rfl, rfl, rfl, rfl, rfl, by decide⟩
instance : ElemT Try.prog 40 1 2 := ⟨Try.t40, _, by kernel_rfl, rfl, rfl, rfl, rfl, by decide⟩
instance : ElemT Try.prog 42 1 24 := ⟨Try.t42, _, by kernel_rfl, rfl, rfl, rfl, rfl, by decide⟩
instance : ElemT Try.prog 43 1 24 := ⟨Try.t43, _, by kernel_rfl, rfl, rfl, rfl, rfl, by decide⟩
instance : ElemT Try.prog 44 1 24 := ⟨Try.t44, _, by kernel_rfl, rfl, rfl, rfl, rfl, by decide⟩
instance : ElemT Try.prog 49 1 24 := ⟨Try.t49, _, by kernel_rfl, rfl, rfl, rfl, rfl, by decide⟩
instance : ElemT Try.prog 50 1 8 := ⟨Try.t50, _, by kernel_rfl, rfl, rfl, rfl, rfl, by decide⟩
instance : ElemT Try.prog 55 1 24 := ⟨Try.t55, _, by kernel_rfl, rfl, rfl, rfl, rfl, by decide⟩
instance : ElemT Try.prog 56 1 8 := ⟨Try.t56, _, by kernel_rfl, rfl, rfl, rfl, rfl, by decide⟩
instance : ElemT Try.prog 58 2 16 := ⟨Try.t58, _, by kernel_rfl, rfl, rfl, rfl, rfl, by decide⟩
instance : ElemT Try.prog 59 2 16 := ⟨Try.t59, _, by kernel_rfl, rfl, rfl, rfl, rfl, by decide⟩
instance : ElemT Try.prog 60 2 16 := ⟨Try.t60, _, by kernel_rfl, rfl, rfl, rfl, rfl, by decide⟩
instance : ElemT Try.prog 61 2 16 := ⟨Try.t61, _, by kernel_rfl, rfl, rfl, rfl, rfl, by decide⟩
instance : ElemT Try.prog 64 3 24 := ⟨Try.t64, _, by kernel_rfl, rfl, rfl, rfl, rfl, by decide⟩
instance : ElemT Try.prog 68 1 24 := ⟨Try.t68, _, by kernel_rfl, rfl, rfl, rfl, rfl, by decide⟩
instance : ElemT Try.prog 69 2 16 := ⟨Try.t69, _, by kernel_rfl, rfl, rfl, rfl, rfl, by decide⟩
instance : ElemT Try.prog 70 2 16 := ⟨Try.t70, _, by kernel_rfl, rfl, rfl, rfl, rfl, by decide⟩
instance : ElemT Try.prog 78 1 24 := ⟨Try.t78, _, by kernel_rfl, rfl, rfl, rfl, rfl, by decide⟩
instance : ElemT Try.prog 79 1 24 := ⟨Try.t79, _, by kernel_rfl, rfl, rfl, rfl, rfl, by decide⟩
instance : ElemT Try.prog 80 1 24 := ⟨Try.t80, _, by kernel_rfl, rfl, rfl, rfl, rfl, by decide⟩
instance : ElemT Try.prog 81 1 8 := ⟨Try.t81, _, by kernel_rfl, rfl, rfl, rfl, rfl, by decide⟩
instance : ElemT Try.prog 92 1 8 := ⟨Try.t92, _, by kernel_rfl, rfl, rfl, rfl, rfl, by decide⟩
instance : ElemT Try.prog 93 1 8 := ⟨Try.t93, _, by kernel_rfl, rfl, rfl, rfl, rfl, by decide⟩
instance : ElemT Try.prog 94 2 32 := ⟨Try.t94, _, by kernel_rfl, rfl, rfl, rfl, rfl, by decide⟩
instance : ElemT Try.prog 95 2 32 := ⟨Try.t95, _, by kernel_rfl, rfl, rfl, rfl, rfl, by decide⟩
instance : ElemT Try.prog 96 3 40 := ⟨Try.t96, _, by kernel_rfl, rfl, rfl, rfl, rfl, by decide⟩
instance : ElemT Try.prog 97 3 40 := ⟨Try.t97, _, by kernel_rfl, rfl, rfl, rfl, rfl, by decide⟩
instance : ElemT Try.prog 111 1 24 := ⟨Try.t111, _, by kernel_rfl, rfl, rfl, rfl, rfl, by decide⟩
instance : ElemT Try.prog 115 4 40 := ⟨Try.t115, _, by kernel_rfl, rfl, rfl, rfl, rfl, by decide⟩
instance : ElemT Try.prog 116 4 40 := ⟨Try.t116, _, by kernel_rfl, rfl, rfl, rfl, rfl, by decide⟩
instance : ElemT Try.prog 120 1 4 := ⟨Try.t120, _, by kernel_rfl, rfl, rfl, rfl, rfl, by decide⟩
instance : ElemT Try.prog 121 1 1 := ⟨Try.t121, _, by kernel_rfl, rfl, rfl, rfl, rfl, by decide⟩
instance : ElemT Try.prog 122 1 1 := ⟨Try.t122, _, by kernel_rfl, rfl, rfl, rfl, rfl, by decide⟩
instance : ElemT Try.prog 124 1 8 := ⟨Try.t124, _, by kernel_rfl, rfl, rfl, rfl, rfl, by decide⟩
instance : ElemT Try.prog 125 1 4 := ⟨Try.t125, _, by kernel_rfl, rfl, rfl, rfl, rfl, by decide⟩
instance : ElemT Try.prog 126 1 4 := ⟨Try.t126, _, by kernel_rfl, rfl, rfl, rfl, rfl, by decide⟩
instance : ElemT Try.prog 127 11 48 := ⟨Try.t127, _, by kernel_rfl, rfl, rfl, rfl, rfl, by decide⟩
instance : ElemT Try.prog 128 11 48 := ⟨Try.t128, _, by kernel_rfl, rfl, rfl, rfl, rfl, by decide⟩
instance : ElemZ Try.prog 2 (.int .i64 0) 8 := ⟨by kernel_rfl, rfl⟩
instance : IntT Try.prog 2 .i64 := ⟨by kernel_rfl⟩
instance : ElemZ Try.prog 3 (.int .i64 0) 8 := ⟨by kernel_rfl, rfl⟩
instance : IntT Try.prog 3 .i64 := ⟨by kernel_rfl⟩
instance : ElemZ Try.prog 4 (.bool false) 1 := ⟨by kernel_rfl, rfl⟩
instance : BoolT Try.prog 4 := ⟨by kernel_rfl⟩
instance : ElemZ Try.prog 5 (.int .u8 0) 1 := ⟨by kernel_rfl, rfl⟩
instance : IntT Try.prog 5 .u8 := ⟨by kernel_rfl⟩
instance : ElemZ Try.prog 6 (.int .u8 0) 1 := ⟨by kernel_rfl, rfl⟩
instance : IntT Try.prog 6 .u8 := ⟨by kernel_rfl⟩
instance : AggT Try.prog 7 4 := ⟨⟨_, Try.underlying7, rfl⟩, by kernel_rfl⟩
instance : FldOne Try.prog 7 0 0 := ⟨_, _, Try.underlying7, rfl, rfl, inferInstanceAs (One Try.prog 2)⟩
instance : FldOne Try.prog 7 1 1 := ⟨_, _, Try.underlying7, rfl, rfl, inferInstanceAs (One Try.prog 3)⟩
instance : FldOne Try.prog 7 2 2 := ⟨_, _, Try.underlying7, rfl, rfl, inferInstanceAs (One Try.prog 4)⟩
instance : FldOne Try.prog 7 3 3 := ⟨_, _, Try.underlying7, rfl, rfl, inferInstanceAs (One Try.prog 6)⟩
instance : AggT Try.prog 8 4 := ⟨⟨_, Try.underlying8, rfl⟩, by kernel_rfl⟩
instance : FldOne Try.prog 8 0 0 := ⟨_, _, Try.underlying8, rfl, rfl, inferInstanceAs (One Try.prog 2)⟩
instance : FldOne Try.prog 8 1 1 := ⟨_, _, Try.underlying8, rfl, rfl, inferInstanceAs (One Try.prog 3)⟩
instance : FldOne Try.prog 8 2 2 := ⟨_, _, Try.underlying8, rfl, rfl, inferInstanceAs (One Try.prog 4)⟩
instance : FldOne Try.prog 8 3 3 := ⟨_, _, Try.underlying8, rfl, rfl, inferInstanceAs (One Try.prog 6)⟩
instance : ElemZ Try.prog 9 (.string ByteArray.empty) 16 := ⟨by kernel_rfl, rfl⟩
instance : ElemZ Try.prog 10 (.string ByteArray.empty) 16 := ⟨by kernel_rfl, rfl⟩
instance : ElemZ Try.prog 11 (.string ByteArray.empty) 16 := ⟨by kernel_rfl, rfl⟩
instance : ElemZ Try.prog 12 (.int .u64 0) 8 := ⟨by kernel_rfl, rfl⟩
instance : IntT Try.prog 12 .u64 := ⟨by kernel_rfl⟩
instance : AggT Try.prog 13 2 := ⟨⟨_, Try.underlying13, rfl⟩, by kernel_rfl⟩
instance : FldOne Try.prog 13 0 0 := ⟨_, _, Try.underlying13, rfl, rfl, inferInstanceAs (One Try.prog 9)⟩
instance : FldOne Try.prog 13 1 1 := ⟨_, _, Try.underlying13, rfl, rfl, inferInstanceAs (One Try.prog 12)⟩
instance : AggT Try.prog 14 2 := ⟨⟨_, Try.underlying14, rfl⟩, by kernel_rfl⟩
instance : FldOne Try.prog 14 0 0 := ⟨_, _, Try.underlying14, rfl, rfl, inferInstanceAs (One Try.prog 9)⟩
instance : FldOne Try.prog 14 1 1 := ⟨_, _, Try.underlying14, rfl, rfl, inferInstanceAs (One Try.prog 12)⟩
instance : ElemZ Try.prog 15 (.pointer none) 8 := ⟨by kernel_rfl, rfl⟩
instance : ElemZ Try.prog 16 (.pointer none) 8 := ⟨by kernel_rfl, rfl⟩
instance : ElemZ Try.prog 17 (.pointer none) 8 := ⟨by kernel_rfl, rfl⟩
instance : AggT Try.prog 18 1 := ⟨⟨_, Try.underlying18, rfl⟩, by kernel_rfl⟩
instance : FldOne Try.prog 18 0 0 := ⟨_, _, Try.underlying18, rfl, rfl, inferInstanceAs (One Try.prog 17)⟩
instance : AggT Try.prog 19 1 := ⟨⟨_, Try.underlying19, rfl⟩, by kernel_rfl⟩
instance : FldOne Try.prog 19 0 0 := ⟨_, _, Try.underlying19, rfl, rfl, inferInstanceAs (One Try.prog 17)⟩
instance : ElemZ Try.prog 21 (.int .i32 0) 4 := ⟨by kernel_rfl, rfl⟩
instance : IntT Try.prog 21 .i32 := ⟨by kernel_rfl⟩
instance : ElemZ Try.prog 22 (.int .u64 0) 8 := ⟨by kernel_rfl, rfl⟩
instance : IntT Try.prog 22 .u64 := ⟨by kernel_rfl⟩
instance : ElemZ Try.prog 23 (.int .u64 0) 8 := ⟨by kernel_rfl, rfl⟩
instance : IntT Try.prog 23 .u64 := ⟨by kernel_rfl⟩
instance : ElemZ Try.prog 24 (.int .i64 0) 8 := ⟨by kernel_rfl, rfl⟩
instance : IntT Try.prog 24 .i64 := ⟨by kernel_rfl⟩
instance : ElemZ Try.prog 40 (.int .u16 0) 2 := ⟨by kernel_rfl, rfl⟩
instance : IntT Try.prog 40 .u16 := ⟨by kernel_rfl⟩
instance : ElemZ Try.prog 42 (.slice none 0 0) 24 := ⟨by kernel_rfl, rfl⟩
instance : AggT Try.prog 43 1 := ⟨⟨_, Try.underlying43, rfl⟩, by kernel_rfl⟩
instance : FldOne Try.prog 43 0 0 := ⟨_, _, Try.underlying43, rfl, rfl, inferInstanceAs (One Try.prog 42)⟩
instance : AggT Try.prog 44 1 := ⟨⟨_, Try.underlying44, rfl⟩, by kernel_rfl⟩
instance : FldOne Try.prog 44 0 0 := ⟨_, _, Try.underlying44, rfl, rfl, inferInstanceAs (One Try.prog 42)⟩
instance : ElemZ Try.prog 49 (.slice none 0 0) 24 := ⟨by kernel_rfl, rfl⟩
instance : ElemZ Try.prog 50 (.pointer none) 8 := ⟨by kernel_rfl, rfl⟩
instance : ElemZ Try.prog 55 (.slice none 0 0) 24 := ⟨by kernel_rfl, rfl⟩
instance : ElemZ Try.prog 56 (.pointer none) 8 := ⟨by kernel_rfl, rfl⟩
instance : AggT Try.prog 58 2 := ⟨⟨_, Try.underlying58, rfl⟩, by kernel_rfl⟩
instance : EqT Try.prog 58 [.i .i64, .i .i64] := ⟨by kernel_rfl, by kernel_rfl, by kernel_rfl, by kernel_rfl⟩
instance : FldOne Try.prog 58 0 0 := ⟨_, _, Try.underlying58, rfl, rfl, inferInstanceAs (One Try.prog 3)⟩
instance : FldOne Try.prog 58 1 1 := ⟨_, _, Try.underlying58, rfl, rfl, inferInstanceAs (One Try.prog 3)⟩
instance : AggT Try.prog 59 2 := ⟨⟨_, Try.underlying59, rfl⟩, by kernel_rfl⟩
instance : EqT Try.prog 59 [.i .i64, .i .i64] := ⟨by kernel_rfl, by kernel_rfl, by kernel_rfl, by kernel_rfl⟩
instance : FldOne Try.prog 59 0 0 := ⟨_, _, Try.underlying59, rfl, rfl, inferInstanceAs (One Try.prog 3)⟩
instance : FldOne Try.prog 59 1 1 := ⟨_, _, Try.underlying59, rfl, rfl, inferInstanceAs (One Try.prog 3)⟩
instance : AggT Try.prog 60 2 := ⟨⟨_, Try.underlying60, rfl⟩, by kernel_rfl⟩
instance : EqT Try.prog 60 [.i .i64, .i .i64] := ⟨by kernel_rfl, by kernel_rfl, by kernel_rfl, by kernel_rfl⟩
instance : FldOne Try.prog 60 0 0 := ⟨_, _, Try.underlying60, rfl, rfl, inferInstanceAs (One Try.prog 3)⟩
instance : FldOne Try.prog 60 1 1 := ⟨_, _, Try.underlying60, rfl, rfl, inferInstanceAs (One Try.prog 3)⟩
instance : AggT Try.prog 61 2 := ⟨⟨_, Try.underlying61, rfl⟩, by kernel_rfl⟩
instance : EqT Try.prog 61 [.i .i64, .i .i64] := ⟨by kernel_rfl, by kernel_rfl, by kernel_rfl, by kernel_rfl⟩
instance : FldOne Try.prog 61 0 0 := ⟨_, _, Try.underlying61, rfl, rfl, inferInstanceAs (One Try.prog 3)⟩
instance : FldOne Try.prog 61 1 1 := ⟨_, _, Try.underlying61, rfl, rfl, inferInstanceAs (One Try.prog 3)⟩
instance : ArrT Try.prog 64 3 3 1 := ⟨by kernel_rfl, fun _ => by kernel_rfl⟩
instance : AggT Try.prog 64 3 := ⟨⟨_, Try.underlying64, rfl⟩, by kernel_rfl⟩
instance : ElemZ Try.prog 68 (.slice none 0 0) 24 := ⟨by kernel_rfl, rfl⟩
instance : AggT Try.prog 69 2 := ⟨⟨_, Try.underlying69, rfl⟩, by kernel_rfl⟩
instance : EqT Try.prog 69 [.i .i64, .i .i64] := ⟨by kernel_rfl, by kernel_rfl, by kernel_rfl, by kernel_rfl⟩
instance : FldOne Try.prog 69 0 0 := ⟨_, _, Try.underlying69, rfl, rfl, inferInstanceAs (One Try.prog 3)⟩
instance : FldOne Try.prog 69 1 1 := ⟨_, _, Try.underlying69, rfl, rfl, inferInstanceAs (One Try.prog 3)⟩
instance : AggT Try.prog 70 2 := ⟨⟨_, Try.underlying70, rfl⟩, by kernel_rfl⟩
instance : EqT Try.prog 70 [.i .i64, .i .i64] := ⟨by kernel_rfl, by kernel_rfl, by kernel_rfl, by kernel_rfl⟩
instance : FldOne Try.prog 70 0 0 := ⟨_, _, Try.underlying70, rfl, rfl, inferInstanceAs (One Try.prog 3)⟩
instance : FldOne Try.prog 70 1 1 := ⟨_, _, Try.underlying70, rfl, rfl, inferInstanceAs (One Try.prog 3)⟩
instance : ElemZ Try.prog 78 (.slice none 0 0) 24 := ⟨by kernel_rfl, rfl⟩
instance : AggT Try.prog 79 1 := ⟨⟨_, Try.underlying79, rfl⟩, by kernel_rfl⟩
instance : FldOne Try.prog 79 0 0 := ⟨_, _, Try.underlying79, rfl, rfl, inferInstanceAs (One Try.prog 78)⟩
instance : AggT Try.prog 80 1 := ⟨⟨_, Try.underlying80, rfl⟩, by kernel_rfl⟩
instance : FldOne Try.prog 80 0 0 := ⟨_, _, Try.underlying80, rfl, rfl, inferInstanceAs (One Try.prog 78)⟩
instance : ElemZ Try.prog 81 (.pointer none) 8 := ⟨by kernel_rfl, rfl⟩
instance : ElemZ Try.prog 92 (.int .u64 0) 8 := ⟨by kernel_rfl, rfl⟩
instance : IntT Try.prog 92 .u64 := ⟨by kernel_rfl⟩
instance : ElemZ Try.prog 93 (.pointer none) 8 := ⟨by kernel_rfl, rfl⟩
instance : AggT Try.prog 94 2 := ⟨⟨_, Try.underlying94, rfl⟩, by kernel_rfl⟩
instance : FldOne Try.prog 94 0 0 := ⟨_, _, Try.underlying94, rfl, rfl, inferInstanceAs (One Try.prog 49)⟩
instance : FldOne Try.prog 94 1 1 := ⟨_, _, Try.underlying94, rfl, rfl, inferInstanceAs (One Try.prog 3)⟩
instance : AggT Try.prog 95 2 := ⟨⟨_, Try.underlying95, rfl⟩, by kernel_rfl⟩
instance : FldOne Try.prog 95 0 0 := ⟨_, _, Try.underlying95, rfl, rfl, inferInstanceAs (One Try.prog 49)⟩
instance : FldOne Try.prog 95 1 1 := ⟨_, _, Try.underlying95, rfl, rfl, inferInstanceAs (One Try.prog 3)⟩
instance : AggT Try.prog 96 3 := ⟨⟨_, Try.underlying96, rfl⟩, by kernel_rfl⟩
instance : FldOne Try.prog 96 0 0 := ⟨_, _, Try.underlying96, rfl, rfl, inferInstanceAs (One Try.prog 42)⟩
instance : AggT Try.prog 97 3 := ⟨⟨_, Try.underlying97, rfl⟩, by kernel_rfl⟩
instance : FldOne Try.prog 97 0 0 := ⟨_, _, Try.underlying97, rfl, rfl, inferInstanceAs (One Try.prog 42)⟩
instance : ElemZ Try.prog 111 (.slice none 0 0) 24 := ⟨by kernel_rfl, rfl⟩
instance : AggT Try.prog 115 4 := ⟨⟨_, Try.underlying115, rfl⟩, by kernel_rfl⟩
instance : FldOne Try.prog 115 0 0 := ⟨_, _, Try.underlying115, rfl, rfl, inferInstanceAs (One Try.prog 17)⟩
instance : FldOne Try.prog 115 1 1 := ⟨_, _, Try.underlying115, rfl, rfl, inferInstanceAs (One Try.prog 17)⟩
instance : FldOne Try.prog 115 2 2 := ⟨_, _, Try.underlying115, rfl, rfl, inferInstanceAs (One Try.prog 17)⟩
instance : FldOne Try.prog 115 3 3 := ⟨_, _, Try.underlying115, rfl, rfl, inferInstanceAs (One Try.prog 9)⟩
instance : AggT Try.prog 116 4 := ⟨⟨_, Try.underlying116, rfl⟩, by kernel_rfl⟩
instance : FldOne Try.prog 116 0 0 := ⟨_, _, Try.underlying116, rfl, rfl, inferInstanceAs (One Try.prog 17)⟩
instance : FldOne Try.prog 116 1 1 := ⟨_, _, Try.underlying116, rfl, rfl, inferInstanceAs (One Try.prog 17)⟩
instance : FldOne Try.prog 116 2 2 := ⟨_, _, Try.underlying116, rfl, rfl, inferInstanceAs (One Try.prog 17)⟩
instance : FldOne Try.prog 116 3 3 := ⟨_, _, Try.underlying116, rfl, rfl, inferInstanceAs (One Try.prog 9)⟩
instance : ElemZ Try.prog 120 (.int .u32 0) 4 := ⟨by kernel_rfl, rfl⟩
instance : IntT Try.prog 120 .u32 := ⟨by kernel_rfl⟩
instance : ElemZ Try.prog 121 (.int .u8 0) 1 := ⟨by kernel_rfl, rfl⟩
instance : IntT Try.prog 121 .u8 := ⟨by kernel_rfl⟩
instance : ElemZ Try.prog 122 (.int .u8 0) 1 := ⟨by kernel_rfl, rfl⟩
instance : IntT Try.prog 122 .u8 := ⟨by kernel_rfl⟩
instance : ElemZ Try.prog 124 (.pointer none) 8 := ⟨by kernel_rfl, rfl⟩
instance : ElemZ Try.prog 125 (.int .i32 0) 4 := ⟨by kernel_rfl, rfl⟩
instance : IntT Try.prog 125 .i32 := ⟨by kernel_rfl⟩
instance : ElemZ Try.prog 126 (.int .i32 0) 4 := ⟨by kernel_rfl, rfl⟩
instance : IntT Try.prog 126 .i32 := ⟨by kernel_rfl⟩
instance : AggT Try.prog 127 11 := ⟨⟨_, Try.underlying127, rfl⟩, by kernel_rfl⟩
instance : FldOne Try.prog 127 0 0 := ⟨_, _, Try.underlying127, rfl, rfl, inferInstanceAs (One Try.prog 12)⟩
instance : FldOne Try.prog 127 1 1 := ⟨_, _, Try.underlying127, rfl, rfl, inferInstanceAs (One Try.prog 12)⟩
instance : FldOne Try.prog 127 2 2 := ⟨_, _, Try.underlying127, rfl, rfl, inferInstanceAs (One Try.prog 120)⟩
instance : FldOne Try.prog 127 3 3 := ⟨_, _, Try.underlying127, rfl, rfl, inferInstanceAs (One Try.prog 121)⟩
instance : FldOne Try.prog 127 4 4 := ⟨_, _, Try.underlying127, rfl, rfl, inferInstanceAs (One Try.prog 5)⟩
instance : FldOne Try.prog 127 5 5 := ⟨_, _, Try.underlying127, rfl, rfl, inferInstanceAs (One Try.prog 5)⟩
instance : FldOne Try.prog 127 6 6 := ⟨_, _, Try.underlying127, rfl, rfl, inferInstanceAs (One Try.prog 122)⟩
instance : FldOne Try.prog 127 7 7 := ⟨_, _, Try.underlying127, rfl, rfl, inferInstanceAs (One Try.prog 123)⟩
instance : FldOne Try.prog 127 8 8 := ⟨_, _, Try.underlying127, rfl, rfl, inferInstanceAs (One Try.prog 124)⟩
instance : FldOne Try.prog 127 9 9 := ⟨_, _, Try.underlying127, rfl, rfl, inferInstanceAs (One Try.prog 125)⟩
instance : FldOne Try.prog 127 10 10 := ⟨_, _, Try.underlying127, rfl, rfl, inferInstanceAs (One Try.prog 126)⟩
instance : AggT Try.prog 128 11 := ⟨⟨_, Try.underlying128, rfl⟩, by kernel_rfl⟩
instance : FldOne Try.prog 128 0 0 := ⟨_, _, Try.underlying128, rfl, rfl, inferInstanceAs (One Try.prog 12)⟩
instance : FldOne Try.prog 128 1 1 := ⟨_, _, Try.underlying128, rfl, rfl, inferInstanceAs (One Try.prog 12)⟩
instance : FldOne Try.prog 128 2 2 := ⟨_, _, Try.underlying128, rfl, rfl, inferInstanceAs (One Try.prog 120)⟩
instance : FldOne Try.prog 128 3 3 := ⟨_, _, Try.underlying128, rfl, rfl, inferInstanceAs (One Try.prog 121)⟩
instance : FldOne Try.prog 128 4 4 := ⟨_, _, Try.underlying128, rfl, rfl, inferInstanceAs (One Try.prog 5)⟩
instance : FldOne Try.prog 128 5 5 := ⟨_, _, Try.underlying128, rfl, rfl, inferInstanceAs (One Try.prog 5)⟩
instance : FldOne Try.prog 128 6 6 := ⟨_, _, Try.underlying128, rfl, rfl, inferInstanceAs (One Try.prog 122)⟩
instance : FldOne Try.prog 128 7 7 := ⟨_, _, Try.underlying128, rfl, rfl, inferInstanceAs (One Try.prog 123)⟩
instance : FldOne Try.prog 128 8 8 := ⟨_, _, Try.underlying128, rfl, rfl, inferInstanceAs (One Try.prog 124)⟩
instance : FldOne Try.prog 128 9 9 := ⟨_, _, Try.underlying128, rfl, rfl, inferInstanceAs (One Try.prog 125)⟩
instance : FldOne Try.prog 128 10 10 := ⟨_, _, Try.underlying128, rfl, rfl, inferInstanceAs (One Try.prog 126)⟩
instance : HasBody Try.prog 3 := ⟨fun _ _ => by kernel_rfl⟩
instance : HasBody Try.prog 4 := ⟨fun _ _ => by kernel_rfl⟩
instance : HasBody Try.prog 5 := ⟨fun _ _ => by kernel_rfl⟩
instance : HasBody Try.prog 6 := ⟨fun _ _ => by kernel_rfl⟩
instance : HasBody Try.prog 7 := ⟨fun _ _ => by kernel_rfl⟩
instance : HasBody Try.prog 8 := ⟨fun _ _ => by kernel_rfl⟩
instance : HasBody Try.prog 9 := ⟨fun _ _ => by kernel_rfl⟩
instance : HasBody Try.prog 10 := ⟨fun _ _ => by kernel_rfl⟩
instance : HasBody Try.prog 11 := ⟨fun _ _ => by kernel_rfl⟩
instance : HasBody Try.prog 12 := ⟨fun _ _ => by kernel_rfl⟩
instance : HasBody Try.prog 13 := ⟨fun _ _ => by kernel_rfl⟩
instance : HasBody Try.prog 14 := ⟨fun _ _ => by kernel_rfl⟩
instance : HasBody Try.prog 15 := ⟨fun _ _ => by kernel_rfl⟩
instance : HasBody Try.prog 16 := ⟨fun _ _ => by kernel_rfl⟩
instance : HasBody Try.prog 17 := ⟨fun _ _ => by kernel_rfl⟩
instance : HasBody Try.prog 18 := ⟨fun _ _ => by kernel_rfl⟩
instance : HasBody Try.prog 19 := ⟨fun _ _ => by kernel_rfl⟩
instance : HasBody Try.prog 20 := ⟨fun _ _ => by kernel_rfl⟩
instance : HasBody Try.prog 21 := ⟨fun _ _ => by kernel_rfl⟩
instance : HasBody Try.prog 22 := ⟨fun _ _ => by kernel_rfl⟩
instance : HasBody Try.prog 23 := ⟨fun _ _ => by kernel_rfl⟩
instance : HasBody Try.prog 24 := ⟨fun _ _ => by kernel_rfl⟩
instance : HasBody Try.prog 25 := ⟨fun _ _ => by kernel_rfl⟩
instance : HasBody Try.prog 26 := ⟨fun _ _ => by kernel_rfl⟩
instance : HasBody Try.prog 27 := ⟨fun _ _ => by kernel_rfl⟩
instance : HasBody Try.prog 28 := ⟨fun _ _ => by kernel_rfl⟩
instance : HasBody Try.prog 29 := ⟨fun _ _ => by kernel_rfl⟩
instance : HasBody Try.prog 30 := ⟨fun _ _ => by kernel_rfl⟩
instance : HasBody Try.prog 31 := ⟨fun _ _ => by kernel_rfl⟩
instance : HasBody Try.prog 32 := ⟨fun _ _ => by kernel_rfl⟩
instance : HasBody Try.prog 33 := ⟨fun _ _ => by kernel_rfl⟩
instance : HasBody Try.prog 34 := ⟨fun _ _ => by kernel_rfl⟩
instance : HasBody Try.prog 35 := ⟨fun _ _ => by kernel_rfl⟩
instance : HasBody Try.prog 36 := ⟨fun _ _ => by kernel_rfl⟩
instance : HasBody Try.prog 37 := ⟨fun _ _ => by kernel_rfl⟩
instance : HasBody Try.prog 38 := ⟨fun _ _ => by kernel_rfl⟩
instance : HasBody Try.prog 39 := ⟨fun _ _ => by kernel_rfl⟩
instance : HasBody Try.prog 40 := ⟨fun _ _ => by kernel_rfl⟩
instance : HasBody Try.prog 41 := ⟨fun _ _ => by kernel_rfl⟩
instance : HasBody Try.prog 42 := ⟨fun _ _ => by kernel_rfl⟩
instance : HasBody Try.prog 43 := ⟨fun _ _ => by kernel_rfl⟩
instance : HasBody Try.prog 44 := ⟨fun _ _ => by kernel_rfl⟩
instance : HasBody Try.prog 45 := ⟨fun _ _ => by kernel_rfl⟩
instance : HasBody Try.prog 46 := ⟨fun _ _ => by kernel_rfl⟩
instance : HasBody Try.prog 47 := ⟨fun _ _ => by kernel_rfl⟩
instance : HasBody Try.prog 48 := ⟨fun _ _ => by kernel_rfl⟩
instance : HasBody Try.prog 49 := ⟨fun _ _ => by kernel_rfl⟩
instance : HasBody Try.prog 50 := ⟨fun _ _ => by kernel_rfl⟩
instance : HasBody Try.prog 51 := ⟨fun _ _ => by kernel_rfl⟩
instance : HasBody Try.prog 52 := ⟨fun _ _ => by kernel_rfl⟩
instance : HasBody Try.prog 53 := ⟨fun _ _ => by kernel_rfl⟩
instance : HasBody Try.prog 54 := ⟨fun _ _ => by kernel_rfl⟩
instance : HasBody Try.prog 55 := ⟨fun _ _ => by kernel_rfl⟩
instance : HasBody Try.prog 56 := ⟨fun _ _ => by kernel_rfl⟩
instance : HasBody Try.prog 57 := ⟨fun _ _ => by kernel_rfl⟩
instance : HasBody Try.prog 58 := ⟨fun _ _ => by kernel_rfl⟩
instance : HasBody Try.prog 59 := ⟨fun _ _ => by kernel_rfl⟩
instance : HasBody Try.prog 60 := ⟨fun _ _ => by kernel_rfl⟩
instance : HasBody Try.prog 61 := ⟨fun _ _ => by kernel_rfl⟩
instance : HasBody Try.prog 62 := ⟨fun _ _ => by kernel_rfl⟩
instance : HasBody Try.prog 63 := ⟨fun _ _ => by kernel_rfl⟩
instance : HasBody Try.prog 64 := ⟨fun _ _ => by kernel_rfl⟩
instance : HasBody Try.prog 65 := ⟨fun _ _ => by kernel_rfl⟩
instance : HasBody Try.prog 66 := ⟨fun _ _ => by kernel_rfl⟩
instance : HasBody Try.prog 67 := ⟨fun _ _ => by kernel_rfl⟩
instance : HasBody Try.prog 68 := ⟨fun _ _ => by kernel_rfl⟩
instance : HasBody Try.prog 69 := ⟨fun _ _ => by kernel_rfl⟩
instance : HasBody Try.prog 70 := ⟨fun _ _ => by kernel_rfl⟩
instance : HasBody Try.prog 71 := ⟨fun _ _ => by kernel_rfl⟩
instance : HasBody Try.prog 72 := ⟨fun _ _ => by kernel_rfl⟩
instance : HasBody Try.prog 73 := ⟨fun _ _ => by kernel_rfl⟩
instance : HasBody Try.prog 74 := ⟨fun _ _ => by kernel_rfl⟩
instance : HasBody Try.prog 75 := ⟨fun _ _ => by kernel_rfl⟩
instance : HasBody Try.prog 76 := ⟨fun _ _ => by kernel_rfl⟩
instance : HasBody Try.prog 77 := ⟨fun _ _ => by kernel_rfl⟩
instance : HasBody Try.prog 78 := ⟨fun _ _ => by kernel_rfl⟩
instance : HasBody Try.prog 79 := ⟨fun _ _ => by kernel_rfl⟩
instance : HasBody Try.prog 80 := ⟨fun _ _ => by kernel_rfl⟩
instance : HasBody Try.prog 81 := ⟨fun _ _ => by kernel_rfl⟩
instance : HasBody Try.prog 82 := ⟨fun _ _ => by kernel_rfl⟩
instance : HasBody Try.prog 83 := ⟨fun _ _ => by kernel_rfl⟩
end Go.Proofs.Ytaogmfmphamplaa
