/- What the reader asks of types and functions, closed facts of this program. -/
import Derived.Test.YtejofmohpjffkaaV8
namespace Go.Proofs.Ytejofmohpjffkaa
open Go.RowKit
instance : Mixed Try.prog := ⟨by kernel_rfl⟩
instance : One Try.prog 1 := ⟨fun _ => by kernel_rfl, fun _ => by kernel_rfl⟩
instance : One Try.prog 2 := ⟨fun _ => by kernel_rfl, fun _ => by kernel_rfl⟩
instance : One Try.prog 3 := ⟨fun _ => by kernel_rfl, fun _ => by kernel_rfl⟩
instance : One Try.prog 4 := ⟨fun _ => by kernel_rfl, fun _ => by kernel_rfl⟩
instance : One Try.prog 5 := ⟨fun _ => by kernel_rfl, fun _ => by kernel_rfl⟩
instance : One Try.prog 6 := ⟨fun _ => by kernel_rfl, fun _ => by kernel_rfl⟩
instance : FOff Try.prog 7 0 0 := ⟨fun _ _ _ => by kernel_rfl⟩
instance : FOff Try.prog 7 1 1 := ⟨fun _ _ _ => by kernel_rfl⟩
instance : FOff Try.prog 7 2 2 := ⟨fun _ _ _ => by kernel_rfl⟩
instance : FOff Try.prog 7 3 3 := ⟨fun _ _ _ => by kernel_rfl⟩
instance : FOff Try.prog 8 0 0 := ⟨fun _ _ _ => by kernel_rfl⟩
instance : FOff Try.prog 8 1 1 := ⟨fun _ _ _ => by kernel_rfl⟩
instance : FOff Try.prog 8 2 2 := ⟨fun _ _ _ => by kernel_rfl⟩
instance : FOff Try.prog 8 3 3 := ⟨fun _ _ _ => by kernel_rfl⟩
instance : StrT Try.prog 9 := ⟨by kernel_rfl⟩
instance : One Try.prog 9 := ⟨fun _ => by kernel_rfl, fun _ => by kernel_rfl⟩
instance : StrT Try.prog 10 := ⟨by kernel_rfl⟩
instance : One Try.prog 10 := ⟨fun _ => by kernel_rfl, fun _ => by kernel_rfl⟩
instance : StrT Try.prog 11 := ⟨by kernel_rfl⟩
instance : One Try.prog 11 := ⟨fun _ => by kernel_rfl, fun _ => by kernel_rfl⟩
instance : One Try.prog 12 := ⟨fun _ => by kernel_rfl, fun _ => by kernel_rfl⟩
instance : FOff Try.prog 13 0 0 := ⟨fun _ _ _ => by kernel_rfl⟩
instance : FOff Try.prog 13 1 1 := ⟨fun _ _ _ => by kernel_rfl⟩
instance : FOff Try.prog 14 0 0 := ⟨fun _ _ _ => by kernel_rfl⟩
instance : FOff Try.prog 14 1 1 := ⟨fun _ _ _ => by kernel_rfl⟩
instance : PtrT Try.prog 15 := ⟨by kernel_rfl⟩
instance : One Try.prog 15 := ⟨fun _ => by kernel_rfl, fun _ => by kernel_rfl⟩
instance : PtrT Try.prog 16 := ⟨by kernel_rfl⟩
instance : One Try.prog 16 := ⟨fun _ => by kernel_rfl, fun _ => by kernel_rfl⟩
instance : PtrT Try.prog 17 := ⟨by kernel_rfl⟩
instance : One Try.prog 17 := ⟨fun _ => by kernel_rfl, fun _ => by kernel_rfl⟩
instance : FOff Try.prog 18 0 0 := ⟨fun _ _ _ => by kernel_rfl⟩
instance : FOff Try.prog 19 0 0 := ⟨fun _ _ _ => by kernel_rfl⟩
instance : One Try.prog 20 := ⟨fun _ => by kernel_rfl, fun _ => by kernel_rfl⟩
instance : One Try.prog 21 := ⟨fun _ => by kernel_rfl, fun _ => by kernel_rfl⟩
instance : FOff Try.prog 22 0 0 := ⟨fun _ _ _ => by kernel_rfl⟩
instance : FOff Try.prog 22 1 1 := ⟨fun _ _ _ => by kernel_rfl⟩
instance : FOff Try.prog 22 2 2 := ⟨fun _ _ _ => by kernel_rfl⟩
instance : FOff Try.prog 22 3 3 := ⟨fun _ _ _ => by kernel_rfl⟩
instance : FOff Try.prog 22 4 4 := ⟨fun _ _ _ => by kernel_rfl⟩
instance : FOff Try.prog 22 5 5 := ⟨fun _ _ _ => by kernel_rfl⟩
instance : FOff Try.prog 22 6 6 := ⟨fun _ _ _ => by kernel_rfl⟩
instance : FOff Try.prog 23 0 0 := ⟨fun _ _ _ => by kernel_rfl⟩
instance : FOff Try.prog 23 1 1 := ⟨fun _ _ _ => by kernel_rfl⟩
instance : FOff Try.prog 23 2 2 := ⟨fun _ _ _ => by kernel_rfl⟩
instance : FOff Try.prog 23 3 3 := ⟨fun _ _ _ => by kernel_rfl⟩
instance : FOff Try.prog 23 4 4 := ⟨fun _ _ _ => by kernel_rfl⟩
instance : FOff Try.prog 23 5 5 := ⟨fun _ _ _ => by kernel_rfl⟩
instance : FOff Try.prog 23 6 6 := ⟨fun _ _ _ => by kernel_rfl⟩
instance : One Try.prog 24 := ⟨fun _ => by kernel_rfl, fun _ => by kernel_rfl⟩
instance : One Try.prog 25 := ⟨fun _ => by kernel_rfl, fun _ => by kernel_rfl⟩
instance : One Try.prog 26 := ⟨fun _ => by kernel_rfl, fun _ => by kernel_rfl⟩
instance : One Try.prog 27 := ⟨fun _ => by kernel_rfl, fun _ => by kernel_rfl⟩
instance : One Try.prog 28 := ⟨fun _ => by kernel_rfl, fun _ => by kernel_rfl⟩
instance : SlT Try.prog 29 5 1 := ⟨by kernel_rfl, fun _ => by kernel_rfl⟩
instance : One Try.prog 29 := ⟨fun _ => by kernel_rfl, fun _ => by kernel_rfl⟩
instance : One Try.prog 31 := ⟨fun _ => by kernel_rfl, fun _ => by kernel_rfl⟩
instance : One Try.prog 32 := ⟨fun _ => by kernel_rfl, fun _ => by kernel_rfl⟩
instance : One Try.prog 33 := ⟨fun _ => by kernel_rfl, fun _ => by kernel_rfl⟩
instance : SlT Try.prog 34 64 1 := ⟨by kernel_rfl, fun _ => by kernel_rfl⟩
instance : One Try.prog 34 := ⟨fun _ => by kernel_rfl, fun _ => by kernel_rfl⟩
instance : SlT Try.prog 35 3 1 := ⟨by kernel_rfl, fun _ => by kernel_rfl⟩
instance : One Try.prog 35 := ⟨fun _ => by kernel_rfl, fun _ => by kernel_rfl⟩
instance : FOff Try.prog 36 0 0 := ⟨fun _ _ _ => by kernel_rfl⟩
instance : FOff Try.prog 36 1 7 := ⟨fun _ _ _ => by kernel_rfl⟩
instance : FOff Try.prog 36 2 8 := ⟨fun _ _ _ => by kernel_rfl⟩
instance : FOff Try.prog 36 3 9 := ⟨fun _ _ _ => by kernel_rfl⟩
instance : FOff Try.prog 37 0 0 := ⟨fun _ _ _ => by kernel_rfl⟩
instance : FOff Try.prog 37 1 7 := ⟨fun _ _ _ => by kernel_rfl⟩
instance : FOff Try.prog 37 2 8 := ⟨fun _ _ _ => by kernel_rfl⟩
instance : FOff Try.prog 37 3 9 := ⟨fun _ _ _ => by kernel_rfl⟩
instance : One Try.prog 39 := ⟨fun _ => by kernel_rfl, fun _ => by kernel_rfl⟩
instance : One Try.prog 40 := ⟨fun _ => by kernel_rfl, fun _ => by kernel_rfl⟩
instance : One Try.prog 41 := ⟨fun _ => by kernel_rfl, fun _ => by kernel_rfl⟩
instance : FOff Try.prog 42 0 0 := ⟨fun _ _ _ => by kernel_rfl⟩
instance : FOff Try.prog 42 1 1 := ⟨fun _ _ _ => by kernel_rfl⟩
instance : FOff Try.prog 42 2 2 := ⟨fun _ _ _ => by kernel_rfl⟩
instance : FOff Try.prog 43 0 0 := ⟨fun _ _ _ => by kernel_rfl⟩
instance : FOff Try.prog 43 1 1 := ⟨fun _ _ _ => by kernel_rfl⟩
instance : FOff Try.prog 43 2 2 := ⟨fun _ _ _ => by kernel_rfl⟩
instance : FOff Try.prog 44 0 0 := ⟨fun _ _ _ => by kernel_rfl⟩
instance : FOff Try.prog 44 1 1 := ⟨fun _ _ _ => by kernel_rfl⟩
instance : FOff Try.prog 44 2 2 := ⟨fun _ _ _ => by kernel_rfl⟩
instance : FOff Try.prog 45 0 0 := ⟨fun _ _ _ => by kernel_rfl⟩
instance : FOff Try.prog 45 1 1 := ⟨fun _ _ _ => by kernel_rfl⟩
instance : FOff Try.prog 45 2 2 := ⟨fun _ _ _ => by kernel_rfl⟩
instance : One Try.prog 46 := ⟨fun _ => by kernel_rfl, fun _ => by kernel_rfl⟩
instance : One Try.prog 47 := ⟨fun _ => by kernel_rfl, fun _ => by kernel_rfl⟩
instance : One Try.prog 48 := ⟨fun _ => by kernel_rfl, fun _ => by kernel_rfl⟩
instance : One Try.prog 49 := ⟨fun _ => by kernel_rfl, fun _ => by kernel_rfl⟩
instance : One Try.prog 50 := ⟨fun _ => by kernel_rfl, fun _ => by kernel_rfl⟩
instance : One Try.prog 51 := ⟨fun _ => by kernel_rfl, fun _ => by kernel_rfl⟩
instance : One Try.prog 53 := ⟨fun _ => by kernel_rfl, fun _ => by kernel_rfl⟩
instance : One Try.prog 55 := ⟨fun _ => by kernel_rfl, fun _ => by kernel_rfl⟩
instance : One Try.prog 57 := ⟨fun _ => by kernel_rfl, fun _ => by kernel_rfl⟩
instance : One Try.prog 59 := ⟨fun _ => by kernel_rfl, fun _ => by kernel_rfl⟩
instance : One Try.prog 60 := ⟨fun _ => by kernel_rfl, fun _ => by kernel_rfl⟩
instance : One Try.prog 61 := ⟨fun _ => by kernel_rfl, fun _ => by kernel_rfl⟩
instance : One Try.prog 63 := ⟨fun _ => by kernel_rfl, fun _ => by kernel_rfl⟩
instance : SlT Try.prog 64 43 3 := ⟨by kernel_rfl, fun _ => by kernel_rfl⟩
instance : One Try.prog 64 := ⟨fun _ => by kernel_rfl, fun _ => by kernel_rfl⟩
instance : One Try.prog 65 := ⟨fun _ => by kernel_rfl, fun _ => by kernel_rfl⟩
instance : One Try.prog 66 := ⟨fun _ => by kernel_rfl, fun _ => by kernel_rfl⟩
instance : One Try.prog 67 := ⟨fun _ => by kernel_rfl, fun _ => by kernel_rfl⟩
instance : One Try.prog 68 := ⟨fun _ => by kernel_rfl, fun _ => by kernel_rfl⟩
instance : One Try.prog 71 := ⟨fun _ => by kernel_rfl, fun _ => by kernel_rfl⟩
instance : One Try.prog 73 := ⟨fun _ => by kernel_rfl, fun _ => by kernel_rfl⟩
instance : One Try.prog 74 := ⟨fun _ => by kernel_rfl, fun _ => by kernel_rfl⟩
instance : FOff Try.prog 75 0 0 := ⟨fun _ _ _ => by kernel_rfl⟩
instance : FOff Try.prog 75 1 7 := ⟨fun _ _ _ => by kernel_rfl⟩
instance : FOff Try.prog 75 2 8 := ⟨fun _ _ _ => by kernel_rfl⟩
instance : FOff Try.prog 75 3 9 := ⟨fun _ _ _ => by kernel_rfl⟩
instance : FOff Try.prog 75 4 10 := ⟨fun _ _ _ => by kernel_rfl⟩
instance : FOff Try.prog 75 5 11 := ⟨fun _ _ _ => by kernel_rfl⟩
instance : FOff Try.prog 75 6 12 := ⟨fun _ _ _ => by kernel_rfl⟩
instance : FOff Try.prog 75 7 13 := ⟨fun _ _ _ => by kernel_rfl⟩
instance : FOff Try.prog 75 8 14 := ⟨fun _ _ _ => by kernel_rfl⟩
instance : FOff Try.prog 76 0 0 := ⟨fun _ _ _ => by kernel_rfl⟩
instance : FOff Try.prog 76 1 7 := ⟨fun _ _ _ => by kernel_rfl⟩
instance : FOff Try.prog 76 2 8 := ⟨fun _ _ _ => by kernel_rfl⟩
instance : FOff Try.prog 76 3 9 := ⟨fun _ _ _ => by kernel_rfl⟩
instance : FOff Try.prog 76 4 10 := ⟨fun _ _ _ => by kernel_rfl⟩
instance : FOff Try.prog 76 5 11 := ⟨fun _ _ _ => by kernel_rfl⟩
instance : FOff Try.prog 76 6 12 := ⟨fun _ _ _ => by kernel_rfl⟩
instance : FOff Try.prog 76 7 13 := ⟨fun _ _ _ => by kernel_rfl⟩
instance : FOff Try.prog 76 8 14 := ⟨fun _ _ _ => by kernel_rfl⟩
instance : One Try.prog 78 := ⟨fun _ => by kernel_rfl, fun _ => by kernel_rfl⟩
instance : One Try.prog 79 := ⟨fun _ => by kernel_rfl, fun _ => by kernel_rfl⟩
instance : One Try.prog 80 := ⟨fun _ => by kernel_rfl, fun _ => by kernel_rfl⟩
instance : PtrT Try.prog 81 := ⟨by kernel_rfl⟩
instance : One Try.prog 81 := ⟨fun _ => by kernel_rfl, fun _ => by kernel_rfl⟩
instance : FOff Try.prog 82 0 0 := ⟨fun _ _ _ => by kernel_rfl⟩
instance : FOff Try.prog 82 1 1 := ⟨fun _ _ _ => by kernel_rfl⟩
instance : FOff Try.prog 83 0 0 := ⟨fun _ _ _ => by kernel_rfl⟩
instance : FOff Try.prog 83 1 1 := ⟨fun _ _ _ => by kernel_rfl⟩
instance : FOff Try.prog 84 0 0 := ⟨fun _ _ _ => by kernel_rfl⟩
instance : FOff Try.prog 84 1 2 := ⟨fun _ _ _ => by kernel_rfl⟩
instance : FOff Try.prog 85 0 0 := ⟨fun _ _ _ => by kernel_rfl⟩
instance : FOff Try.prog 85 1 2 := ⟨fun _ _ _ => by kernel_rfl⟩
instance : One Try.prog 86 := ⟨fun _ => by kernel_rfl, fun _ => by kernel_rfl⟩
instance : One Try.prog 87 := ⟨fun _ => by kernel_rfl, fun _ => by kernel_rfl⟩
instance : One Try.prog 89 := ⟨fun _ => by kernel_rfl, fun _ => by kernel_rfl⟩
instance : One Try.prog 90 := ⟨fun _ => by kernel_rfl, fun _ => by kernel_rfl⟩
instance : One Try.prog 91 := ⟨fun _ => by kernel_rfl, fun _ => by kernel_rfl⟩
instance : One Try.prog 93 := ⟨fun _ => by kernel_rfl, fun _ => by kernel_rfl⟩
instance : One Try.prog 95 := ⟨fun _ => by kernel_rfl, fun _ => by kernel_rfl⟩
instance : SlT Try.prog 96 91 1 := ⟨by kernel_rfl, fun _ => by kernel_rfl⟩
instance : One Try.prog 96 := ⟨fun _ => by kernel_rfl, fun _ => by kernel_rfl⟩
instance : One Try.prog 97 := ⟨fun _ => by kernel_rfl, fun _ => by kernel_rfl⟩
instance : One Try.prog 98 := ⟨fun _ => by kernel_rfl, fun _ => by kernel_rfl⟩
instance : One Try.prog 99 := ⟨fun _ => by kernel_rfl, fun _ => by kernel_rfl⟩
instance : One Try.prog 100 := ⟨fun _ => by kernel_rfl, fun _ => by kernel_rfl⟩
instance : FOff Try.prog 101 0 0 := ⟨fun _ _ _ => by kernel_rfl⟩
instance : FOff Try.prog 101 1 1 := ⟨fun _ _ _ => by kernel_rfl⟩
instance : FOff Try.prog 101 2 2 := ⟨fun _ _ _ => by kernel_rfl⟩
instance : FOff Try.prog 102 0 0 := ⟨fun _ _ _ => by kernel_rfl⟩
instance : FOff Try.prog 102 1 1 := ⟨fun _ _ _ => by kernel_rfl⟩
instance : FOff Try.prog 102 2 2 := ⟨fun _ _ _ => by kernel_rfl⟩
instance : One Try.prog 103 := ⟨fun _ => by kernel_rfl, fun _ => by kernel_rfl⟩
instance : One Try.prog 104 := ⟨fun _ => by kernel_rfl, fun _ => by kernel_rfl⟩
instance : PtrT Try.prog 105 := ⟨by kernel_rfl⟩
instance : One Try.prog 105 := ⟨fun _ => by kernel_rfl, fun _ => by kernel_rfl⟩
instance : One Try.prog 107 := ⟨fun _ => by kernel_rfl, fun _ => by kernel_rfl⟩
instance : One Try.prog 109 := ⟨fun _ => by kernel_rfl, fun _ => by kernel_rfl⟩
instance : SlT Try.prog 110 102 3 := ⟨by kernel_rfl, fun _ => by kernel_rfl⟩
instance : One Try.prog 110 := ⟨fun _ => by kernel_rfl, fun _ => by kernel_rfl⟩
instance : One Try.prog 111 := ⟨fun _ => by kernel_rfl, fun _ => by kernel_rfl⟩
instance : One Try.prog 112 := ⟨fun _ => by kernel_rfl, fun _ => by kernel_rfl⟩
instance : One Try.prog 113 := ⟨fun _ => by kernel_rfl, fun _ => by kernel_rfl⟩
instance : One Try.prog 114 := ⟨fun _ => by kernel_rfl, fun _ => by kernel_rfl⟩
instance : One Try.prog 116 := ⟨fun _ => by kernel_rfl, fun _ => by kernel_rfl⟩
instance : One Try.prog 117 := ⟨fun _ => by kernel_rfl, fun _ => by kernel_rfl⟩
instance : FOff Try.prog 118 0 0 := ⟨fun _ _ _ => by kernel_rfl⟩
instance : FOff Try.prog 118 1 1 := ⟨fun _ _ _ => by kernel_rfl⟩
instance : FOff Try.prog 118 2 2 := ⟨fun _ _ _ => by kernel_rfl⟩
instance : FOff Try.prog 118 3 3 := ⟨fun _ _ _ => by kernel_rfl⟩
instance : FOff Try.prog 119 0 0 := ⟨fun _ _ _ => by kernel_rfl⟩
instance : FOff Try.prog 119 1 1 := ⟨fun _ _ _ => by kernel_rfl⟩
instance : FOff Try.prog 119 2 2 := ⟨fun _ _ _ => by kernel_rfl⟩
instance : FOff Try.prog 119 3 3 := ⟨fun _ _ _ => by kernel_rfl⟩
instance : One Try.prog 123 := ⟨fun _ => by kernel_rfl, fun _ => by kernel_rfl⟩
instance : One Try.prog 124 := ⟨fun _ => by kernel_rfl, fun _ => by kernel_rfl⟩
instance : One Try.prog 125 := ⟨fun _ => by kernel_rfl, fun _ => by kernel_rfl⟩
instance : One Try.prog 126 := ⟨fun _ => by kernel_rfl, fun _ => by kernel_rfl⟩
instance : PtrT Try.prog 127 := ⟨by kernel_rfl⟩
instance : One Try.prog 127 := ⟨fun _ => by kernel_rfl, fun _ => by kernel_rfl⟩
instance : One Try.prog 128 := ⟨fun _ => by kernel_rfl, fun _ => by kernel_rfl⟩
instance : One Try.prog 129 := ⟨fun _ => by kernel_rfl, fun _ => by kernel_rfl⟩
instance : FOff Try.prog 130 0 0 := ⟨fun _ _ _ => by kernel_rfl⟩
instance : FOff Try.prog 130 1 1 := ⟨fun _ _ _ => by kernel_rfl⟩
instance : FOff Try.prog 130 2 2 := ⟨fun _ _ _ => by kernel_rfl⟩
instance : FOff Try.prog 130 3 3 := ⟨fun _ _ _ => by kernel_rfl⟩
instance : FOff Try.prog 130 4 4 := ⟨fun _ _ _ => by kernel_rfl⟩
instance : FOff Try.prog 130 5 5 := ⟨fun _ _ _ => by kernel_rfl⟩
instance : FOff Try.prog 130 6 6 := ⟨fun _ _ _ => by kernel_rfl⟩
instance : FOff Try.prog 130 7 7 := ⟨fun _ _ _ => by kernel_rfl⟩
instance : FOff Try.prog 130 8 8 := ⟨fun _ _ _ => by kernel_rfl⟩
instance : FOff Try.prog 130 9 9 := ⟨fun _ _ _ => by kernel_rfl⟩
instance : FOff Try.prog 130 10 10 := ⟨fun _ _ _ => by kernel_rfl⟩
instance : FOff Try.prog 131 0 0 := ⟨fun _ _ _ => by kernel_rfl⟩
instance : FOff Try.prog 131 1 1 := ⟨fun _ _ _ => by kernel_rfl⟩
instance : FOff Try.prog 131 2 2 := ⟨fun _ _ _ => by kernel_rfl⟩
instance : FOff Try.prog 131 3 3 := ⟨fun _ _ _ => by kernel_rfl⟩
instance : FOff Try.prog 131 4 4 := ⟨fun _ _ _ => by kernel_rfl⟩
instance : FOff Try.prog 131 5 5 := ⟨fun _ _ _ => by kernel_rfl⟩
instance : FOff Try.prog 131 6 6 := ⟨fun _ _ _ => by kernel_rfl⟩
instance : FOff Try.prog 131 7 7 := ⟨fun _ _ _ => by kernel_rfl⟩
instance : FOff Try.prog 131 8 8 := ⟨fun _ _ _ => by kernel_rfl⟩
instance : FOff Try.prog 131 9 9 := ⟨fun _ _ _ => by kernel_rfl⟩
instance : FOff Try.prog 131 10 10 := ⟨fun _ _ _ => by kernel_rfl⟩
instance : ElemT Try.prog 2 1 8 := ⟨Try.t2, _, by kernel_rfl, rfl, rfl, rfl, rfl, by decide⟩
instance : ElemT Try.prog 3 1 8 := ⟨Try.t3, _, by kernel_rfl, rfl, rfl, rfl, rfl, by decide⟩
instance : ElemT Try.prog 4 1 1 := ⟨Try.t4, _, by kernel_rfl, rfl, rfl, rfl, rfl, by decide⟩
instance : ElemT Try.prog 5 1 1 := ⟨Try.t5, _, by kernel_rfl, rfl, rfl, rfl, rfl, by decide⟩
instance : ElemT Try.prog 6 1 1 := ⟨Try.t6, _, by kernel_rfl, rfl, rfl, rfl, rfl, by decide⟩
instance : ElemT Try.prog 7 4 24 := ⟨Try.t7, _, by kernel_rfl, rfl, rfl, rfl, rfl, by decide⟩
instance : ElemT Try.prog 8 4 24 := ⟨Try.t8, _, by kernel_rfl, rfl, rfl, rfl, rfl, by decide⟩
instance : ElemT Try.prog 9 1 16 := ⟨Try.t9, _, by kernel_rfl, rfl, rfl, rfl, rfl, by decide⟩
instance : ElemT Try.prog 10 1 16 := ⟨Try.t10, _, by kernel_rfl, rfl, rfl, rfl, rfl, by decide⟩
instance : ElemT Try.prog 11 1 16 := ⟨Try.t11, _, by kernel_rfl, rfl, rfl, rfl, rfl, by decide⟩
instance : ElemT Try.prog 12 1 8 := ⟨Try.t12, _, by kernel_rfl, rfl, rfl, rfl, rfl, by decide⟩
instance : ElemT Try.prog 13 2 24 := ⟨Try.t13, _, by kernel_rfl, rfl, rfl, rfl, rfl, by decide⟩
instance : ElemT Try.prog 14 2 24 := ⟨Try.t14, _, by kernel_rfl, rfl, rfl, rfl, rfl, by decide⟩
instance : ElemT Try.prog 15 1 8 := ⟨Try.t15, _, by kernel_rfl, rfl, rfl, rfl, rfl, by decide⟩
instance : ElemT Try.prog 16 1 8 := ⟨Try.t16, _, by kernel_rfl, rfl, rfl, rfl, rfl, by decide⟩
instance : ElemT Try.prog 17 1 8 := ⟨Try.t17, _, by kernel_rfl, rfl, rfl, rfl, rfl, by decide⟩
instance : ElemT Try.prog 18 1 8 := ⟨Try.t18, _, by kernel_rfl, rfl, rfl, rfl, rfl, by decide⟩
instance : ElemT Try.prog 19 1 8 := ⟨Try.t19, _, by kernel_rfl, rfl, rfl, rfl, rfl, by decide⟩
instance : ElemT Try.prog 21 1 4 := ⟨Try.t21, _, by kernel_rfl, rfl, rfl, rfl, rfl, by decide⟩
instance : ElemT Try.prog 22 7 56 := ⟨Try.t22, _, by kernel_rfl, rfl, rfl, rfl, rfl, by decide⟩
instance : ElemT Try.prog 23 7 56 := ⟨Try.t23, _, by kernel_rfl, rfl, rfl, rfl, rfl, by decide⟩
instance : ElemT Try.prog 25 1 8 := ⟨Try.t25, _, by kernel_rfl, rfl, rfl, rfl, rfl, by decide⟩
instance : ElemT Try.prog 29 1 24 := ⟨Try.t29, _, by kernel_rfl, rfl, rfl, rfl, rfl, by decide⟩
instance : ElemT Try.prog 34 1 24 := ⟨Try.t34, _, by kernel_rfl, rfl, rfl, rfl, rfl, by decide⟩
instance : ElemT Try.prog 35 1 24 := ⟨Try.t35, _, by kernel_rfl, rfl, rfl, rfl, rfl, by decide⟩
instance : ElemT Try.prog 36 10 128 := ⟨Try.t36, _, by kernel_rfl, rfl, rfl, rfl, rfl, by decide⟩
instance : ElemT Try.prog 37 10 128 := ⟨Try.t37, _, by kernel_rfl, rfl, rfl, rfl, rfl, by decide⟩
instance : ElemT Try.prog 41 1 4 := ⟨Try.t41, _, by kernel_rfl, rfl, rfl, rfl, rfl, by decide⟩
instance : ElemT Try.prog 42 3 16 := ⟨Try.t42, _, by kernel_rfl, rfl, rfl, rfl, rfl, by decide⟩
instance : ElemT Try.prog 43 3 16 := ⟨Try.t43, _, by kernel_rfl, rfl, rfl, rfl, rfl, by decide⟩
instance : ElemT Try.prog 44 3 16 := ⟨Try.t44, _, by kernel_rfl, rfl, rfl, rfl, rfl, by decide⟩
instance : ElemT Try.prog 45 3 16 := ⟨Try.t45, _, by kernel_rfl, rfl, rfl, rfl, rfl, by decide⟩
instance : ElemT Try.prog 64 1 24 := ⟨Try.t64, _, by kernel_rfl, rfl, rfl, rfl, rfl, by decide⟩
instance : ElemT Try.prog 69 7 56 := ⟨Try.t69, _, by kernel_rfl, rfl, rfl, rfl, rfl, by decide⟩
instance : ElemT Try.prog 70 7 56 := ⟨Try.t70, _, by kernel_rfl, rfl, rfl, rfl, rfl, by decide⟩
instance : ElemT Try.prog 75 15 120 := ⟨Try.t75, _, by kernel_rfl, rfl, rfl, rfl, rfl, by decide⟩
instance : ElemT Try.prog 76 15 120 := ⟨Try.t76, _, by kernel_rfl, rfl, rfl, rfl, rfl, by decide⟩
instance : ElemT Try.prog 81 1 8 := ⟨Try.t81, _, by kernel_rfl, rfl, rfl, rfl, rfl, by decide⟩
instance : ElemT Try.prog 82 2 32 := ⟨Try.t82, _, by kernel_rfl, rfl, rfl, rfl, rfl, by decide⟩
instance : ElemT Try.prog 83 2 32 := ⟨Try.t83, _, by kernel_rfl, rfl, rfl, rfl, rfl, by decide⟩
instance : ElemT Try.prog 84 12 160 := ⟨Try.t84, _, by kernel_rfl, rfl, rfl, rfl, rfl, by decide⟩
instance : ElemT Try.prog 85 12 160 := ⟨Try.t85, _, by kernel_rfl, rfl, rfl, rfl, rfl, by decide⟩
instance : ElemT Try.prog 88 9 36 := ⟨Try.t88, _, by kernel_rfl, rfl, rfl, rfl, rfl, by decide⟩
instance : ElemT Try.prog 91 1 8 := ⟨Try.t91, _, by kernel_rfl, rfl, rfl, rfl, rfl, by decide⟩
instance : ElemT Try.prog 96 1 24 := ⟨Try.t96, _, by kernel_rfl, rfl, rfl, rfl, rfl, by decide⟩
instance : ElemT Try.prog 98 1 8 := ⟨Try.t98, _, by kernel_rfl, rfl, rfl, rfl, rfl, by decide⟩
instance : ElemT Try.prog 101 3 24 := ⟨Try.t101, _, by kernel_rfl, rfl, rfl, rfl, rfl, by decide⟩
instance : ElemT Try.prog 102 3 24 := ⟨Try.t102, _, by kernel_rfl, rfl, rfl, rfl, rfl, by decide⟩
instance : ElemT Try.prog 105 1 8 := ⟨Try.t105, _, by kernel_rfl, rfl, rfl, rfl, rfl, by decide⟩
instance : ElemT Try.prog 110 1 24 := ⟨Try.t110, _, by kernel_rfl, rfl, rfl, rfl, rfl, by decide⟩
instance : ElemT Try.prog 118 4 40 := ⟨Try.t118, _, by kernel_rfl, rfl, rfl, rfl, rfl, by decide⟩
instance : ElemT Try.prog 119 4 40 := ⟨Try.t119, _, by kernel_rfl, rfl, rfl, rfl, rfl, by decide⟩
instance : ElemT Try.prog 124 1 1 := ⟨Try.t124, _, by kernel_rfl, rfl, rfl, rfl, rfl, by decide⟩
instance : ElemT Try.prog 125 1 1 := ⟨Try.t125, _, by kernel_rfl, rfl, rfl, rfl, rfl, by decide⟩
instance : ElemT Try.prog 127 1 8 := ⟨Try.t127, _, by kernel_rfl, rfl, rfl, rfl, rfl, by decide⟩
instance : ElemT Try.prog 128 1 4 := ⟨Try.t128, _, by kernel_rfl, rfl, rfl, rfl, rfl, by decide⟩
instance : ElemT Try.prog 129 1 4 := ⟨Try.t129, _, by kernel_rfl, rfl, rfl, rfl, rfl, by decide⟩
instance : ElemT Try.prog 130 11 48 := ⟨Try.t130, _, by kernel_rfl, rfl, rfl, rfl, rfl, by decide⟩
instance : ElemT Try.prog 131 11 48 := ⟨Try.t131, _, by kernel_rfl, rfl, rfl, rfl, rfl, by decide⟩
instance : ElemZ Try.prog 2 (.int .i64 0) 8 := ⟨by kernel_rfl, rfl⟩
instance : IntT Try.prog 2 .i64 := ⟨by kernel_rfl⟩
instance : ElemZ Try.prog 3 (.int .i64 0) 8 := ⟨by kernel_rfl, rfl⟩
instance : IntT Try.prog 3 .i64 := ⟨by kernel_rfl⟩
instance : ElemZ Try.prog 4 (.bool false) 1 := ⟨by kernel_rfl, rfl⟩
instance : BoolT Try.prog 4 := ⟨by kernel_rfl⟩
instance : ElemZ Try.prog 5 (.int .u8 0) 1 := ⟨by kernel_rfl, rfl⟩
instance : IntT Try.prog 5 .u8 := ⟨by kernel_rfl⟩
instance : ElemZ Try.prog 6 (.int .u8 0) 1 := ⟨by kernel_rfl, rfl⟩
instance : IntT Try.prog 6 .u8 := ⟨by kernel_rfl⟩
instance : AggT Try.prog 7 4 := ⟨⟨_, Try.underlying7, rfl⟩, by kernel_rfl⟩
instance : FldOne Try.prog 7 0 0 := ⟨_, _, Try.underlying7, rfl, rfl, inferInstanceAs (One Try.prog 2)⟩
instance : FldOne Try.prog 7 1 1 := ⟨_, _, Try.underlying7, rfl, rfl, inferInstanceAs (One Try.prog 3)⟩
instance : FldOne Try.prog 7 2 2 := ⟨_, _, Try.underlying7, rfl, rfl, inferInstanceAs (One Try.prog 4)⟩
instance : FldOne Try.prog 7 3 3 := ⟨_, _, Try.underlying7, rfl, rfl, inferInstanceAs (One Try.prog 6)⟩
instance : AggT Try.prog 8 4 := ⟨⟨_, Try.underlying8, rfl⟩, by kernel_rfl⟩
instance : FldOne Try.prog 8 0 0 := ⟨_, _, Try.underlying8, rfl, rfl, inferInstanceAs (One Try.prog 2)⟩
instance : FldOne Try.prog 8 1 1 := ⟨_, _, Try.underlying8, rfl, rfl, inferInstanceAs (One Try.prog 3)⟩
instance : FldOne Try.prog 8 2 2 := ⟨_, _, Try.underlying8, rfl, rfl, inferInstanceAs (One Try.prog 4)⟩
instance : FldOne Try.prog 8 3 3 := ⟨_, _, Try.underlying8, rfl, rfl, inferInstanceAs (One Try.prog 6)⟩
instance : ElemZ Try.prog 9 (.string ByteArray.empty) 16 := ⟨by kernel_rfl, rfl⟩
instance : ElemZ Try.prog 10 (.string ByteArray.empty) 16 := ⟨by kernel_rfl, rfl⟩
instance : ElemZ Try.prog 11 (.string ByteArray.empty) 16 := ⟨by kernel_rfl, rfl⟩
instance : ElemZ Try.prog 12 (.int .u64 0) 8 := ⟨by kernel_rfl, rfl⟩
instance : IntT Try.prog 12 .u64 := ⟨by kernel_rfl⟩
instance : AggT Try.prog 13 2 := ⟨⟨_, Try.underlying13, rfl⟩, by kernel_rfl⟩
instance : FldOne Try.prog 13 0 0 := ⟨_, _, Try.underlying13, rfl, rfl, inferInstanceAs (One Try.prog 9)⟩
instance : FldOne Try.prog 13 1 1 := ⟨_, _, Try.underlying13, rfl, rfl, inferInstanceAs (One Try.prog 12)⟩
instance : AggT Try.prog 14 2 := ⟨⟨_, Try.underlying14, rfl⟩, by kernel_rfl⟩
instance : FldOne Try.prog 14 0 0 := ⟨_, _, Try.underlying14, rfl, rfl, inferInstanceAs (One Try.prog 9)⟩
instance : FldOne Try.prog 14 1 1 := ⟨_, _, Try.underlying14, rfl, rfl, inferInstanceAs (One Try.prog 12)⟩
instance : ElemZ Try.prog 15 (.pointer none) 8 := ⟨by kernel_rfl, rfl⟩
instance : ElemZ Try.prog 16 (.pointer none) 8 := ⟨by kernel_rfl, rfl⟩
instance : ElemZ Try.prog 17 (.pointer none) 8 := ⟨by kernel_rfl, rfl⟩
instance : AggT Try.prog 18 1 := ⟨⟨_, Try.underlying18, rfl⟩, by kernel_rfl⟩
instance : FldOne Try.prog 18 0 0 := ⟨_, _, Try.underlying18, rfl, rfl, inferInstanceAs (One Try.prog 17)⟩
instance : AggT Try.prog 19 1 := ⟨⟨_, Try.underlying19, rfl⟩, by kernel_rfl⟩
instance : FldOne Try.prog 19 0 0 := ⟨_, _, Try.underlying19, rfl, rfl, inferInstanceAs (One Try.prog 17)⟩
instance : ElemZ Try.prog 21 (.int .i32 0) 4 := ⟨by kernel_rfl, rfl⟩
instance : IntT Try.prog 21 .i32 := ⟨by kernel_rfl⟩
instance : AggT Try.prog 22 7 := ⟨⟨_, Try.underlying22, rfl⟩, by kernel_rfl⟩
instance : EqT Try.prog 22 [.i .i64, .i .i64, .i .i64, .i .i64, .i .i64, .i .i64, .i .i64] := ⟨by kernel_rfl, by kernel_rfl, by kernel_rfl, by kernel_rfl⟩
instance : FldOne Try.prog 22 0 0 := ⟨_, _, Try.underlying22, rfl, rfl, inferInstanceAs (One Try.prog 3)⟩
instance : FldOne Try.prog 22 1 1 := ⟨_, _, Try.underlying22, rfl, rfl, inferInstanceAs (One Try.prog 3)⟩
instance : FldOne Try.prog 22 2 2 := ⟨_, _, Try.underlying22, rfl, rfl, inferInstanceAs (One Try.prog 3)⟩
instance : FldOne Try.prog 22 3 3 := ⟨_, _, Try.underlying22, rfl, rfl, inferInstanceAs (One Try.prog 3)⟩
instance : FldOne Try.prog 22 4 4 := ⟨_, _, Try.underlying22, rfl, rfl, inferInstanceAs (One Try.prog 3)⟩
instance : FldOne Try.prog 22 5 5 := ⟨_, _, Try.underlying22, rfl, rfl, inferInstanceAs (One Try.prog 3)⟩
instance : FldOne Try.prog 22 6 6 := ⟨_, _, Try.underlying22, rfl, rfl, inferInstanceAs (One Try.prog 3)⟩
instance : AggT Try.prog 23 7 := ⟨⟨_, Try.underlying23, rfl⟩, by kernel_rfl⟩
instance : EqT Try.prog 23 [.i .i64, .i .i64, .i .i64, .i .i64, .i .i64, .i .i64, .i .i64] := ⟨by kernel_rfl, by kernel_rfl, by kernel_rfl, by kernel_rfl⟩
instance : FldOne Try.prog 23 0 0 := ⟨_, _, Try.underlying23, rfl, rfl, inferInstanceAs (One Try.prog 3)⟩
instance : FldOne Try.prog 23 1 1 := ⟨_, _, Try.underlying23, rfl, rfl, inferInstanceAs (One Try.prog 3)⟩
instance : FldOne Try.prog 23 2 2 := ⟨_, _, Try.underlying23, rfl, rfl, inferInstanceAs (One Try.prog 3)⟩
instance : FldOne Try.prog 23 3 3 := ⟨_, _, Try.underlying23, rfl, rfl, inferInstanceAs (One Try.prog 3)⟩
instance : FldOne Try.prog 23 4 4 := ⟨_, _, Try.underlying23, rfl, rfl, inferInstanceAs (One Try.prog 3)⟩
instance : FldOne Try.prog 23 5 5 := ⟨_, _, Try.underlying23, rfl, rfl, inferInstanceAs (One Try.prog 3)⟩
instance : FldOne Try.prog 23 6 6 := ⟨_, _, Try.underlying23, rfl, rfl, inferInstanceAs (One Try.prog 3)⟩
instance : ElemZ Try.prog 25 (.int .i64 0) 8 := ⟨by kernel_rfl, rfl⟩
instance : IntT Try.prog 25 .i64 := ⟨by kernel_rfl⟩
instance : ElemZ Try.prog 29 (.slice none 0 0) 24 := ⟨by kernel_rfl, rfl⟩
instance : ElemZ Try.prog 34 (.slice none 0 0) 24 := ⟨by kernel_rfl, rfl⟩
instance : ElemZ Try.prog 35 (.slice none 0 0) 24 := ⟨by kernel_rfl, rfl⟩
instance : AggT Try.prog 36 10 := ⟨⟨_, Try.underlying36, rfl⟩, by kernel_rfl⟩
instance : FldOne Try.prog 36 1 7 := ⟨_, _, Try.underlying36, rfl, rfl, inferInstanceAs (One Try.prog 34)⟩
instance : FldOne Try.prog 36 2 8 := ⟨_, _, Try.underlying36, rfl, rfl, inferInstanceAs (One Try.prog 35)⟩
instance : FldOne Try.prog 36 3 9 := ⟨_, _, Try.underlying36, rfl, rfl, inferInstanceAs (One Try.prog 29)⟩
instance : AggT Try.prog 37 10 := ⟨⟨_, Try.underlying37, rfl⟩, by kernel_rfl⟩
instance : FldOne Try.prog 37 1 7 := ⟨_, _, Try.underlying37, rfl, rfl, inferInstanceAs (One Try.prog 34)⟩
instance : FldOne Try.prog 37 2 8 := ⟨_, _, Try.underlying37, rfl, rfl, inferInstanceAs (One Try.prog 35)⟩
instance : FldOne Try.prog 37 3 9 := ⟨_, _, Try.underlying37, rfl, rfl, inferInstanceAs (One Try.prog 29)⟩
instance : ElemZ Try.prog 41 (.int .u32 0) 4 := ⟨by kernel_rfl, rfl⟩
instance : IntT Try.prog 41 .u32 := ⟨by kernel_rfl⟩
instance : AggT Try.prog 42 3 := ⟨⟨_, Try.underlying42, rfl⟩, by kernel_rfl⟩
instance : EqT Try.prog 42 [.i .i64, .i .u32, .i .u32] := ⟨by kernel_rfl, by kernel_rfl, by kernel_rfl, by kernel_rfl⟩
instance : FldOne Try.prog 42 0 0 := ⟨_, _, Try.underlying42, rfl, rfl, inferInstanceAs (One Try.prog 3)⟩
instance : FldOne Try.prog 42 1 1 := ⟨_, _, Try.underlying42, rfl, rfl, inferInstanceAs (One Try.prog 41)⟩
instance : FldOne Try.prog 42 2 2 := ⟨_, _, Try.underlying42, rfl, rfl, inferInstanceAs (One Try.prog 41)⟩
instance : AggT Try.prog 43 3 := ⟨⟨_, Try.underlying43, rfl⟩, by kernel_rfl⟩
instance : EqT Try.prog 43 [.i .i64, .i .u32, .i .u32] := ⟨by kernel_rfl, by kernel_rfl, by kernel_rfl, by kernel_rfl⟩
instance : FldOne Try.prog 43 0 0 := ⟨_, _, Try.underlying43, rfl, rfl, inferInstanceAs (One Try.prog 3)⟩
instance : FldOne Try.prog 43 1 1 := ⟨_, _, Try.underlying43, rfl, rfl, inferInstanceAs (One Try.prog 41)⟩
instance : FldOne Try.prog 43 2 2 := ⟨_, _, Try.underlying43, rfl, rfl, inferInstanceAs (One Try.prog 41)⟩
instance : AggT Try.prog 44 3 := ⟨⟨_, Try.underlying44, rfl⟩, by kernel_rfl⟩
instance : EqT Try.prog 44 [.i .i64, .i .u32, .i .u32] := ⟨by kernel_rfl, by kernel_rfl, by kernel_rfl, by kernel_rfl⟩
instance : FldOne Try.prog 44 0 0 := ⟨_, _, Try.underlying44, rfl, rfl, inferInstanceAs (One Try.prog 3)⟩
instance : FldOne Try.prog 44 1 1 := ⟨_, _, Try.underlying44, rfl, rfl, inferInstanceAs (One Try.prog 41)⟩
instance : FldOne Try.prog 44 2 2 := ⟨_, _, Try.underlying44, rfl, rfl, inferInstanceAs (One Try.prog 41)⟩
instance : AggT Try.prog 45 3 := ⟨⟨_, Try.underlying45, rfl⟩, by kernel_rfl⟩
instance : EqT Try.prog 45 [.i .i64, .i .u32, .i .u32] := ⟨by kernel_rfl, by kernel_rfl, by kernel_rfl, by kernel_rfl⟩
instance : FldOne Try.prog 45 0 0 := ⟨_, _, Try.underlying45, rfl, rfl, inferInstanceAs (One Try.prog 3)⟩
instance : FldOne Try.prog 45 1 1 := ⟨_, _, Try.underlying45, rfl, rfl, inferInstanceAs (One Try.prog 41)⟩
instance : FldOne Try.prog 45 2 2 := ⟨_, _, Try.underlying45, rfl, rfl, inferInstanceAs (One Try.prog 41)⟩
instance : ElemZ Try.prog 64 (.slice none 0 0) 24 := ⟨by kernel_rfl, rfl⟩
instance : ArrT Try.prog 69 7 3 1 := ⟨by kernel_rfl, fun _ => by kernel_rfl⟩
instance : AggT Try.prog 69 7 := ⟨⟨_, Try.underlying69, rfl⟩, by kernel_rfl⟩
instance : ArrT Try.prog 70 7 3 1 := ⟨by kernel_rfl, fun _ => by kernel_rfl⟩
instance : AggT Try.prog 70 7 := ⟨⟨_, Try.underlying70, rfl⟩, by kernel_rfl⟩
instance : AggT Try.prog 75 15 := ⟨⟨_, Try.underlying75, rfl⟩, by kernel_rfl⟩
instance : FldOne Try.prog 75 1 7 := ⟨_, _, Try.underlying75, rfl, rfl, inferInstanceAs (One Try.prog 3)⟩
instance : FldOne Try.prog 75 2 8 := ⟨_, _, Try.underlying75, rfl, rfl, inferInstanceAs (One Try.prog 3)⟩
instance : FldOne Try.prog 75 3 9 := ⟨_, _, Try.underlying75, rfl, rfl, inferInstanceAs (One Try.prog 3)⟩
instance : FldOne Try.prog 75 4 10 := ⟨_, _, Try.underlying75, rfl, rfl, inferInstanceAs (One Try.prog 3)⟩
instance : FldOne Try.prog 75 5 11 := ⟨_, _, Try.underlying75, rfl, rfl, inferInstanceAs (One Try.prog 3)⟩
instance : FldOne Try.prog 75 6 12 := ⟨_, _, Try.underlying75, rfl, rfl, inferInstanceAs (One Try.prog 3)⟩
instance : FldOne Try.prog 75 7 13 := ⟨_, _, Try.underlying75, rfl, rfl, inferInstanceAs (One Try.prog 3)⟩
instance : FldOne Try.prog 75 8 14 := ⟨_, _, Try.underlying75, rfl, rfl, inferInstanceAs (One Try.prog 3)⟩
instance : AggT Try.prog 76 15 := ⟨⟨_, Try.underlying76, rfl⟩, by kernel_rfl⟩
instance : FldOne Try.prog 76 1 7 := ⟨_, _, Try.underlying76, rfl, rfl, inferInstanceAs (One Try.prog 3)⟩
instance : FldOne Try.prog 76 2 8 := ⟨_, _, Try.underlying76, rfl, rfl, inferInstanceAs (One Try.prog 3)⟩
instance : FldOne Try.prog 76 3 9 := ⟨_, _, Try.underlying76, rfl, rfl, inferInstanceAs (One Try.prog 3)⟩
instance : FldOne Try.prog 76 4 10 := ⟨_, _, Try.underlying76, rfl, rfl, inferInstanceAs (One Try.prog 3)⟩
instance : FldOne Try.prog 76 5 11 := ⟨_, _, Try.underlying76, rfl, rfl, inferInstanceAs (One Try.prog 3)⟩
instance : FldOne Try.prog 76 6 12 := ⟨_, _, Try.underlying76, rfl, rfl, inferInstanceAs (One Try.prog 3)⟩
instance : FldOne Try.prog 76 7 13 := ⟨_, _, Try.underlying76, rfl, rfl, inferInstanceAs (One Try.prog 3)⟩
instance : FldOne Try.prog 76 8 14 := ⟨_, _, Try.underlying76, rfl, rfl, inferInstanceAs (One Try.prog 3)⟩
instance : ElemZ Try.prog 81 (.pointer none) 8 := ⟨by kernel_rfl, rfl⟩
instance : AggT Try.prog 82 2 := ⟨⟨_, Try.underlying82, rfl⟩, by kernel_rfl⟩
instance : FldOne Try.prog 82 0 0 := ⟨_, _, Try.underlying82, rfl, rfl, inferInstanceAs (One Try.prog 29)⟩
instance : FldOne Try.prog 82 1 1 := ⟨_, _, Try.underlying82, rfl, rfl, inferInstanceAs (One Try.prog 25)⟩
instance : AggT Try.prog 83 2 := ⟨⟨_, Try.underlying83, rfl⟩, by kernel_rfl⟩
instance : FldOne Try.prog 83 0 0 := ⟨_, _, Try.underlying83, rfl, rfl, inferInstanceAs (One Try.prog 29)⟩
instance : FldOne Try.prog 83 1 1 := ⟨_, _, Try.underlying83, rfl, rfl, inferInstanceAs (One Try.prog 25)⟩
instance : AggT Try.prog 84 12 := ⟨⟨_, Try.underlying84, rfl⟩, by kernel_rfl⟩
instance : AggT Try.prog 85 12 := ⟨⟨_, Try.underlying85, rfl⟩, by kernel_rfl⟩
instance : ArrT Try.prog 88 9 41 1 := ⟨by kernel_rfl, fun _ => by kernel_rfl⟩
instance : AggT Try.prog 88 9 := ⟨⟨_, Try.underlying88, rfl⟩, by kernel_rfl⟩
instance : ElemZ Try.prog 91 (.int .u64 0) 8 := ⟨by kernel_rfl, rfl⟩
instance : IntT Try.prog 91 .u64 := ⟨by kernel_rfl⟩
instance : ElemZ Try.prog 96 (.slice none 0 0) 24 := ⟨by kernel_rfl, rfl⟩
instance : ElemZ Try.prog 98 (.int .u64 0) 8 := ⟨by kernel_rfl, rfl⟩
instance : IntT Try.prog 98 .u64 := ⟨by kernel_rfl⟩
instance : AggT Try.prog 101 3 := ⟨⟨_, Try.underlying101, rfl⟩, by kernel_rfl⟩
instance : EqT Try.prog 101 [.i .i64, .i .i64, .i .i64] := ⟨by kernel_rfl, by kernel_rfl, by kernel_rfl, by kernel_rfl⟩
instance : FldOne Try.prog 101 0 0 := ⟨_, _, Try.underlying101, rfl, rfl, inferInstanceAs (One Try.prog 3)⟩
instance : FldOne Try.prog 101 1 1 := ⟨_, _, Try.underlying101, rfl, rfl, inferInstanceAs (One Try.prog 3)⟩
instance : FldOne Try.prog 101 2 2 := ⟨_, _, Try.underlying101, rfl, rfl, inferInstanceAs (One Try.prog 3)⟩
instance : AggT Try.prog 102 3 := ⟨⟨_, Try.underlying102, rfl⟩, by kernel_rfl⟩
instance : EqT Try.prog 102 [.i .i64, .i .i64, .i .i64] := ⟨by kernel_rfl, by kernel_rfl, by kernel_rfl, by kernel_rfl⟩
instance : FldOne Try.prog 102 0 0 := ⟨_, _, Try.underlying102, rfl, rfl, inferInstanceAs (One Try.prog 3)⟩
instance : FldOne Try.prog 102 1 1 := ⟨_, _, Try.underlying102, rfl, rfl, inferInstanceAs (One Try.prog 3)⟩
instance : FldOne Try.prog 102 2 2 := ⟨_, _, Try.underlying102, rfl, rfl, inferInstanceAs (One Try.prog 3)⟩
instance : ElemZ Try.prog 105 (.pointer none) 8 := ⟨by kernel_rfl, rfl⟩
instance : ElemZ Try.prog 110 (.slice none 0 0) 24 := ⟨by kernel_rfl, rfl⟩
instance : AggT Try.prog 118 4 := ⟨⟨_, Try.underlying118, rfl⟩, by kernel_rfl⟩
instance : FldOne Try.prog 118 0 0 := ⟨_, _, Try.underlying118, rfl, rfl, inferInstanceAs (One Try.prog 17)⟩
instance : FldOne Try.prog 118 1 1 := ⟨_, _, Try.underlying118, rfl, rfl, inferInstanceAs (One Try.prog 17)⟩
instance : FldOne Try.prog 118 2 2 := ⟨_, _, Try.underlying118, rfl, rfl, inferInstanceAs (One Try.prog 17)⟩
instance : FldOne Try.prog 118 3 3 := ⟨_, _, Try.underlying118, rfl, rfl, inferInstanceAs (One Try.prog 9)⟩
instance : AggT Try.prog 119 4 := ⟨⟨_, Try.underlying119, rfl⟩, by kernel_rfl⟩
instance : FldOne Try.prog 119 0 0 := ⟨_, _, Try.underlying119, rfl, rfl, inferInstanceAs (One Try.prog 17)⟩
instance : FldOne Try.prog 119 1 1 := ⟨_, _, Try.underlying119, rfl, rfl, inferInstanceAs (One Try.prog 17)⟩
instance : FldOne Try.prog 119 2 2 := ⟨_, _, Try.underlying119, rfl, rfl, inferInstanceAs (One Try.prog 17)⟩
instance : FldOne Try.prog 119 3 3 := ⟨_, _, Try.underlying119, rfl, rfl, inferInstanceAs (One Try.prog 9)⟩
instance : ElemZ Try.prog 124 (.int .u8 0) 1 := ⟨by kernel_rfl, rfl⟩
instance : IntT Try.prog 124 .u8 := ⟨by kernel_rfl⟩
instance : ElemZ Try.prog 125 (.int .u8 0) 1 := ⟨by kernel_rfl, rfl⟩
instance : IntT Try.prog 125 .u8 := ⟨by kernel_rfl⟩
instance : ElemZ Try.prog 127 (.pointer none) 8 := ⟨by kernel_rfl, rfl⟩
instance : ElemZ Try.prog 128 (.int .i32 0) 4 := ⟨by kernel_rfl, rfl⟩
instance : IntT Try.prog 128 .i32 := ⟨by kernel_rfl⟩
instance : ElemZ Try.prog 129 (.int .i32 0) 4 := ⟨by kernel_rfl, rfl⟩
instance : IntT Try.prog 129 .i32 := ⟨by kernel_rfl⟩
instance : AggT Try.prog 130 11 := ⟨⟨_, Try.underlying130, rfl⟩, by kernel_rfl⟩
instance : FldOne Try.prog 130 0 0 := ⟨_, _, Try.underlying130, rfl, rfl, inferInstanceAs (One Try.prog 12)⟩
instance : FldOne Try.prog 130 1 1 := ⟨_, _, Try.underlying130, rfl, rfl, inferInstanceAs (One Try.prog 12)⟩
instance : FldOne Try.prog 130 2 2 := ⟨_, _, Try.underlying130, rfl, rfl, inferInstanceAs (One Try.prog 41)⟩
instance : FldOne Try.prog 130 3 3 := ⟨_, _, Try.underlying130, rfl, rfl, inferInstanceAs (One Try.prog 124)⟩
instance : FldOne Try.prog 130 4 4 := ⟨_, _, Try.underlying130, rfl, rfl, inferInstanceAs (One Try.prog 5)⟩
instance : FldOne Try.prog 130 5 5 := ⟨_, _, Try.underlying130, rfl, rfl, inferInstanceAs (One Try.prog 5)⟩
instance : FldOne Try.prog 130 6 6 := ⟨_, _, Try.underlying130, rfl, rfl, inferInstanceAs (One Try.prog 125)⟩
instance : FldOne Try.prog 130 7 7 := ⟨_, _, Try.underlying130, rfl, rfl, inferInstanceAs (One Try.prog 126)⟩
instance : FldOne Try.prog 130 8 8 := ⟨_, _, Try.underlying130, rfl, rfl, inferInstanceAs (One Try.prog 127)⟩
instance : FldOne Try.prog 130 9 9 := ⟨_, _, Try.underlying130, rfl, rfl, inferInstanceAs (One Try.prog 128)⟩
instance : FldOne Try.prog 130 10 10 := ⟨_, _, Try.underlying130, rfl, rfl, inferInstanceAs (One Try.prog 129)⟩
instance : AggT Try.prog 131 11 := ⟨⟨_, Try.underlying131, rfl⟩, by kernel_rfl⟩
instance : FldOne Try.prog 131 0 0 := ⟨_, _, Try.underlying131, rfl, rfl, inferInstanceAs (One Try.prog 12)⟩
instance : FldOne Try.prog 131 1 1 := ⟨_, _, Try.underlying131, rfl, rfl, inferInstanceAs (One Try.prog 12)⟩
instance : FldOne Try.prog 131 2 2 := ⟨_, _, Try.underlying131, rfl, rfl, inferInstanceAs (One Try.prog 41)⟩
instance : FldOne Try.prog 131 3 3 := ⟨_, _, Try.underlying131, rfl, rfl, inferInstanceAs (One Try.prog 124)⟩
instance : FldOne Try.prog 131 4 4 := ⟨_, _, Try.underlying131, rfl, rfl, inferInstanceAs (One Try.prog 5)⟩
instance : FldOne Try.prog 131 5 5 := ⟨_, _, Try.underlying131, rfl, rfl, inferInstanceAs (One Try.prog 5)⟩
instance : FldOne Try.prog 131 6 6 := ⟨_, _, Try.underlying131, rfl, rfl, inferInstanceAs (One Try.prog 125)⟩
instance : FldOne Try.prog 131 7 7 := ⟨_, _, Try.underlying131, rfl, rfl, inferInstanceAs (One Try.prog 126)⟩
instance : FldOne Try.prog 131 8 8 := ⟨_, _, Try.underlying131, rfl, rfl, inferInstanceAs (One Try.prog 127)⟩
instance : FldOne Try.prog 131 9 9 := ⟨_, _, Try.underlying131, rfl, rfl, inferInstanceAs (One Try.prog 128)⟩
instance : FldOne Try.prog 131 10 10 := ⟨_, _, Try.underlying131, rfl, rfl, inferInstanceAs (One Try.prog 129)⟩
instance : HasBody Try.prog 3 := ⟨fun _ _ => by kernel_rfl⟩
instance : HasBody Try.prog 4 := ⟨fun _ _ => by kernel_rfl⟩
instance : HasBody Try.prog 5 := ⟨fun _ _ => by kernel_rfl⟩
instance : HasBody Try.prog 6 := ⟨fun _ _ => by kernel_rfl⟩
instance : HasBody Try.prog 7 := ⟨fun _ _ => by kernel_rfl⟩
instance : HasBody Try.prog 8 := ⟨fun _ _ => by kernel_rfl⟩
instance : HasBody Try.prog 9 := ⟨fun _ _ => by kernel_rfl⟩
instance : HasBody Try.prog 10 := ⟨fun _ _ => by kernel_rfl⟩
instance : HasBody Try.prog 11 := ⟨fun _ _ => by kernel_rfl⟩
instance : HasBody Try.prog 12 := ⟨fun _ _ => by kernel_rfl⟩
instance : HasBody Try.prog 13 := ⟨fun _ _ => by kernel_rfl⟩
instance : HasBody Try.prog 14 := ⟨fun _ _ => by kernel_rfl⟩
instance : HasBody Try.prog 15 := ⟨fun _ _ => by kernel_rfl⟩
instance : HasBody Try.prog 16 := ⟨fun _ _ => by kernel_rfl⟩
instance : HasBody Try.prog 17 := ⟨fun _ _ => by kernel_rfl⟩
instance : HasBody Try.prog 18 := ⟨fun _ _ => by kernel_rfl⟩
instance : HasBody Try.prog 19 := ⟨fun _ _ => by kernel_rfl⟩
instance : HasBody Try.prog 20 := ⟨fun _ _ => by kernel_rfl⟩
instance : HasBody Try.prog 21 := ⟨fun _ _ => by kernel_rfl⟩
instance : HasBody Try.prog 22 := ⟨fun _ _ => by kernel_rfl⟩
instance : HasBody Try.prog 23 := ⟨fun _ _ => by kernel_rfl⟩
instance : HasBody Try.prog 24 := ⟨fun _ _ => by kernel_rfl⟩
instance : HasBody Try.prog 25 := ⟨fun _ _ => by kernel_rfl⟩
instance : HasBody Try.prog 26 := ⟨fun _ _ => by kernel_rfl⟩
instance : HasBody Try.prog 27 := ⟨fun _ _ => by kernel_rfl⟩
instance : HasBody Try.prog 28 := ⟨fun _ _ => by kernel_rfl⟩
instance : HasBody Try.prog 29 := ⟨fun _ _ => by kernel_rfl⟩
instance : HasBody Try.prog 30 := ⟨fun _ _ => by kernel_rfl⟩
instance : HasBody Try.prog 31 := ⟨fun _ _ => by kernel_rfl⟩
instance : HasBody Try.prog 32 := ⟨fun _ _ => by kernel_rfl⟩
instance : HasBody Try.prog 33 := ⟨fun _ _ => by kernel_rfl⟩
instance : HasBody Try.prog 34 := ⟨fun _ _ => by kernel_rfl⟩
instance : HasBody Try.prog 35 := ⟨fun _ _ => by kernel_rfl⟩
instance : HasBody Try.prog 36 := ⟨fun _ _ => by kernel_rfl⟩
instance : HasBody Try.prog 37 := ⟨fun _ _ => by kernel_rfl⟩
instance : HasBody Try.prog 38 := ⟨fun _ _ => by kernel_rfl⟩
instance : HasBody Try.prog 39 := ⟨fun _ _ => by kernel_rfl⟩
instance : HasBody Try.prog 40 := ⟨fun _ _ => by kernel_rfl⟩
instance : HasBody Try.prog 41 := ⟨fun _ _ => by kernel_rfl⟩
instance : HasBody Try.prog 42 := ⟨fun _ _ => by kernel_rfl⟩
instance : HasBody Try.prog 43 := ⟨fun _ _ => by kernel_rfl⟩
instance : HasBody Try.prog 44 := ⟨fun _ _ => by kernel_rfl⟩
instance : HasBody Try.prog 45 := ⟨fun _ _ => by kernel_rfl⟩
instance : HasBody Try.prog 46 := ⟨fun _ _ => by kernel_rfl⟩
instance : HasBody Try.prog 47 := ⟨fun _ _ => by kernel_rfl⟩
instance : HasBody Try.prog 48 := ⟨fun _ _ => by kernel_rfl⟩
instance : HasBody Try.prog 49 := ⟨fun _ _ => by kernel_rfl⟩
instance : HasBody Try.prog 50 := ⟨fun _ _ => by kernel_rfl⟩
instance : HasBody Try.prog 51 := ⟨fun _ _ => by kernel_rfl⟩
instance : HasBody Try.prog 52 := ⟨fun _ _ => by kernel_rfl⟩
instance : HasBody Try.prog 53 := ⟨fun _ _ => by kernel_rfl⟩
instance : HasBody Try.prog 54 := ⟨fun _ _ => by kernel_rfl⟩
instance : HasBody Try.prog 55 := ⟨fun _ _ => by kernel_rfl⟩
instance : HasBody Try.prog 56 := ⟨fun _ _ => by kernel_rfl⟩
instance : HasBody Try.prog 57 := ⟨fun _ _ => by kernel_rfl⟩
instance : HasBody Try.prog 58 := ⟨fun _ _ => by kernel_rfl⟩
instance : HasBody Try.prog 59 := ⟨fun _ _ => by kernel_rfl⟩
instance : HasBody Try.prog 60 := ⟨fun _ _ => by kernel_rfl⟩
instance : HasBody Try.prog 61 := ⟨fun _ _ => by kernel_rfl⟩
instance : HasBody Try.prog 62 := ⟨fun _ _ => by kernel_rfl⟩
instance : HasBody Try.prog 63 := ⟨fun _ _ => by kernel_rfl⟩
instance : HasBody Try.prog 64 := ⟨fun _ _ => by kernel_rfl⟩
instance : HasBody Try.prog 65 := ⟨fun _ _ => by kernel_rfl⟩
instance : HasBody Try.prog 66 := ⟨fun _ _ => by kernel_rfl⟩
instance : HasBody Try.prog 67 := ⟨fun _ _ => by kernel_rfl⟩
instance : HasBody Try.prog 68 := ⟨fun _ _ => by kernel_rfl⟩
instance : HasBody Try.prog 69 := ⟨fun _ _ => by kernel_rfl⟩
instance : HasBody Try.prog 70 := ⟨fun _ _ => by kernel_rfl⟩
instance : HasBody Try.prog 71 := ⟨fun _ _ => by kernel_rfl⟩
instance : HasBody Try.prog 73 := ⟨fun _ _ => by kernel_rfl⟩
instance : HasBody Try.prog 74 := ⟨fun _ _ => by kernel_rfl⟩
instance : HasBody Try.prog 76 := ⟨fun _ _ => by kernel_rfl⟩
end Go.Proofs.Ytejofmohpjffkaa
