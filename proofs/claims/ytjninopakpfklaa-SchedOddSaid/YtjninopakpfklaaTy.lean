/- What the reader asks of types and functions, closed facts of this program. -/
import Derived.Test.YtjninopakpfklaaV8
namespace Go.Proofs.Ytjninopakpfklaa
open Go.RowKit
instance : Mixed Try.prog := ⟨by kernel_rfl⟩
instance : One Try.prog 1 := ⟨fun _ => by kernel_rfl, fun _ => by kernel_rfl⟩
instance : One Try.prog 2 := ⟨fun _ => by kernel_rfl, fun _ => by kernel_rfl⟩
instance : One Try.prog 3 := ⟨fun _ => by kernel_rfl, fun _ => by kernel_rfl⟩
instance : One Try.prog 4 := ⟨fun _ => by kernel_rfl, fun _ => by kernel_rfl⟩
instance : One Try.prog 5 := ⟨fun _ => by kernel_rfl, fun _ => by kernel_rfl⟩
instance : One Try.prog 6 := ⟨fun _ => by kernel_rfl, fun _ => by kernel_rfl⟩
instance : FOff Try.prog 7 0 0 := ⟨fun _ _ _ => by kernel_rfl⟩
instance : FOff Try.prog 7 1 1 := ⟨fun _ _ _ => by kernel_rfl⟩
instance : FOff Try.prog 7 2 2 := ⟨fun _ _ _ => by kernel_rfl⟩
instance : FOff Try.prog 7 3 3 := ⟨fun _ _ _ => by kernel_rfl⟩
instance : FOff Try.prog 8 0 0 := ⟨fun _ _ _ => by kernel_rfl⟩
instance : FOff Try.prog 8 1 1 := ⟨fun _ _ _ => by kernel_rfl⟩
instance : FOff Try.prog 8 2 2 := ⟨fun _ _ _ => by kernel_rfl⟩
instance : FOff Try.prog 8 3 3 := ⟨fun _ _ _ => by kernel_rfl⟩
instance : StrT Try.prog 9 := ⟨by kernel_rfl⟩
instance : One Try.prog 9 := ⟨fun _ => by kernel_rfl, fun _ => by kernel_rfl⟩
instance : StrT Try.prog 10 := ⟨by kernel_rfl⟩
instance : One Try.prog 10 := ⟨fun _ => by kernel_rfl, fun _ => by kernel_rfl⟩
instance : StrT Try.prog 11 := ⟨by kernel_rfl⟩
instance : One Try.prog 11 := ⟨fun _ => by kernel_rfl, fun _ => by kernel_rfl⟩
instance : One Try.prog 12 := ⟨fun _ => by kernel_rfl, fun _ => by kernel_rfl⟩
instance : FOff Try.prog 13 0 0 := ⟨fun _ _ _ => by kernel_rfl⟩
instance : FOff Try.prog 13 1 1 := ⟨fun _ _ _ => by kernel_rfl⟩
instance : FOff Try.prog 14 0 0 := ⟨fun _ _ _ => by kernel_rfl⟩
instance : FOff Try.prog 14 1 1 := ⟨fun _ _ _ => by kernel_rfl⟩
instance : PtrT Try.prog 15 := ⟨by kernel_rfl⟩
instance : One Try.prog 15 := ⟨fun _ => by kernel_rfl, fun _ => by kernel_rfl⟩
instance : PtrT Try.prog 16 := ⟨by kernel_rfl⟩
instance : One Try.prog 16 := ⟨fun _ => by kernel_rfl, fun _ => by kernel_rfl⟩
instance : PtrT Try.prog 17 := ⟨by kernel_rfl⟩
instance : One Try.prog 17 := ⟨fun _ => by kernel_rfl, fun _ => by kernel_rfl⟩
instance : FOff Try.prog 18 0 0 := ⟨fun _ _ _ => by kernel_rfl⟩
instance : FOff Try.prog 19 0 0 := ⟨fun _ _ _ => by kernel_rfl⟩
instance : One Try.prog 20 := ⟨fun _ => by kernel_rfl, fun _ => by kernel_rfl⟩
instance : One Try.prog 21 := ⟨fun _ => by kernel_rfl, fun _ => by kernel_rfl⟩
instance : FOff Try.prog 22 0 0 := ⟨fun _ _ _ => by kernel_rfl⟩
instance : FOff Try.prog 22 1 1 := ⟨fun _ _ _ => by kernel_rfl⟩
instance : FOff Try.prog 22 2 2 := ⟨fun _ _ _ => by kernel_rfl⟩
instance : FOff Try.prog 22 3 3 := ⟨fun _ _ _ => by kernel_rfl⟩
instance : FOff Try.prog 22 4 4 := ⟨fun _ _ _ => by kernel_rfl⟩
instance : FOff Try.prog 22 5 5 := ⟨fun _ _ _ => by kernel_rfl⟩
instance : FOff Try.prog 22 6 6 := ⟨fun _ _ _ => by kernel_rfl⟩
instance : FOff Try.prog 23 0 0 := ⟨fun _ _ _ => by kernel_rfl⟩
instance : FOff Try.prog 23 1 1 := ⟨fun _ _ _ => by kernel_rfl⟩
instance : FOff Try.prog 23 2 2 := ⟨fun _ _ _ => by kernel_rfl⟩
instance : FOff Try.prog 23 3 3 := ⟨fun _ _ _ => by kernel_rfl⟩
instance : FOff Try.prog 23 4 4 := ⟨fun _ _ _ => by kernel_rfl⟩
instance : FOff Try.prog 23 5 5 := ⟨fun _ _ _ => by kernel_rfl⟩
instance : FOff Try.prog 23 6 6 := ⟨fun _ _ _ => by kernel_rfl⟩
instance : FOff Try.prog 24 0 0 := ⟨fun _ _ _ => by kernel_rfl⟩
instance : FOff Try.prog 24 1 7 := ⟨fun _ _ _ => by kernel_rfl⟩
instance : FOff Try.prog 24 2 8 := ⟨fun _ _ _ => by kernel_rfl⟩
instance : FOff Try.prog 24 3 9 := ⟨fun _ _ _ => by kernel_rfl⟩
instance : FOff Try.prog 24 4 10 := ⟨fun _ _ _ => by kernel_rfl⟩
instance : FOff Try.prog 24 5 11 := ⟨fun _ _ _ => by kernel_rfl⟩
instance : FOff Try.prog 24 6 12 := ⟨fun _ _ _ => by kernel_rfl⟩
instance : FOff Try.prog 24 7 13 := ⟨fun _ _ _ => by kernel_rfl⟩
instance : FOff Try.prog 24 8 14 := ⟨fun _ _ _ => by kernel_rfl⟩
instance : FOff Try.prog 25 0 0 := ⟨fun _ _ _ => by kernel_rfl⟩
instance : FOff Try.prog 25 1 7 := ⟨fun _ _ _ => by kernel_rfl⟩
instance : FOff Try.prog 25 2 8 := ⟨fun _ _ _ => by kernel_rfl⟩
instance : FOff Try.prog 25 3 9 := ⟨fun _ _ _ => by kernel_rfl⟩
instance : FOff Try.prog 25 4 10 := ⟨fun _ _ _ => by kernel_rfl⟩
instance : FOff Try.prog 25 5 11 := ⟨fun _ _ _ => by kernel_rfl⟩
instance : FOff Try.prog 25 6 12 := ⟨fun _ _ _ => by kernel_rfl⟩
instance : FOff Try.prog 25 7 13 := ⟨fun _ _ _ => by kernel_rfl⟩
instance : FOff Try.prog 25 8 14 := ⟨fun _ _ _ => by kernel_rfl⟩
instance : One Try.prog 26 := ⟨fun _ => by kernel_rfl, fun _ => by kernel_rfl⟩
instance : One Try.prog 28 := ⟨fun _ => by kernel_rfl, fun _ => by kernel_rfl⟩
instance : One Try.prog 29 := ⟨fun _ => by kernel_rfl, fun _ => by kernel_rfl⟩
instance : One Try.prog 30 := ⟨fun _ => by kernel_rfl, fun _ => by kernel_rfl⟩
instance : One Try.prog 31 := ⟨fun _ => by kernel_rfl, fun _ => by kernel_rfl⟩
instance : One Try.prog 32 := ⟨fun _ => by kernel_rfl, fun _ => by kernel_rfl⟩
instance : One Try.prog 33 := ⟨fun _ => by kernel_rfl, fun _ => by kernel_rfl⟩
instance : SlT Try.prog 34 39 3 := ⟨by kernel_rfl, fun _ => by kernel_rfl⟩
instance : One Try.prog 34 := ⟨fun _ => by kernel_rfl, fun _ => by kernel_rfl⟩
instance : One Try.prog 35 := ⟨fun _ => by kernel_rfl, fun _ => by kernel_rfl⟩
instance : One Try.prog 37 := ⟨fun _ => by kernel_rfl, fun _ => by kernel_rfl⟩
instance : FOff Try.prog 38 0 0 := ⟨fun _ _ _ => by kernel_rfl⟩
instance : FOff Try.prog 38 1 1 := ⟨fun _ _ _ => by kernel_rfl⟩
instance : FOff Try.prog 38 2 2 := ⟨fun _ _ _ => by kernel_rfl⟩
instance : FOff Try.prog 39 0 0 := ⟨fun _ _ _ => by kernel_rfl⟩
instance : FOff Try.prog 39 1 1 := ⟨fun _ _ _ => by kernel_rfl⟩
instance : FOff Try.prog 39 2 2 := ⟨fun _ _ _ => by kernel_rfl⟩
instance : One Try.prog 40 := ⟨fun _ => by kernel_rfl, fun _ => by kernel_rfl⟩
instance : One Try.prog 42 := ⟨fun _ => by kernel_rfl, fun _ => by kernel_rfl⟩
instance : One Try.prog 43 := ⟨fun _ => by kernel_rfl, fun _ => by kernel_rfl⟩
instance : One Try.prog 44 := ⟨fun _ => by kernel_rfl, fun _ => by kernel_rfl⟩
instance : One Try.prog 45 := ⟨fun _ => by kernel_rfl, fun _ => by kernel_rfl⟩
instance : One Try.prog 46 := ⟨fun _ => by kernel_rfl, fun _ => by kernel_rfl⟩
instance : SlT Try.prog 47 3 1 := ⟨by kernel_rfl, fun _ => by kernel_rfl⟩
instance : One Try.prog 47 := ⟨fun _ => by kernel_rfl, fun _ => by kernel_rfl⟩
instance : One Try.prog 49 := ⟨fun _ => by kernel_rfl, fun _ => by kernel_rfl⟩
instance : One Try.prog 51 := ⟨fun _ => by kernel_rfl, fun _ => by kernel_rfl⟩
instance : One Try.prog 52 := ⟨fun _ => by kernel_rfl, fun _ => by kernel_rfl⟩
instance : SlT Try.prog 53 47 1 := ⟨by kernel_rfl, fun _ => by kernel_rfl⟩
instance : One Try.prog 53 := ⟨fun _ => by kernel_rfl, fun _ => by kernel_rfl⟩
instance : One Try.prog 54 := ⟨fun _ => by kernel_rfl, fun _ => by kernel_rfl⟩
instance : One Try.prog 55 := ⟨fun _ => by kernel_rfl, fun _ => by kernel_rfl⟩
instance : One Try.prog 56 := ⟨fun _ => by kernel_rfl, fun _ => by kernel_rfl⟩
instance : SlT Try.prog 57 58 1 := ⟨by kernel_rfl, fun _ => by kernel_rfl⟩
instance : One Try.prog 57 := ⟨fun _ => by kernel_rfl, fun _ => by kernel_rfl⟩
instance : One Try.prog 58 := ⟨fun _ => by kernel_rfl, fun _ => by kernel_rfl⟩
instance : FOff Try.prog 59 0 0 := ⟨fun _ _ _ => by kernel_rfl⟩
instance : FOff Try.prog 59 1 1 := ⟨fun _ _ _ => by kernel_rfl⟩
instance : FOff Try.prog 59 2 2 := ⟨fun _ _ _ => by kernel_rfl⟩
instance : FOff Try.prog 59 3 3 := ⟨fun _ _ _ => by kernel_rfl⟩
instance : FOff Try.prog 59 4 4 := ⟨fun _ _ _ => by kernel_rfl⟩
instance : FOff Try.prog 59 5 5 := ⟨fun _ _ _ => by kernel_rfl⟩
instance : FOff Try.prog 59 6 6 := ⟨fun _ _ _ => by kernel_rfl⟩
instance : FOff Try.prog 60 0 0 := ⟨fun _ _ _ => by kernel_rfl⟩
instance : FOff Try.prog 60 1 1 := ⟨fun _ _ _ => by kernel_rfl⟩
instance : FOff Try.prog 60 2 2 := ⟨fun _ _ _ => by kernel_rfl⟩
instance : FOff Try.prog 60 3 3 := ⟨fun _ _ _ => by kernel_rfl⟩
instance : FOff Try.prog 60 4 4 := ⟨fun _ _ _ => by kernel_rfl⟩
instance : FOff Try.prog 60 5 5 := ⟨fun _ _ _ => by kernel_rfl⟩
instance : FOff Try.prog 60 6 6 := ⟨fun _ _ _ => by kernel_rfl⟩
instance : One Try.prog 61 := ⟨fun _ => by kernel_rfl, fun _ => by kernel_rfl⟩
instance : PtrT Try.prog 62 := ⟨by kernel_rfl⟩
instance : One Try.prog 62 := ⟨fun _ => by kernel_rfl, fun _ => by kernel_rfl⟩
instance : One Try.prog 64 := ⟨fun _ => by kernel_rfl, fun _ => by kernel_rfl⟩
instance : One Try.prog 65 := ⟨fun _ => by kernel_rfl, fun _ => by kernel_rfl⟩
instance : One Try.prog 67 := ⟨fun _ => by kernel_rfl, fun _ => by kernel_rfl⟩
instance : One Try.prog 68 := ⟨fun _ => by kernel_rfl, fun _ => by kernel_rfl⟩
instance : One Try.prog 69 := ⟨fun _ => by kernel_rfl, fun _ => by kernel_rfl⟩
instance : SlT Try.prog 70 4 1 := ⟨by kernel_rfl, fun _ => by kernel_rfl⟩
instance : One Try.prog 70 := ⟨fun _ => by kernel_rfl, fun _ => by kernel_rfl⟩
instance : One Try.prog 71 := ⟨fun _ => by kernel_rfl, fun _ => by kernel_rfl⟩
instance : One Try.prog 72 := ⟨fun _ => by kernel_rfl, fun _ => by kernel_rfl⟩
instance : One Try.prog 73 := ⟨fun _ => by kernel_rfl, fun _ => by kernel_rfl⟩
instance : One Try.prog 74 := ⟨fun _ => by kernel_rfl, fun _ => by kernel_rfl⟩
instance : One Try.prog 75 := ⟨fun _ => by kernel_rfl, fun _ => by kernel_rfl⟩
instance : SlT Try.prog 76 60 7 := ⟨by kernel_rfl, fun _ => by kernel_rfl⟩
instance : One Try.prog 76 := ⟨fun _ => by kernel_rfl, fun _ => by kernel_rfl⟩
instance : SlT Try.prog 77 82 4 := ⟨by kernel_rfl, fun _ => by kernel_rfl⟩
instance : One Try.prog 77 := ⟨fun _ => by kernel_rfl, fun _ => by kernel_rfl⟩
instance : One Try.prog 78 := ⟨fun _ => by kernel_rfl, fun _ => by kernel_rfl⟩
instance : One Try.prog 80 := ⟨fun _ => by kernel_rfl, fun _ => by kernel_rfl⟩
instance : FOff Try.prog 81 0 0 := ⟨fun _ _ _ => by kernel_rfl⟩
instance : FOff Try.prog 81 1 1 := ⟨fun _ _ _ => by kernel_rfl⟩
instance : FOff Try.prog 81 2 2 := ⟨fun _ _ _ => by kernel_rfl⟩
instance : FOff Try.prog 81 3 3 := ⟨fun _ _ _ => by kernel_rfl⟩
instance : FOff Try.prog 82 0 0 := ⟨fun _ _ _ => by kernel_rfl⟩
instance : FOff Try.prog 82 1 1 := ⟨fun _ _ _ => by kernel_rfl⟩
instance : FOff Try.prog 82 2 2 := ⟨fun _ _ _ => by kernel_rfl⟩
instance : FOff Try.prog 82 3 3 := ⟨fun _ _ _ => by kernel_rfl⟩
instance : One Try.prog 83 := ⟨fun _ => by kernel_rfl, fun _ => by kernel_rfl⟩
instance : One Try.prog 84 := ⟨fun _ => by kernel_rfl, fun _ => by kernel_rfl⟩
instance : One Try.prog 85 := ⟨fun _ => by kernel_rfl, fun _ => by kernel_rfl⟩
instance : One Try.prog 86 := ⟨fun _ => by kernel_rfl, fun _ => by kernel_rfl⟩
instance : One Try.prog 87 := ⟨fun _ => by kernel_rfl, fun _ => by kernel_rfl⟩
instance : One Try.prog 89 := ⟨fun _ => by kernel_rfl, fun _ => by kernel_rfl⟩
instance : One Try.prog 90 := ⟨fun _ => by kernel_rfl, fun _ => by kernel_rfl⟩
instance : FOff Try.prog 91 0 0 := ⟨fun _ _ _ => by kernel_rfl⟩
instance : FOff Try.prog 91 1 1 := ⟨fun _ _ _ => by kernel_rfl⟩
instance : FOff Try.prog 91 2 2 := ⟨fun _ _ _ => by kernel_rfl⟩
instance : FOff Try.prog 92 0 0 := ⟨fun _ _ _ => by kernel_rfl⟩
instance : FOff Try.prog 92 1 1 := ⟨fun _ _ _ => by kernel_rfl⟩
instance : FOff Try.prog 92 2 2 := ⟨fun _ _ _ => by kernel_rfl⟩
instance : One Try.prog 93 := ⟨fun _ => by kernel_rfl, fun _ => by kernel_rfl⟩
instance : One Try.prog 95 := ⟨fun _ => by kernel_rfl, fun _ => by kernel_rfl⟩
instance : One Try.prog 97 := ⟨fun _ => by kernel_rfl, fun _ => by kernel_rfl⟩
instance : One Try.prog 98 := ⟨fun _ => by kernel_rfl, fun _ => by kernel_rfl⟩
instance : FOff Try.prog 99 0 0 := ⟨fun _ _ _ => by kernel_rfl⟩
instance : FOff Try.prog 99 1 1 := ⟨fun _ _ _ => by kernel_rfl⟩
instance : FOff Try.prog 99 2 2 := ⟨fun _ _ _ => by kernel_rfl⟩
instance : FOff Try.prog 99 3 3 := ⟨fun _ _ _ => by kernel_rfl⟩
instance : FOff Try.prog 100 0 0 := ⟨fun _ _ _ => by kernel_rfl⟩
instance : FOff Try.prog 100 1 1 := ⟨fun _ _ _ => by kernel_rfl⟩
instance : FOff Try.prog 100 2 2 := ⟨fun _ _ _ => by kernel_rfl⟩
instance : FOff Try.prog 100 3 3 := ⟨fun _ _ _ => by kernel_rfl⟩
instance : One Try.prog 101 := ⟨fun _ => by kernel_rfl, fun _ => by kernel_rfl⟩
instance : One Try.prog 102 := ⟨fun _ => by kernel_rfl, fun _ => by kernel_rfl⟩
instance : One Try.prog 104 := ⟨fun _ => by kernel_rfl, fun _ => by kernel_rfl⟩
instance : One Try.prog 105 := ⟨fun _ => by kernel_rfl, fun _ => by kernel_rfl⟩
instance : One Try.prog 106 := ⟨fun _ => by kernel_rfl, fun _ => by kernel_rfl⟩
instance : One Try.prog 107 := ⟨fun _ => by kernel_rfl, fun _ => by kernel_rfl⟩
instance : One Try.prog 108 := ⟨fun _ => by kernel_rfl, fun _ => by kernel_rfl⟩
instance : One Try.prog 109 := ⟨fun _ => by kernel_rfl, fun _ => by kernel_rfl⟩
instance : SlT Try.prog 110 92 3 := ⟨by kernel_rfl, fun _ => by kernel_rfl⟩
instance : One Try.prog 110 := ⟨fun _ => by kernel_rfl, fun _ => by kernel_rfl⟩
instance : One Try.prog 111 := ⟨fun _ => by kernel_rfl, fun _ => by kernel_rfl⟩
instance : FOff Try.prog 112 0 0 := ⟨fun _ _ _ => by kernel_rfl⟩
instance : FOff Try.prog 112 1 1 := ⟨fun _ _ _ => by kernel_rfl⟩
instance : FOff Try.prog 112 2 2 := ⟨fun _ _ _ => by kernel_rfl⟩
instance : FOff Try.prog 112 3 3 := ⟨fun _ _ _ => by kernel_rfl⟩
instance : FOff Try.prog 113 0 0 := ⟨fun _ _ _ => by kernel_rfl⟩
instance : FOff Try.prog 113 1 1 := ⟨fun _ _ _ => by kernel_rfl⟩
instance : FOff Try.prog 113 2 2 := ⟨fun _ _ _ => by kernel_rfl⟩
instance : FOff Try.prog 113 3 3 := ⟨fun _ _ _ => by kernel_rfl⟩
instance : One Try.prog 117 := ⟨fun _ => by kernel_rfl, fun _ => by kernel_rfl⟩
instance : One Try.prog 118 := ⟨fun _ => by kernel_rfl, fun _ => by kernel_rfl⟩
instance : One Try.prog 119 := ⟨fun _ => by kernel_rfl, fun _ => by kernel_rfl⟩
instance : One Try.prog 120 := ⟨fun _ => by kernel_rfl, fun _ => by kernel_rfl⟩
instance : PtrT Try.prog 121 := ⟨by kernel_rfl⟩
instance : One Try.prog 121 := ⟨fun _ => by kernel_rfl, fun _ => by kernel_rfl⟩
instance : One Try.prog 122 := ⟨fun _ => by kernel_rfl, fun _ => by kernel_rfl⟩
instance : One Try.prog 123 := ⟨fun _ => by kernel_rfl, fun _ => by kernel_rfl⟩
instance : FOff Try.prog 124 0 0 := ⟨fun _ _ _ => by kernel_rfl⟩
instance : FOff Try.prog 124 1 1 := ⟨fun _ _ _ => by kernel_rfl⟩
instance : FOff Try.prog 124 2 2 := ⟨fun _ _ _ => by kernel_rfl⟩
instance : FOff Try.prog 124 3 3 := ⟨fun _ _ _ => by kernel_rfl⟩
instance : FOff Try.prog 124 4 4 := ⟨fun _ _ _ => by kernel_rfl⟩
instance : FOff Try.prog 124 5 5 := ⟨fun _ _ _ => by kernel_rfl⟩
instance : FOff Try.prog 124 6 6 := ⟨fun _ _ _ => by kernel_rfl⟩
instance : FOff Try.prog 124 7 7 := ⟨fun _ _ _ => by kernel_rfl⟩
instance : FOff Try.prog 124 8 8 := ⟨fun _ _ _ => by kernel_rfl⟩
instance : FOff Try.prog 124 9 9 := ⟨fun _ _ _ => by kernel_rfl⟩
instance : FOff Try.prog 124 10 10 := ⟨fun _ _ _ => by kernel_rfl⟩
instance : FOff Try.prog 125 0 0 := ⟨fun _ _ _ => by kernel_rfl⟩
instance : FOff Try.prog 125 1 1 := ⟨fun _ _ _ => by kernel_rfl⟩
instance : FOff Try.prog 125 2 2 := ⟨fun _ _ _ => by kernel_rfl⟩
instance : FOff Try.prog 125 3 3 := ⟨fun _ _ _ => by kernel_rfl⟩
instance : FOff Try.prog 125 4 4 := ⟨fun _ _ _ => by kernel_rfl⟩
instance : FOff Try.prog 125 5 5 := ⟨fun _ _ _ => by kernel_rfl⟩
instance : FOff Try.prog 125 6 6 := ⟨fun _ _ _ => by kernel_rfl⟩
instance : FOff Try.prog 125 7 7 := ⟨fun _ _ _ => by kernel_rfl⟩
instance : FOff Try.prog 125 8 8 := ⟨fun _ _ _ => by kernel_rfl⟩
instance : FOff Try.prog 125 9 9 := ⟨fun _ _ _ => by kernel_rfl⟩
instance : FOff Try.prog 125 10 10 := ⟨fun _ _ _ => by kernel_rfl⟩
instance : ElemT Try.prog 2 1 8 := ⟨Try.t2, _, by kernel_rfl, rfl, rfl, rfl, rfl, by decide⟩
instance : ElemT Try.prog 3 1 8 := ⟨Try.t3, _, by kernel_rfl, rfl, rfl, rfl, rfl, by decide⟩
instance : ElemT Try.prog 4 1 1 := ⟨Try.t4, _, by kernel_rfl, rfl, rfl, rfl, rfl, by decide⟩
instance : ElemT Try.prog 5 1 1 := ⟨Try.t5, _, by kernel_rfl, rfl, rfl, rfl, rfl, by decide⟩
instance : ElemT Try.prog 6 1 1 := ⟨Try.t6, _, by kernel_rfl, rfl, rfl, rfl, rfl, by decide⟩
instance : ElemT Try.prog 7 4 24 := ⟨Try.t7, _, by kernel_rfl, rfl, rfl, rfl, rfl, by decide⟩
instance : ElemT Try.prog 8 4 24 := ⟨Try.t8, _, by kernel_rfl, rfl, rfl, rfl, rfl, by decide⟩
instance : ElemT Try.prog 9 1 16 := ⟨Try.t9, _, by kernel_rfl, rfl, rfl, rfl, rfl, by decide⟩
instance : ElemT Try.prog 10 1 16 := ⟨Try.t10, _, by kernel_rfl, rfl, rfl, rfl, rfl, by decide⟩
instance : ElemT Try.prog 11 1 16 := ⟨Try.t11, _, by kernel_rfl, rfl, rfl, rfl, rfl, by decide⟩
instance : ElemT Try.prog 12 1 8 := ⟨Try.t12, _, by kernel_rfl, rfl, rfl, rfl, rfl, by decide⟩
instance : ElemT Try.prog 13 2 24 := ⟨Try.t13, _, by kernel_rfl, rfl, rfl, rfl, rfl, by decide⟩
instance : ElemT Try.prog 14 2 24 := ⟨Try.t14, _, by kernel_rfl, rfl, rfl, rfl, rfl, by decide⟩
instance : ElemT Try.prog 15 1 8 := ⟨Try.t15, _, by kernel_rfl, rfl, rfl, rfl, rfl, by decide⟩
instance : ElemT Try.prog 16 1 8 := ⟨Try.t16, _, by kernel_rfl, rfl, rfl, rfl, rfl, by decide⟩
instance : ElemT Try.prog 17 1 8 := ⟨Try.t17, _, by kernel_rfl, rfl, rfl, rfl, rfl, by decide⟩
instance : ElemT Try.prog 18 1 8 := ⟨Try.t18, _, by kernel_rfl, rfl, rfl, rfl, rfl, by decide⟩
instance : ElemT Try.prog 19 1 8 := ⟨Try.t19, _, by kernel_rfl, rfl, rfl, rfl, rfl, by decide⟩
instance : ElemT Try.prog 21 1 4 := ⟨Try.t21, _, by kernel_rfl, rfl, rfl, rfl, rfl, by decide⟩
instance : ElemT Try.prog 22 7 56 := ⟨Try.t22, _, by kernel_rfl, rfl, rfl, rfl, rfl, by decide⟩
instance : ElemT Try.prog 23 7 56 := ⟨Try.t23, _, by kernel_rfl, rfl, rfl, rfl, rfl, by decide⟩
instance : ElemT Try.prog 24 15 120 := ⟨Try.t24, _, by kernel_rfl, rfl, rfl, rfl, rfl, by decide⟩
instance : ElemT Try.prog 25 15 120 := ⟨Try.t25, _, by kernel_rfl, rfl, rfl, rfl, rfl, by decide⟩
instance : ElemT Try.prog 26 1 8 := ⟨Try.t26, _, by kernel_rfl, rfl, rfl, rfl, rfl, by decide⟩
instance : ElemT Try.prog 34 1 24 := ⟨Try.t34, _, by kernel_rfl, rfl, rfl, rfl, rfl, by decide⟩
instance : ElemT Try.prog 38 3 24 := ⟨Try.t38, _, by kernel_rfl, rfl, rfl, rfl, rfl, by decide⟩
instance : ElemT Try.prog 39 3 24 := ⟨Try.t39, _, by kernel_rfl, rfl, rfl, rfl, rfl, by decide⟩
instance : ElemT Try.prog 41 2 16 := ⟨Try.t41, _, by kernel_rfl, rfl, rfl, rfl, rfl, by decide⟩
instance : ElemT Try.prog 47 1 24 := ⟨Try.t47, _, by kernel_rfl, rfl, rfl, rfl, rfl, by decide⟩
instance : ElemT Try.prog 53 1 24 := ⟨Try.t53, _, by kernel_rfl, rfl, rfl, rfl, rfl, by decide⟩
instance : ElemT Try.prog 57 1 24 := ⟨Try.t57, _, by kernel_rfl, rfl, rfl, rfl, rfl, by decide⟩
instance : ElemT Try.prog 58 1 8 := ⟨Try.t58, _, by kernel_rfl, rfl, rfl, rfl, rfl, by decide⟩
instance : ElemT Try.prog 59 7 56 := ⟨Try.t59, _, by kernel_rfl, rfl, rfl, rfl, rfl, by decide⟩
instance : ElemT Try.prog 60 7 56 := ⟨Try.t60, _, by kernel_rfl, rfl, rfl, rfl, rfl, by decide⟩
instance : ElemT Try.prog 62 1 8 := ⟨Try.t62, _, by kernel_rfl, rfl, rfl, rfl, rfl, by decide⟩
instance : ElemT Try.prog 70 1 24 := ⟨Try.t70, _, by kernel_rfl, rfl, rfl, rfl, rfl, by decide⟩
instance : ElemT Try.prog 76 1 24 := ⟨Try.t76, _, by kernel_rfl, rfl, rfl, rfl, rfl, by decide⟩
instance : ElemT Try.prog 77 1 24 := ⟨Try.t77, _, by kernel_rfl, rfl, rfl, rfl, rfl, by decide⟩
instance : ElemT Try.prog 81 4 32 := ⟨Try.t81, _, by kernel_rfl, rfl, rfl, rfl, rfl, by decide⟩
instance : ElemT Try.prog 82 4 32 := ⟨Try.t82, _, by kernel_rfl, rfl, rfl, rfl, rfl, by decide⟩
instance : ElemT Try.prog 91 3 24 := ⟨Try.t91, _, by kernel_rfl, rfl, rfl, rfl, rfl, by decide⟩
instance : ElemT Try.prog 92 3 24 := ⟨Try.t92, _, by kernel_rfl, rfl, rfl, rfl, rfl, by decide⟩
instance : ElemT Try.prog 99 4 64 := ⟨Try.t99, _, by kernel_rfl, rfl, rfl, rfl, rfl, by decide⟩
instance : ElemT Try.prog 100 4 64 := ⟨Try.t100, _, by kernel_rfl, rfl, rfl, rfl, rfl, by decide⟩
instance : ElemT Try.prog 110 1 24 := ⟨Try.t110, _, by kernel_rfl, rfl, rfl, rfl, rfl, by decide⟩
instance : ElemT Try.prog 112 4 40 := ⟨Try.t112, _, by kernel_rfl, rfl, rfl, rfl, rfl, by decide⟩
instance : ElemT Try.prog 113 4 40 := ⟨Try.t113, _, by kernel_rfl, rfl, rfl, rfl, rfl, by decide⟩
instance : ElemT Try.prog 117 1 4 := ⟨Try.t117, _, by kernel_rfl, rfl, rfl, rfl, rfl, by decide⟩
instance : ElemT Try.prog 118 1 1 := ⟨Try.t118, _, by kernel_rfl, rfl, rfl, rfl, rfl, by decide⟩
instance : ElemT Try.prog 119 1 1 := ⟨Try.t119, _, by kernel_rfl, rfl, rfl, rfl, rfl, by decide⟩
instance : ElemT Try.prog 121 1 8 := ⟨Try.t121, _, by kernel_rfl, rfl, rfl, rfl, rfl, by decide⟩
instance : ElemT Try.prog 122 1 4 := ⟨Try.t122, _, by kernel_rfl, rfl, rfl, rfl, rfl, by decide⟩
instance : ElemT Try.prog 123 1 4 := ⟨Try.t123, _, by kernel_rfl, rfl, rfl, rfl, rfl, by decide⟩
instance : ElemT Try.prog 124 11 48 := ⟨Try.t124, _, by kernel_rfl, rfl, rfl, rfl, rfl, by decide⟩
instance : ElemT Try.prog 125 11 48 := ⟨Try.t125, _, by kernel_rfl, rfl, rfl, rfl, rfl, by decide⟩
instance : ElemZ Try.prog 2 (.int .i64 0) 8 := ⟨by kernel_rfl, rfl⟩
instance : IntT Try.prog 2 .i64 := ⟨by kernel_rfl⟩
instance : ElemZ Try.prog 3 (.int .i64 0) 8 := ⟨by kernel_rfl, rfl⟩
instance : IntT Try.prog 3 .i64 := ⟨by kernel_rfl⟩
instance : ElemZ Try.prog 4 (.bool false) 1 := ⟨by kernel_rfl, rfl⟩
instance : BoolT Try.prog 4 := ⟨by kernel_rfl⟩
instance : ElemZ Try.prog 5 (.int .u8 0) 1 := ⟨by kernel_rfl, rfl⟩
instance : IntT Try.prog 5 .u8 := ⟨by kernel_rfl⟩
instance : ElemZ Try.prog 6 (.int .u8 0) 1 := ⟨by kernel_rfl, rfl⟩
instance : IntT Try.prog 6 .u8 := ⟨by kernel_rfl⟩
instance : AggT Try.prog 7 4 := ⟨⟨_, Try.underlying7, rfl⟩, by kernel_rfl⟩
instance : FldOne Try.prog 7 0 0 := ⟨_, _, Try.underlying7, rfl, rfl, inferInstanceAs (One Try.prog 2)⟩
instance : FldOne Try.prog 7 1 1 := ⟨_, _, Try.underlying7, rfl, rfl, inferInstanceAs (One Try.prog 3)⟩
instance : FldOne Try.prog 7 2 2 := ⟨_, _, Try.underlying7, rfl, rfl, inferInstanceAs (One Try.prog 4)⟩
instance : FldOne Try.prog 7 3 3 := ⟨_, _, Try.underlying7, rfl, rfl, inferInstanceAs (One Try.prog 6)⟩
instance : AggT Try.prog 8 4 := ⟨⟨_, Try.underlying8, rfl⟩, by kernel_rfl⟩
instance : FldOne Try.prog 8 0 0 := ⟨_, _, Try.underlying8, rfl, rfl, inferInstanceAs (One Try.prog 2)⟩
instance : FldOne Try.prog 8 1 1 := ⟨_, _, Try.underlying8, rfl, rfl, inferInstanceAs (One Try.prog 3)⟩
instance : FldOne Try.prog 8 2 2 := ⟨_, _, Try.underlying8, rfl, rfl, inferInstanceAs (One Try.prog 4)⟩
instance : FldOne Try.prog 8 3 3 := ⟨_, _, Try.underlying8, rfl, rfl, inferInstanceAs (One Try.prog 6)⟩
instance : ElemZ Try.prog 9 (.string ByteArray.empty) 16 := ⟨by kernel_rfl, rfl⟩
instance : ElemZ Try.prog 10 (.string ByteArray.empty) 16 := ⟨by kernel_rfl, rfl⟩
instance : ElemZ Try.prog 11 (.string ByteArray.empty) 16 := ⟨by kernel_rfl, rfl⟩
instance : ElemZ Try.prog 12 (.int .u64 0) 8 := ⟨by kernel_rfl, rfl⟩
instance : IntT Try.prog 12 .u64 := ⟨by kernel_rfl⟩
instance : AggT Try.prog 13 2 := ⟨⟨_, Try.underlying13, rfl⟩, by kernel_rfl⟩
instance : FldOne Try.prog 13 0 0 := ⟨_, _, Try.underlying13, rfl, rfl, inferInstanceAs (One Try.prog 9)⟩
instance : FldOne Try.prog 13 1 1 := ⟨_, _, Try.underlying13, rfl, rfl, inferInstanceAs (One Try.prog 12)⟩
instance : AggT Try.prog 14 2 := ⟨⟨_, Try.underlying14, rfl⟩, by kernel_rfl⟩
instance : FldOne Try.prog 14 0 0 := ⟨_, _, Try.underlying14, rfl, rfl, inferInstanceAs (One Try.prog 9)⟩
instance : FldOne Try.prog 14 1 1 := ⟨_, _, Try.underlying14, rfl, rfl, inferInstanceAs (One Try.prog 12)⟩
instance : ElemZ Try.prog 15 (.pointer none) 8 := ⟨by kernel_rfl, rfl⟩
instance : ElemZ Try.prog 16 (.pointer none) 8 := ⟨by kernel_rfl, rfl⟩
instance : ElemZ Try.prog 17 (.pointer none) 8 := ⟨by kernel_rfl, rfl⟩
instance : AggT Try.prog 18 1 := ⟨⟨_, Try.underlying18, rfl⟩, by kernel_rfl⟩
instance : FldOne Try.prog 18 0 0 := ⟨_, _, Try.underlying18, rfl, rfl, inferInstanceAs (One Try.prog 17)⟩
instance : AggT Try.prog 19 1 := ⟨⟨_, Try.underlying19, rfl⟩, by kernel_rfl⟩
instance : FldOne Try.prog 19 0 0 := ⟨_, _, Try.underlying19, rfl, rfl, inferInstanceAs (One Try.prog 17)⟩
instance : ElemZ Try.prog 21 (.int .i32 0) 4 := ⟨by kernel_rfl, rfl⟩
instance : IntT Try.prog 21 .i32 := ⟨by kernel_rfl⟩
instance : AggT Try.prog 22 7 := ⟨⟨_, Try.underlying22, rfl⟩, by kernel_rfl⟩
instance : EqT Try.prog 22 [.i .i64, .i .i64, .i .i64, .i .i64, .i .i64, .i .i64, .i .i64] := ⟨by kernel_rfl, by kernel_rfl, by kernel_rfl, by kernel_rfl⟩
instance : FldOne Try.prog 22 0 0 := ⟨_, _, Try.underlying22, rfl, rfl, inferInstanceAs (One Try.prog 3)⟩
instance : FldOne Try.prog 22 1 1 := ⟨_, _, Try.underlying22, rfl, rfl, inferInstanceAs (One Try.prog 3)⟩
instance : FldOne Try.prog 22 2 2 := ⟨_, _, Try.underlying22, rfl, rfl, inferInstanceAs (One Try.prog 3)⟩
instance : FldOne Try.prog 22 3 3 := ⟨_, _, Try.underlying22, rfl, rfl, inferInstanceAs (One Try.prog 3)⟩
instance : FldOne Try.prog 22 4 4 := ⟨_, _, Try.underlying22, rfl, rfl, inferInstanceAs (One Try.prog 3)⟩
instance : FldOne Try.prog 22 5 5 := ⟨_, _, Try.underlying22, rfl, rfl, inferInstanceAs (One Try.prog 3)⟩
instance : FldOne Try.prog 22 6 6 := ⟨_, _, Try.underlying22, rfl, rfl, inferInstanceAs (One Try.prog 3)⟩
instance : AggT Try.prog 23 7 := ⟨⟨_, Try.underlying23, rfl⟩, by kernel_rfl⟩
instance : EqT Try.prog 23 [.i .i64, .i .i64, .i .i64, .i .i64, .i .i64, .i .i64, .i .i64] := ⟨by kernel_rfl, by kernel_rfl, by kernel_rfl, by kernel_rfl⟩
instance : FldOne Try.prog 23 0 0 := ⟨_, _, Try.underlying23, rfl, rfl, inferInstanceAs (One Try.prog 3)⟩
instance : FldOne Try.prog 23 1 1 := ⟨_, _, Try.underlying23, rfl, rfl, inferInstanceAs (One Try.prog 3)⟩
instance : FldOne Try.prog 23 2 2 := ⟨_, _, Try.underlying23, rfl, rfl, inferInstanceAs (One Try.prog 3)⟩
instance : FldOne Try.prog 23 3 3 := ⟨_, _, Try.underlying23, rfl, rfl, inferInstanceAs (One Try.prog 3)⟩
instance : FldOne Try.prog 23 4 4 := ⟨_, _, Try.underlying23, rfl, rfl, inferInstanceAs (One Try.prog 3)⟩
instance : FldOne Try.prog 23 5 5 := ⟨_, _, Try.underlying23, rfl, rfl, inferInstanceAs (One Try.prog 3)⟩
instance : FldOne Try.prog 23 6 6 := ⟨_, _, Try.underlying23, rfl, rfl, inferInstanceAs (One Try.prog 3)⟩
instance : AggT Try.prog 24 15 := ⟨⟨_, Try.underlying24, rfl⟩, by kernel_rfl⟩
instance : FldOne Try.prog 24 1 7 := ⟨_, _, Try.underlying24, rfl, rfl, inferInstanceAs (One Try.prog 3)⟩
instance : FldOne Try.prog 24 2 8 := ⟨_, _, Try.underlying24, rfl, rfl, inferInstanceAs (One Try.prog 3)⟩
instance : FldOne Try.prog 24 3 9 := ⟨_, _, Try.underlying24, rfl, rfl, inferInstanceAs (One Try.prog 3)⟩
instance : FldOne Try.prog 24 4 10 := ⟨_, _, Try.underlying24, rfl, rfl, inferInstanceAs (One Try.prog 3)⟩
instance : FldOne Try.prog 24 5 11 := ⟨_, _, Try.underlying24, rfl, rfl, inferInstanceAs (One Try.prog 3)⟩
instance : FldOne Try.prog 24 6 12 := ⟨_, _, Try.underlying24, rfl, rfl, inferInstanceAs (One Try.prog 3)⟩
instance : FldOne Try.prog 24 7 13 := ⟨_, _, Try.underlying24, rfl, rfl, inferInstanceAs (One Try.prog 3)⟩
instance : FldOne Try.prog 24 8 14 := ⟨_, _, Try.underlying24, rfl, rfl, inferInstanceAs (One Try.prog 3)⟩
instance : AggT Try.prog 25 15 := ⟨⟨_, Try.underlying25, rfl⟩, by kernel_rfl⟩
instance : FldOne Try.prog 25 1 7 := ⟨_, _, Try.underlying25, rfl, rfl, inferInstanceAs (One Try.prog 3)⟩
instance : FldOne Try.prog 25 2 8 := ⟨_, _, Try.underlying25, rfl, rfl, inferInstanceAs (One Try.prog 3)⟩
instance : FldOne Try.prog 25 3 9 := ⟨_, _, Try.underlying25, rfl, rfl, inferInstanceAs (One Try.prog 3)⟩
instance : FldOne Try.prog 25 4 10 := ⟨_, _, Try.underlying25, rfl, rfl, inferInstanceAs (One Try.prog 3)⟩
instance : FldOne Try.prog 25 5 11 := ⟨_, _, Try.underlying25, rfl, rfl, inferInstanceAs (One Try.prog 3)⟩
instance : FldOne Try.prog 25 6 12 := ⟨_, _, Try.underlying25, rfl, rfl, inferInstanceAs (One Try.prog 3)⟩
instance : FldOne Try.prog 25 7 13 := ⟨_, _, Try.underlying25, rfl, rfl, inferInstanceAs (One Try.prog 3)⟩
instance : FldOne Try.prog 25 8 14 := ⟨_, _, Try.underlying25, rfl, rfl, inferInstanceAs (One Try.prog 3)⟩
instance : ElemZ Try.prog 26 (.int .i64 0) 8 := ⟨by kernel_rfl, rfl⟩
instance : IntT Try.prog 26 .i64 := ⟨by kernel_rfl⟩
instance : ElemZ Try.prog 34 (.slice none 0 0) 24 := ⟨by kernel_rfl, rfl⟩
instance : AggT Try.prog 38 3 := ⟨⟨_, Try.underlying38, rfl⟩, by kernel_rfl⟩
instance : EqT Try.prog 38 [.i .i64, .i .i64, .i .i64] := ⟨by kernel_rfl, by kernel_rfl, by kernel_rfl, by kernel_rfl⟩
instance : FldOne Try.prog 38 0 0 := ⟨_, _, Try.underlying38, rfl, rfl, inferInstanceAs (One Try.prog 3)⟩
instance : FldOne Try.prog 38 1 1 := ⟨_, _, Try.underlying38, rfl, rfl, inferInstanceAs (One Try.prog 3)⟩
instance : FldOne Try.prog 38 2 2 := ⟨_, _, Try.underlying38, rfl, rfl, inferInstanceAs (One Try.prog 3)⟩
instance : AggT Try.prog 39 3 := ⟨⟨_, Try.underlying39, rfl⟩, by kernel_rfl⟩
instance : EqT Try.prog 39 [.i .i64, .i .i64, .i .i64] := ⟨by kernel_rfl, by kernel_rfl, by kernel_rfl, by kernel_rfl⟩
instance : FldOne Try.prog 39 0 0 := ⟨_, _, Try.underlying39, rfl, rfl, inferInstanceAs (One Try.prog 3)⟩
instance : FldOne Try.prog 39 1 1 := ⟨_, _, Try.underlying39, rfl, rfl, inferInstanceAs (One Try.prog 3)⟩
instance : FldOne Try.prog 39 2 2 := ⟨_, _, Try.underlying39, rfl, rfl, inferInstanceAs (One Try.prog 3)⟩
instance : ArrT Try.prog 41 2 3 1 := ⟨by kernel_rfl, fun _ => by kernel_rfl⟩
instance : AggT Try.prog 41 2 := ⟨⟨_, Try.underlying41, rfl⟩, by kernel_rfl⟩
instance : ElemZ Try.prog 47 (.slice none 0 0) 24 := ⟨by kernel_rfl, rfl⟩
instance : ElemZ Try.prog 53 (.slice none 0 0) 24 := ⟨by kernel_rfl, rfl⟩
instance : ElemZ Try.prog 57 (.slice none 0 0) 24 := ⟨by kernel_rfl, rfl⟩
instance : ElemZ Try.prog 58 (.int .u64 0) 8 := ⟨by kernel_rfl, rfl⟩
instance : IntT Try.prog 58 .u64 := ⟨by kernel_rfl⟩
instance : AggT Try.prog 59 7 := ⟨⟨_, Try.underlying59, rfl⟩, by kernel_rfl⟩
instance : EqT Try.prog 59 [.i .i64, .i .i64, .i .i64, .i .u64, .i .u64, .i .u64, .i .u64] := ⟨by kernel_rfl, by kernel_rfl, by kernel_rfl, by kernel_rfl⟩
instance : FldOne Try.prog 59 0 0 := ⟨_, _, Try.underlying59, rfl, rfl, inferInstanceAs (One Try.prog 3)⟩
instance : FldOne Try.prog 59 1 1 := ⟨_, _, Try.underlying59, rfl, rfl, inferInstanceAs (One Try.prog 3)⟩
instance : FldOne Try.prog 59 2 2 := ⟨_, _, Try.underlying59, rfl, rfl, inferInstanceAs (One Try.prog 3)⟩
instance : FldOne Try.prog 59 3 3 := ⟨_, _, Try.underlying59, rfl, rfl, inferInstanceAs (One Try.prog 58)⟩
instance : FldOne Try.prog 59 4 4 := ⟨_, _, Try.underlying59, rfl, rfl, inferInstanceAs (One Try.prog 58)⟩
instance : FldOne Try.prog 59 5 5 := ⟨_, _, Try.underlying59, rfl, rfl, inferInstanceAs (One Try.prog 58)⟩
instance : FldOne Try.prog 59 6 6 := ⟨_, _, Try.underlying59, rfl, rfl, inferInstanceAs (One Try.prog 58)⟩
instance : AggT Try.prog 60 7 := ⟨⟨_, Try.underlying60, rfl⟩, by kernel_rfl⟩
instance : EqT Try.prog 60 [.i .i64, .i .i64, .i .i64, .i .u64, .i .u64, .i .u64, .i .u64] := ⟨by kernel_rfl, by kernel_rfl, by kernel_rfl, by kernel_rfl⟩
instance : FldOne Try.prog 60 0 0 := ⟨_, _, Try.underlying60, rfl, rfl, inferInstanceAs (One Try.prog 3)⟩
instance : FldOne Try.prog 60 1 1 := ⟨_, _, Try.underlying60, rfl, rfl, inferInstanceAs (One Try.prog 3)⟩
instance : FldOne Try.prog 60 2 2 := ⟨_, _, Try.underlying60, rfl, rfl, inferInstanceAs (One Try.prog 3)⟩
instance : FldOne Try.prog 60 3 3 := ⟨_, _, Try.underlying60, rfl, rfl, inferInstanceAs (One Try.prog 58)⟩
instance : FldOne Try.prog 60 4 4 := ⟨_, _, Try.underlying60, rfl, rfl, inferInstanceAs (One Try.prog 58)⟩
instance : FldOne Try.prog 60 5 5 := ⟨_, _, Try.underlying60, rfl, rfl, inferInstanceAs (One Try.prog 58)⟩
instance : FldOne Try.prog 60 6 6 := ⟨_, _, Try.underlying60, rfl, rfl, inferInstanceAs (One Try.prog 58)⟩
instance : ElemZ Try.prog 62 (.pointer none) 8 := ⟨by kernel_rfl, rfl⟩
instance : ElemZ Try.prog 70 (.slice none 0 0) 24 := ⟨by kernel_rfl, rfl⟩
instance : ElemZ Try.prog 76 (.slice none 0 0) 24 := ⟨by kernel_rfl, rfl⟩
instance : ElemZ Try.prog 77 (.slice none 0 0) 24 := ⟨by kernel_rfl, rfl⟩
instance : AggT Try.prog 81 4 := ⟨⟨_, Try.underlying81, rfl⟩, by kernel_rfl⟩
instance : EqT Try.prog 81 [.i .i64, .i .i64, .i .i64, .b] := ⟨by kernel_rfl, by kernel_rfl, by kernel_rfl, by kernel_rfl⟩
instance : FldOne Try.prog 81 0 0 := ⟨_, _, Try.underlying81, rfl, rfl, inferInstanceAs (One Try.prog 3)⟩
instance : FldOne Try.prog 81 1 1 := ⟨_, _, Try.underlying81, rfl, rfl, inferInstanceAs (One Try.prog 3)⟩
instance : FldOne Try.prog 81 2 2 := ⟨_, _, Try.underlying81, rfl, rfl, inferInstanceAs (One Try.prog 3)⟩
instance : FldOne Try.prog 81 3 3 := ⟨_, _, Try.underlying81, rfl, rfl, inferInstanceAs (One Try.prog 4)⟩
instance : AggT Try.prog 82 4 := ⟨⟨_, Try.underlying82, rfl⟩, by kernel_rfl⟩
instance : EqT Try.prog 82 [.i .i64, .i .i64, .i .i64, .b] := ⟨by kernel_rfl, by kernel_rfl, by kernel_rfl, by kernel_rfl⟩
instance : FldOne Try.prog 82 0 0 := ⟨_, _, Try.underlying82, rfl, rfl, inferInstanceAs (One Try.prog 3)⟩
instance : FldOne Try.prog 82 1 1 := ⟨_, _, Try.underlying82, rfl, rfl, inferInstanceAs (One Try.prog 3)⟩
instance : FldOne Try.prog 82 2 2 := ⟨_, _, Try.underlying82, rfl, rfl, inferInstanceAs (One Try.prog 3)⟩
instance : FldOne Try.prog 82 3 3 := ⟨_, _, Try.underlying82, rfl, rfl, inferInstanceAs (One Try.prog 4)⟩
instance : AggT Try.prog 91 3 := ⟨⟨_, Try.underlying91, rfl⟩, by kernel_rfl⟩
instance : EqT Try.prog 91 [.i .i64, .i .i64, .i .i64] := ⟨by kernel_rfl, by kernel_rfl, by kernel_rfl, by kernel_rfl⟩
instance : FldOne Try.prog 91 0 0 := ⟨_, _, Try.underlying91, rfl, rfl, inferInstanceAs (One Try.prog 3)⟩
instance : FldOne Try.prog 91 1 1 := ⟨_, _, Try.underlying91, rfl, rfl, inferInstanceAs (One Try.prog 3)⟩
instance : FldOne Try.prog 91 2 2 := ⟨_, _, Try.underlying91, rfl, rfl, inferInstanceAs (One Try.prog 3)⟩
instance : AggT Try.prog 92 3 := ⟨⟨_, Try.underlying92, rfl⟩, by kernel_rfl⟩
instance : EqT Try.prog 92 [.i .i64, .i .i64, .i .i64] := ⟨by kernel_rfl, by kernel_rfl, by kernel_rfl, by kernel_rfl⟩
instance : FldOne Try.prog 92 0 0 := ⟨_, _, Try.underlying92, rfl, rfl, inferInstanceAs (One Try.prog 3)⟩
instance : FldOne Try.prog 92 1 1 := ⟨_, _, Try.underlying92, rfl, rfl, inferInstanceAs (One Try.prog 3)⟩
instance : FldOne Try.prog 92 2 2 := ⟨_, _, Try.underlying92, rfl, rfl, inferInstanceAs (One Try.prog 3)⟩
instance : AggT Try.prog 99 4 := ⟨⟨_, Try.underlying99, rfl⟩, by kernel_rfl⟩
instance : FldOne Try.prog 99 0 0 := ⟨_, _, Try.underlying99, rfl, rfl, inferInstanceAs (One Try.prog 57)⟩
instance : FldOne Try.prog 99 1 1 := ⟨_, _, Try.underlying99, rfl, rfl, inferInstanceAs (One Try.prog 3)⟩
instance : FldOne Try.prog 99 2 2 := ⟨_, _, Try.underlying99, rfl, rfl, inferInstanceAs (One Try.prog 4)⟩
instance : FldOne Try.prog 99 3 3 := ⟨_, _, Try.underlying99, rfl, rfl, inferInstanceAs (One Try.prog 77)⟩
instance : AggT Try.prog 100 4 := ⟨⟨_, Try.underlying100, rfl⟩, by kernel_rfl⟩
instance : FldOne Try.prog 100 0 0 := ⟨_, _, Try.underlying100, rfl, rfl, inferInstanceAs (One Try.prog 57)⟩
instance : FldOne Try.prog 100 1 1 := ⟨_, _, Try.underlying100, rfl, rfl, inferInstanceAs (One Try.prog 3)⟩
instance : FldOne Try.prog 100 2 2 := ⟨_, _, Try.underlying100, rfl, rfl, inferInstanceAs (One Try.prog 4)⟩
instance : FldOne Try.prog 100 3 3 := ⟨_, _, Try.underlying100, rfl, rfl, inferInstanceAs (One Try.prog 77)⟩
instance : ElemZ Try.prog 110 (.slice none 0 0) 24 := ⟨by kernel_rfl, rfl⟩
instance : AggT Try.prog 112 4 := ⟨⟨_, Try.underlying112, rfl⟩, by kernel_rfl⟩
instance : FldOne Try.prog 112 0 0 := ⟨_, _, Try.underlying112, rfl, rfl, inferInstanceAs (One Try.prog 17)⟩
instance : FldOne Try.prog 112 1 1 := ⟨_, _, Try.underlying112, rfl, rfl, inferInstanceAs (One Try.prog 17)⟩
instance : FldOne Try.prog 112 2 2 := ⟨_, _, Try.underlying112, rfl, rfl, inferInstanceAs (One Try.prog 17)⟩
instance : FldOne Try.prog 112 3 3 := ⟨_, _, Try.underlying112, rfl, rfl, inferInstanceAs (One Try.prog 9)⟩
instance : AggT Try.prog 113 4 := ⟨⟨_, Try.underlying113, rfl⟩, by kernel_rfl⟩
instance : FldOne Try.prog 113 0 0 := ⟨_, _, Try.underlying113, rfl, rfl, inferInstanceAs (One Try.prog 17)⟩
instance : FldOne Try.prog 113 1 1 := ⟨_, _, Try.underlying113, rfl, rfl, inferInstanceAs (One Try.prog 17)⟩
instance : FldOne Try.prog 113 2 2 := ⟨_, _, Try.underlying113, rfl, rfl, inferInstanceAs (One Try.prog 17)⟩
instance : FldOne Try.prog 113 3 3 := ⟨_, _, Try.underlying113, rfl, rfl, inferInstanceAs (One Try.prog 9)⟩
instance : ElemZ Try.prog 117 (.int .u32 0) 4 := ⟨by kernel_rfl, rfl⟩
instance : IntT Try.prog 117 .u32 := ⟨by kernel_rfl⟩
instance : ElemZ Try.prog 118 (.int .u8 0) 1 := ⟨by kernel_rfl, rfl⟩
instance : IntT Try.prog 118 .u8 := ⟨by kernel_rfl⟩
instance : ElemZ Try.prog 119 (.int .u8 0) 1 := ⟨by kernel_rfl, rfl⟩
instance : IntT Try.prog 119 .u8 := ⟨by kernel_rfl⟩
instance : ElemZ Try.prog 121 (.pointer none) 8 := ⟨by kernel_rfl, rfl⟩
instance : ElemZ Try.prog 122 (.int .i32 0) 4 := ⟨by kernel_rfl, rfl⟩
instance : IntT Try.prog 122 .i32 := ⟨by kernel_rfl⟩
instance : ElemZ Try.prog 123 (.int .i32 0) 4 := ⟨by kernel_rfl, rfl⟩
instance : IntT Try.prog 123 .i32 := ⟨by kernel_rfl⟩
instance : AggT Try.prog 124 11 := ⟨⟨_, Try.underlying124, rfl⟩, by kernel_rfl⟩
instance : FldOne Try.prog 124 0 0 := ⟨_, _, Try.underlying124, rfl, rfl, inferInstanceAs (One Try.prog 12)⟩
instance : FldOne Try.prog 124 1 1 := ⟨_, _, Try.underlying124, rfl, rfl, inferInstanceAs (One Try.prog 12)⟩
instance : FldOne Try.prog 124 2 2 := ⟨_, _, Try.underlying124, rfl, rfl, inferInstanceAs (One Try.prog 117)⟩
instance : FldOne Try.prog 124 3 3 := ⟨_, _, Try.underlying124, rfl, rfl, inferInstanceAs (One Try.prog 118)⟩
instance : FldOne Try.prog 124 4 4 := ⟨_, _, Try.underlying124, rfl, rfl, inferInstanceAs (One Try.prog 5)⟩
instance : FldOne Try.prog 124 5 5 := ⟨_, _, Try.underlying124, rfl, rfl, inferInstanceAs (One Try.prog 5)⟩
instance : FldOne Try.prog 124 6 6 := ⟨_, _, Try.underlying124, rfl, rfl, inferInstanceAs (One Try.prog 119)⟩
instance : FldOne Try.prog 124 7 7 := ⟨_, _, Try.underlying124, rfl, rfl, inferInstanceAs (One Try.prog 120)⟩
instance : FldOne Try.prog 124 8 8 := ⟨_, _, Try.underlying124, rfl, rfl, inferInstanceAs (One Try.prog 121)⟩
instance : FldOne Try.prog 124 9 9 := ⟨_, _, Try.underlying124, rfl, rfl, inferInstanceAs (One Try.prog 122)⟩
instance : FldOne Try.prog 124 10 10 := ⟨_, _, Try.underlying124, rfl, rfl, inferInstanceAs (One Try.prog 123)⟩
instance : AggT Try.prog 125 11 := ⟨⟨_, Try.underlying125, rfl⟩, by kernel_rfl⟩
instance : FldOne Try.prog 125 0 0 := ⟨_, _, Try.underlying125, rfl, rfl, inferInstanceAs (One Try.prog 12)⟩
instance : FldOne Try.prog 125 1 1 := ⟨_, _, Try.underlying125, rfl, rfl, inferInstanceAs (One Try.prog 12)⟩
instance : FldOne Try.prog 125 2 2 := ⟨_, _, Try.underlying125, rfl, rfl, inferInstanceAs (One Try.prog 117)⟩
instance : FldOne Try.prog 125 3 3 := ⟨_, _, Try.underlying125, rfl, rfl, inferInstanceAs (One Try.prog 118)⟩
instance : FldOne Try.prog 125 4 4 := ⟨_, _, Try.underlying125, rfl, rfl, inferInstanceAs (One Try.prog 5)⟩
instance : FldOne Try.prog 125 5 5 := ⟨_, _, Try.underlying125, rfl, rfl, inferInstanceAs (One Try.prog 5)⟩
instance : FldOne Try.prog 125 6 6 := ⟨_, _, Try.underlying125, rfl, rfl, inferInstanceAs (One Try.prog 119)⟩
instance : FldOne Try.prog 125 7 7 := ⟨_, _, Try.underlying125, rfl, rfl, inferInstanceAs (One Try.prog 120)⟩
instance : FldOne Try.prog 125 8 8 := ⟨_, _, Try.underlying125, rfl, rfl, inferInstanceAs (One Try.prog 121)⟩
instance : FldOne Try.prog 125 9 9 := ⟨_, _, Try.underlying125, rfl, rfl, inferInstanceAs (One Try.prog 122)⟩
instance : FldOne Try.prog 125 10 10 := ⟨_, _, Try.underlying125, rfl, rfl, inferInstanceAs (One Try.prog 123)⟩
instance : HasBody Try.prog 3 := ⟨fun _ _ => by kernel_rfl⟩
instance : HasBody Try.prog 4 := ⟨fun _ _ => by kernel_rfl⟩
instance : HasBody Try.prog 5 := ⟨fun _ _ => by kernel_rfl⟩
instance : HasBody Try.prog 6 := ⟨fun _ _ => by kernel_rfl⟩
instance : HasBody Try.prog 7 := ⟨fun _ _ => by kernel_rfl⟩
instance : HasBody Try.prog 8 := ⟨fun _ _ => by kernel_rfl⟩
instance : HasBody Try.prog 9 := ⟨fun _ _ => by kernel_rfl⟩
instance : HasBody Try.prog 10 := ⟨fun _ _ => by kernel_rfl⟩
instance : HasBody Try.prog 11 := ⟨fun _ _ => by kernel_rfl⟩
instance : HasBody Try.prog 12 := ⟨fun _ _ => by kernel_rfl⟩
instance : HasBody Try.prog 13 := ⟨fun _ _ => by kernel_rfl⟩
instance : HasBody Try.prog 14 := ⟨fun _ _ => by kernel_rfl⟩
instance : HasBody Try.prog 15 := ⟨fun _ _ => by kernel_rfl⟩
instance : HasBody Try.prog 16 := ⟨fun _ _ => by kernel_rfl⟩
instance : HasBody Try.prog 17 := ⟨fun _ _ => by kernel_rfl⟩
instance : HasBody Try.prog 18 := ⟨fun _ _ => by kernel_rfl⟩
instance : HasBody Try.prog 19 := ⟨fun _ _ => by kernel_rfl⟩
instance : HasBody Try.prog 20 := ⟨fun _ _ => by kernel_rfl⟩
instance : HasBody Try.prog 21 := ⟨fun _ _ => by kernel_rfl⟩
instance : HasBody Try.prog 22 := ⟨fun _ _ => by kernel_rfl⟩
instance : HasBody Try.prog 23 := ⟨fun _ _ => by kernel_rfl⟩
instance : HasBody Try.prog 24 := ⟨fun _ _ => by kernel_rfl⟩
instance : HasBody Try.prog 25 := ⟨fun _ _ => by kernel_rfl⟩
instance : HasBody Try.prog 26 := ⟨fun _ _ => by kernel_rfl⟩
instance : HasBody Try.prog 27 := ⟨fun _ _ => by kernel_rfl⟩
instance : HasBody Try.prog 28 := ⟨fun _ _ => by kernel_rfl⟩
instance : HasBody Try.prog 29 := ⟨fun _ _ => by kernel_rfl⟩
instance : HasBody Try.prog 30 := ⟨fun _ _ => by kernel_rfl⟩
instance : HasBody Try.prog 31 := ⟨fun _ _ => by kernel_rfl⟩
instance : HasBody Try.prog 32 := ⟨fun _ _ => by kernel_rfl⟩
instance : HasBody Try.prog 33 := ⟨fun _ _ => by kernel_rfl⟩
instance : HasBody Try.prog 34 := ⟨fun _ _ => by kernel_rfl⟩
instance : HasBody Try.prog 35 := ⟨fun _ _ => by kernel_rfl⟩
instance : HasBody Try.prog 36 := ⟨fun _ _ => by kernel_rfl⟩
instance : HasBody Try.prog 37 := ⟨fun _ _ => by kernel_rfl⟩
instance : HasBody Try.prog 38 := ⟨fun _ _ => by kernel_rfl⟩
instance : HasBody Try.prog 39 := ⟨fun _ _ => by kernel_rfl⟩
instance : HasBody Try.prog 40 := ⟨fun _ _ => by kernel_rfl⟩
instance : HasBody Try.prog 41 := ⟨fun _ _ => by kernel_rfl⟩
instance : HasBody Try.prog 42 := ⟨fun _ _ => by kernel_rfl⟩
instance : HasBody Try.prog 43 := ⟨fun _ _ => by kernel_rfl⟩
instance : HasBody Try.prog 44 := ⟨fun _ _ => by kernel_rfl⟩
instance : HasBody Try.prog 45 := ⟨fun _ _ => by kernel_rfl⟩
instance : HasBody Try.prog 46 := ⟨fun _ _ => by kernel_rfl⟩
instance : HasBody Try.prog 47 := ⟨fun _ _ => by kernel_rfl⟩
instance : HasBody Try.prog 48 := ⟨fun _ _ => by kernel_rfl⟩
instance : HasBody Try.prog 49 := ⟨fun _ _ => by kernel_rfl⟩
instance : HasBody Try.prog 50 := ⟨fun _ _ => by kernel_rfl⟩
instance : HasBody Try.prog 51 := ⟨fun _ _ => by kernel_rfl⟩
instance : HasBody Try.prog 52 := ⟨fun _ _ => by kernel_rfl⟩
instance : HasBody Try.prog 53 := ⟨fun _ _ => by kernel_rfl⟩
instance : HasBody Try.prog 54 := ⟨fun _ _ => by kernel_rfl⟩
instance : HasBody Try.prog 55 := ⟨fun _ _ => by kernel_rfl⟩
instance : HasBody Try.prog 56 := ⟨fun _ _ => by kernel_rfl⟩
instance : HasBody Try.prog 57 := ⟨fun _ _ => by kernel_rfl⟩
instance : HasBody Try.prog 58 := ⟨fun _ _ => by kernel_rfl⟩
instance : HasBody Try.prog 59 := ⟨fun _ _ => by kernel_rfl⟩
instance : HasBody Try.prog 60 := ⟨fun _ _ => by kernel_rfl⟩
instance : HasBody Try.prog 61 := ⟨fun _ _ => by kernel_rfl⟩
instance : HasBody Try.prog 62 := ⟨fun _ _ => by kernel_rfl⟩
instance : HasBody Try.prog 63 := ⟨fun _ _ => by kernel_rfl⟩
instance : HasBody Try.prog 64 := ⟨fun _ _ => by kernel_rfl⟩
instance : HasBody Try.prog 65 := ⟨fun _ _ => by kernel_rfl⟩
instance : HasBody Try.prog 66 := ⟨fun _ _ => by kernel_rfl⟩
instance : HasBody Try.prog 67 := ⟨fun _ _ => by kernel_rfl⟩
instance : HasBody Try.prog 68 := ⟨fun _ _ => by kernel_rfl⟩
instance : HasBody Try.prog 69 := ⟨fun _ _ => by kernel_rfl⟩
instance : HasBody Try.prog 70 := ⟨fun _ _ => by kernel_rfl⟩
instance : HasBody Try.prog 71 := ⟨fun _ _ => by kernel_rfl⟩
instance : HasBody Try.prog 72 := ⟨fun _ _ => by kernel_rfl⟩
instance : HasBody Try.prog 73 := ⟨fun _ _ => by kernel_rfl⟩
instance : HasBody Try.prog 74 := ⟨fun _ _ => by kernel_rfl⟩
instance : HasBody Try.prog 75 := ⟨fun _ _ => by kernel_rfl⟩
instance : HasBody Try.prog 76 := ⟨fun _ _ => by kernel_rfl⟩
instance : HasBody Try.prog 77 := ⟨fun _ _ => by kernel_rfl⟩
end Go.Proofs.Ytjninopakpfklaa
