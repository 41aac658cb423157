/- What the reader asks of types and functions, closed facts of this program. -/
import Derived.Test.YtklbeipdigancaaV8
namespace Go.Proofs.Ytklbeipdigancaa
open Go.RowKit
instance : Mixed Try.prog := ⟨by kernel_rfl⟩
instance : One Try.prog 1 := ⟨fun _ => by kernel_rfl, fun _ => by kernel_rfl⟩
instance : One Try.prog 2 := ⟨fun _ => by kernel_rfl, fun _ => by kernel_rfl⟩
instance : One Try.prog 3 := ⟨fun _ => by kernel_rfl, fun _ => by kernel_rfl⟩
instance : One Try.prog 4 := ⟨fun _ => by kernel_rfl, fun _ => by kernel_rfl⟩
instance : One Try.prog 5 := ⟨fun _ => by kernel_rfl, fun _ => by kernel_rfl⟩
instance : One Try.prog 6 := ⟨fun _ => by kernel_rfl, fun _ => by kernel_rfl⟩
instance : FOff Try.prog 7 0 0 := ⟨fun _ _ _ => by kernel_rfl⟩
instance : FOff Try.prog 7 1 1 := ⟨fun _ _ _ => by kernel_rfl⟩
instance : FOff Try.prog 7 2 2 := ⟨fun _ _ _ => by kernel_rfl⟩
instance : FOff Try.prog 7 3 3 := ⟨fun _ _ _ => by kernel_rfl⟩
instance : FOff Try.prog 8 0 0 := ⟨fun _ _ _ => by kernel_rfl⟩
instance : FOff Try.prog 8 1 1 := ⟨fun _ _ _ => by kernel_rfl⟩
instance : FOff Try.prog 8 2 2 := ⟨fun _ _ _ => by kernel_rfl⟩
instance : FOff Try.prog 8 3 3 := ⟨fun _ _ _ => by kernel_rfl⟩
instance : StrT Try.prog 9 := ⟨by kernel_rfl⟩
instance : One Try.prog 9 := ⟨fun _ => by kernel_rfl, fun _ => by kernel_rfl⟩
instance : StrT Try.prog 10 := ⟨by kernel_rfl⟩
instance : One Try.prog 10 := ⟨fun _ => by kernel_rfl, fun _ => by kernel_rfl⟩
instance : StrT Try.prog 11 := ⟨by kernel_rfl⟩
instance : One Try.prog 11 := ⟨fun _ => by kernel_rfl, fun _ => by kernel_rfl⟩
instance : One Try.prog 12 := ⟨fun _ => by kernel_rfl, fun _ => by kernel_rfl⟩
instance : FOff Try.prog 13 0 0 := ⟨fun _ _ _ => by kernel_rfl⟩
instance : FOff Try.prog 13 1 1 := ⟨fun _ _ _ => by kernel_rfl⟩
instance : FOff Try.prog 14 0 0 := ⟨fun _ _ _ => by kernel_rfl⟩
instance : FOff Try.prog 14 1 1 := ⟨fun _ _ _ => by kernel_rfl⟩
instance : PtrT Try.prog 15 := ⟨by kernel_rfl⟩
instance : One Try.prog 15 := ⟨fun _ => by kernel_rfl, fun _ => by kernel_rfl⟩
instance : PtrT Try.prog 16 := ⟨by kernel_rfl⟩
instance : One Try.prog 16 := ⟨fun _ => by kernel_rfl, fun _ => by kernel_rfl⟩
instance : PtrT Try.prog 17 := ⟨by kernel_rfl⟩
instance : One Try.prog 17 := ⟨fun _ => by kernel_rfl, fun _ => by kernel_rfl⟩
instance : FOff Try.prog 18 0 0 := ⟨fun _ _ _ => by kernel_rfl⟩
instance : FOff Try.prog 19 0 0 := ⟨fun _ _ _ => by kernel_rfl⟩
instance : One Try.prog 20 := ⟨fun _ => by kernel_rfl, fun _ => by kernel_rfl⟩
instance : One Try.prog 21 := ⟨fun _ => by kernel_rfl, fun _ => by kernel_rfl⟩
instance : FOff Try.prog 22 0 0 := ⟨fun _ _ _ => by kernel_rfl⟩
instance : FOff Try.prog 22 1 1 := ⟨fun _ _ _ => by kernel_rfl⟩
instance : FOff Try.prog 22 2 2 := ⟨fun _ _ _ => by kernel_rfl⟩
instance : FOff Try.prog 22 3 3 := ⟨fun _ _ _ => by kernel_rfl⟩
instance : FOff Try.prog 22 4 4 := ⟨fun _ _ _ => by kernel_rfl⟩
instance : FOff Try.prog 22 5 5 := ⟨fun _ _ _ => by kernel_rfl⟩
instance : FOff Try.prog 22 6 6 := ⟨fun _ _ _ => by kernel_rfl⟩
instance : FOff Try.prog 23 0 0 := ⟨fun _ _ _ => by kernel_rfl⟩
instance : FOff Try.prog 23 1 1 := ⟨fun _ _ _ => by kernel_rfl⟩
instance : FOff Try.prog 23 2 2 := ⟨fun _ _ _ => by kernel_rfl⟩
instance : FOff Try.prog 23 3 3 := ⟨fun _ _ _ => by kernel_rfl⟩
instance : FOff Try.prog 23 4 4 := ⟨fun _ _ _ => by kernel_rfl⟩
instance : FOff Try.prog 23 5 5 := ⟨fun _ _ _ => by kernel_rfl⟩
instance : FOff Try.prog 23 6 6 := ⟨fun _ _ _ => by kernel_rfl⟩
instance : SlT Try.prog 24 3 1 := ⟨by kernel_rfl, fun _ => by kernel_rfl⟩
instance : One Try.prog 24 := ⟨fun _ => by kernel_rfl, fun _ => by kernel_rfl⟩
instance : One Try.prog 25 := ⟨fun _ => by kernel_rfl, fun _ => by kernel_rfl⟩
instance : One Try.prog 26 := ⟨fun _ => by kernel_rfl, fun _ => by kernel_rfl⟩
instance : PtrT Try.prog 27 := ⟨by kernel_rfl⟩
instance : One Try.prog 27 := ⟨fun _ => by kernel_rfl, fun _ => by kernel_rfl⟩
instance : One Try.prog 28 := ⟨fun _ => by kernel_rfl, fun _ => by kernel_rfl⟩
instance : One Try.prog 30 := ⟨fun _ => by kernel_rfl, fun _ => by kernel_rfl⟩
instance : PtrT Try.prog 31 := ⟨by kernel_rfl⟩
instance : One Try.prog 31 := ⟨fun _ => by kernel_rfl, fun _ => by kernel_rfl⟩
instance : One Try.prog 32 := ⟨fun _ => by kernel_rfl, fun _ => by kernel_rfl⟩
instance : PtrT Try.prog 33 := ⟨by kernel_rfl⟩
instance : One Try.prog 33 := ⟨fun _ => by kernel_rfl, fun _ => by kernel_rfl⟩
instance : One Try.prog 34 := ⟨fun _ => by kernel_rfl, fun _ => by kernel_rfl⟩
instance : One Try.prog 35 := ⟨fun _ => by kernel_rfl, fun _ => by kernel_rfl⟩
instance : One Try.prog 36 := ⟨fun _ => by kernel_rfl, fun _ => by kernel_rfl⟩
instance : SlT Try.prog 37 79 12 := ⟨by kernel_rfl, fun _ => by kernel_rfl⟩
instance : One Try.prog 37 := ⟨fun _ => by kernel_rfl, fun _ => by kernel_rfl⟩
instance : SlT Try.prog 39 36 1 := ⟨by kernel_rfl, fun _ => by kernel_rfl⟩
instance : One Try.prog 39 := ⟨fun _ => by kernel_rfl, fun _ => by kernel_rfl⟩
instance : FOff Try.prog 40 0 0 := ⟨fun _ _ _ => by kernel_rfl⟩
instance : FOff Try.prog 41 0 0 := ⟨fun _ _ _ => by kernel_rfl⟩
instance : FOff Try.prog 42 0 0 := ⟨fun _ _ _ => by kernel_rfl⟩
instance : FOff Try.prog 42 1 1 := ⟨fun _ _ _ => by kernel_rfl⟩
instance : FOff Try.prog 42 2 2 := ⟨fun _ _ _ => by kernel_rfl⟩
instance : FOff Try.prog 42 3 5 := ⟨fun _ _ _ => by kernel_rfl⟩
instance : FOff Try.prog 42 4 6 := ⟨fun _ _ _ => by kernel_rfl⟩
instance : FOff Try.prog 42 5 7 := ⟨fun _ _ _ => by kernel_rfl⟩
instance : FOff Try.prog 42 6 8 := ⟨fun _ _ _ => by kernel_rfl⟩
instance : FOff Try.prog 42 7 9 := ⟨fun _ _ _ => by kernel_rfl⟩
instance : FOff Try.prog 43 0 0 := ⟨fun _ _ _ => by kernel_rfl⟩
instance : FOff Try.prog 43 1 1 := ⟨fun _ _ _ => by kernel_rfl⟩
instance : FOff Try.prog 43 2 2 := ⟨fun _ _ _ => by kernel_rfl⟩
instance : FOff Try.prog 43 3 5 := ⟨fun _ _ _ => by kernel_rfl⟩
instance : FOff Try.prog 43 4 6 := ⟨fun _ _ _ => by kernel_rfl⟩
instance : FOff Try.prog 43 5 7 := ⟨fun _ _ _ => by kernel_rfl⟩
instance : FOff Try.prog 43 6 8 := ⟨fun _ _ _ => by kernel_rfl⟩
instance : FOff Try.prog 43 7 9 := ⟨fun _ _ _ => by kernel_rfl⟩
instance : PtrT Try.prog 44 := ⟨by kernel_rfl⟩
instance : One Try.prog 44 := ⟨fun _ => by kernel_rfl, fun _ => by kernel_rfl⟩
instance : One Try.prog 45 := ⟨fun _ => by kernel_rfl, fun _ => by kernel_rfl⟩
instance : One Try.prog 46 := ⟨fun _ => by kernel_rfl, fun _ => by kernel_rfl⟩
instance : One Try.prog 47 := ⟨fun _ => by kernel_rfl, fun _ => by kernel_rfl⟩
instance : One Try.prog 48 := ⟨fun _ => by kernel_rfl, fun _ => by kernel_rfl⟩
instance : One Try.prog 49 := ⟨fun _ => by kernel_rfl, fun _ => by kernel_rfl⟩
instance : PtrT Try.prog 50 := ⟨by kernel_rfl⟩
instance : One Try.prog 50 := ⟨fun _ => by kernel_rfl, fun _ => by kernel_rfl⟩
instance : One Try.prog 51 := ⟨fun _ => by kernel_rfl, fun _ => by kernel_rfl⟩
instance : One Try.prog 52 := ⟨fun _ => by kernel_rfl, fun _ => by kernel_rfl⟩
instance : One Try.prog 53 := ⟨fun _ => by kernel_rfl, fun _ => by kernel_rfl⟩
instance : FOff Try.prog 54 0 0 := ⟨fun _ _ _ => by kernel_rfl⟩
instance : FOff Try.prog 54 1 7 := ⟨fun _ _ _ => by kernel_rfl⟩
instance : FOff Try.prog 54 2 8 := ⟨fun _ _ _ => by kernel_rfl⟩
instance : FOff Try.prog 54 3 9 := ⟨fun _ _ _ => by kernel_rfl⟩
instance : FOff Try.prog 54 4 10 := ⟨fun _ _ _ => by kernel_rfl⟩
instance : FOff Try.prog 54 5 11 := ⟨fun _ _ _ => by kernel_rfl⟩
instance : FOff Try.prog 54 6 12 := ⟨fun _ _ _ => by kernel_rfl⟩
instance : FOff Try.prog 54 7 13 := ⟨fun _ _ _ => by kernel_rfl⟩
instance : FOff Try.prog 54 8 14 := ⟨fun _ _ _ => by kernel_rfl⟩
instance : FOff Try.prog 55 0 0 := ⟨fun _ _ _ => by kernel_rfl⟩
instance : FOff Try.prog 55 1 7 := ⟨fun _ _ _ => by kernel_rfl⟩
instance : FOff Try.prog 55 2 8 := ⟨fun _ _ _ => by kernel_rfl⟩
instance : FOff Try.prog 55 3 9 := ⟨fun _ _ _ => by kernel_rfl⟩
instance : FOff Try.prog 55 4 10 := ⟨fun _ _ _ => by kernel_rfl⟩
instance : FOff Try.prog 55 5 11 := ⟨fun _ _ _ => by kernel_rfl⟩
instance : FOff Try.prog 55 6 12 := ⟨fun _ _ _ => by kernel_rfl⟩
instance : FOff Try.prog 55 7 13 := ⟨fun _ _ _ => by kernel_rfl⟩
instance : FOff Try.prog 55 8 14 := ⟨fun _ _ _ => by kernel_rfl⟩
instance : One Try.prog 56 := ⟨fun _ => by kernel_rfl, fun _ => by kernel_rfl⟩
instance : One Try.prog 57 := ⟨fun _ => by kernel_rfl, fun _ => by kernel_rfl⟩
instance : One Try.prog 58 := ⟨fun _ => by kernel_rfl, fun _ => by kernel_rfl⟩
instance : SlT Try.prog 59 4 1 := ⟨by kernel_rfl, fun _ => by kernel_rfl⟩
instance : One Try.prog 59 := ⟨fun _ => by kernel_rfl, fun _ => by kernel_rfl⟩
instance : One Try.prog 60 := ⟨fun _ => by kernel_rfl, fun _ => by kernel_rfl⟩
instance : One Try.prog 61 := ⟨fun _ => by kernel_rfl, fun _ => by kernel_rfl⟩
instance : One Try.prog 62 := ⟨fun _ => by kernel_rfl, fun _ => by kernel_rfl⟩
instance : One Try.prog 63 := ⟨fun _ => by kernel_rfl, fun _ => by kernel_rfl⟩
instance : One Try.prog 64 := ⟨fun _ => by kernel_rfl, fun _ => by kernel_rfl⟩
instance : SlT Try.prog 65 5 1 := ⟨by kernel_rfl, fun _ => by kernel_rfl⟩
instance : One Try.prog 65 := ⟨fun _ => by kernel_rfl, fun _ => by kernel_rfl⟩
instance : One Try.prog 67 := ⟨fun _ => by kernel_rfl, fun _ => by kernel_rfl⟩
instance : One Try.prog 69 := ⟨fun _ => by kernel_rfl, fun _ => by kernel_rfl⟩
instance : One Try.prog 70 := ⟨fun _ => by kernel_rfl, fun _ => by kernel_rfl⟩
instance : PtrT Try.prog 71 := ⟨by kernel_rfl⟩
instance : One Try.prog 71 := ⟨fun _ => by kernel_rfl, fun _ => by kernel_rfl⟩
instance : One Try.prog 72 := ⟨fun _ => by kernel_rfl, fun _ => by kernel_rfl⟩
instance : SlT Try.prog 73 31 1 := ⟨by kernel_rfl, fun _ => by kernel_rfl⟩
instance : One Try.prog 73 := ⟨fun _ => by kernel_rfl, fun _ => by kernel_rfl⟩
instance : FOff Try.prog 74 0 0 := ⟨fun _ _ _ => by kernel_rfl⟩
instance : FOff Try.prog 74 1 15 := ⟨fun _ _ _ => by kernel_rfl⟩
instance : FOff Try.prog 74 2 16 := ⟨fun _ _ _ => by kernel_rfl⟩
instance : FOff Try.prog 74 3 17 := ⟨fun _ _ _ => by kernel_rfl⟩
instance : FOff Try.prog 74 4 18 := ⟨fun _ _ _ => by kernel_rfl⟩
instance : FOff Try.prog 74 5 19 := ⟨fun _ _ _ => by kernel_rfl⟩
instance : FOff Try.prog 74 6 20 := ⟨fun _ _ _ => by kernel_rfl⟩
instance : FOff Try.prog 75 0 0 := ⟨fun _ _ _ => by kernel_rfl⟩
instance : FOff Try.prog 75 1 15 := ⟨fun _ _ _ => by kernel_rfl⟩
instance : FOff Try.prog 75 2 16 := ⟨fun _ _ _ => by kernel_rfl⟩
instance : FOff Try.prog 75 3 17 := ⟨fun _ _ _ => by kernel_rfl⟩
instance : FOff Try.prog 75 4 18 := ⟨fun _ _ _ => by kernel_rfl⟩
instance : FOff Try.prog 75 5 19 := ⟨fun _ _ _ => by kernel_rfl⟩
instance : FOff Try.prog 75 6 20 := ⟨fun _ _ _ => by kernel_rfl⟩
instance : One Try.prog 76 := ⟨fun _ => by kernel_rfl, fun _ => by kernel_rfl⟩
instance : FOff Try.prog 78 0 0 := ⟨fun _ _ _ => by kernel_rfl⟩
instance : FOff Try.prog 78 1 1 := ⟨fun _ _ _ => by kernel_rfl⟩
instance : FOff Try.prog 78 2 2 := ⟨fun _ _ _ => by kernel_rfl⟩
instance : FOff Try.prog 79 0 0 := ⟨fun _ _ _ => by kernel_rfl⟩
instance : FOff Try.prog 79 1 1 := ⟨fun _ _ _ => by kernel_rfl⟩
instance : FOff Try.prog 79 2 2 := ⟨fun _ _ _ => by kernel_rfl⟩
instance : One Try.prog 80 := ⟨fun _ => by kernel_rfl, fun _ => by kernel_rfl⟩
instance : SlT Try.prog 81 87 4 := ⟨by kernel_rfl, fun _ => by kernel_rfl⟩
instance : One Try.prog 81 := ⟨fun _ => by kernel_rfl, fun _ => by kernel_rfl⟩
instance : FOff Try.prog 82 0 0 := ⟨fun _ _ _ => by kernel_rfl⟩
instance : FOff Try.prog 82 1 1 := ⟨fun _ _ _ => by kernel_rfl⟩
instance : FOff Try.prog 82 2 2 := ⟨fun _ _ _ => by kernel_rfl⟩
instance : FOff Try.prog 82 3 3 := ⟨fun _ _ _ => by kernel_rfl⟩
instance : FOff Try.prog 83 0 0 := ⟨fun _ _ _ => by kernel_rfl⟩
instance : FOff Try.prog 83 1 1 := ⟨fun _ _ _ => by kernel_rfl⟩
instance : FOff Try.prog 83 2 2 := ⟨fun _ _ _ => by kernel_rfl⟩
instance : FOff Try.prog 83 3 3 := ⟨fun _ _ _ => by kernel_rfl⟩
instance : One Try.prog 84 := ⟨fun _ => by kernel_rfl, fun _ => by kernel_rfl⟩
instance : One Try.prog 85 := ⟨fun _ => by kernel_rfl, fun _ => by kernel_rfl⟩
instance : FOff Try.prog 86 0 0 := ⟨fun _ _ _ => by kernel_rfl⟩
instance : FOff Try.prog 86 1 1 := ⟨fun _ _ _ => by kernel_rfl⟩
instance : FOff Try.prog 86 2 2 := ⟨fun _ _ _ => by kernel_rfl⟩
instance : FOff Try.prog 86 3 3 := ⟨fun _ _ _ => by kernel_rfl⟩
instance : FOff Try.prog 87 0 0 := ⟨fun _ _ _ => by kernel_rfl⟩
instance : FOff Try.prog 87 1 1 := ⟨fun _ _ _ => by kernel_rfl⟩
instance : FOff Try.prog 87 2 2 := ⟨fun _ _ _ => by kernel_rfl⟩
instance : FOff Try.prog 87 3 3 := ⟨fun _ _ _ => by kernel_rfl⟩
instance : One Try.prog 88 := ⟨fun _ => by kernel_rfl, fun _ => by kernel_rfl⟩
instance : One Try.prog 89 := ⟨fun _ => by kernel_rfl, fun _ => by kernel_rfl⟩
instance : FOff Try.prog 90 0 0 := ⟨fun _ _ _ => by kernel_rfl⟩
instance : FOff Try.prog 90 1 1 := ⟨fun _ _ _ => by kernel_rfl⟩
instance : FOff Try.prog 91 0 0 := ⟨fun _ _ _ => by kernel_rfl⟩
instance : FOff Try.prog 91 1 1 := ⟨fun _ _ _ => by kernel_rfl⟩
instance : FOff Try.prog 92 0 0 := ⟨fun _ _ _ => by kernel_rfl⟩
instance : FOff Try.prog 92 1 1 := ⟨fun _ _ _ => by kernel_rfl⟩
instance : FOff Try.prog 93 0 0 := ⟨fun _ _ _ => by kernel_rfl⟩
instance : FOff Try.prog 93 1 1 := ⟨fun _ _ _ => by kernel_rfl⟩
instance : One Try.prog 94 := ⟨fun _ => by kernel_rfl, fun _ => by kernel_rfl⟩
instance : One Try.prog 95 := ⟨fun _ => by kernel_rfl, fun _ => by kernel_rfl⟩
instance : FOff Try.prog 96 0 0 := ⟨fun _ _ _ => by kernel_rfl⟩
instance : FOff Try.prog 96 1 1 := ⟨fun _ _ _ => by kernel_rfl⟩
instance : FOff Try.prog 96 2 2 := ⟨fun _ _ _ => by kernel_rfl⟩
instance : FOff Try.prog 97 0 0 := ⟨fun _ _ _ => by kernel_rfl⟩
instance : FOff Try.prog 97 1 1 := ⟨fun _ _ _ => by kernel_rfl⟩
instance : FOff Try.prog 97 2 2 := ⟨fun _ _ _ => by kernel_rfl⟩
instance : PtrT Try.prog 98 := ⟨by kernel_rfl⟩
instance : One Try.prog 98 := ⟨fun _ => by kernel_rfl, fun _ => by kernel_rfl⟩
instance : One Try.prog 99 := ⟨fun _ => by kernel_rfl, fun _ => by kernel_rfl⟩
instance : One Try.prog 100 := ⟨fun _ => by kernel_rfl, fun _ => by kernel_rfl⟩
instance : One Try.prog 101 := ⟨fun _ => by kernel_rfl, fun _ => by kernel_rfl⟩
instance : One Try.prog 102 := ⟨fun _ => by kernel_rfl, fun _ => by kernel_rfl⟩
instance : One Try.prog 103 := ⟨fun _ => by kernel_rfl, fun _ => by kernel_rfl⟩
instance : One Try.prog 104 := ⟨fun _ => by kernel_rfl, fun _ => by kernel_rfl⟩
instance : FOff Try.prog 105 0 0 := ⟨fun _ _ _ => by kernel_rfl⟩
instance : FOff Try.prog 105 1 1 := ⟨fun _ _ _ => by kernel_rfl⟩
instance : FOff Try.prog 106 0 0 := ⟨fun _ _ _ => by kernel_rfl⟩
instance : FOff Try.prog 106 1 1 := ⟨fun _ _ _ => by kernel_rfl⟩
instance : One Try.prog 107 := ⟨fun _ => by kernel_rfl, fun _ => by kernel_rfl⟩
instance : One Try.prog 108 := ⟨fun _ => by kernel_rfl, fun _ => by kernel_rfl⟩
instance : One Try.prog 109 := ⟨fun _ => by kernel_rfl, fun _ => by kernel_rfl⟩
instance : One Try.prog 110 := ⟨fun _ => by kernel_rfl, fun _ => by kernel_rfl⟩
instance : One Try.prog 111 := ⟨fun _ => by kernel_rfl, fun _ => by kernel_rfl⟩
instance : One Try.prog 112 := ⟨fun _ => by kernel_rfl, fun _ => by kernel_rfl⟩
instance : One Try.prog 113 := ⟨fun _ => by kernel_rfl, fun _ => by kernel_rfl⟩
instance : SlT Try.prog 114 97 3 := ⟨by kernel_rfl, fun _ => by kernel_rfl⟩
instance : One Try.prog 114 := ⟨fun _ => by kernel_rfl, fun _ => by kernel_rfl⟩
instance : One Try.prog 115 := ⟨fun _ => by kernel_rfl, fun _ => by kernel_rfl⟩
instance : One Try.prog 116 := ⟨fun _ => by kernel_rfl, fun _ => by kernel_rfl⟩
instance : One Try.prog 118 := ⟨fun _ => by kernel_rfl, fun _ => by kernel_rfl⟩
instance : One Try.prog 119 := ⟨fun _ => by kernel_rfl, fun _ => by kernel_rfl⟩
instance : One Try.prog 121 := ⟨fun _ => by kernel_rfl, fun _ => by kernel_rfl⟩
instance : One Try.prog 122 := ⟨fun _ => by kernel_rfl, fun _ => by kernel_rfl⟩
instance : One Try.prog 123 := ⟨fun _ => by kernel_rfl, fun _ => by kernel_rfl⟩
instance : One Try.prog 124 := ⟨fun _ => by kernel_rfl, fun _ => by kernel_rfl⟩
instance : One Try.prog 125 := ⟨fun _ => by kernel_rfl, fun _ => by kernel_rfl⟩
instance : One Try.prog 126 := ⟨fun _ => by kernel_rfl, fun _ => by kernel_rfl⟩
instance : One Try.prog 127 := ⟨fun _ => by kernel_rfl, fun _ => by kernel_rfl⟩
instance : One Try.prog 128 := ⟨fun _ => by kernel_rfl, fun _ => by kernel_rfl⟩
instance : One Try.prog 130 := ⟨fun _ => by kernel_rfl, fun _ => by kernel_rfl⟩
instance : One Try.prog 131 := ⟨fun _ => by kernel_rfl, fun _ => by kernel_rfl⟩
instance : One Try.prog 132 := ⟨fun _ => by kernel_rfl, fun _ => by kernel_rfl⟩
instance : One Try.prog 133 := ⟨fun _ => by kernel_rfl, fun _ => by kernel_rfl⟩
instance : One Try.prog 134 := ⟨fun _ => by kernel_rfl, fun _ => by kernel_rfl⟩
instance : One Try.prog 135 := ⟨fun _ => by kernel_rfl, fun _ => by kernel_rfl⟩
instance : One Try.prog 137 := ⟨fun _ => by kernel_rfl, fun _ => by kernel_rfl⟩
instance : One Try.prog 138 := ⟨fun _ => by kernel_rfl, fun _ => by kernel_rfl⟩
instance : One Try.prog 139 := ⟨fun _ => by kernel_rfl, fun _ => by kernel_rfl⟩
instance : FOff Try.prog 140 0 0 := ⟨fun _ _ _ => by kernel_rfl⟩
instance : FOff Try.prog 140 1 1 := ⟨fun _ _ _ => by kernel_rfl⟩
instance : FOff Try.prog 140 2 2 := ⟨fun _ _ _ => by kernel_rfl⟩
instance : FOff Try.prog 140 3 3 := ⟨fun _ _ _ => by kernel_rfl⟩
instance : FOff Try.prog 141 0 0 := ⟨fun _ _ _ => by kernel_rfl⟩
instance : FOff Try.prog 141 1 1 := ⟨fun _ _ _ => by kernel_rfl⟩
instance : FOff Try.prog 141 2 2 := ⟨fun _ _ _ => by kernel_rfl⟩
instance : FOff Try.prog 141 3 3 := ⟨fun _ _ _ => by kernel_rfl⟩
instance : One Try.prog 145 := ⟨fun _ => by kernel_rfl, fun _ => by kernel_rfl⟩
instance : One Try.prog 146 := ⟨fun _ => by kernel_rfl, fun _ => by kernel_rfl⟩
instance : One Try.prog 147 := ⟨fun _ => by kernel_rfl, fun _ => by kernel_rfl⟩
instance : One Try.prog 148 := ⟨fun _ => by kernel_rfl, fun _ => by kernel_rfl⟩
instance : PtrT Try.prog 149 := ⟨by kernel_rfl⟩
instance : One Try.prog 149 := ⟨fun _ => by kernel_rfl, fun _ => by kernel_rfl⟩
instance : One Try.prog 150 := ⟨fun _ => by kernel_rfl, fun _ => by kernel_rfl⟩
instance : One Try.prog 151 := ⟨fun _ => by kernel_rfl, fun _ => by kernel_rfl⟩
instance : FOff Try.prog 152 0 0 := ⟨fun _ _ _ => by kernel_rfl⟩
instance : FOff Try.prog 152 1 1 := ⟨fun _ _ _ => by kernel_rfl⟩
instance : FOff Try.prog 152 2 2 := ⟨fun _ _ _ => by kernel_rfl⟩
instance : FOff Try.prog 152 3 3 := ⟨fun _ _ _ => by kernel_rfl⟩
instance : FOff Try.prog 152 4 4 := ⟨fun _ _ _ => by kernel_rfl⟩
instance : FOff Try.prog 152 5 5 := ⟨fun _ _ _ => by kernel_rfl⟩
instance : FOff Try.prog 152 6 6 := ⟨fun _ _ _ => by kernel_rfl⟩
instance : FOff Try.prog 152 7 7 := ⟨fun _ _ _ => by kernel_rfl⟩
instance : FOff Try.prog 152 8 8 := ⟨fun _ _ _ => by kernel_rfl⟩
instance : FOff Try.prog 152 9 9 := ⟨fun _ _ _ => by kernel_rfl⟩
instance : FOff Try.prog 152 10 10 := ⟨fun _ _ _ => by kernel_rfl⟩
instance : FOff Try.prog 153 0 0 := ⟨fun _ _ _ => by kernel_rfl⟩
instance : FOff Try.prog 153 1 1 := ⟨fun _ _ _ => by kernel_rfl⟩
instance : FOff Try.prog 153 2 2 := ⟨fun _ _ _ => by kernel_rfl⟩
instance : FOff Try.prog 153 3 3 := ⟨fun _ _ _ => by kernel_rfl⟩
instance : FOff Try.prog 153 4 4 := ⟨fun _ _ _ => by kernel_rfl⟩
instance : FOff Try.prog 153 5 5 := ⟨fun _ _ _ => by kernel_rfl⟩
instance : FOff Try.prog 153 6 6 := ⟨fun _ _ _ => by kernel_rfl⟩
instance : FOff Try.prog 153 7 7 := ⟨fun _ _ _ => by kernel_rfl⟩
instance : FOff Try.prog 153 8 8 := ⟨fun _ _ _ => by kernel_rfl⟩
instance : FOff Try.prog 153 9 9 := ⟨fun _ _ _ => by kernel_rfl⟩
instance : FOff Try.prog 153 10 10 := ⟨fun _ _ _ => by kernel_rfl⟩
instance : ElemT Try.prog 2 1 8 := ⟨Try.t2, _, by kernel_rfl, rfl, rfl, rfl, rfl, by decide⟩
instance : ElemT Try.prog 3 1 8 := ⟨Try.t3, _, by kernel_rfl, rfl, rfl, rfl, rfl, by decide⟩
instance : ElemT Try.prog 4 1 1 := ⟨Try.t4, _, by kernel_rfl, rfl, rfl, rfl, rfl, by decide⟩
instance : ElemT Try.prog 5 1 1 := ⟨Try.t5, _, by kernel_rfl, rfl, rfl, rfl, rfl, by decide⟩
instance : ElemT Try.prog 6 1 1 := ⟨Try.t6, _, by kernel_rfl, rfl, rfl, rfl, rfl, by decide⟩
instance : ElemT Try.prog 7 4 24 := ⟨Try.t7, _, by kernel_rfl, rfl, rfl, rfl, rfl, by decide⟩
instance : ElemT Try.prog 8 4 24 := ⟨Try.t8, _, by kernel_rfl, rfl, rfl, rfl, rfl, by decide⟩
instance : ElemT Try.prog 9 1 16 := ⟨Try.t9, _, by kernel_rfl, rfl, rfl, rfl, rfl, by decide⟩
instance : ElemT Try.prog 10 1 16 := ⟨Try.t10, _, by kernel_rfl, rfl, rfl, rfl, rfl, by decide⟩
instance : ElemT Try.prog 11 1 16 := ⟨Try.t11, _, by kernel_rfl, rfl, rfl, rfl, rfl, by decide⟩
instance : ElemT Try.prog 12 1 8 := ⟨Try.t12, _, by kernel_rfl, rfl, rfl, rfl, rfl, by decide⟩
instance : ElemT Try.prog 13 2 24 := ⟨Try.t13, _, by kernel_rfl, rfl, rfl, rfl, rfl, by decide⟩
instance : ElemT Try.prog 14 2 24 := ⟨Try.t14, _, by kernel_rfl, rfl, rfl, rfl, rfl, by decide⟩
instance : ElemT Try.prog 15 1 8 := ⟨Try.t15, _, by kernel_rfl, rfl, rfl, rfl, rfl, by decide⟩
instance : ElemT Try.prog 16 1 8 := ⟨Try.t16, _, by kernel_rfl, rfl, rfl, rfl, rfl, by decide⟩
instance : ElemT Try.prog 17 1 8 := ⟨Try.t17, _, by kernel_rfl, rfl, rfl, rfl, rfl, by decide⟩
instance : ElemT Try.prog 18 1 8 := ⟨Try.t18, _, by kernel_rfl, rfl, rfl, rfl, rfl, by decide⟩
instance : ElemT Try.prog 19 1 8 := ⟨Try.t19, _, by kernel_rfl, rfl, rfl, rfl, rfl, by decide⟩
instance : ElemT Try.prog 21 1 4 := ⟨Try.t21, _, by kernel_rfl, rfl, rfl, rfl, rfl, by decide⟩
instance : ElemT Try.prog 22 7 56 := ⟨Try.t22, _, by kernel_rfl, rfl, rfl, rfl, rfl, by decide⟩
instance : ElemT Try.prog 23 7 56 := ⟨Try.t23, _, by kernel_rfl, rfl, rfl, rfl, rfl, by decide⟩
instance : ElemT Try.prog 24 1 24 := ⟨Try.t24, _, by kernel_rfl, rfl, rfl, rfl, rfl, by decide⟩
instance : ElemT Try.prog 27 1 8 := ⟨Try.t27, _, by kernel_rfl, rfl, rfl, rfl, rfl, by decide⟩
instance : ElemT Try.prog 28 1 8 := ⟨Try.t28, _, by kernel_rfl, rfl, rfl, rfl, rfl, by decide⟩
instance : ElemT Try.prog 31 1 8 := ⟨Try.t31, _, by kernel_rfl, rfl, rfl, rfl, rfl, by decide⟩
instance : ElemT Try.prog 33 1 8 := ⟨Try.t33, _, by kernel_rfl, rfl, rfl, rfl, rfl, by decide⟩
instance : ElemT Try.prog 36 1 8 := ⟨Try.t36, _, by kernel_rfl, rfl, rfl, rfl, rfl, by decide⟩
instance : ElemT Try.prog 37 1 24 := ⟨Try.t37, _, by kernel_rfl, rfl, rfl, rfl, rfl, by decide⟩
instance : ElemT Try.prog 38 3 24 := ⟨Try.t38, _, by kernel_rfl, rfl, rfl, rfl, rfl, by decide⟩
instance : ElemT Try.prog 39 1 24 := ⟨Try.t39, _, by kernel_rfl, rfl, rfl, rfl, rfl, by decide⟩
instance : ElemT Try.prog 40 1 24 := ⟨Try.t40, _, by kernel_rfl, rfl, rfl, rfl, rfl, by decide⟩
instance : ElemT Try.prog 41 1 24 := ⟨Try.t41, _, by kernel_rfl, rfl, rfl, rfl, rfl, by decide⟩
instance : ElemT Try.prog 42 10 176 := ⟨Try.t42, _, by kernel_rfl, rfl, rfl, rfl, rfl, by decide⟩
instance : ElemT Try.prog 43 10 176 := ⟨Try.t43, _, by kernel_rfl, rfl, rfl, rfl, rfl, by decide⟩
instance : ElemT Try.prog 44 1 8 := ⟨Try.t44, _, by kernel_rfl, rfl, rfl, rfl, rfl, by decide⟩
instance : ElemT Try.prog 50 1 8 := ⟨Try.t50, _, by kernel_rfl, rfl, rfl, rfl, rfl, by decide⟩
instance : ElemT Try.prog 54 15 120 := ⟨Try.t54, _, by kernel_rfl, rfl, rfl, rfl, rfl, by decide⟩
instance : ElemT Try.prog 55 15 120 := ⟨Try.t55, _, by kernel_rfl, rfl, rfl, rfl, rfl, by decide⟩
instance : ElemT Try.prog 59 1 24 := ⟨Try.t59, _, by kernel_rfl, rfl, rfl, rfl, rfl, by decide⟩
instance : ElemT Try.prog 65 1 24 := ⟨Try.t65, _, by kernel_rfl, rfl, rfl, rfl, rfl, by decide⟩
instance : ElemT Try.prog 71 1 8 := ⟨Try.t71, _, by kernel_rfl, rfl, rfl, rfl, rfl, by decide⟩
instance : ElemT Try.prog 73 1 24 := ⟨Try.t73, _, by kernel_rfl, rfl, rfl, rfl, rfl, by decide⟩
instance : ElemT Try.prog 74 21 176 := ⟨Try.t74, _, by kernel_rfl, rfl, rfl, rfl, rfl, by decide⟩
instance : ElemT Try.prog 75 21 176 := ⟨Try.t75, _, by kernel_rfl, rfl, rfl, rfl, rfl, by decide⟩
instance : ElemT Try.prog 77 10 80 := ⟨Try.t77, _, by kernel_rfl, rfl, rfl, rfl, rfl, by decide⟩
instance : ElemT Try.prog 78 12 96 := ⟨Try.t78, _, by kernel_rfl, rfl, rfl, rfl, rfl, by decide⟩
instance : ElemT Try.prog 79 12 96 := ⟨Try.t79, _, by kernel_rfl, rfl, rfl, rfl, rfl, by decide⟩
instance : ElemT Try.prog 81 1 24 := ⟨Try.t81, _, by kernel_rfl, rfl, rfl, rfl, rfl, by decide⟩
instance : ElemT Try.prog 82 4 64 := ⟨Try.t82, _, by kernel_rfl, rfl, rfl, rfl, rfl, by decide⟩
instance : ElemT Try.prog 83 4 64 := ⟨Try.t83, _, by kernel_rfl, rfl, rfl, rfl, rfl, by decide⟩
instance : ElemT Try.prog 86 4 32 := ⟨Try.t86, _, by kernel_rfl, rfl, rfl, rfl, rfl, by decide⟩
instance : ElemT Try.prog 87 4 32 := ⟨Try.t87, _, by kernel_rfl, rfl, rfl, rfl, rfl, by decide⟩
instance : ElemT Try.prog 90 2 16 := ⟨Try.t90, _, by kernel_rfl, rfl, rfl, rfl, rfl, by decide⟩
instance : ElemT Try.prog 91 2 16 := ⟨Try.t91, _, by kernel_rfl, rfl, rfl, rfl, rfl, by decide⟩
instance : ElemT Try.prog 92 3 40 := ⟨Try.t92, _, by kernel_rfl, rfl, rfl, rfl, rfl, by decide⟩
instance : ElemT Try.prog 93 3 40 := ⟨Try.t93, _, by kernel_rfl, rfl, rfl, rfl, rfl, by decide⟩
instance : ElemT Try.prog 96 3 24 := ⟨Try.t96, _, by kernel_rfl, rfl, rfl, rfl, rfl, by decide⟩
instance : ElemT Try.prog 97 3 24 := ⟨Try.t97, _, by kernel_rfl, rfl, rfl, rfl, rfl, by decide⟩
instance : ElemT Try.prog 98 1 8 := ⟨Try.t98, _, by kernel_rfl, rfl, rfl, rfl, rfl, by decide⟩
instance : ElemT Try.prog 105 2 32 := ⟨Try.t105, _, by kernel_rfl, rfl, rfl, rfl, rfl, by decide⟩
instance : ElemT Try.prog 106 2 32 := ⟨Try.t106, _, by kernel_rfl, rfl, rfl, rfl, rfl, by decide⟩
instance : ElemT Try.prog 114 1 24 := ⟨Try.t114, _, by kernel_rfl, rfl, rfl, rfl, rfl, by decide⟩
instance : ElemT Try.prog 116 1 8 := ⟨Try.t116, _, by kernel_rfl, rfl, rfl, rfl, rfl, by decide⟩
instance : ElemT Try.prog 131 1 8 := ⟨Try.t131, _, by kernel_rfl, rfl, rfl, rfl, rfl, by decide⟩
instance : ElemT Try.prog 140 4 40 := ⟨Try.t140, _, by kernel_rfl, rfl, rfl, rfl, rfl, by decide⟩
instance : ElemT Try.prog 141 4 40 := ⟨Try.t141, _, by kernel_rfl, rfl, rfl, rfl, rfl, by decide⟩
instance : ElemT Try.prog 145 1 4 := ⟨Try.t145, _, by kernel_rfl, rfl, rfl, rfl, rfl, by decide⟩
instance : ElemT Try.prog 146 1 1 := ⟨Try.t146, _, by kernel_rfl, rfl, rfl, rfl, rfl, by decide⟩
instance : ElemT Try.prog 147 1 1 := ⟨Try.t147, _, by kernel_rfl, rfl, rfl, rfl, rfl, by decide⟩
instance : ElemT Try.prog 149 1 8 := ⟨Try.t149, _, by kernel_rfl, rfl, rfl, rfl, rfl, by decide⟩
instance : ElemT Try.prog 150 1 4 := ⟨Try.t150, _, by kernel_rfl, rfl, rfl, rfl, rfl, by decide⟩
instance : ElemT Try.prog 151 1 4 := ⟨Try.t151, _, by kernel_rfl, rfl, rfl, rfl, rfl, by decide⟩
instance : ElemT Try.prog 152 11 48 := ⟨Try.t152, _, by kernel_rfl, rfl, rfl, rfl, rfl, by decide⟩
instance : ElemT Try.prog 153 11 48 := ⟨Try.t153, _, by kernel_rfl, rfl, rfl, rfl, rfl, by decide⟩
instance : ElemZ Try.prog 2 (.int .i64 0) 8 := ⟨by kernel_rfl, rfl⟩
instance : IntT Try.prog 2 .i64 := ⟨by kernel_rfl⟩
instance : ElemZ Try.prog 3 (.int .i64 0) 8 := ⟨by kernel_rfl, rfl⟩
instance : IntT Try.prog 3 .i64 := ⟨by kernel_rfl⟩
instance : ElemZ Try.prog 4 (.bool false) 1 := ⟨by kernel_rfl, rfl⟩
instance : BoolT Try.prog 4 := ⟨by kernel_rfl⟩
instance : ElemZ Try.prog 5 (.int .u8 0) 1 := ⟨by kernel_rfl, rfl⟩
instance : IntT Try.prog 5 .u8 := ⟨by kernel_rfl⟩
instance : ElemZ Try.prog 6 (.int .u8 0) 1 := ⟨by kernel_rfl, rfl⟩
instance : IntT Try.prog 6 .u8 := ⟨by kernel_rfl⟩
instance : AggT Try.prog 7 4 := ⟨⟨_, Try.underlying7, rfl⟩, by kernel_rfl⟩
instance : FldOne Try.prog 7 0 0 := ⟨_, _, Try.underlying7, rfl, rfl, inferInstanceAs (One Try.prog 2)⟩
instance : FldOne Try.prog 7 1 1 := ⟨_, _, Try.underlying7, rfl, rfl, inferInstanceAs (One Try.prog 3)⟩
instance : FldOne Try.prog 7 2 2 := ⟨_, _, Try.underlying7, rfl, rfl, inferInstanceAs (One Try.prog 4)⟩
instance : FldOne Try.prog 7 3 3 := ⟨_, _, Try.underlying7, rfl, rfl, inferInstanceAs (One Try.prog 6)⟩
instance : AggT Try.prog 8 4 := ⟨⟨_, Try.underlying8, rfl⟩, by kernel_rfl⟩
instance : FldOne Try.prog 8 0 0 := ⟨_, _, Try.underlying8, rfl, rfl, inferInstanceAs (One Try.prog 2)⟩
instance : FldOne Try.prog 8 1 1 := ⟨_, _, Try.underlying8, rfl, rfl, inferInstanceAs (One Try.prog 3)⟩
instance : FldOne Try.prog 8 2 2 := ⟨_, _, Try.underlying8, rfl, rfl, inferInstanceAs (One Try.prog 4)⟩
instance : FldOne Try.prog 8 3 3 := ⟨_, _, Try.underlying8, rfl, rfl, inferInstanceAs (One Try.prog 6)⟩
instance : ElemZ Try.prog 9 (.string ByteArray.empty) 16 := ⟨by kernel_rfl, rfl⟩
instance : ElemZ Try.prog 10 (.string ByteArray.empty) 16 := ⟨by kernel_rfl, rfl⟩
instance : ElemZ Try.prog 11 (.string ByteArray.empty) 16 := ⟨by kernel_rfl, rfl⟩
instance : ElemZ Try.prog 12 (.int .u64 0) 8 := ⟨by kernel_rfl, rfl⟩
instance : IntT Try.prog 12 .u64 := ⟨by kernel_rfl⟩
instance : AggT Try.prog 13 2 := ⟨⟨_, Try.underlying13, rfl⟩, by kernel_rfl⟩
instance : FldOne Try.prog 13 0 0 := ⟨_, _, Try.underlying13, rfl, rfl, inferInstanceAs (One Try.prog 9)⟩
instance : FldOne Try.prog 13 1 1 := ⟨_, _, Try.underlying13, rfl, rfl, inferInstanceAs (One Try.prog 12)⟩
instance : AggT Try.prog 14 2 := ⟨⟨_, Try.underlying14, rfl⟩, by kernel_rfl⟩
instance : FldOne Try.prog 14 0 0 := ⟨_, _, Try.underlying14, rfl, rfl, inferInstanceAs (One Try.prog 9)⟩
instance : FldOne Try.prog 14 1 1 := ⟨_, _, Try.underlying14, rfl, rfl, inferInstanceAs (One Try.prog 12)⟩
instance : ElemZ Try.prog 15 (.pointer none) 8 := ⟨by kernel_rfl, rfl⟩
instance : ElemZ Try.prog 16 (.pointer none) 8 := ⟨by kernel_rfl, rfl⟩
instance : ElemZ Try.prog 17 (.pointer none) 8 := ⟨by kernel_rfl, rfl⟩
instance : AggT Try.prog 18 1 := ⟨⟨_, Try.underlying18, rfl⟩, by kernel_rfl⟩
instance : FldOne Try.prog 18 0 0 := ⟨_, _, Try.underlying18, rfl, rfl, inferInstanceAs (One Try.prog 17)⟩
instance : AggT Try.prog 19 1 := ⟨⟨_, Try.underlying19, rfl⟩, by kernel_rfl⟩
instance : FldOne Try.prog 19 0 0 := ⟨_, _, Try.underlying19, rfl, rfl, inferInstanceAs (One Try.prog 17)⟩
instance : ElemZ Try.prog 21 (.int .i32 0) 4 := ⟨by kernel_rfl, rfl⟩
instance : IntT Try.prog 21 .i32 := ⟨by kernel_rfl⟩
instance : AggT Try.prog 22 7 := ⟨⟨_, Try.underlying22, rfl⟩, by kernel_rfl⟩
instance : EqT Try.prog 22 [.i .i64, .i .i64, .i .i64, .i .i64, .i .i64, .i .i64, .i .i64] := ⟨by kernel_rfl, by kernel_rfl, by kernel_rfl, by kernel_rfl⟩
instance : FldOne Try.prog 22 0 0 := ⟨_, _, Try.underlying22, rfl, rfl, inferInstanceAs (One Try.prog 3)⟩
instance : FldOne Try.prog 22 1 1 := ⟨_, _, Try.underlying22, rfl, rfl, inferInstanceAs (One Try.prog 3)⟩
instance : FldOne Try.prog 22 2 2 := ⟨_, _, Try.underlying22, rfl, rfl, inferInstanceAs (One Try.prog 3)⟩
instance : FldOne Try.prog 22 3 3 := ⟨_, _, Try.underlying22, rfl, rfl, inferInstanceAs (One Try.prog 3)⟩
instance : FldOne Try.prog 22 4 4 := ⟨_, _, Try.underlying22, rfl, rfl, inferInstanceAs (One Try.prog 3)⟩
instance : FldOne Try.prog 22 5 5 := ⟨_, _, Try.underlying22, rfl, rfl, inferInstanceAs (One Try.prog 3)⟩
instance : FldOne Try.prog 22 6 6 := ⟨_, _, Try.underlying22, rfl, rfl, inferInstanceAs (One Try.prog 3)⟩
instance : AggT Try.prog 23 7 := ⟨⟨_, Try.underlying23, rfl⟩, by kernel_rfl⟩
instance : EqT Try.prog 23 [.i .i64, .i .i64, .i .i64, .i .i64, .i .i64, .i .i64, .i .i64] := ⟨by kernel_rfl, by kernel_rfl, by kernel_rfl, by kernel_rfl⟩
instance : FldOne Try.prog 23 0 0 := ⟨_, _, Try.underlying23, rfl, rfl, inferInstanceAs (One Try.prog 3)⟩
instance : FldOne Try.prog 23 1 1 := ⟨_, _, Try.underlying23, rfl, rfl, inferInstanceAs (One Try.prog 3)⟩
instance : FldOne Try.prog 23 2 2 := ⟨_, _, Try.underlying23, rfl, rfl, inferInstanceAs (One Try.prog 3)⟩
instance : FldOne Try.prog 23 3 3 := ⟨_, _, Try.underlying23, rfl, rfl, inferInstanceAs (One Try.prog 3)⟩
instance : FldOne Try.prog 23 4 4 := ⟨_, _, Try.underlying23, rfl, rfl, inferInstanceAs (One Try.prog 3)⟩
instance : FldOne Try.prog 23 5 5 := ⟨_, _, Try.underlying23, rfl, rfl, inferInstanceAs (One Try.prog 3)⟩
instance : FldOne Try.prog 23 6 6 := ⟨_, _, Try.underlying23, rfl, rfl, inferInstanceAs (One Try.prog 3)⟩
instance : ElemZ Try.prog 24 (.slice none 0 0) 24 := ⟨by kernel_rfl, rfl⟩
instance : ElemZ Try.prog 27 (.pointer none) 8 := ⟨by kernel_rfl, rfl⟩
instance : ElemZ Try.prog 28 (.int .i64 0) 8 := ⟨by kernel_rfl, rfl⟩
instance : IntT Try.prog 28 .i64 := ⟨by kernel_rfl⟩
instance : ElemZ Try.prog 31 (.pointer none) 8 := ⟨by kernel_rfl, rfl⟩
instance : ElemZ Try.prog 33 (.pointer none) 8 := ⟨by kernel_rfl, rfl⟩
instance : ElemZ Try.prog 36 (.int .u64 0) 8 := ⟨by kernel_rfl, rfl⟩
instance : IntT Try.prog 36 .u64 := ⟨by kernel_rfl⟩
instance : ElemZ Try.prog 37 (.slice none 0 0) 24 := ⟨by kernel_rfl, rfl⟩
instance : ArrT Try.prog 38 3 36 1 := ⟨by kernel_rfl, fun _ => by kernel_rfl⟩
instance : AggT Try.prog 38 3 := ⟨⟨_, Try.underlying38, rfl⟩, by kernel_rfl⟩
instance : ElemZ Try.prog 39 (.slice none 0 0) 24 := ⟨by kernel_rfl, rfl⟩
instance : AggT Try.prog 40 1 := ⟨⟨_, Try.underlying40, rfl⟩, by kernel_rfl⟩
instance : FldOne Try.prog 40 0 0 := ⟨_, _, Try.underlying40, rfl, rfl, inferInstanceAs (One Try.prog 24)⟩
instance : AggT Try.prog 41 1 := ⟨⟨_, Try.underlying41, rfl⟩, by kernel_rfl⟩
instance : FldOne Try.prog 41 0 0 := ⟨_, _, Try.underlying41, rfl, rfl, inferInstanceAs (One Try.prog 24)⟩
instance : AggT Try.prog 42 10 := ⟨⟨_, Try.underlying42, rfl⟩, by kernel_rfl⟩
instance : FldOne Try.prog 42 0 0 := ⟨_, _, Try.underlying42, rfl, rfl, inferInstanceAs (One Try.prog 3)⟩
instance : FldOne Try.prog 42 1 1 := ⟨_, _, Try.underlying42, rfl, rfl, inferInstanceAs (One Try.prog 37)⟩
instance : FldOne Try.prog 42 3 5 := ⟨_, _, Try.underlying42, rfl, rfl, inferInstanceAs (One Try.prog 39)⟩
instance : FldOne Try.prog 42 4 6 := ⟨_, _, Try.underlying42, rfl, rfl, inferInstanceAs (One Try.prog 39)⟩
instance : FldOne Try.prog 42 5 7 := ⟨_, _, Try.underlying42, rfl, rfl, inferInstanceAs (One Try.prog 39)⟩
instance : FldOne Try.prog 42 7 9 := ⟨_, _, Try.underlying42, rfl, rfl, inferInstanceAs (One Try.prog 24)⟩
instance : AggT Try.prog 43 10 := ⟨⟨_, Try.underlying43, rfl⟩, by kernel_rfl⟩
instance : FldOne Try.prog 43 0 0 := ⟨_, _, Try.underlying43, rfl, rfl, inferInstanceAs (One Try.prog 3)⟩
instance : FldOne Try.prog 43 1 1 := ⟨_, _, Try.underlying43, rfl, rfl, inferInstanceAs (One Try.prog 37)⟩
instance : FldOne Try.prog 43 3 5 := ⟨_, _, Try.underlying43, rfl, rfl, inferInstanceAs (One Try.prog 39)⟩
instance : FldOne Try.prog 43 4 6 := ⟨_, _, Try.underlying43, rfl, rfl, inferInstanceAs (One Try.prog 39)⟩
instance : FldOne Try.prog 43 5 7 := ⟨_, _, Try.underlying43, rfl, rfl, inferInstanceAs (One Try.prog 39)⟩
instance : FldOne Try.prog 43 7 9 := ⟨_, _, Try.underlying43, rfl, rfl, inferInstanceAs (One Try.prog 24)⟩
instance : ElemZ Try.prog 44 (.pointer none) 8 := ⟨by kernel_rfl, rfl⟩
instance : ElemZ Try.prog 50 (.pointer none) 8 := ⟨by kernel_rfl, rfl⟩
instance : AggT Try.prog 54 15 := ⟨⟨_, Try.underlying54, rfl⟩, by kernel_rfl⟩
instance : FldOne Try.prog 54 1 7 := ⟨_, _, Try.underlying54, rfl, rfl, inferInstanceAs (One Try.prog 3)⟩
instance : FldOne Try.prog 54 2 8 := ⟨_, _, Try.underlying54, rfl, rfl, inferInstanceAs (One Try.prog 3)⟩
instance : FldOne Try.prog 54 3 9 := ⟨_, _, Try.underlying54, rfl, rfl, inferInstanceAs (One Try.prog 3)⟩
instance : FldOne Try.prog 54 4 10 := ⟨_, _, Try.underlying54, rfl, rfl, inferInstanceAs (One Try.prog 3)⟩
instance : FldOne Try.prog 54 5 11 := ⟨_, _, Try.underlying54, rfl, rfl, inferInstanceAs (One Try.prog 3)⟩
instance : FldOne Try.prog 54 6 12 := ⟨_, _, Try.underlying54, rfl, rfl, inferInstanceAs (One Try.prog 3)⟩
instance : FldOne Try.prog 54 7 13 := ⟨_, _, Try.underlying54, rfl, rfl, inferInstanceAs (One Try.prog 3)⟩
instance : FldOne Try.prog 54 8 14 := ⟨_, _, Try.underlying54, rfl, rfl, inferInstanceAs (One Try.prog 3)⟩
instance : AggT Try.prog 55 15 := ⟨⟨_, Try.underlying55, rfl⟩, by kernel_rfl⟩
instance : FldOne Try.prog 55 1 7 := ⟨_, _, Try.underlying55, rfl, rfl, inferInstanceAs (One Try.prog 3)⟩
instance : FldOne Try.prog 55 2 8 := ⟨_, _, Try.underlying55, rfl, rfl, inferInstanceAs (One Try.prog 3)⟩
instance : FldOne Try.prog 55 3 9 := ⟨_, _, Try.underlying55, rfl, rfl, inferInstanceAs (One Try.prog 3)⟩
instance : FldOne Try.prog 55 4 10 := ⟨_, _, Try.underlying55, rfl, rfl, inferInstanceAs (One Try.prog 3)⟩
instance : FldOne Try.prog 55 5 11 := ⟨_, _, Try.underlying55, rfl, rfl, inferInstanceAs (One Try.prog 3)⟩
instance : FldOne Try.prog 55 6 12 := ⟨_, _, Try.underlying55, rfl, rfl, inferInstanceAs (One Try.prog 3)⟩
instance : FldOne Try.prog 55 7 13 := ⟨_, _, Try.underlying55, rfl, rfl, inferInstanceAs (One Try.prog 3)⟩
instance : FldOne Try.prog 55 8 14 := ⟨_, _, Try.underlying55, rfl, rfl, inferInstanceAs (One Try.prog 3)⟩
instance : ElemZ Try.prog 59 (.slice none 0 0) 24 := ⟨by kernel_rfl, rfl⟩
instance : ElemZ Try.prog 65 (.slice none 0 0) 24 := ⟨by kernel_rfl, rfl⟩
instance : ElemZ Try.prog 71 (.pointer none) 8 := ⟨by kernel_rfl, rfl⟩
instance : ElemZ Try.prog 73 (.slice none 0 0) 24 := ⟨by kernel_rfl, rfl⟩
instance : AggT Try.prog 74 21 := ⟨⟨_, Try.underlying74, rfl⟩, by kernel_rfl⟩
instance : FldOne Try.prog 74 1 15 := ⟨_, _, Try.underlying74, rfl, rfl, inferInstanceAs (One Try.prog 44)⟩
instance : FldOne Try.prog 74 2 16 := ⟨_, _, Try.underlying74, rfl, rfl, inferInstanceAs (One Try.prog 50)⟩
instance : FldOne Try.prog 74 3 17 := ⟨_, _, Try.underlying74, rfl, rfl, inferInstanceAs (One Try.prog 71)⟩
instance : FldOne Try.prog 74 4 18 := ⟨_, _, Try.underlying74, rfl, rfl, inferInstanceAs (One Try.prog 73)⟩
instance : FldOne Try.prog 74 5 19 := ⟨_, _, Try.underlying74, rfl, rfl, inferInstanceAs (One Try.prog 4)⟩
instance : FldOne Try.prog 74 6 20 := ⟨_, _, Try.underlying74, rfl, rfl, inferInstanceAs (One Try.prog 4)⟩
instance : AggT Try.prog 75 21 := ⟨⟨_, Try.underlying75, rfl⟩, by kernel_rfl⟩
instance : FldOne Try.prog 75 1 15 := ⟨_, _, Try.underlying75, rfl, rfl, inferInstanceAs (One Try.prog 44)⟩
instance : FldOne Try.prog 75 2 16 := ⟨_, _, Try.underlying75, rfl, rfl, inferInstanceAs (One Try.prog 50)⟩
instance : FldOne Try.prog 75 3 17 := ⟨_, _, Try.underlying75, rfl, rfl, inferInstanceAs (One Try.prog 71)⟩
instance : FldOne Try.prog 75 4 18 := ⟨_, _, Try.underlying75, rfl, rfl, inferInstanceAs (One Try.prog 73)⟩
instance : FldOne Try.prog 75 5 19 := ⟨_, _, Try.underlying75, rfl, rfl, inferInstanceAs (One Try.prog 4)⟩
instance : FldOne Try.prog 75 6 20 := ⟨_, _, Try.underlying75, rfl, rfl, inferInstanceAs (One Try.prog 4)⟩
instance : ArrT Try.prog 77 10 36 1 := ⟨by kernel_rfl, fun _ => by kernel_rfl⟩
instance : AggT Try.prog 77 10 := ⟨⟨_, Try.underlying77, rfl⟩, by kernel_rfl⟩
instance : AggT Try.prog 78 12 := ⟨⟨_, Try.underlying78, rfl⟩, by kernel_rfl⟩
instance : FldOne Try.prog 78 0 0 := ⟨_, _, Try.underlying78, rfl, rfl, inferInstanceAs (One Try.prog 3)⟩
instance : FldOne Try.prog 78 1 1 := ⟨_, _, Try.underlying78, rfl, rfl, inferInstanceAs (One Try.prog 3)⟩
instance : AggT Try.prog 79 12 := ⟨⟨_, Try.underlying79, rfl⟩, by kernel_rfl⟩
instance : FldOne Try.prog 79 0 0 := ⟨_, _, Try.underlying79, rfl, rfl, inferInstanceAs (One Try.prog 3)⟩
instance : FldOne Try.prog 79 1 1 := ⟨_, _, Try.underlying79, rfl, rfl, inferInstanceAs (One Try.prog 3)⟩
instance : ElemZ Try.prog 81 (.slice none 0 0) 24 := ⟨by kernel_rfl, rfl⟩
instance : AggT Try.prog 82 4 := ⟨⟨_, Try.underlying82, rfl⟩, by kernel_rfl⟩
instance : FldOne Try.prog 82 0 0 := ⟨_, _, Try.underlying82, rfl, rfl, inferInstanceAs (One Try.prog 39)⟩
instance : FldOne Try.prog 82 1 1 := ⟨_, _, Try.underlying82, rfl, rfl, inferInstanceAs (One Try.prog 3)⟩
instance : FldOne Try.prog 82 2 2 := ⟨_, _, Try.underlying82, rfl, rfl, inferInstanceAs (One Try.prog 4)⟩
instance : FldOne Try.prog 82 3 3 := ⟨_, _, Try.underlying82, rfl, rfl, inferInstanceAs (One Try.prog 81)⟩
instance : AggT Try.prog 83 4 := ⟨⟨_, Try.underlying83, rfl⟩, by kernel_rfl⟩
instance : FldOne Try.prog 83 0 0 := ⟨_, _, Try.underlying83, rfl, rfl, inferInstanceAs (One Try.prog 39)⟩
instance : FldOne Try.prog 83 1 1 := ⟨_, _, Try.underlying83, rfl, rfl, inferInstanceAs (One Try.prog 3)⟩
instance : FldOne Try.prog 83 2 2 := ⟨_, _, Try.underlying83, rfl, rfl, inferInstanceAs (One Try.prog 4)⟩
instance : FldOne Try.prog 83 3 3 := ⟨_, _, Try.underlying83, rfl, rfl, inferInstanceAs (One Try.prog 81)⟩
instance : AggT Try.prog 86 4 := ⟨⟨_, Try.underlying86, rfl⟩, by kernel_rfl⟩
instance : EqT Try.prog 86 [.i .i64, .i .i64, .i .i64, .b] := ⟨by kernel_rfl, by kernel_rfl, by kernel_rfl, by kernel_rfl⟩
instance : FldOne Try.prog 86 0 0 := ⟨_, _, Try.underlying86, rfl, rfl, inferInstanceAs (One Try.prog 3)⟩
instance : FldOne Try.prog 86 1 1 := ⟨_, _, Try.underlying86, rfl, rfl, inferInstanceAs (One Try.prog 3)⟩
instance : FldOne Try.prog 86 2 2 := ⟨_, _, Try.underlying86, rfl, rfl, inferInstanceAs (One Try.prog 3)⟩
instance : FldOne Try.prog 86 3 3 := ⟨_, _, Try.underlying86, rfl, rfl, inferInstanceAs (One Try.prog 4)⟩
instance : AggT Try.prog 87 4 := ⟨⟨_, Try.underlying87, rfl⟩, by kernel_rfl⟩
instance : EqT Try.prog 87 [.i .i64, .i .i64, .i .i64, .b] := ⟨by kernel_rfl, by kernel_rfl, by kernel_rfl, by kernel_rfl⟩
instance : FldOne Try.prog 87 0 0 := ⟨_, _, Try.underlying87, rfl, rfl, inferInstanceAs (One Try.prog 3)⟩
instance : FldOne Try.prog 87 1 1 := ⟨_, _, Try.underlying87, rfl, rfl, inferInstanceAs (One Try.prog 3)⟩
instance : FldOne Try.prog 87 2 2 := ⟨_, _, Try.underlying87, rfl, rfl, inferInstanceAs (One Try.prog 3)⟩
instance : FldOne Try.prog 87 3 3 := ⟨_, _, Try.underlying87, rfl, rfl, inferInstanceAs (One Try.prog 4)⟩
instance : AggT Try.prog 90 2 := ⟨⟨_, Try.underlying90, rfl⟩, by kernel_rfl⟩
instance : EqT Try.prog 90 [.i .i64, .i .i64] := ⟨by kernel_rfl, by kernel_rfl, by kernel_rfl, by kernel_rfl⟩
instance : FldOne Try.prog 90 0 0 := ⟨_, _, Try.underlying90, rfl, rfl, inferInstanceAs (One Try.prog 3)⟩
instance : FldOne Try.prog 90 1 1 := ⟨_, _, Try.underlying90, rfl, rfl, inferInstanceAs (One Try.prog 3)⟩
instance : AggT Try.prog 91 2 := ⟨⟨_, Try.underlying91, rfl⟩, by kernel_rfl⟩
instance : EqT Try.prog 91 [.i .i64, .i .i64] := ⟨by kernel_rfl, by kernel_rfl, by kernel_rfl, by kernel_rfl⟩
instance : FldOne Try.prog 91 0 0 := ⟨_, _, Try.underlying91, rfl, rfl, inferInstanceAs (One Try.prog 3)⟩
instance : FldOne Try.prog 91 1 1 := ⟨_, _, Try.underlying91, rfl, rfl, inferInstanceAs (One Try.prog 3)⟩
instance : AggT Try.prog 92 3 := ⟨⟨_, Try.underlying92, rfl⟩, by kernel_rfl⟩
instance : FldOne Try.prog 92 0 0 := ⟨_, _, Try.underlying92, rfl, rfl, inferInstanceAs (One Try.prog 24)⟩
instance : AggT Try.prog 93 3 := ⟨⟨_, Try.underlying93, rfl⟩, by kernel_rfl⟩
instance : FldOne Try.prog 93 0 0 := ⟨_, _, Try.underlying93, rfl, rfl, inferInstanceAs (One Try.prog 24)⟩
instance : AggT Try.prog 96 3 := ⟨⟨_, Try.underlying96, rfl⟩, by kernel_rfl⟩
instance : EqT Try.prog 96 [.i .i64, .i .i64, .i .i64] := ⟨by kernel_rfl, by kernel_rfl, by kernel_rfl, by kernel_rfl⟩
instance : FldOne Try.prog 96 0 0 := ⟨_, _, Try.underlying96, rfl, rfl, inferInstanceAs (One Try.prog 3)⟩
instance : FldOne Try.prog 96 1 1 := ⟨_, _, Try.underlying96, rfl, rfl, inferInstanceAs (One Try.prog 3)⟩
instance : FldOne Try.prog 96 2 2 := ⟨_, _, Try.underlying96, rfl, rfl, inferInstanceAs (One Try.prog 3)⟩
instance : AggT Try.prog 97 3 := ⟨⟨_, Try.underlying97, rfl⟩, by kernel_rfl⟩
instance : EqT Try.prog 97 [.i .i64, .i .i64, .i .i64] := ⟨by kernel_rfl, by kernel_rfl, by kernel_rfl, by kernel_rfl⟩
instance : FldOne Try.prog 97 0 0 := ⟨_, _, Try.underlying97, rfl, rfl, inferInstanceAs (One Try.prog 3)⟩
instance : FldOne Try.prog 97 1 1 := ⟨_, _, Try.underlying97, rfl, rfl, inferInstanceAs (One Try.prog 3)⟩
instance : FldOne Try.prog 97 2 2 := ⟨_, _, Try.underlying97, rfl, rfl, inferInstanceAs (One Try.prog 3)⟩
instance : ElemZ Try.prog 98 (.pointer none) 8 := ⟨by kernel_rfl, rfl⟩
instance : AggT Try.prog 105 2 := ⟨⟨_, Try.underlying105, rfl⟩, by kernel_rfl⟩
instance : FldOne Try.prog 105 0 0 := ⟨_, _, Try.underlying105, rfl, rfl, inferInstanceAs (One Try.prog 65)⟩
instance : FldOne Try.prog 105 1 1 := ⟨_, _, Try.underlying105, rfl, rfl, inferInstanceAs (One Try.prog 3)⟩
instance : AggT Try.prog 106 2 := ⟨⟨_, Try.underlying106, rfl⟩, by kernel_rfl⟩
instance : FldOne Try.prog 106 0 0 := ⟨_, _, Try.underlying106, rfl, rfl, inferInstanceAs (One Try.prog 65)⟩
instance : FldOne Try.prog 106 1 1 := ⟨_, _, Try.underlying106, rfl, rfl, inferInstanceAs (One Try.prog 3)⟩
instance : ElemZ Try.prog 114 (.slice none 0 0) 24 := ⟨by kernel_rfl, rfl⟩
instance : ElemZ Try.prog 116 (.int .u64 0) 8 := ⟨by kernel_rfl, rfl⟩
instance : IntT Try.prog 116 .u64 := ⟨by kernel_rfl⟩
instance : ElemZ Try.prog 131 (.int .u64 0) 8 := ⟨by kernel_rfl, rfl⟩
instance : IntT Try.prog 131 .u64 := ⟨by kernel_rfl⟩
instance : AggT Try.prog 140 4 := ⟨⟨_, Try.underlying140, rfl⟩, by kernel_rfl⟩
instance : FldOne Try.prog 140 0 0 := ⟨_, _, Try.underlying140, rfl, rfl, inferInstanceAs (One Try.prog 17)⟩
instance : FldOne Try.prog 140 1 1 := ⟨_, _, Try.underlying140, rfl, rfl, inferInstanceAs (One Try.prog 17)⟩
instance : FldOne Try.prog 140 2 2 := ⟨_, _, Try.underlying140, rfl, rfl, inferInstanceAs (One Try.prog 17)⟩
instance : FldOne Try.prog 140 3 3 := ⟨_, _, Try.underlying140, rfl, rfl, inferInstanceAs (One Try.prog 9)⟩
instance : AggT Try.prog 141 4 := ⟨⟨_, Try.underlying141, rfl⟩, by kernel_rfl⟩
instance : FldOne Try.prog 141 0 0 := ⟨_, _, Try.underlying141, rfl, rfl, inferInstanceAs (One Try.prog 17)⟩
instance : FldOne Try.prog 141 1 1 := ⟨_, _, Try.underlying141, rfl, rfl, inferInstanceAs (One Try.prog 17)⟩
instance : FldOne Try.prog 141 2 2 := ⟨_, _, Try.underlying141, rfl, rfl, inferInstanceAs (One Try.prog 17)⟩
instance : FldOne Try.prog 141 3 3 := ⟨_, _, Try.underlying141, rfl, rfl, inferInstanceAs (One Try.prog 9)⟩
instance : ElemZ Try.prog 145 (.int .u32 0) 4 := ⟨by kernel_rfl, rfl⟩
instance : IntT Try.prog 145 .u32 := ⟨by kernel_rfl⟩
instance : ElemZ Try.prog 146 (.int .u8 0) 1 := ⟨by kernel_rfl, rfl⟩
instance : IntT Try.prog 146 .u8 := ⟨by kernel_rfl⟩
instance : ElemZ Try.prog 147 (.int .u8 0) 1 := ⟨by kernel_rfl, rfl⟩
instance : IntT Try.prog 147 .u8 := ⟨by kernel_rfl⟩
instance : ElemZ Try.prog 149 (.pointer none) 8 := ⟨by kernel_rfl, rfl⟩
instance : ElemZ Try.prog 150 (.int .i32 0) 4 := ⟨by kernel_rfl, rfl⟩
instance : IntT Try.prog 150 .i32 := ⟨by kernel_rfl⟩
instance : ElemZ Try.prog 151 (.int .i32 0) 4 := ⟨by kernel_rfl, rfl⟩
instance : IntT Try.prog 151 .i32 := ⟨by kernel_rfl⟩
instance : AggT Try.prog 152 11 := ⟨⟨_, Try.underlying152, rfl⟩, by kernel_rfl⟩
instance : FldOne Try.prog 152 0 0 := ⟨_, _, Try.underlying152, rfl, rfl, inferInstanceAs (One Try.prog 12)⟩
instance : FldOne Try.prog 152 1 1 := ⟨_, _, Try.underlying152, rfl, rfl, inferInstanceAs (One Try.prog 12)⟩
instance : FldOne Try.prog 152 2 2 := ⟨_, _, Try.underlying152, rfl, rfl, inferInstanceAs (One Try.prog 145)⟩
instance : FldOne Try.prog 152 3 3 := ⟨_, _, Try.underlying152, rfl, rfl, inferInstanceAs (One Try.prog 146)⟩
instance : FldOne Try.prog 152 4 4 := ⟨_, _, Try.underlying152, rfl, rfl, inferInstanceAs (One Try.prog 5)⟩
instance : FldOne Try.prog 152 5 5 := ⟨_, _, Try.underlying152, rfl, rfl, inferInstanceAs (One Try.prog 5)⟩
instance : FldOne Try.prog 152 6 6 := ⟨_, _, Try.underlying152, rfl, rfl, inferInstanceAs (One Try.prog 147)⟩
instance : FldOne Try.prog 152 7 7 := ⟨_, _, Try.underlying152, rfl, rfl, inferInstanceAs (One Try.prog 148)⟩
instance : FldOne Try.prog 152 8 8 := ⟨_, _, Try.underlying152, rfl, rfl, inferInstanceAs (One Try.prog 149)⟩
instance : FldOne Try.prog 152 9 9 := ⟨_, _, Try.underlying152, rfl, rfl, inferInstanceAs (One Try.prog 150)⟩
instance : FldOne Try.prog 152 10 10 := ⟨_, _, Try.underlying152, rfl, rfl, inferInstanceAs (One Try.prog 151)⟩
instance : AggT Try.prog 153 11 := ⟨⟨_, Try.underlying153, rfl⟩, by kernel_rfl⟩
instance : FldOne Try.prog 153 0 0 := ⟨_, _, Try.underlying153, rfl, rfl, inferInstanceAs (One Try.prog 12)⟩
instance : FldOne Try.prog 153 1 1 := ⟨_, _, Try.underlying153, rfl, rfl, inferInstanceAs (One Try.prog 12)⟩
instance : FldOne Try.prog 153 2 2 := ⟨_, _, Try.underlying153, rfl, rfl, inferInstanceAs (One Try.prog 145)⟩
instance : FldOne Try.prog 153 3 3 := ⟨_, _, Try.underlying153, rfl, rfl, inferInstanceAs (One Try.prog 146)⟩
instance : FldOne Try.prog 153 4 4 := ⟨_, _, Try.underlying153, rfl, rfl, inferInstanceAs (One Try.prog 5)⟩
instance : FldOne Try.prog 153 5 5 := ⟨_, _, Try.underlying153, rfl, rfl, inferInstanceAs (One Try.prog 5)⟩
instance : FldOne Try.prog 153 6 6 := ⟨_, _, Try.underlying153, rfl, rfl, inferInstanceAs (One Try.prog 147)⟩
instance : FldOne Try.prog 153 7 7 := ⟨_, _, Try.underlying153, rfl, rfl, inferInstanceAs (One Try.prog 148)⟩
instance : FldOne Try.prog 153 8 8 := ⟨_, _, Try.underlying153, rfl, rfl, inferInstanceAs (One Try.prog 149)⟩
instance : FldOne Try.prog 153 9 9 := ⟨_, _, Try.underlying153, rfl, rfl, inferInstanceAs (One Try.prog 150)⟩
instance : FldOne Try.prog 153 10 10 := ⟨_, _, Try.underlying153, rfl, rfl, inferInstanceAs (One Try.prog 151)⟩
instance : HasBody Try.prog 3 := ⟨fun _ _ => by kernel_rfl⟩
instance : HasBody Try.prog 4 := ⟨fun _ _ => by kernel_rfl⟩
instance : HasBody Try.prog 5 := ⟨fun _ _ => by kernel_rfl⟩
instance : HasBody Try.prog 6 := ⟨fun _ _ => by kernel_rfl⟩
instance : HasBody Try.prog 7 := ⟨fun _ _ => by kernel_rfl⟩
instance : HasBody Try.prog 8 := ⟨fun _ _ => by kernel_rfl⟩
instance : HasBody Try.prog 9 := ⟨fun _ _ => by kernel_rfl⟩
instance : HasBody Try.prog 10 := ⟨fun _ _ => by kernel_rfl⟩
instance : HasBody Try.prog 11 := ⟨fun _ _ => by kernel_rfl⟩
instance : HasBody Try.prog 12 := ⟨fun _ _ => by kernel_rfl⟩
instance : HasBody Try.prog 13 := ⟨fun _ _ => by kernel_rfl⟩
instance : HasBody Try.prog 14 := ⟨fun _ _ => by kernel_rfl⟩
instance : HasBody Try.prog 15 := ⟨fun _ _ => by kernel_rfl⟩
instance : HasBody Try.prog 16 := ⟨fun _ _ => by kernel_rfl⟩
instance : HasBody Try.prog 17 := ⟨fun _ _ => by kernel_rfl⟩
instance : HasBody Try.prog 18 := ⟨fun _ _ => by kernel_rfl⟩
instance : HasBody Try.prog 19 := ⟨fun _ _ => by kernel_rfl⟩
instance : HasBody Try.prog 20 := ⟨fun _ _ => by kernel_rfl⟩
instance : HasBody Try.prog 21 := ⟨fun _ _ => by kernel_rfl⟩
instance : HasBody Try.prog 22 := ⟨fun _ _ => by kernel_rfl⟩
instance : HasBody Try.prog 23 := ⟨fun _ _ => by kernel_rfl⟩
instance : HasBody Try.prog 24 := ⟨fun _ _ => by kernel_rfl⟩
instance : HasBody Try.prog 25 := ⟨fun _ _ => by kernel_rfl⟩
instance : HasBody Try.prog 26 := ⟨fun _ _ => by kernel_rfl⟩
instance : HasBody Try.prog 27 := ⟨fun _ _ => by kernel_rfl⟩
instance : HasBody Try.prog 28 := ⟨fun _ _ => by kernel_rfl⟩
instance : HasBody Try.prog 29 := ⟨fun _ _ => by kernel_rfl⟩
instance : HasBody Try.prog 30 := ⟨fun _ _ => by kernel_rfl⟩
instance : HasBody Try.prog 31 := ⟨fun _ _ => by kernel_rfl⟩
instance : HasBody Try.prog 32 := ⟨fun _ _ => by kernel_rfl⟩
instance : HasBody Try.prog 33 := ⟨fun _ _ => by kernel_rfl⟩
instance : HasBody Try.prog 34 := ⟨fun _ _ => by kernel_rfl⟩
instance : HasBody Try.prog 35 := ⟨fun _ _ => by kernel_rfl⟩
instance : HasBody Try.prog 36 := ⟨fun _ _ => by kernel_rfl⟩
instance : HasBody Try.prog 37 := ⟨fun _ _ => by kernel_rfl⟩
instance : HasBody Try.prog 38 := ⟨fun _ _ => by kernel_rfl⟩
instance : HasBody Try.prog 39 := ⟨fun _ _ => by kernel_rfl⟩
instance : HasBody Try.prog 40 := ⟨fun _ _ => by kernel_rfl⟩
instance : HasBody Try.prog 41 := ⟨fun _ _ => by kernel_rfl⟩
instance : HasBody Try.prog 42 := ⟨fun _ _ => by kernel_rfl⟩
instance : HasBody Try.prog 43 := ⟨fun _ _ => by kernel_rfl⟩
instance : HasBody Try.prog 44 := ⟨fun _ _ => by kernel_rfl⟩
instance : HasBody Try.prog 45 := ⟨fun _ _ => by kernel_rfl⟩
instance : HasBody Try.prog 46 := ⟨fun _ _ => by kernel_rfl⟩
instance : HasBody Try.prog 47 := ⟨fun _ _ => by kernel_rfl⟩
instance : HasBody Try.prog 48 := ⟨fun _ _ => by kernel_rfl⟩
instance : HasBody Try.prog 49 := ⟨fun _ _ => by kernel_rfl⟩
instance : HasBody Try.prog 50 := ⟨fun _ _ => by kernel_rfl⟩
instance : HasBody Try.prog 51 := ⟨fun _ _ => by kernel_rfl⟩
instance : HasBody Try.prog 52 := ⟨fun _ _ => by kernel_rfl⟩
instance : HasBody Try.prog 53 := ⟨fun _ _ => by kernel_rfl⟩
instance : HasBody Try.prog 54 := ⟨fun _ _ => by kernel_rfl⟩
instance : HasBody Try.prog 55 := ⟨fun _ _ => by kernel_rfl⟩
instance : HasBody Try.prog 56 := ⟨fun _ _ => by kernel_rfl⟩
instance : HasBody Try.prog 57 := ⟨fun _ _ => by kernel_rfl⟩
instance : HasBody Try.prog 58 := ⟨fun _ _ => by kernel_rfl⟩
instance : HasBody Try.prog 59 := ⟨fun _ _ => by kernel_rfl⟩
instance : HasBody Try.prog 60 := ⟨fun _ _ => by kernel_rfl⟩
instance : HasBody Try.prog 61 := ⟨fun _ _ => by kernel_rfl⟩
instance : HasBody Try.prog 62 := ⟨fun _ _ => by kernel_rfl⟩
instance : HasBody Try.prog 63 := ⟨fun _ _ => by kernel_rfl⟩
instance : HasBody Try.prog 64 := ⟨fun _ _ => by kernel_rfl⟩
instance : HasBody Try.prog 65 := ⟨fun _ _ => by kernel_rfl⟩
instance : HasBody Try.prog 66 := ⟨fun _ _ => by kernel_rfl⟩
instance : HasBody Try.prog 67 := ⟨fun _ _ => by kernel_rfl⟩
instance : HasBody Try.prog 68 := ⟨fun _ _ => by kernel_rfl⟩
instance : HasBody Try.prog 69 := ⟨fun _ _ => by kernel_rfl⟩
instance : HasBody Try.prog 70 := ⟨fun _ _ => by kernel_rfl⟩
instance : HasBody Try.prog 71 := ⟨fun _ _ => by kernel_rfl⟩
instance : HasBody Try.prog 72 := ⟨fun _ _ => by kernel_rfl⟩
instance : HasBody Try.prog 73 := ⟨fun _ _ => by kernel_rfl⟩
instance : HasBody Try.prog 74 := ⟨fun _ _ => by kernel_rfl⟩
instance : HasBody Try.prog 75 := ⟨fun _ _ => by kernel_rfl⟩
instance : HasBody Try.prog 76 := ⟨fun _ _ => by kernel_rfl⟩
instance : HasBody Try.prog 77 := ⟨fun _ _ => by kernel_rfl⟩
instance : HasBody Try.prog 78 := ⟨fun _ _ => by kernel_rfl⟩
instance : HasBody Try.prog 79 := ⟨fun _ _ => by kernel_rfl⟩
instance : HasBody Try.prog 80 := ⟨fun _ _ => by kernel_rfl⟩
instance : HasBody Try.prog 81 := ⟨fun _ _ => by kernel_rfl⟩
instance : HasBody Try.prog 82 := ⟨fun _ _ => by kernel_rfl⟩
instance : HasBody Try.prog 83 := ⟨fun _ _ => by kernel_rfl⟩
instance : HasBody Try.prog 84 := ⟨fun _ _ => by kernel_rfl⟩
instance : HasBody Try.prog 85 := ⟨fun _ _ => by kernel_rfl⟩
instance : HasBody Try.prog 86 := ⟨fun _ _ => by kernel_rfl⟩
instance : HasBody Try.prog 87 := ⟨fun _ _ => by kernel_rfl⟩
instance : HasBody Try.prog 88 := ⟨fun _ _ => by kernel_rfl⟩
instance : HasBody Try.prog 89 := ⟨fun _ _ => by kernel_rfl⟩
instance : HasBody Try.prog 90 := ⟨fun _ _ => by kernel_rfl⟩
instance : HasBody Try.prog 91 := ⟨fun _ _ => by kernel_rfl⟩
instance : HasBody Try.prog 92 := ⟨fun _ _ => by kernel_rfl⟩
end Go.Proofs.Ytklbeipdigancaa
