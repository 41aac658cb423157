/- What the reader asks of types and functions, closed facts of this program. -/
import Derived.Test.YtbnbbafffihapaaV8
namespace Go.Proofs.Ytbnbbafffihapaa
open Go.RowKit
instance : Mixed Try.prog := ⟨by kernel_rfl⟩
instance : One Try.prog 1 := ⟨fun _ => by kernel_rfl, fun _ => by kernel_rfl⟩
instance : One Try.prog 2 := ⟨fun _ => by kernel_rfl, fun _ => by kernel_rfl⟩
instance : One Try.prog 3 := ⟨fun _ => by kernel_rfl, fun _ => by kernel_rfl⟩
instance : One Try.prog 4 := ⟨fun _ => by kernel_rfl, fun _ => by kernel_rfl⟩
instance : One Try.prog 5 := ⟨fun _ => by kernel_rfl, fun _ => by kernel_rfl⟩
instance : One Try.prog 6 := ⟨fun _ => by kernel_rfl, fun _ => by kernel_rfl⟩
instance : FOff Try.prog 7 0 0 := ⟨fun _ _ _ => by kernel_rfl⟩
instance : FOff Try.prog 7 1 1 := ⟨fun _ _ _ => by kernel_rfl⟩
instance : FOff Try.prog 7 2 2 := ⟨fun _ _ _ => by kernel_rfl⟩
instance : FOff Try.prog 7 3 3 := ⟨fun _ _ _ => by kernel_rfl⟩
instance : FOff Try.prog 8 0 0 := ⟨fun _ _ _ => by kernel_rfl⟩
instance : FOff Try.prog 8 1 1 := ⟨fun _ _ _ => by kernel_rfl⟩
instance : FOff Try.prog 8 2 2 := ⟨fun _ _ _ => by kernel_rfl⟩
instance : FOff Try.prog 8 3 3 := ⟨fun _ _ _ => by kernel_rfl⟩
instance : StrT Try.prog 9 := ⟨by kernel_rfl⟩
instance : One Try.prog 9 := ⟨fun _ => by kernel_rfl, fun _ => by kernel_rfl⟩
instance : StrT Try.prog 10 := ⟨by kernel_rfl⟩
instance : One Try.prog 10 := ⟨fun _ => by kernel_rfl, fun _ => by kernel_rfl⟩
instance : StrT Try.prog 11 := ⟨by kernel_rfl⟩
instance : One Try.prog 11 := ⟨fun _ => by kernel_rfl, fun _ => by kernel_rfl⟩
instance : One Try.prog 12 := ⟨fun _ => by kernel_rfl, fun _ => by kernel_rfl⟩
instance : FOff Try.prog 13 0 0 := ⟨fun _ _ _ => by kernel_rfl⟩
instance : FOff Try.prog 13 1 1 := ⟨fun _ _ _ => by kernel_rfl⟩
instance : FOff Try.prog 14 0 0 := ⟨fun _ _ _ => by kernel_rfl⟩
instance : FOff Try.prog 14 1 1 := ⟨fun _ _ _ => by kernel_rfl⟩
instance : PtrT Try.prog 15 := ⟨by kernel_rfl⟩
instance : One Try.prog 15 := ⟨fun _ => by kernel_rfl, fun _ => by kernel_rfl⟩
instance : PtrT Try.prog 16 := ⟨by kernel_rfl⟩
instance : One Try.prog 16 := ⟨fun _ => by kernel_rfl, fun _ => by kernel_rfl⟩
instance : PtrT Try.prog 17 := ⟨by kernel_rfl⟩
instance : One Try.prog 17 := ⟨fun _ => by kernel_rfl, fun _ => by kernel_rfl⟩
instance : FOff Try.prog 18 0 0 := ⟨fun _ _ _ => by kernel_rfl⟩
instance : FOff Try.prog 19 0 0 := ⟨fun _ _ _ => by kernel_rfl⟩
instance : One Try.prog 20 := ⟨fun _ => by kernel_rfl, fun _ => by kernel_rfl⟩
instance : One Try.prog 21 := ⟨fun _ => by kernel_rfl, fun _ => by kernel_rfl⟩
instance : FOff Try.prog 22 0 0 := ⟨fun _ _ _ => by kernel_rfl⟩
instance : FOff Try.prog 22 1 1 := ⟨fun _ _ _ => by kernel_rfl⟩
instance : FOff Try.prog 22 2 2 := ⟨fun _ _ _ => by kernel_rfl⟩
instance : FOff Try.prog 22 3 3 := ⟨fun _ _ _ => by kernel_rfl⟩
instance : FOff Try.prog 22 4 4 := ⟨fun _ _ _ => by kernel_rfl⟩
instance : FOff Try.prog 22 5 5 := ⟨fun _ _ _ => by kernel_rfl⟩
instance : FOff Try.prog 22 6 6 := ⟨fun _ _ _ => by kernel_rfl⟩
instance : FOff Try.prog 23 0 0 := ⟨fun _ _ _ => by kernel_rfl⟩
instance : FOff Try.prog 23 1 1 := ⟨fun _ _ _ => by kernel_rfl⟩
instance : FOff Try.prog 23 2 2 := ⟨fun _ _ _ => by kernel_rfl⟩
instance : FOff Try.prog 23 3 3 := ⟨fun _ _ _ => by kernel_rfl⟩
instance : FOff Try.prog 23 4 4 := ⟨fun _ _ _ => by kernel_rfl⟩
instance : FOff Try.prog 23 5 5 := ⟨fun _ _ _ => by kernel_rfl⟩
instance : FOff Try.prog 23 6 6 := ⟨fun _ _ _ => by kernel_rfl⟩
instance : SlT Try.prog 24 3 1 := ⟨by kernel_rfl, fun _ => by kernel_rfl⟩
instance : One Try.prog 24 := ⟨fun _ => by kernel_rfl, fun _ => by kernel_rfl⟩
instance : One Try.prog 25 := ⟨fun _ => by kernel_rfl, fun _ => by kernel_rfl⟩
instance : SlT Try.prog 26 45 2 := ⟨by kernel_rfl, fun _ => by kernel_rfl⟩
instance : One Try.prog 26 := ⟨fun _ => by kernel_rfl, fun _ => by kernel_rfl⟩
instance : One Try.prog 27 := ⟨fun _ => by kernel_rfl, fun _ => by kernel_rfl⟩
instance : One Try.prog 28 := ⟨fun _ => by kernel_rfl, fun _ => by kernel_rfl⟩
instance : One Try.prog 29 := ⟨fun _ => by kernel_rfl, fun _ => by kernel_rfl⟩
instance : One Try.prog 30 := ⟨fun _ => by kernel_rfl, fun _ => by kernel_rfl⟩
instance : One Try.prog 31 := ⟨fun _ => by kernel_rfl, fun _ => by kernel_rfl⟩
instance : PtrT Try.prog 32 := ⟨by kernel_rfl⟩
instance : One Try.prog 32 := ⟨fun _ => by kernel_rfl, fun _ => by kernel_rfl⟩
instance : One Try.prog 33 := ⟨fun _ => by kernel_rfl, fun _ => by kernel_rfl⟩
instance : One Try.prog 35 := ⟨fun _ => by kernel_rfl, fun _ => by kernel_rfl⟩
instance : One Try.prog 36 := ⟨fun _ => by kernel_rfl, fun _ => by kernel_rfl⟩
instance : SlT Try.prog 37 41 4 := ⟨by kernel_rfl, fun _ => by kernel_rfl⟩
instance : One Try.prog 37 := ⟨fun _ => by kernel_rfl, fun _ => by kernel_rfl⟩
instance : One Try.prog 38 := ⟨fun _ => by kernel_rfl, fun _ => by kernel_rfl⟩
instance : One Try.prog 39 := ⟨fun _ => by kernel_rfl, fun _ => by kernel_rfl⟩
instance : FOff Try.prog 40 0 0 := ⟨fun _ _ _ => by kernel_rfl⟩
instance : FOff Try.prog 40 1 1 := ⟨fun _ _ _ => by kernel_rfl⟩
instance : FOff Try.prog 40 2 2 := ⟨fun _ _ _ => by kernel_rfl⟩
instance : FOff Try.prog 40 3 3 := ⟨fun _ _ _ => by kernel_rfl⟩
instance : FOff Try.prog 41 0 0 := ⟨fun _ _ _ => by kernel_rfl⟩
instance : FOff Try.prog 41 1 1 := ⟨fun _ _ _ => by kernel_rfl⟩
instance : FOff Try.prog 41 2 2 := ⟨fun _ _ _ => by kernel_rfl⟩
instance : FOff Try.prog 41 3 3 := ⟨fun _ _ _ => by kernel_rfl⟩
instance : One Try.prog 42 := ⟨fun _ => by kernel_rfl, fun _ => by kernel_rfl⟩
instance : One Try.prog 43 := ⟨fun _ => by kernel_rfl, fun _ => by kernel_rfl⟩
instance : FOff Try.prog 44 0 0 := ⟨fun _ _ _ => by kernel_rfl⟩
instance : FOff Try.prog 44 1 1 := ⟨fun _ _ _ => by kernel_rfl⟩
instance : FOff Try.prog 45 0 0 := ⟨fun _ _ _ => by kernel_rfl⟩
instance : FOff Try.prog 45 1 1 := ⟨fun _ _ _ => by kernel_rfl⟩
instance : One Try.prog 46 := ⟨fun _ => by kernel_rfl, fun _ => by kernel_rfl⟩
instance : One Try.prog 47 := ⟨fun _ => by kernel_rfl, fun _ => by kernel_rfl⟩
instance : One Try.prog 48 := ⟨fun _ => by kernel_rfl, fun _ => by kernel_rfl⟩
instance : One Try.prog 49 := ⟨fun _ => by kernel_rfl, fun _ => by kernel_rfl⟩
instance : PtrT Try.prog 50 := ⟨by kernel_rfl⟩
instance : One Try.prog 50 := ⟨fun _ => by kernel_rfl, fun _ => by kernel_rfl⟩
instance : One Try.prog 51 := ⟨fun _ => by kernel_rfl, fun _ => by kernel_rfl⟩
instance : One Try.prog 52 := ⟨fun _ => by kernel_rfl, fun _ => by kernel_rfl⟩
instance : PtrT Try.prog 54 := ⟨by kernel_rfl⟩
instance : One Try.prog 54 := ⟨fun _ => by kernel_rfl, fun _ => by kernel_rfl⟩
instance : One Try.prog 55 := ⟨fun _ => by kernel_rfl, fun _ => by kernel_rfl⟩
instance : One Try.prog 56 := ⟨fun _ => by kernel_rfl, fun _ => by kernel_rfl⟩
instance : FOff Try.prog 57 0 0 := ⟨fun _ _ _ => by kernel_rfl⟩
instance : FOff Try.prog 57 1 7 := ⟨fun _ _ _ => by kernel_rfl⟩
instance : FOff Try.prog 57 2 8 := ⟨fun _ _ _ => by kernel_rfl⟩
instance : FOff Try.prog 57 3 9 := ⟨fun _ _ _ => by kernel_rfl⟩
instance : FOff Try.prog 57 4 10 := ⟨fun _ _ _ => by kernel_rfl⟩
instance : FOff Try.prog 57 5 11 := ⟨fun _ _ _ => by kernel_rfl⟩
instance : FOff Try.prog 57 6 12 := ⟨fun _ _ _ => by kernel_rfl⟩
instance : FOff Try.prog 57 7 13 := ⟨fun _ _ _ => by kernel_rfl⟩
instance : FOff Try.prog 57 8 14 := ⟨fun _ _ _ => by kernel_rfl⟩
instance : FOff Try.prog 58 0 0 := ⟨fun _ _ _ => by kernel_rfl⟩
instance : FOff Try.prog 58 1 7 := ⟨fun _ _ _ => by kernel_rfl⟩
instance : FOff Try.prog 58 2 8 := ⟨fun _ _ _ => by kernel_rfl⟩
instance : FOff Try.prog 58 3 9 := ⟨fun _ _ _ => by kernel_rfl⟩
instance : FOff Try.prog 58 4 10 := ⟨fun _ _ _ => by kernel_rfl⟩
instance : FOff Try.prog 58 5 11 := ⟨fun _ _ _ => by kernel_rfl⟩
instance : FOff Try.prog 58 6 12 := ⟨fun _ _ _ => by kernel_rfl⟩
instance : FOff Try.prog 58 7 13 := ⟨fun _ _ _ => by kernel_rfl⟩
instance : FOff Try.prog 58 8 14 := ⟨fun _ _ _ => by kernel_rfl⟩
instance : One Try.prog 59 := ⟨fun _ => by kernel_rfl, fun _ => by kernel_rfl⟩
instance : One Try.prog 60 := ⟨fun _ => by kernel_rfl, fun _ => by kernel_rfl⟩
instance : SlT Try.prog 61 137 12 := ⟨by kernel_rfl, fun _ => by kernel_rfl⟩
instance : One Try.prog 61 := ⟨fun _ => by kernel_rfl, fun _ => by kernel_rfl⟩
instance : SlT Try.prog 63 47 1 := ⟨by kernel_rfl, fun _ => by kernel_rfl⟩
instance : One Try.prog 63 := ⟨fun _ => by kernel_rfl, fun _ => by kernel_rfl⟩
instance : FOff Try.prog 64 0 0 := ⟨fun _ _ _ => by kernel_rfl⟩
instance : FOff Try.prog 65 0 0 := ⟨fun _ _ _ => by kernel_rfl⟩
instance : FOff Try.prog 66 0 0 := ⟨fun _ _ _ => by kernel_rfl⟩
instance : FOff Try.prog 66 1 1 := ⟨fun _ _ _ => by kernel_rfl⟩
instance : FOff Try.prog 66 2 2 := ⟨fun _ _ _ => by kernel_rfl⟩
instance : FOff Try.prog 66 3 5 := ⟨fun _ _ _ => by kernel_rfl⟩
instance : FOff Try.prog 66 4 6 := ⟨fun _ _ _ => by kernel_rfl⟩
instance : FOff Try.prog 66 5 7 := ⟨fun _ _ _ => by kernel_rfl⟩
instance : FOff Try.prog 66 6 8 := ⟨fun _ _ _ => by kernel_rfl⟩
instance : FOff Try.prog 66 7 9 := ⟨fun _ _ _ => by kernel_rfl⟩
instance : FOff Try.prog 67 0 0 := ⟨fun _ _ _ => by kernel_rfl⟩
instance : FOff Try.prog 67 1 1 := ⟨fun _ _ _ => by kernel_rfl⟩
instance : FOff Try.prog 67 2 2 := ⟨fun _ _ _ => by kernel_rfl⟩
instance : FOff Try.prog 67 3 5 := ⟨fun _ _ _ => by kernel_rfl⟩
instance : FOff Try.prog 67 4 6 := ⟨fun _ _ _ => by kernel_rfl⟩
instance : FOff Try.prog 67 5 7 := ⟨fun _ _ _ => by kernel_rfl⟩
instance : FOff Try.prog 67 6 8 := ⟨fun _ _ _ => by kernel_rfl⟩
instance : FOff Try.prog 67 7 9 := ⟨fun _ _ _ => by kernel_rfl⟩
instance : One Try.prog 68 := ⟨fun _ => by kernel_rfl, fun _ => by kernel_rfl⟩
instance : One Try.prog 69 := ⟨fun _ => by kernel_rfl, fun _ => by kernel_rfl⟩
instance : One Try.prog 71 := ⟨fun _ => by kernel_rfl, fun _ => by kernel_rfl⟩
instance : SlT Try.prog 72 82 3 := ⟨by kernel_rfl, fun _ => by kernel_rfl⟩
instance : One Try.prog 72 := ⟨fun _ => by kernel_rfl, fun _ => by kernel_rfl⟩
instance : One Try.prog 74 := ⟨fun _ => by kernel_rfl, fun _ => by kernel_rfl⟩
instance : One Try.prog 75 := ⟨fun _ => by kernel_rfl, fun _ => by kernel_rfl⟩
instance : One Try.prog 76 := ⟨fun _ => by kernel_rfl, fun _ => by kernel_rfl⟩
instance : One Try.prog 77 := ⟨fun _ => by kernel_rfl, fun _ => by kernel_rfl⟩
instance : One Try.prog 78 := ⟨fun _ => by kernel_rfl, fun _ => by kernel_rfl⟩
instance : One Try.prog 79 := ⟨fun _ => by kernel_rfl, fun _ => by kernel_rfl⟩
instance : One Try.prog 80 := ⟨fun _ => by kernel_rfl, fun _ => by kernel_rfl⟩
instance : FOff Try.prog 81 0 0 := ⟨fun _ _ _ => by kernel_rfl⟩
instance : FOff Try.prog 81 1 1 := ⟨fun _ _ _ => by kernel_rfl⟩
instance : FOff Try.prog 81 2 2 := ⟨fun _ _ _ => by kernel_rfl⟩
instance : FOff Try.prog 82 0 0 := ⟨fun _ _ _ => by kernel_rfl⟩
instance : FOff Try.prog 82 1 1 := ⟨fun _ _ _ => by kernel_rfl⟩
instance : FOff Try.prog 82 2 2 := ⟨fun _ _ _ => by kernel_rfl⟩
instance : One Try.prog 83 := ⟨fun _ => by kernel_rfl, fun _ => by kernel_rfl⟩
instance : FOff Try.prog 84 0 0 := ⟨fun _ _ _ => by kernel_rfl⟩
instance : FOff Try.prog 84 1 15 := ⟨fun _ _ _ => by kernel_rfl⟩
instance : FOff Try.prog 85 0 0 := ⟨fun _ _ _ => by kernel_rfl⟩
instance : FOff Try.prog 85 1 15 := ⟨fun _ _ _ => by kernel_rfl⟩
instance : One Try.prog 87 := ⟨fun _ => by kernel_rfl, fun _ => by kernel_rfl⟩
instance : One Try.prog 88 := ⟨fun _ => by kernel_rfl, fun _ => by kernel_rfl⟩
instance : SlT Try.prog 89 92 2 := ⟨by kernel_rfl, fun _ => by kernel_rfl⟩
instance : One Try.prog 89 := ⟨fun _ => by kernel_rfl, fun _ => by kernel_rfl⟩
instance : One Try.prog 90 := ⟨fun _ => by kernel_rfl, fun _ => by kernel_rfl⟩
instance : FOff Try.prog 91 0 0 := ⟨fun _ _ _ => by kernel_rfl⟩
instance : FOff Try.prog 91 1 1 := ⟨fun _ _ _ => by kernel_rfl⟩
instance : FOff Try.prog 92 0 0 := ⟨fun _ _ _ => by kernel_rfl⟩
instance : FOff Try.prog 92 1 1 := ⟨fun _ _ _ => by kernel_rfl⟩
instance : One Try.prog 93 := ⟨fun _ => by kernel_rfl, fun _ => by kernel_rfl⟩
instance : One Try.prog 94 := ⟨fun _ => by kernel_rfl, fun _ => by kernel_rfl⟩
instance : One Try.prog 95 := ⟨fun _ => by kernel_rfl, fun _ => by kernel_rfl⟩
instance : One Try.prog 96 := ⟨fun _ => by kernel_rfl, fun _ => by kernel_rfl⟩
instance : SlT Try.prog 97 63 1 := ⟨by kernel_rfl, fun _ => by kernel_rfl⟩
instance : One Try.prog 97 := ⟨fun _ => by kernel_rfl, fun _ => by kernel_rfl⟩
instance : One Try.prog 99 := ⟨fun _ => by kernel_rfl, fun _ => by kernel_rfl⟩
instance : PtrT Try.prog 100 := ⟨by kernel_rfl⟩
instance : One Try.prog 100 := ⟨fun _ => by kernel_rfl, fun _ => by kernel_rfl⟩
instance : One Try.prog 101 := ⟨fun _ => by kernel_rfl, fun _ => by kernel_rfl⟩
instance : One Try.prog 102 := ⟨fun _ => by kernel_rfl, fun _ => by kernel_rfl⟩
instance : One Try.prog 103 := ⟨fun _ => by kernel_rfl, fun _ => by kernel_rfl⟩
instance : One Try.prog 104 := ⟨fun _ => by kernel_rfl, fun _ => by kernel_rfl⟩
instance : One Try.prog 105 := ⟨fun _ => by kernel_rfl, fun _ => by kernel_rfl⟩
instance : One Try.prog 106 := ⟨fun _ => by kernel_rfl, fun _ => by kernel_rfl⟩
instance : One Try.prog 107 := ⟨fun _ => by kernel_rfl, fun _ => by kernel_rfl⟩
instance : One Try.prog 108 := ⟨fun _ => by kernel_rfl, fun _ => by kernel_rfl⟩
instance : SlT Try.prog 109 5 1 := ⟨by kernel_rfl, fun _ => by kernel_rfl⟩
instance : One Try.prog 109 := ⟨fun _ => by kernel_rfl, fun _ => by kernel_rfl⟩
instance : One Try.prog 111 := ⟨fun _ => by kernel_rfl, fun _ => by kernel_rfl⟩
instance : One Try.prog 113 := ⟨fun _ => by kernel_rfl, fun _ => by kernel_rfl⟩
instance : One Try.prog 114 := ⟨fun _ => by kernel_rfl, fun _ => by kernel_rfl⟩
instance : One Try.prog 115 := ⟨fun _ => by kernel_rfl, fun _ => by kernel_rfl⟩
instance : PtrT Try.prog 116 := ⟨by kernel_rfl⟩
instance : One Try.prog 116 := ⟨fun _ => by kernel_rfl, fun _ => by kernel_rfl⟩
instance : One Try.prog 117 := ⟨fun _ => by kernel_rfl, fun _ => by kernel_rfl⟩
instance : SlT Try.prog 118 50 1 := ⟨by kernel_rfl, fun _ => by kernel_rfl⟩
instance : One Try.prog 118 := ⟨fun _ => by kernel_rfl, fun _ => by kernel_rfl⟩
instance : FOff Try.prog 119 0 0 := ⟨fun _ _ _ => by kernel_rfl⟩
instance : FOff Try.prog 119 1 15 := ⟨fun _ _ _ => by kernel_rfl⟩
instance : FOff Try.prog 119 2 16 := ⟨fun _ _ _ => by kernel_rfl⟩
instance : FOff Try.prog 119 3 17 := ⟨fun _ _ _ => by kernel_rfl⟩
instance : FOff Try.prog 119 4 18 := ⟨fun _ _ _ => by kernel_rfl⟩
instance : FOff Try.prog 119 5 19 := ⟨fun _ _ _ => by kernel_rfl⟩
instance : FOff Try.prog 119 6 20 := ⟨fun _ _ _ => by kernel_rfl⟩
instance : FOff Try.prog 120 0 0 := ⟨fun _ _ _ => by kernel_rfl⟩
instance : FOff Try.prog 120 1 15 := ⟨fun _ _ _ => by kernel_rfl⟩
instance : FOff Try.prog 120 2 16 := ⟨fun _ _ _ => by kernel_rfl⟩
instance : FOff Try.prog 120 3 17 := ⟨fun _ _ _ => by kernel_rfl⟩
instance : FOff Try.prog 120 4 18 := ⟨fun _ _ _ => by kernel_rfl⟩
instance : FOff Try.prog 120 5 19 := ⟨fun _ _ _ => by kernel_rfl⟩
instance : FOff Try.prog 120 6 20 := ⟨fun _ _ _ => by kernel_rfl⟩
instance : One Try.prog 121 := ⟨fun _ => by kernel_rfl, fun _ => by kernel_rfl⟩
instance : One Try.prog 122 := ⟨fun _ => by kernel_rfl, fun _ => by kernel_rfl⟩
instance : One Try.prog 123 := ⟨fun _ => by kernel_rfl, fun _ => by kernel_rfl⟩
instance : One Try.prog 124 := ⟨fun _ => by kernel_rfl, fun _ => by kernel_rfl⟩
instance : FOff Try.prog 125 0 0 := ⟨fun _ _ _ => by kernel_rfl⟩
instance : FOff Try.prog 125 1 1 := ⟨fun _ _ _ => by kernel_rfl⟩
instance : FOff Try.prog 125 2 2 := ⟨fun _ _ _ => by kernel_rfl⟩
instance : FOff Try.prog 125 3 3 := ⟨fun _ _ _ => by kernel_rfl⟩
instance : FOff Try.prog 126 0 0 := ⟨fun _ _ _ => by kernel_rfl⟩
instance : FOff Try.prog 126 1 1 := ⟨fun _ _ _ => by kernel_rfl⟩
instance : FOff Try.prog 126 2 2 := ⟨fun _ _ _ => by kernel_rfl⟩
instance : FOff Try.prog 126 3 3 := ⟨fun _ _ _ => by kernel_rfl⟩
instance : SlT Try.prog 127 126 4 := ⟨by kernel_rfl, fun _ => by kernel_rfl⟩
instance : One Try.prog 127 := ⟨fun _ => by kernel_rfl, fun _ => by kernel_rfl⟩
instance : FOff Try.prog 128 0 0 := ⟨fun _ _ _ => by kernel_rfl⟩
instance : FOff Try.prog 128 1 1 := ⟨fun _ _ _ => by kernel_rfl⟩
instance : FOff Try.prog 128 2 2 := ⟨fun _ _ _ => by kernel_rfl⟩
instance : FOff Try.prog 128 3 3 := ⟨fun _ _ _ => by kernel_rfl⟩
instance : FOff Try.prog 129 0 0 := ⟨fun _ _ _ => by kernel_rfl⟩
instance : FOff Try.prog 129 1 1 := ⟨fun _ _ _ => by kernel_rfl⟩
instance : FOff Try.prog 129 2 2 := ⟨fun _ _ _ => by kernel_rfl⟩
instance : FOff Try.prog 129 3 3 := ⟨fun _ _ _ => by kernel_rfl⟩
instance : One Try.prog 130 := ⟨fun _ => by kernel_rfl, fun _ => by kernel_rfl⟩
instance : FOff Try.prog 131 0 0 := ⟨fun _ _ _ => by kernel_rfl⟩
instance : FOff Try.prog 131 1 1 := ⟨fun _ _ _ => by kernel_rfl⟩
instance : FOff Try.prog 131 2 2 := ⟨fun _ _ _ => by kernel_rfl⟩
instance : FOff Try.prog 132 0 0 := ⟨fun _ _ _ => by kernel_rfl⟩
instance : FOff Try.prog 132 1 1 := ⟨fun _ _ _ => by kernel_rfl⟩
instance : FOff Try.prog 132 2 2 := ⟨fun _ _ _ => by kernel_rfl⟩
instance : One Try.prog 133 := ⟨fun _ => by kernel_rfl, fun _ => by kernel_rfl⟩
instance : One Try.prog 134 := ⟨fun _ => by kernel_rfl, fun _ => by kernel_rfl⟩
instance : FOff Try.prog 136 0 0 := ⟨fun _ _ _ => by kernel_rfl⟩
instance : FOff Try.prog 136 1 1 := ⟨fun _ _ _ => by kernel_rfl⟩
instance : FOff Try.prog 136 2 2 := ⟨fun _ _ _ => by kernel_rfl⟩
instance : FOff Try.prog 137 0 0 := ⟨fun _ _ _ => by kernel_rfl⟩
instance : FOff Try.prog 137 1 1 := ⟨fun _ _ _ => by kernel_rfl⟩
instance : FOff Try.prog 137 2 2 := ⟨fun _ _ _ => by kernel_rfl⟩
instance : One Try.prog 138 := ⟨fun _ => by kernel_rfl, fun _ => by kernel_rfl⟩
instance : PtrT Try.prog 139 := ⟨by kernel_rfl⟩
instance : One Try.prog 139 := ⟨fun _ => by kernel_rfl, fun _ => by kernel_rfl⟩
instance : One Try.prog 140 := ⟨fun _ => by kernel_rfl, fun _ => by kernel_rfl⟩
instance : FOff Try.prog 141 0 0 := ⟨fun _ _ _ => by kernel_rfl⟩
instance : FOff Try.prog 141 1 1 := ⟨fun _ _ _ => by kernel_rfl⟩
instance : FOff Try.prog 141 2 2 := ⟨fun _ _ _ => by kernel_rfl⟩
instance : FOff Try.prog 142 0 0 := ⟨fun _ _ _ => by kernel_rfl⟩
instance : FOff Try.prog 142 1 1 := ⟨fun _ _ _ => by kernel_rfl⟩
instance : FOff Try.prog 142 2 2 := ⟨fun _ _ _ => by kernel_rfl⟩
instance : FOff Try.prog 143 0 0 := ⟨fun _ _ _ => by kernel_rfl⟩
instance : FOff Try.prog 144 0 0 := ⟨fun _ _ _ => by kernel_rfl⟩
instance : One Try.prog 145 := ⟨fun _ => by kernel_rfl, fun _ => by kernel_rfl⟩
instance : One Try.prog 146 := ⟨fun _ => by kernel_rfl, fun _ => by kernel_rfl⟩
instance : One Try.prog 147 := ⟨fun _ => by kernel_rfl, fun _ => by kernel_rfl⟩
instance : FOff Try.prog 148 0 0 := ⟨fun _ _ _ => by kernel_rfl⟩
instance : FOff Try.prog 148 1 1 := ⟨fun _ _ _ => by kernel_rfl⟩
instance : FOff Try.prog 149 0 0 := ⟨fun _ _ _ => by kernel_rfl⟩
instance : FOff Try.prog 149 1 1 := ⟨fun _ _ _ => by kernel_rfl⟩
instance : One Try.prog 150 := ⟨fun _ => by kernel_rfl, fun _ => by kernel_rfl⟩
instance : One Try.prog 151 := ⟨fun _ => by kernel_rfl, fun _ => by kernel_rfl⟩
instance : One Try.prog 152 := ⟨fun _ => by kernel_rfl, fun _ => by kernel_rfl⟩
instance : One Try.prog 153 := ⟨fun _ => by kernel_rfl, fun _ => by kernel_rfl⟩
instance : One Try.prog 154 := ⟨fun _ => by kernel_rfl, fun _ => by kernel_rfl⟩
instance : One Try.prog 155 := ⟨fun _ => by kernel_rfl, fun _ => by kernel_rfl⟩
instance : One Try.prog 156 := ⟨fun _ => by kernel_rfl, fun _ => by kernel_rfl⟩
instance : One Try.prog 157 := ⟨fun _ => by kernel_rfl, fun _ => by kernel_rfl⟩
instance : One Try.prog 158 := ⟨fun _ => by kernel_rfl, fun _ => by kernel_rfl⟩
instance : One Try.prog 159 := ⟨fun _ => by kernel_rfl, fun _ => by kernel_rfl⟩
instance : One Try.prog 160 := ⟨fun _ => by kernel_rfl, fun _ => by kernel_rfl⟩
instance : One Try.prog 161 := ⟨fun _ => by kernel_rfl, fun _ => by kernel_rfl⟩
instance : One Try.prog 162 := ⟨fun _ => by kernel_rfl, fun _ => by kernel_rfl⟩
instance : One Try.prog 163 := ⟨fun _ => by kernel_rfl, fun _ => by kernel_rfl⟩
instance : FOff Try.prog 164 0 0 := ⟨fun _ _ _ => by kernel_rfl⟩
instance : FOff Try.prog 164 1 1 := ⟨fun _ _ _ => by kernel_rfl⟩
instance : FOff Try.prog 165 0 0 := ⟨fun _ _ _ => by kernel_rfl⟩
instance : FOff Try.prog 165 1 1 := ⟨fun _ _ _ => by kernel_rfl⟩
instance : FOff Try.prog 166 0 0 := ⟨fun _ _ _ => by kernel_rfl⟩
instance : FOff Try.prog 166 1 1 := ⟨fun _ _ _ => by kernel_rfl⟩
instance : FOff Try.prog 167 0 0 := ⟨fun _ _ _ => by kernel_rfl⟩
instance : FOff Try.prog 167 1 1 := ⟨fun _ _ _ => by kernel_rfl⟩
instance : SlT Try.prog 168 132 3 := ⟨by kernel_rfl, fun _ => by kernel_rfl⟩
instance : One Try.prog 168 := ⟨fun _ => by kernel_rfl, fun _ => by kernel_rfl⟩
instance : FOff Try.prog 169 0 0 := ⟨fun _ _ _ => by kernel_rfl⟩
instance : FOff Try.prog 169 1 1 := ⟨fun _ _ _ => by kernel_rfl⟩
instance : FOff Try.prog 169 2 2 := ⟨fun _ _ _ => by kernel_rfl⟩
instance : FOff Try.prog 170 0 0 := ⟨fun _ _ _ => by kernel_rfl⟩
instance : FOff Try.prog 170 1 1 := ⟨fun _ _ _ => by kernel_rfl⟩
instance : FOff Try.prog 170 2 2 := ⟨fun _ _ _ => by kernel_rfl⟩
instance : FOff Try.prog 171 0 0 := ⟨fun _ _ _ => by kernel_rfl⟩
instance : FOff Try.prog 172 0 0 := ⟨fun _ _ _ => by kernel_rfl⟩
instance : One Try.prog 173 := ⟨fun _ => by kernel_rfl, fun _ => by kernel_rfl⟩
instance : One Try.prog 174 := ⟨fun _ => by kernel_rfl, fun _ => by kernel_rfl⟩
instance : One Try.prog 175 := ⟨fun _ => by kernel_rfl, fun _ => by kernel_rfl⟩
instance : One Try.prog 176 := ⟨fun _ => by kernel_rfl, fun _ => by kernel_rfl⟩
instance : One Try.prog 177 := ⟨fun _ => by kernel_rfl, fun _ => by kernel_rfl⟩
instance : One Try.prog 178 := ⟨fun _ => by kernel_rfl, fun _ => by kernel_rfl⟩
instance : One Try.prog 179 := ⟨fun _ => by kernel_rfl, fun _ => by kernel_rfl⟩
instance : One Try.prog 180 := ⟨fun _ => by kernel_rfl, fun _ => by kernel_rfl⟩
instance : One Try.prog 182 := ⟨fun _ => by kernel_rfl, fun _ => by kernel_rfl⟩
instance : One Try.prog 183 := ⟨fun _ => by kernel_rfl, fun _ => by kernel_rfl⟩
instance : One Try.prog 184 := ⟨fun _ => by kernel_rfl, fun _ => by kernel_rfl⟩
instance : One Try.prog 185 := ⟨fun _ => by kernel_rfl, fun _ => by kernel_rfl⟩
instance : One Try.prog 186 := ⟨fun _ => by kernel_rfl, fun _ => by kernel_rfl⟩
instance : One Try.prog 187 := ⟨fun _ => by kernel_rfl, fun _ => by kernel_rfl⟩
instance : One Try.prog 188 := ⟨fun _ => by kernel_rfl, fun _ => by kernel_rfl⟩
instance : One Try.prog 189 := ⟨fun _ => by kernel_rfl, fun _ => by kernel_rfl⟩
instance : One Try.prog 190 := ⟨fun _ => by kernel_rfl, fun _ => by kernel_rfl⟩
instance : One Try.prog 191 := ⟨fun _ => by kernel_rfl, fun _ => by kernel_rfl⟩
instance : One Try.prog 192 := ⟨fun _ => by kernel_rfl, fun _ => by kernel_rfl⟩
instance : One Try.prog 193 := ⟨fun _ => by kernel_rfl, fun _ => by kernel_rfl⟩
instance : One Try.prog 194 := ⟨fun _ => by kernel_rfl, fun _ => by kernel_rfl⟩
instance : One Try.prog 195 := ⟨fun _ => by kernel_rfl, fun _ => by kernel_rfl⟩
instance : One Try.prog 196 := ⟨fun _ => by kernel_rfl, fun _ => by kernel_rfl⟩
instance : PtrT Try.prog 197 := ⟨by kernel_rfl⟩
instance : One Try.prog 197 := ⟨fun _ => by kernel_rfl, fun _ => by kernel_rfl⟩
instance : One Try.prog 198 := ⟨fun _ => by kernel_rfl, fun _ => by kernel_rfl⟩
instance : One Try.prog 199 := ⟨fun _ => by kernel_rfl, fun _ => by kernel_rfl⟩
instance : One Try.prog 200 := ⟨fun _ => by kernel_rfl, fun _ => by kernel_rfl⟩
instance : One Try.prog 201 := ⟨fun _ => by kernel_rfl, fun _ => by kernel_rfl⟩
instance : One Try.prog 202 := ⟨fun _ => by kernel_rfl, fun _ => by kernel_rfl⟩
instance : One Try.prog 203 := ⟨fun _ => by kernel_rfl, fun _ => by kernel_rfl⟩
instance : One Try.prog 204 := ⟨fun _ => by kernel_rfl, fun _ => by kernel_rfl⟩
instance : One Try.prog 206 := ⟨fun _ => by kernel_rfl, fun _ => by kernel_rfl⟩
instance : One Try.prog 207 := ⟨fun _ => by kernel_rfl, fun _ => by kernel_rfl⟩
instance : One Try.prog 208 := ⟨fun _ => by kernel_rfl, fun _ => by kernel_rfl⟩
instance : FOff Try.prog 209 0 0 := ⟨fun _ _ _ => by kernel_rfl⟩
instance : FOff Try.prog 209 1 1 := ⟨fun _ _ _ => by kernel_rfl⟩
instance : FOff Try.prog 209 2 2 := ⟨fun _ _ _ => by kernel_rfl⟩
instance : FOff Try.prog 209 3 3 := ⟨fun _ _ _ => by kernel_rfl⟩
instance : FOff Try.prog 210 0 0 := ⟨fun _ _ _ => by kernel_rfl⟩
instance : FOff Try.prog 210 1 1 := ⟨fun _ _ _ => by kernel_rfl⟩
instance : FOff Try.prog 210 2 2 := ⟨fun _ _ _ => by kernel_rfl⟩
instance : FOff Try.prog 210 3 3 := ⟨fun _ _ _ => by kernel_rfl⟩
instance : One Try.prog 214 := ⟨fun _ => by kernel_rfl, fun _ => by kernel_rfl⟩
instance : One Try.prog 215 := ⟨fun _ => by kernel_rfl, fun _ => by kernel_rfl⟩
instance : One Try.prog 216 := ⟨fun _ => by kernel_rfl, fun _ => by kernel_rfl⟩
instance : PtrT Try.prog 217 := ⟨by kernel_rfl⟩
instance : One Try.prog 217 := ⟨fun _ => by kernel_rfl, fun _ => by kernel_rfl⟩
instance : One Try.prog 218 := ⟨fun _ => by kernel_rfl, fun _ => by kernel_rfl⟩
instance : One Try.prog 219 := ⟨fun _ => by kernel_rfl, fun _ => by kernel_rfl⟩
instance : FOff Try.prog 220 0 0 := ⟨fun _ _ _ => by kernel_rfl⟩
instance : FOff Try.prog 220 1 1 := ⟨fun _ _ _ => by kernel_rfl⟩
instance : FOff Try.prog 220 2 2 := ⟨fun _ _ _ => by kernel_rfl⟩
instance : FOff Try.prog 220 3 3 := ⟨fun _ _ _ => by kernel_rfl⟩
instance : FOff Try.prog 220 4 4 := ⟨fun _ _ _ => by kernel_rfl⟩
instance : FOff Try.prog 220 5 5 := ⟨fun _ _ _ => by kernel_rfl⟩
instance : FOff Try.prog 220 6 6 := ⟨fun _ _ _ => by kernel_rfl⟩
instance : FOff Try.prog 220 7 7 := ⟨fun _ _ _ => by kernel_rfl⟩
instance : FOff Try.prog 220 8 8 := ⟨fun _ _ _ => by kernel_rfl⟩
instance : FOff Try.prog 220 9 9 := ⟨fun _ _ _ => by kernel_rfl⟩
instance : FOff Try.prog 220 10 10 := ⟨fun _ _ _ => by kernel_rfl⟩
instance : FOff Try.prog 221 0 0 := ⟨fun _ _ _ => by kernel_rfl⟩
instance : FOff Try.prog 221 1 1 := ⟨fun _ _ _ => by kernel_rfl⟩
instance : FOff Try.prog 221 2 2 := ⟨fun _ _ _ => by kernel_rfl⟩
instance : FOff Try.prog 221 3 3 := ⟨fun _ _ _ => by kernel_rfl⟩
instance : FOff Try.prog 221 4 4 := ⟨fun _ _ _ => by kernel_rfl⟩
instance : FOff Try.prog 221 5 5 := ⟨fun _ _ _ => by kernel_rfl⟩
instance : FOff Try.prog 221 6 6 := ⟨fun _ _ _ => by kernel_rfl⟩
instance : FOff Try.prog 221 7 7 := ⟨fun _ _ _ => by kernel_rfl⟩
instance : FOff Try.prog 221 8 8 := ⟨fun _ _ _ => by kernel_rfl⟩
instance : FOff Try.prog 221 9 9 := ⟨fun _ _ _ => by kernel_rfl⟩
instance : FOff Try.prog 221 10 10 := ⟨fun _ _ _ => by kernel_rfl⟩
instance : ElemT Try.prog 2 1 8 := ⟨Try.t2, _, by kernel_rfl, rfl, rfl, rfl, rfl, by decide⟩
instance : ElemT Try.prog 3 1 8 := ⟨Try.t3, _, by kernel_rfl, rfl, rfl, rfl, rfl, by decide⟩
instance : ElemT Try.prog 4 1 1 := ⟨Try.t4, _, by kernel_rfl, rfl, rfl, rfl, rfl, by decide⟩
instance : ElemT Try.prog 5 1 1 := ⟨Try.t5, _, by kernel_rfl, rfl, rfl, rfl, rfl, by decide⟩
instance : ElemT Try.prog 6 1 1 := ⟨Try.t6, _, by kernel_rfl, rfl, rfl, rfl, rfl, by decide⟩
instance : ElemT Try.prog 7 4 24 := ⟨Try.t7, _, by kernel_rfl, rfl, rfl, rfl, rfl, by decide⟩
instance : ElemT Try.prog 8 4 24 := ⟨Try.t8, _, by kernel_rfl, rfl, rfl, rfl, rfl, by decide⟩
instance : ElemT Try.prog 9 1 16 := ⟨Try.t9, _, by kernel_rfl, rfl, rfl, rfl, rfl, by decide⟩
instance : ElemT Try.prog 10 1 16 := ⟨Try.t10, _, by kernel_rfl, rfl, rfl, rfl, rfl, by decide⟩
instance : ElemT Try.prog 11 1 16 := ⟨Try.t11, _, by kernel_rfl, rfl, rfl, rfl, rfl, by decide⟩
instance : ElemT Try.prog 12 1 8 := ⟨Try.t12, _, by kernel_rfl, rfl, rfl, rfl, rfl, by decide⟩
instance : ElemT Try.prog 13 2 24 := ⟨Try.t13, _, by kernel_rfl, rfl, rfl, rfl, rfl, by decide⟩
instance : ElemT Try.prog 14 2 24 := ⟨Try.t14, _, by kernel_rfl, rfl, rfl, rfl, rfl, by decide⟩
instance : ElemT Try.prog 15 1 8 := ⟨Try.t15, _, by kernel_rfl, rfl, rfl, rfl, rfl, by decide⟩
instance : ElemT Try.prog 16 1 8 := ⟨Try.t16, _, by kernel_rfl, rfl, rfl, rfl, rfl, by decide⟩
instance : ElemT Try.prog 17 1 8 := ⟨Try.t17, _, by kernel_rfl, rfl, rfl, rfl, rfl, by decide⟩
instance : ElemT Try.prog 18 1 8 := ⟨Try.t18, _, by kernel_rfl, rfl, rfl, rfl, rfl, by decide⟩
instance : ElemT Try.prog 19 1 8 := ⟨Try.t19, _, by kernel_rfl, rfl, rfl, rfl, rfl, by decide⟩
instance : ElemT Try.prog 21 1 4 := ⟨Try.t21, _, by kernel_rfl, rfl, rfl, rfl, rfl, by decide⟩
instance : ElemT Try.prog 22 7 56 := ⟨Try.t22, _, by kernel_rfl, rfl, rfl, rfl, rfl, by decide⟩
instance : ElemT Try.prog 23 7 56 := ⟨Try.t23, _, by kernel_rfl, rfl, rfl, rfl, rfl, by decide⟩
instance : ElemT Try.prog 24 1 24 := ⟨Try.t24, _, by kernel_rfl, rfl, rfl, rfl, rfl, by decide⟩
instance : ElemT Try.prog 26 1 24 := ⟨Try.t26, _, by kernel_rfl, rfl, rfl, rfl, rfl, by decide⟩
instance : ElemT Try.prog 32 1 8 := ⟨Try.t32, _, by kernel_rfl, rfl, rfl, rfl, rfl, by decide⟩
instance : ElemT Try.prog 33 1 8 := ⟨Try.t33, _, by kernel_rfl, rfl, rfl, rfl, rfl, by decide⟩
instance : ElemT Try.prog 37 1 24 := ⟨Try.t37, _, by kernel_rfl, rfl, rfl, rfl, rfl, by decide⟩
instance : ElemT Try.prog 39 1 4 := ⟨Try.t39, _, by kernel_rfl, rfl, rfl, rfl, rfl, by decide⟩
instance : ElemT Try.prog 40 4 24 := ⟨Try.t40, _, by kernel_rfl, rfl, rfl, rfl, rfl, by decide⟩
instance : ElemT Try.prog 41 4 24 := ⟨Try.t41, _, by kernel_rfl, rfl, rfl, rfl, rfl, by decide⟩
instance : ElemT Try.prog 44 2 8 := ⟨Try.t44, _, by kernel_rfl, rfl, rfl, rfl, rfl, by decide⟩
instance : ElemT Try.prog 45 2 8 := ⟨Try.t45, _, by kernel_rfl, rfl, rfl, rfl, rfl, by decide⟩
instance : ElemT Try.prog 47 1 8 := ⟨Try.t47, _, by kernel_rfl, rfl, rfl, rfl, rfl, by decide⟩
instance : ElemT Try.prog 50 1 8 := ⟨Try.t50, _, by kernel_rfl, rfl, rfl, rfl, rfl, by decide⟩
instance : ElemT Try.prog 54 1 8 := ⟨Try.t54, _, by kernel_rfl, rfl, rfl, rfl, rfl, by decide⟩
instance : ElemT Try.prog 57 15 120 := ⟨Try.t57, _, by kernel_rfl, rfl, rfl, rfl, rfl, by decide⟩
instance : ElemT Try.prog 58 15 120 := ⟨Try.t58, _, by kernel_rfl, rfl, rfl, rfl, rfl, by decide⟩
instance : ElemT Try.prog 61 1 24 := ⟨Try.t61, _, by kernel_rfl, rfl, rfl, rfl, rfl, by decide⟩
instance : ElemT Try.prog 62 3 24 := ⟨Try.t62, _, by kernel_rfl, rfl, rfl, rfl, rfl, by decide⟩
instance : ElemT Try.prog 63 1 24 := ⟨Try.t63, _, by kernel_rfl, rfl, rfl, rfl, rfl, by decide⟩
instance : ElemT Try.prog 64 1 24 := ⟨Try.t64, _, by kernel_rfl, rfl, rfl, rfl, rfl, by decide⟩
instance : ElemT Try.prog 65 1 24 := ⟨Try.t65, _, by kernel_rfl, rfl, rfl, rfl, rfl, by decide⟩
instance : ElemT Try.prog 66 10 176 := ⟨Try.t66, _, by kernel_rfl, rfl, rfl, rfl, rfl, by decide⟩
instance : ElemT Try.prog 67 10 176 := ⟨Try.t67, _, by kernel_rfl, rfl, rfl, rfl, rfl, by decide⟩
instance : ElemT Try.prog 72 1 24 := ⟨Try.t72, _, by kernel_rfl, rfl, rfl, rfl, rfl, by decide⟩
instance : ElemT Try.prog 81 3 24 := ⟨Try.t81, _, by kernel_rfl, rfl, rfl, rfl, rfl, by decide⟩
instance : ElemT Try.prog 82 3 24 := ⟨Try.t82, _, by kernel_rfl, rfl, rfl, rfl, rfl, by decide⟩
instance : ElemT Try.prog 84 16 144 := ⟨Try.t84, _, by kernel_rfl, rfl, rfl, rfl, rfl, by decide⟩
instance : ElemT Try.prog 85 16 144 := ⟨Try.t85, _, by kernel_rfl, rfl, rfl, rfl, rfl, by decide⟩
instance : ElemT Try.prog 89 1 24 := ⟨Try.t89, _, by kernel_rfl, rfl, rfl, rfl, rfl, by decide⟩
instance : ElemT Try.prog 91 2 16 := ⟨Try.t91, _, by kernel_rfl, rfl, rfl, rfl, rfl, by decide⟩
instance : ElemT Try.prog 92 2 16 := ⟨Try.t92, _, by kernel_rfl, rfl, rfl, rfl, rfl, by decide⟩
instance : ElemT Try.prog 97 1 24 := ⟨Try.t97, _, by kernel_rfl, rfl, rfl, rfl, rfl, by decide⟩
instance : ElemT Try.prog 100 1 8 := ⟨Try.t100, _, by kernel_rfl, rfl, rfl, rfl, rfl, by decide⟩
instance : ElemT Try.prog 109 1 24 := ⟨Try.t109, _, by kernel_rfl, rfl, rfl, rfl, rfl, by decide⟩
instance : ElemT Try.prog 116 1 8 := ⟨Try.t116, _, by kernel_rfl, rfl, rfl, rfl, rfl, by decide⟩
instance : ElemT Try.prog 118 1 24 := ⟨Try.t118, _, by kernel_rfl, rfl, rfl, rfl, rfl, by decide⟩
instance : ElemT Try.prog 119 21 176 := ⟨Try.t119, _, by kernel_rfl, rfl, rfl, rfl, rfl, by decide⟩
instance : ElemT Try.prog 120 21 176 := ⟨Try.t120, _, by kernel_rfl, rfl, rfl, rfl, rfl, by decide⟩
instance : ElemT Try.prog 125 4 32 := ⟨Try.t125, _, by kernel_rfl, rfl, rfl, rfl, rfl, by decide⟩
instance : ElemT Try.prog 126 4 32 := ⟨Try.t126, _, by kernel_rfl, rfl, rfl, rfl, rfl, by decide⟩
instance : ElemT Try.prog 127 1 24 := ⟨Try.t127, _, by kernel_rfl, rfl, rfl, rfl, rfl, by decide⟩
instance : ElemT Try.prog 128 4 64 := ⟨Try.t128, _, by kernel_rfl, rfl, rfl, rfl, rfl, by decide⟩
instance : ElemT Try.prog 129 4 64 := ⟨Try.t129, _, by kernel_rfl, rfl, rfl, rfl, rfl, by decide⟩
instance : ElemT Try.prog 131 3 24 := ⟨Try.t131, _, by kernel_rfl, rfl, rfl, rfl, rfl, by decide⟩
instance : ElemT Try.prog 132 3 24 := ⟨Try.t132, _, by kernel_rfl, rfl, rfl, rfl, rfl, by decide⟩
instance : ElemT Try.prog 135 10 80 := ⟨Try.t135, _, by kernel_rfl, rfl, rfl, rfl, rfl, by decide⟩
instance : ElemT Try.prog 136 12 96 := ⟨Try.t136, _, by kernel_rfl, rfl, rfl, rfl, rfl, by decide⟩
instance : ElemT Try.prog 137 12 96 := ⟨Try.t137, _, by kernel_rfl, rfl, rfl, rfl, rfl, by decide⟩
instance : ElemT Try.prog 139 1 8 := ⟨Try.t139, _, by kernel_rfl, rfl, rfl, rfl, rfl, by decide⟩
instance : ElemT Try.prog 141 3 24 := ⟨Try.t141, _, by kernel_rfl, rfl, rfl, rfl, rfl, by decide⟩
instance : ElemT Try.prog 142 3 24 := ⟨Try.t142, _, by kernel_rfl, rfl, rfl, rfl, rfl, by decide⟩
instance : ElemT Try.prog 143 3 24 := ⟨Try.t143, _, by kernel_rfl, rfl, rfl, rfl, rfl, by decide⟩
instance : ElemT Try.prog 144 3 24 := ⟨Try.t144, _, by kernel_rfl, rfl, rfl, rfl, rfl, by decide⟩
instance : ElemT Try.prog 148 2 16 := ⟨Try.t148, _, by kernel_rfl, rfl, rfl, rfl, rfl, by decide⟩
instance : ElemT Try.prog 149 2 16 := ⟨Try.t149, _, by kernel_rfl, rfl, rfl, rfl, rfl, by decide⟩
instance : ElemT Try.prog 151 1 8 := ⟨Try.t151, _, by kernel_rfl, rfl, rfl, rfl, rfl, by decide⟩
instance : ElemT Try.prog 164 2 32 := ⟨Try.t164, _, by kernel_rfl, rfl, rfl, rfl, rfl, by decide⟩
instance : ElemT Try.prog 165 2 32 := ⟨Try.t165, _, by kernel_rfl, rfl, rfl, rfl, rfl, by decide⟩
instance : ElemT Try.prog 166 3 40 := ⟨Try.t166, _, by kernel_rfl, rfl, rfl, rfl, rfl, by decide⟩
instance : ElemT Try.prog 167 3 40 := ⟨Try.t167, _, by kernel_rfl, rfl, rfl, rfl, rfl, by decide⟩
instance : ElemT Try.prog 168 1 24 := ⟨Try.t168, _, by kernel_rfl, rfl, rfl, rfl, rfl, by decide⟩
instance : ElemT Try.prog 169 3 24 := ⟨Try.t169, _, by kernel_rfl, rfl, rfl, rfl, rfl, by decide⟩
instance : ElemT Try.prog 170 3 24 := ⟨Try.t170, _, by kernel_rfl, rfl, rfl, rfl, rfl, by decide⟩
instance : ElemT Try.prog 171 3 24 := ⟨Try.t171, _, by kernel_rfl, rfl, rfl, rfl, rfl, by decide⟩
instance : ElemT Try.prog 172 3 24 := ⟨Try.t172, _, by kernel_rfl, rfl, rfl, rfl, rfl, by decide⟩
instance : ElemT Try.prog 177 1 8 := ⟨Try.t177, _, by kernel_rfl, rfl, rfl, rfl, rfl, by decide⟩
instance : ElemT Try.prog 197 1 8 := ⟨Try.t197, _, by kernel_rfl, rfl, rfl, rfl, rfl, by decide⟩
instance : ElemT Try.prog 209 4 40 := ⟨Try.t209, _, by kernel_rfl, rfl, rfl, rfl, rfl, by decide⟩
instance : ElemT Try.prog 210 4 40 := ⟨Try.t210, _, by kernel_rfl, rfl, rfl, rfl, rfl, by decide⟩
instance : ElemT Try.prog 214 1 1 := ⟨Try.t214, _, by kernel_rfl, rfl, rfl, rfl, rfl, by decide⟩
instance : ElemT Try.prog 215 1 1 := ⟨Try.t215, _, by kernel_rfl, rfl, rfl, rfl, rfl, by decide⟩
instance : ElemT Try.prog 217 1 8 := ⟨Try.t217, _, by kernel_rfl, rfl, rfl, rfl, rfl, by decide⟩
instance : ElemT Try.prog 218 1 4 := ⟨Try.t218, _, by kernel_rfl, rfl, rfl, rfl, rfl, by decide⟩
instance : ElemT Try.prog 219 1 4 := ⟨Try.t219, _, by kernel_rfl, rfl, rfl, rfl, rfl, by decide⟩
instance : ElemT Try.prog 220 11 48 := ⟨Try.t220, _, by kernel_rfl, rfl, rfl, rfl, rfl, by decide⟩
instance : ElemT Try.prog 221 11 48 := ⟨Try.t221, _, by kernel_rfl, rfl, rfl, rfl, rfl, by decide⟩
instance : ElemZ Try.prog 2 (.int .i64 0) 8 := ⟨by kernel_rfl, rfl⟩
instance : IntT Try.prog 2 .i64 := ⟨by kernel_rfl⟩
instance : ElemZ Try.prog 3 (.int .i64 0) 8 := ⟨by kernel_rfl, rfl⟩
instance : IntT Try.prog 3 .i64 := ⟨by kernel_rfl⟩
instance : ElemZ Try.prog 4 (.bool false) 1 := ⟨by kernel_rfl, rfl⟩
instance : BoolT Try.prog 4 := ⟨by kernel_rfl⟩
instance : ElemZ Try.prog 5 (.int .u8 0) 1 := ⟨by kernel_rfl, rfl⟩
instance : IntT Try.prog 5 .u8 := ⟨by kernel_rfl⟩
instance : ElemZ Try.prog 6 (.int .u8 0) 1 := ⟨by kernel_rfl, rfl⟩
instance : IntT Try.prog 6 .u8 := ⟨by kernel_rfl⟩
instance : AggT Try.prog 7 4 := ⟨⟨_, Try.underlying7, rfl⟩, by kernel_rfl⟩
instance : FldOne Try.prog 7 0 0 := ⟨_, _, Try.underlying7, rfl, rfl, inferInstanceAs (One Try.prog 2)⟩
instance : FldOne Try.prog 7 1 1 := ⟨_, _, Try.underlying7, rfl, rfl, inferInstanceAs (One Try.prog 3)⟩
instance : FldOne Try.prog 7 2 2 := ⟨_, _, Try.underlying7, rfl, rfl, inferInstanceAs (One Try.prog 4)⟩
instance : FldOne Try.prog 7 3 3 := ⟨_, _, Try.underlying7, rfl, rfl, inferInstanceAs (One Try.prog 6)⟩
instance : AggT Try.prog 8 4 := ⟨⟨_, Try.underlying8, rfl⟩, by kernel_rfl⟩
instance : FldOne Try.prog 8 0 0 := ⟨_, _, Try.underlying8, rfl, rfl, inferInstanceAs (One Try.prog 2)⟩
instance : FldOne Try.prog 8 1 1 := ⟨_, _, Try.underlying8, rfl, rfl, inferInstanceAs (One Try.prog 3)⟩
instance : FldOne Try.prog 8 2 2 := ⟨_, _, Try.underlying8, rfl, rfl, inferInstanceAs (One Try.prog 4)⟩
instance : FldOne Try.prog 8 3 3 := ⟨_, _, Try.underlying8, rfl, rfl, inferInstanceAs (One Try.prog 6)⟩
instance : ElemZ Try.prog 9 (.string ByteArray.empty) 16 := ⟨by kernel_rfl, rfl⟩
instance : ElemZ Try.prog 10 (.string ByteArray.empty) 16 := ⟨by kernel_rfl, rfl⟩
instance : ElemZ Try.prog 11 (.string ByteArray.empty) 16 := ⟨by kernel_rfl, rfl⟩
instance : ElemZ Try.prog 12 (.int .u64 0) 8 := ⟨by kernel_rfl, rfl⟩
instance : IntT Try.prog 12 .u64 := ⟨by kernel_rfl⟩
instance : AggT Try.prog 13 2 := ⟨⟨_, Try.underlying13, rfl⟩, by kernel_rfl⟩
instance : FldOne Try.prog 13 0 0 := ⟨_, _, Try.underlying13, rfl, rfl, inferInstanceAs (One Try.prog 9)⟩
instance : FldOne Try.prog 13 1 1 := ⟨_, _, Try.underlying13, rfl, rfl, inferInstanceAs (One Try.prog 12)⟩
instance : AggT Try.prog 14 2 := ⟨⟨_, Try.underlying14, rfl⟩, by kernel_rfl⟩
instance : FldOne Try.prog 14 0 0 := ⟨_, _, Try.underlying14, rfl, rfl, inferInstanceAs (One Try.prog 9)⟩
instance : FldOne Try.prog 14 1 1 := ⟨_, _, Try.underlying14, rfl, rfl, inferInstanceAs (One Try.prog 12)⟩
instance : ElemZ Try.prog 15 (.pointer none) 8 := ⟨by kernel_rfl, rfl⟩
instance : ElemZ Try.prog 16 (.pointer none) 8 := ⟨by kernel_rfl, rfl⟩
instance : ElemZ Try.prog 17 (.pointer none) 8 := ⟨by kernel_rfl, rfl⟩
instance : AggT Try.prog 18 1 := ⟨⟨_, Try.underlying18, rfl⟩, by kernel_rfl⟩
instance : FldOne Try.prog 18 0 0 := ⟨_, _, Try.underlying18, rfl, rfl, inferInstanceAs (One Try.prog 17)⟩
instance : AggT Try.prog 19 1 := ⟨⟨_, Try.underlying19, rfl⟩, by kernel_rfl⟩
instance : FldOne Try.prog 19 0 0 := ⟨_, _, Try.underlying19, rfl, rfl, inferInstanceAs (One Try.prog 17)⟩
instance : ElemZ Try.prog 21 (.int .i32 0) 4 := ⟨by kernel_rfl, rfl⟩
instance : IntT Try.prog 21 .i32 := ⟨by kernel_rfl⟩
instance : AggT Try.prog 22 7 := ⟨⟨_, Try.underlying22, rfl⟩, by kernel_rfl⟩
instance : EqT Try.prog 22 [.i .i64, .i .i64, .i .i64, .i .i64, .i .i64, .i .i64, .i .i64] := ⟨by kernel_rfl, by kernel_rfl, by kernel_rfl, by kernel_rfl⟩
instance : FldOne Try.prog 22 0 0 := ⟨_, _, Try.underlying22, rfl, rfl, inferInstanceAs (One Try.prog 3)⟩
instance : FldOne Try.prog 22 1 1 := ⟨_, _, Try.underlying22, rfl, rfl, inferInstanceAs (One Try.prog 3)⟩
instance : FldOne Try.prog 22 2 2 := ⟨_, _, Try.underlying22, rfl, rfl, inferInstanceAs (One Try.prog 3)⟩
instance : FldOne Try.prog 22 3 3 := ⟨_, _, Try.underlying22, rfl, rfl, inferInstanceAs (One Try.prog 3)⟩
instance : FldOne Try.prog 22 4 4 := ⟨_, _, Try.underlying22, rfl, rfl, inferInstanceAs (One Try.prog 3)⟩
instance : FldOne Try.prog 22 5 5 := ⟨_, _, Try.underlying22, rfl, rfl, inferInstanceAs (One Try.prog 3)⟩
instance : FldOne Try.prog 22 6 6 := ⟨_, _, Try.underlying22, rfl, rfl, inferInstanceAs (One Try.prog 3)⟩
instance : AggT Try.prog 23 7 := ⟨⟨_, Try.underlying23, rfl⟩, by kernel_rfl⟩
instance : EqT Try.prog 23 [.i .i64, .i .i64, .i .i64, .i .i64, .i .i64, .i .i64, .i .i64] := ⟨by kernel_rfl, by kernel_rfl, by kernel_rfl, by kernel_rfl⟩
instance : FldOne Try.prog 23 0 0 := ⟨_, _, Try.underlying23, rfl, rfl, inferInstanceAs (One Try.prog 3)⟩
instance : FldOne Try.prog 23 1 1 := ⟨_, _, Try.underlying23, rfl, rfl, inferInstanceAs (One Try.prog 3)⟩
instance : FldOne Try.prog 23 2 2 := ⟨_, _, Try.underlying23, rfl, rfl, inferInstanceAs (One Try.prog 3)⟩
instance : FldOne Try.prog 23 3 3 := ⟨_, _, Try.underlying23, rfl, rfl, inferInstanceAs (One Try.prog 3)⟩
instance : FldOne Try.prog 23 4 4 := ⟨_, _, Try.underlying23, rfl, rfl, inferInstanceAs (One Try.prog 3)⟩
instance : FldOne Try.prog 23 5 5 := ⟨_, _, Try.underlying23, rfl, rfl, inferInstanceAs (One Try.prog 3)⟩
instance : FldOne Try.prog 23 6 6 := ⟨_, _, Try.underlying23, rfl, rfl, inferInstanceAs (One Try.prog 3)⟩
instance : ElemZ Try.prog 24 (.slice none 0 0) 24 := ⟨by kernel_rfl, rfl⟩
instance : ElemZ Try.prog 26 (.slice none 0 0) 24 := ⟨by kernel_rfl, rfl⟩
instance : ElemZ Try.prog 32 (.pointer none) 8 := ⟨by kernel_rfl, rfl⟩
instance : ElemZ Try.prog 33 (.int .i64 0) 8 := ⟨by kernel_rfl, rfl⟩
instance : IntT Try.prog 33 .i64 := ⟨by kernel_rfl⟩
instance : ElemZ Try.prog 37 (.slice none 0 0) 24 := ⟨by kernel_rfl, rfl⟩
instance : ElemZ Try.prog 39 (.int .u32 0) 4 := ⟨by kernel_rfl, rfl⟩
instance : IntT Try.prog 39 .u32 := ⟨by kernel_rfl⟩
instance : AggT Try.prog 40 4 := ⟨⟨_, Try.underlying40, rfl⟩, by kernel_rfl⟩
instance : EqT Try.prog 40 [.i .u32, .i .u32, .i .i64, .b] := ⟨by kernel_rfl, by kernel_rfl, by kernel_rfl, by kernel_rfl⟩
instance : FldOne Try.prog 40 0 0 := ⟨_, _, Try.underlying40, rfl, rfl, inferInstanceAs (One Try.prog 39)⟩
instance : FldOne Try.prog 40 1 1 := ⟨_, _, Try.underlying40, rfl, rfl, inferInstanceAs (One Try.prog 39)⟩
instance : FldOne Try.prog 40 2 2 := ⟨_, _, Try.underlying40, rfl, rfl, inferInstanceAs (One Try.prog 3)⟩
instance : FldOne Try.prog 40 3 3 := ⟨_, _, Try.underlying40, rfl, rfl, inferInstanceAs (One Try.prog 4)⟩
instance : AggT Try.prog 41 4 := ⟨⟨_, Try.underlying41, rfl⟩, by kernel_rfl⟩
instance : EqT Try.prog 41 [.i .u32, .i .u32, .i .i64, .b] := ⟨by kernel_rfl, by kernel_rfl, by kernel_rfl, by kernel_rfl⟩
instance : FldOne Try.prog 41 0 0 := ⟨_, _, Try.underlying41, rfl, rfl, inferInstanceAs (One Try.prog 39)⟩
instance : FldOne Try.prog 41 1 1 := ⟨_, _, Try.underlying41, rfl, rfl, inferInstanceAs (One Try.prog 39)⟩
instance : FldOne Try.prog 41 2 2 := ⟨_, _, Try.underlying41, rfl, rfl, inferInstanceAs (One Try.prog 3)⟩
instance : FldOne Try.prog 41 3 3 := ⟨_, _, Try.underlying41, rfl, rfl, inferInstanceAs (One Try.prog 4)⟩
instance : AggT Try.prog 44 2 := ⟨⟨_, Try.underlying44, rfl⟩, by kernel_rfl⟩
instance : EqT Try.prog 44 [.i .u32, .i .u32] := ⟨by kernel_rfl, by kernel_rfl, by kernel_rfl, by kernel_rfl⟩
instance : FldOne Try.prog 44 0 0 := ⟨_, _, Try.underlying44, rfl, rfl, inferInstanceAs (One Try.prog 39)⟩
instance : FldOne Try.prog 44 1 1 := ⟨_, _, Try.underlying44, rfl, rfl, inferInstanceAs (One Try.prog 39)⟩
instance : AggT Try.prog 45 2 := ⟨⟨_, Try.underlying45, rfl⟩, by kernel_rfl⟩
instance : EqT Try.prog 45 [.i .u32, .i .u32] := ⟨by kernel_rfl, by kernel_rfl, by kernel_rfl, by kernel_rfl⟩
instance : FldOne Try.prog 45 0 0 := ⟨_, _, Try.underlying45, rfl, rfl, inferInstanceAs (One Try.prog 39)⟩
instance : FldOne Try.prog 45 1 1 := ⟨_, _, Try.underlying45, rfl, rfl, inferInstanceAs (One Try.prog 39)⟩
instance : ElemZ Try.prog 47 (.int .u64 0) 8 := ⟨by kernel_rfl, rfl⟩
instance : IntT Try.prog 47 .u64 := ⟨by kernel_rfl⟩
instance : ElemZ Try.prog 50 (.pointer none) 8 := ⟨by kernel_rfl, rfl⟩
instance : ElemZ Try.prog 54 (.pointer none) 8 := ⟨by kernel_rfl, rfl⟩
instance : AggT Try.prog 57 15 := ⟨⟨_, Try.underlying57, rfl⟩, by kernel_rfl⟩
instance : FldOne Try.prog 57 1 7 := ⟨_, _, Try.underlying57, rfl, rfl, inferInstanceAs (One Try.prog 3)⟩
instance : FldOne Try.prog 57 2 8 := ⟨_, _, Try.underlying57, rfl, rfl, inferInstanceAs (One Try.prog 3)⟩
instance : FldOne Try.prog 57 3 9 := ⟨_, _, Try.underlying57, rfl, rfl, inferInstanceAs (One Try.prog 3)⟩
instance : FldOne Try.prog 57 4 10 := ⟨_, _, Try.underlying57, rfl, rfl, inferInstanceAs (One Try.prog 3)⟩
instance : FldOne Try.prog 57 5 11 := ⟨_, _, Try.underlying57, rfl, rfl, inferInstanceAs (One Try.prog 3)⟩
instance : FldOne Try.prog 57 6 12 := ⟨_, _, Try.underlying57, rfl, rfl, inferInstanceAs (One Try.prog 3)⟩
instance : FldOne Try.prog 57 7 13 := ⟨_, _, Try.underlying57, rfl, rfl, inferInstanceAs (One Try.prog 3)⟩
instance : FldOne Try.prog 57 8 14 := ⟨_, _, Try.underlying57, rfl, rfl, inferInstanceAs (One Try.prog 3)⟩
instance : AggT Try.prog 58 15 := ⟨⟨_, Try.underlying58, rfl⟩, by kernel_rfl⟩
instance : FldOne Try.prog 58 1 7 := ⟨_, _, Try.underlying58, rfl, rfl, inferInstanceAs (One Try.prog 3)⟩
instance : FldOne Try.prog 58 2 8 := ⟨_, _, Try.underlying58, rfl, rfl, inferInstanceAs (One Try.prog 3)⟩
instance : FldOne Try.prog 58 3 9 := ⟨_, _, Try.underlying58, rfl, rfl, inferInstanceAs (One Try.prog 3)⟩
instance : FldOne Try.prog 58 4 10 := ⟨_, _, Try.underlying58, rfl, rfl, inferInstanceAs (One Try.prog 3)⟩
instance : FldOne Try.prog 58 5 11 := ⟨_, _, Try.underlying58, rfl, rfl, inferInstanceAs (One Try.prog 3)⟩
instance : FldOne Try.prog 58 6 12 := ⟨_, _, Try.underlying58, rfl, rfl, inferInstanceAs (One Try.prog 3)⟩
instance : FldOne Try.prog 58 7 13 := ⟨_, _, Try.underlying58, rfl, rfl, inferInstanceAs (One Try.prog 3)⟩
instance : FldOne Try.prog 58 8 14 := ⟨_, _, Try.underlying58, rfl, rfl, inferInstanceAs (One Try.prog 3)⟩
instance : ElemZ Try.prog 61 (.slice none 0 0) 24 := ⟨by kernel_rfl, rfl⟩
instance : ArrT Try.prog 62 3 47 1 := ⟨by kernel_rfl, fun _ => by kernel_rfl⟩
instance : AggT Try.prog 62 3 := ⟨⟨_, Try.underlying62, rfl⟩, by kernel_rfl⟩
instance : ElemZ Try.prog 63 (.slice none 0 0) 24 := ⟨by kernel_rfl, rfl⟩
instance : AggT Try.prog 64 1 := ⟨⟨_, Try.underlying64, rfl⟩, by kernel_rfl⟩
instance : FldOne Try.prog 64 0 0 := ⟨_, _, Try.underlying64, rfl, rfl, inferInstanceAs (One Try.prog 24)⟩
instance : AggT Try.prog 65 1 := ⟨⟨_, Try.underlying65, rfl⟩, by kernel_rfl⟩
instance : FldOne Try.prog 65 0 0 := ⟨_, _, Try.underlying65, rfl, rfl, inferInstanceAs (One Try.prog 24)⟩
instance : AggT Try.prog 66 10 := ⟨⟨_, Try.underlying66, rfl⟩, by kernel_rfl⟩
instance : FldOne Try.prog 66 0 0 := ⟨_, _, Try.underlying66, rfl, rfl, inferInstanceAs (One Try.prog 3)⟩
instance : FldOne Try.prog 66 1 1 := ⟨_, _, Try.underlying66, rfl, rfl, inferInstanceAs (One Try.prog 61)⟩
instance : FldOne Try.prog 66 3 5 := ⟨_, _, Try.underlying66, rfl, rfl, inferInstanceAs (One Try.prog 63)⟩
instance : FldOne Try.prog 66 4 6 := ⟨_, _, Try.underlying66, rfl, rfl, inferInstanceAs (One Try.prog 63)⟩
instance : FldOne Try.prog 66 5 7 := ⟨_, _, Try.underlying66, rfl, rfl, inferInstanceAs (One Try.prog 63)⟩
instance : FldOne Try.prog 66 7 9 := ⟨_, _, Try.underlying66, rfl, rfl, inferInstanceAs (One Try.prog 24)⟩
instance : AggT Try.prog 67 10 := ⟨⟨_, Try.underlying67, rfl⟩, by kernel_rfl⟩
instance : FldOne Try.prog 67 0 0 := ⟨_, _, Try.underlying67, rfl, rfl, inferInstanceAs (One Try.prog 3)⟩
instance : FldOne Try.prog 67 1 1 := ⟨_, _, Try.underlying67, rfl, rfl, inferInstanceAs (One Try.prog 61)⟩
instance : FldOne Try.prog 67 3 5 := ⟨_, _, Try.underlying67, rfl, rfl, inferInstanceAs (One Try.prog 63)⟩
instance : FldOne Try.prog 67 4 6 := ⟨_, _, Try.underlying67, rfl, rfl, inferInstanceAs (One Try.prog 63)⟩
instance : FldOne Try.prog 67 5 7 := ⟨_, _, Try.underlying67, rfl, rfl, inferInstanceAs (One Try.prog 63)⟩
instance : FldOne Try.prog 67 7 9 := ⟨_, _, Try.underlying67, rfl, rfl, inferInstanceAs (One Try.prog 24)⟩
instance : ElemZ Try.prog 72 (.slice none 0 0) 24 := ⟨by kernel_rfl, rfl⟩
instance : AggT Try.prog 81 3 := ⟨⟨_, Try.underlying81, rfl⟩, by kernel_rfl⟩
instance : EqT Try.prog 81 [.i .u64, .i .i64, .i .i64] := ⟨by kernel_rfl, by kernel_rfl, by kernel_rfl, by kernel_rfl⟩
instance : FldOne Try.prog 81 0 0 := ⟨_, _, Try.underlying81, rfl, rfl, inferInstanceAs (One Try.prog 47)⟩
instance : FldOne Try.prog 81 1 1 := ⟨_, _, Try.underlying81, rfl, rfl, inferInstanceAs (One Try.prog 3)⟩
instance : FldOne Try.prog 81 2 2 := ⟨_, _, Try.underlying81, rfl, rfl, inferInstanceAs (One Try.prog 3)⟩
instance : AggT Try.prog 82 3 := ⟨⟨_, Try.underlying82, rfl⟩, by kernel_rfl⟩
instance : EqT Try.prog 82 [.i .u64, .i .i64, .i .i64] := ⟨by kernel_rfl, by kernel_rfl, by kernel_rfl, by kernel_rfl⟩
instance : FldOne Try.prog 82 0 0 := ⟨_, _, Try.underlying82, rfl, rfl, inferInstanceAs (One Try.prog 47)⟩
instance : FldOne Try.prog 82 1 1 := ⟨_, _, Try.underlying82, rfl, rfl, inferInstanceAs (One Try.prog 3)⟩
instance : FldOne Try.prog 82 2 2 := ⟨_, _, Try.underlying82, rfl, rfl, inferInstanceAs (One Try.prog 3)⟩
instance : AggT Try.prog 84 16 := ⟨⟨_, Try.underlying84, rfl⟩, by kernel_rfl⟩
instance : FldOne Try.prog 84 1 15 := ⟨_, _, Try.underlying84, rfl, rfl, inferInstanceAs (One Try.prog 63)⟩
instance : AggT Try.prog 85 16 := ⟨⟨_, Try.underlying85, rfl⟩, by kernel_rfl⟩
instance : FldOne Try.prog 85 1 15 := ⟨_, _, Try.underlying85, rfl, rfl, inferInstanceAs (One Try.prog 63)⟩
instance : ElemZ Try.prog 89 (.slice none 0 0) 24 := ⟨by kernel_rfl, rfl⟩
instance : AggT Try.prog 91 2 := ⟨⟨_, Try.underlying91, rfl⟩, by kernel_rfl⟩
instance : EqT Try.prog 91 [.i .i64, .b] := ⟨by kernel_rfl, by kernel_rfl, by kernel_rfl, by kernel_rfl⟩
instance : FldOne Try.prog 91 0 0 := ⟨_, _, Try.underlying91, rfl, rfl, inferInstanceAs (One Try.prog 3)⟩
instance : FldOne Try.prog 91 1 1 := ⟨_, _, Try.underlying91, rfl, rfl, inferInstanceAs (One Try.prog 4)⟩
instance : AggT Try.prog 92 2 := ⟨⟨_, Try.underlying92, rfl⟩, by kernel_rfl⟩
instance : EqT Try.prog 92 [.i .i64, .b] := ⟨by kernel_rfl, by kernel_rfl, by kernel_rfl, by kernel_rfl⟩
instance : FldOne Try.prog 92 0 0 := ⟨_, _, Try.underlying92, rfl, rfl, inferInstanceAs (One Try.prog 3)⟩
instance : FldOne Try.prog 92 1 1 := ⟨_, _, Try.underlying92, rfl, rfl, inferInstanceAs (One Try.prog 4)⟩
instance : ElemZ Try.prog 97 (.slice none 0 0) 24 := ⟨by kernel_rfl, rfl⟩
instance : ElemZ Try.prog 100 (.pointer none) 8 := ⟨by kernel_rfl, rfl⟩
instance : ElemZ Try.prog 109 (.slice none 0 0) 24 := ⟨by kernel_rfl, rfl⟩
instance : ElemZ Try.prog 116 (.pointer none) 8 := ⟨by kernel_rfl, rfl⟩
instance : ElemZ Try.prog 118 (.slice none 0 0) 24 := ⟨by kernel_rfl, rfl⟩
instance : AggT Try.prog 119 21 := ⟨⟨_, Try.underlying119, rfl⟩, by kernel_rfl⟩
instance : FldOne Try.prog 119 1 15 := ⟨_, _, Try.underlying119, rfl, rfl, inferInstanceAs (One Try.prog 54)⟩
instance : FldOne Try.prog 119 2 16 := ⟨_, _, Try.underlying119, rfl, rfl, inferInstanceAs (One Try.prog 100)⟩
instance : FldOne Try.prog 119 3 17 := ⟨_, _, Try.underlying119, rfl, rfl, inferInstanceAs (One Try.prog 116)⟩
instance : FldOne Try.prog 119 4 18 := ⟨_, _, Try.underlying119, rfl, rfl, inferInstanceAs (One Try.prog 118)⟩
instance : FldOne Try.prog 119 5 19 := ⟨_, _, Try.underlying119, rfl, rfl, inferInstanceAs (One Try.prog 4)⟩
instance : FldOne Try.prog 119 6 20 := ⟨_, _, Try.underlying119, rfl, rfl, inferInstanceAs (One Try.prog 4)⟩
instance : AggT Try.prog 120 21 := ⟨⟨_, Try.underlying120, rfl⟩, by kernel_rfl⟩
instance : FldOne Try.prog 120 1 15 := ⟨_, _, Try.underlying120, rfl, rfl, inferInstanceAs (One Try.prog 54)⟩
instance : FldOne Try.prog 120 2 16 := ⟨_, _, Try.underlying120, rfl, rfl, inferInstanceAs (One Try.prog 100)⟩
instance : FldOne Try.prog 120 3 17 := ⟨_, _, Try.underlying120, rfl, rfl, inferInstanceAs (One Try.prog 116)⟩
instance : FldOne Try.prog 120 4 18 := ⟨_, _, Try.underlying120, rfl, rfl, inferInstanceAs (One Try.prog 118)⟩
instance : FldOne Try.prog 120 5 19 := ⟨_, _, Try.underlying120, rfl, rfl, inferInstanceAs (One Try.prog 4)⟩
instance : FldOne Try.prog 120 6 20 := ⟨_, _, Try.underlying120, rfl, rfl, inferInstanceAs (One Try.prog 4)⟩
instance : AggT Try.prog 125 4 := ⟨⟨_, Try.underlying125, rfl⟩, by kernel_rfl⟩
instance : EqT Try.prog 125 [.i .i64, .i .i64, .i .i64, .b] := ⟨by kernel_rfl, by kernel_rfl, by kernel_rfl, by kernel_rfl⟩
instance : FldOne Try.prog 125 0 0 := ⟨_, _, Try.underlying125, rfl, rfl, inferInstanceAs (One Try.prog 3)⟩
instance : FldOne Try.prog 125 1 1 := ⟨_, _, Try.underlying125, rfl, rfl, inferInstanceAs (One Try.prog 3)⟩
instance : FldOne Try.prog 125 2 2 := ⟨_, _, Try.underlying125, rfl, rfl, inferInstanceAs (One Try.prog 3)⟩
instance : FldOne Try.prog 125 3 3 := ⟨_, _, Try.underlying125, rfl, rfl, inferInstanceAs (One Try.prog 4)⟩
instance : AggT Try.prog 126 4 := ⟨⟨_, Try.underlying126, rfl⟩, by kernel_rfl⟩
instance : EqT Try.prog 126 [.i .i64, .i .i64, .i .i64, .b] := ⟨by kernel_rfl, by kernel_rfl, by kernel_rfl, by kernel_rfl⟩
instance : FldOne Try.prog 126 0 0 := ⟨_, _, Try.underlying126, rfl, rfl, inferInstanceAs (One Try.prog 3)⟩
instance : FldOne Try.prog 126 1 1 := ⟨_, _, Try.underlying126, rfl, rfl, inferInstanceAs (One Try.prog 3)⟩
instance : FldOne Try.prog 126 2 2 := ⟨_, _, Try.underlying126, rfl, rfl, inferInstanceAs (One Try.prog 3)⟩
instance : FldOne Try.prog 126 3 3 := ⟨_, _, Try.underlying126, rfl, rfl, inferInstanceAs (One Try.prog 4)⟩
instance : ElemZ Try.prog 127 (.slice none 0 0) 24 := ⟨by kernel_rfl, rfl⟩
instance : AggT Try.prog 128 4 := ⟨⟨_, Try.underlying128, rfl⟩, by kernel_rfl⟩
instance : FldOne Try.prog 128 0 0 := ⟨_, _, Try.underlying128, rfl, rfl, inferInstanceAs (One Try.prog 63)⟩
instance : FldOne Try.prog 128 1 1 := ⟨_, _, Try.underlying128, rfl, rfl, inferInstanceAs (One Try.prog 3)⟩
instance : FldOne Try.prog 128 2 2 := ⟨_, _, Try.underlying128, rfl, rfl, inferInstanceAs (One Try.prog 4)⟩
instance : FldOne Try.prog 128 3 3 := ⟨_, _, Try.underlying128, rfl, rfl, inferInstanceAs (One Try.prog 127)⟩
instance : AggT Try.prog 129 4 := ⟨⟨_, Try.underlying129, rfl⟩, by kernel_rfl⟩
instance : FldOne Try.prog 129 0 0 := ⟨_, _, Try.underlying129, rfl, rfl, inferInstanceAs (One Try.prog 63)⟩
instance : FldOne Try.prog 129 1 1 := ⟨_, _, Try.underlying129, rfl, rfl, inferInstanceAs (One Try.prog 3)⟩
instance : FldOne Try.prog 129 2 2 := ⟨_, _, Try.underlying129, rfl, rfl, inferInstanceAs (One Try.prog 4)⟩
instance : FldOne Try.prog 129 3 3 := ⟨_, _, Try.underlying129, rfl, rfl, inferInstanceAs (One Try.prog 127)⟩
instance : AggT Try.prog 131 3 := ⟨⟨_, Try.underlying131, rfl⟩, by kernel_rfl⟩
instance : EqT Try.prog 131 [.i .i64, .i .i64, .i .i64] := ⟨by kernel_rfl, by kernel_rfl, by kernel_rfl, by kernel_rfl⟩
instance : FldOne Try.prog 131 0 0 := ⟨_, _, Try.underlying131, rfl, rfl, inferInstanceAs (One Try.prog 3)⟩
instance : FldOne Try.prog 131 1 1 := ⟨_, _, Try.underlying131, rfl, rfl, inferInstanceAs (One Try.prog 3)⟩
instance : FldOne Try.prog 131 2 2 := ⟨_, _, Try.underlying131, rfl, rfl, inferInstanceAs (One Try.prog 3)⟩
instance : AggT Try.prog 132 3 := ⟨⟨_, Try.underlying132, rfl⟩, by kernel_rfl⟩
instance : EqT Try.prog 132 [.i .i64, .i .i64, .i .i64] := ⟨by kernel_rfl, by kernel_rfl, by kernel_rfl, by kernel_rfl⟩
instance : FldOne Try.prog 132 0 0 := ⟨_, _, Try.underlying132, rfl, rfl, inferInstanceAs (One Try.prog 3)⟩
instance : FldOne Try.prog 132 1 1 := ⟨_, _, Try.underlying132, rfl, rfl, inferInstanceAs (One Try.prog 3)⟩
instance : FldOne Try.prog 132 2 2 := ⟨_, _, Try.underlying132, rfl, rfl, inferInstanceAs (One Try.prog 3)⟩
instance : ArrT Try.prog 135 10 47 1 := ⟨by kernel_rfl, fun _ => by kernel_rfl⟩
instance : AggT Try.prog 135 10 := ⟨⟨_, Try.underlying135, rfl⟩, by kernel_rfl⟩
instance : AggT Try.prog 136 12 := ⟨⟨_, Try.underlying136, rfl⟩, by kernel_rfl⟩
instance : FldOne Try.prog 136 0 0 := ⟨_, _, Try.underlying136, rfl, rfl, inferInstanceAs (One Try.prog 3)⟩
instance : FldOne Try.prog 136 1 1 := ⟨_, _, Try.underlying136, rfl, rfl, inferInstanceAs (One Try.prog 3)⟩
instance : AggT Try.prog 137 12 := ⟨⟨_, Try.underlying137, rfl⟩, by kernel_rfl⟩
instance : FldOne Try.prog 137 0 0 := ⟨_, _, Try.underlying137, rfl, rfl, inferInstanceAs (One Try.prog 3)⟩
instance : FldOne Try.prog 137 1 1 := ⟨_, _, Try.underlying137, rfl, rfl, inferInstanceAs (One Try.prog 3)⟩
instance : ElemZ Try.prog 139 (.pointer none) 8 := ⟨by kernel_rfl, rfl⟩
instance : AggT Try.prog 141 3 := ⟨⟨_, Try.underlying141, rfl⟩, by kernel_rfl⟩
instance : FldOne Try.prog 141 0 0 := ⟨_, _, Try.underlying141, rfl, rfl, inferInstanceAs (One Try.prog 32)⟩
instance : FldOne Try.prog 141 1 1 := ⟨_, _, Try.underlying141, rfl, rfl, inferInstanceAs (One Try.prog 50)⟩
instance : FldOne Try.prog 141 2 2 := ⟨_, _, Try.underlying141, rfl, rfl, inferInstanceAs (One Try.prog 139)⟩
instance : AggT Try.prog 142 3 := ⟨⟨_, Try.underlying142, rfl⟩, by kernel_rfl⟩
instance : FldOne Try.prog 142 0 0 := ⟨_, _, Try.underlying142, rfl, rfl, inferInstanceAs (One Try.prog 32)⟩
instance : FldOne Try.prog 142 1 1 := ⟨_, _, Try.underlying142, rfl, rfl, inferInstanceAs (One Try.prog 50)⟩
instance : FldOne Try.prog 142 2 2 := ⟨_, _, Try.underlying142, rfl, rfl, inferInstanceAs (One Try.prog 139)⟩
instance : AggT Try.prog 143 3 := ⟨⟨_, Try.underlying143, rfl⟩, by kernel_rfl⟩
instance : AggT Try.prog 144 3 := ⟨⟨_, Try.underlying144, rfl⟩, by kernel_rfl⟩
instance : AggT Try.prog 148 2 := ⟨⟨_, Try.underlying148, rfl⟩, by kernel_rfl⟩
instance : EqT Try.prog 148 [.i .i64, .i .i64] := ⟨by kernel_rfl, by kernel_rfl, by kernel_rfl, by kernel_rfl⟩
instance : FldOne Try.prog 148 0 0 := ⟨_, _, Try.underlying148, rfl, rfl, inferInstanceAs (One Try.prog 3)⟩
instance : FldOne Try.prog 148 1 1 := ⟨_, _, Try.underlying148, rfl, rfl, inferInstanceAs (One Try.prog 3)⟩
instance : AggT Try.prog 149 2 := ⟨⟨_, Try.underlying149, rfl⟩, by kernel_rfl⟩
instance : EqT Try.prog 149 [.i .i64, .i .i64] := ⟨by kernel_rfl, by kernel_rfl, by kernel_rfl, by kernel_rfl⟩
instance : FldOne Try.prog 149 0 0 := ⟨_, _, Try.underlying149, rfl, rfl, inferInstanceAs (One Try.prog 3)⟩
instance : FldOne Try.prog 149 1 1 := ⟨_, _, Try.underlying149, rfl, rfl, inferInstanceAs (One Try.prog 3)⟩
instance : ElemZ Try.prog 151 (.int .u64 0) 8 := ⟨by kernel_rfl, rfl⟩
instance : IntT Try.prog 151 .u64 := ⟨by kernel_rfl⟩
instance : AggT Try.prog 164 2 := ⟨⟨_, Try.underlying164, rfl⟩, by kernel_rfl⟩
instance : FldOne Try.prog 164 0 0 := ⟨_, _, Try.underlying164, rfl, rfl, inferInstanceAs (One Try.prog 109)⟩
instance : FldOne Try.prog 164 1 1 := ⟨_, _, Try.underlying164, rfl, rfl, inferInstanceAs (One Try.prog 3)⟩
instance : AggT Try.prog 165 2 := ⟨⟨_, Try.underlying165, rfl⟩, by kernel_rfl⟩
instance : FldOne Try.prog 165 0 0 := ⟨_, _, Try.underlying165, rfl, rfl, inferInstanceAs (One Try.prog 109)⟩
instance : FldOne Try.prog 165 1 1 := ⟨_, _, Try.underlying165, rfl, rfl, inferInstanceAs (One Try.prog 3)⟩
instance : AggT Try.prog 166 3 := ⟨⟨_, Try.underlying166, rfl⟩, by kernel_rfl⟩
instance : FldOne Try.prog 166 0 0 := ⟨_, _, Try.underlying166, rfl, rfl, inferInstanceAs (One Try.prog 24)⟩
instance : AggT Try.prog 167 3 := ⟨⟨_, Try.underlying167, rfl⟩, by kernel_rfl⟩
instance : FldOne Try.prog 167 0 0 := ⟨_, _, Try.underlying167, rfl, rfl, inferInstanceAs (One Try.prog 24)⟩
instance : ElemZ Try.prog 168 (.slice none 0 0) 24 := ⟨by kernel_rfl, rfl⟩
instance : AggT Try.prog 169 3 := ⟨⟨_, Try.underlying169, rfl⟩, by kernel_rfl⟩
instance : FldOne Try.prog 169 0 0 := ⟨_, _, Try.underlying169, rfl, rfl, inferInstanceAs (One Try.prog 32)⟩
instance : FldOne Try.prog 169 1 1 := ⟨_, _, Try.underlying169, rfl, rfl, inferInstanceAs (One Try.prog 50)⟩
instance : FldOne Try.prog 169 2 2 := ⟨_, _, Try.underlying169, rfl, rfl, inferInstanceAs (One Try.prog 139)⟩
instance : AggT Try.prog 170 3 := ⟨⟨_, Try.underlying170, rfl⟩, by kernel_rfl⟩
instance : FldOne Try.prog 170 0 0 := ⟨_, _, Try.underlying170, rfl, rfl, inferInstanceAs (One Try.prog 32)⟩
instance : FldOne Try.prog 170 1 1 := ⟨_, _, Try.underlying170, rfl, rfl, inferInstanceAs (One Try.prog 50)⟩
instance : FldOne Try.prog 170 2 2 := ⟨_, _, Try.underlying170, rfl, rfl, inferInstanceAs (One Try.prog 139)⟩
instance : AggT Try.prog 171 3 := ⟨⟨_, Try.underlying171, rfl⟩, by kernel_rfl⟩
instance : AggT Try.prog 172 3 := ⟨⟨_, Try.underlying172, rfl⟩, by kernel_rfl⟩
instance : ElemZ Try.prog 177 (.int .u64 0) 8 := ⟨by kernel_rfl, rfl⟩
instance : IntT Try.prog 177 .u64 := ⟨by kernel_rfl⟩
instance : ElemZ Try.prog 197 (.pointer none) 8 := ⟨by kernel_rfl, rfl⟩
instance : AggT Try.prog 209 4 := ⟨⟨_, Try.underlying209, rfl⟩, by kernel_rfl⟩
instance : FldOne Try.prog 209 0 0 := ⟨_, _, Try.underlying209, rfl, rfl, inferInstanceAs (One Try.prog 17)⟩
instance : FldOne Try.prog 209 1 1 := ⟨_, _, Try.underlying209, rfl, rfl, inferInstanceAs (One Try.prog 17)⟩
instance : FldOne Try.prog 209 2 2 := ⟨_, _, Try.underlying209, rfl, rfl, inferInstanceAs (One Try.prog 17)⟩
instance : FldOne Try.prog 209 3 3 := ⟨_, _, Try.underlying209, rfl, rfl, inferInstanceAs (One Try.prog 9)⟩
instance : AggT Try.prog 210 4 := ⟨⟨_, Try.underlying210, rfl⟩, by kernel_rfl⟩
instance : FldOne Try.prog 210 0 0 := ⟨_, _, Try.underlying210, rfl, rfl, inferInstanceAs (One Try.prog 17)⟩
instance : FldOne Try.prog 210 1 1 := ⟨_, _, Try.underlying210, rfl, rfl, inferInstanceAs (One Try.prog 17)⟩
instance : FldOne Try.prog 210 2 2 := ⟨_, _, Try.underlying210, rfl, rfl, inferInstanceAs (One Try.prog 17)⟩
instance : FldOne Try.prog 210 3 3 := ⟨_, _, Try.underlying210, rfl, rfl, inferInstanceAs (One Try.prog 9)⟩
instance : ElemZ Try.prog 214 (.int .u8 0) 1 := ⟨by kernel_rfl, rfl⟩
instance : IntT Try.prog 214 .u8 := ⟨by kernel_rfl⟩
instance : ElemZ Try.prog 215 (.int .u8 0) 1 := ⟨by kernel_rfl, rfl⟩
instance : IntT Try.prog 215 .u8 := ⟨by kernel_rfl⟩
instance : ElemZ Try.prog 217 (.pointer none) 8 := ⟨by kernel_rfl, rfl⟩
instance : ElemZ Try.prog 218 (.int .i32 0) 4 := ⟨by kernel_rfl, rfl⟩
instance : IntT Try.prog 218 .i32 := ⟨by kernel_rfl⟩
instance : ElemZ Try.prog 219 (.int .i32 0) 4 := ⟨by kernel_rfl, rfl⟩
instance : IntT Try.prog 219 .i32 := ⟨by kernel_rfl⟩
instance : AggT Try.prog 220 11 := ⟨⟨_, Try.underlying220, rfl⟩, by kernel_rfl⟩
instance : FldOne Try.prog 220 0 0 := ⟨_, _, Try.underlying220, rfl, rfl, inferInstanceAs (One Try.prog 12)⟩
instance : FldOne Try.prog 220 1 1 := ⟨_, _, Try.underlying220, rfl, rfl, inferInstanceAs (One Try.prog 12)⟩
instance : FldOne Try.prog 220 2 2 := ⟨_, _, Try.underlying220, rfl, rfl, inferInstanceAs (One Try.prog 39)⟩
instance : FldOne Try.prog 220 3 3 := ⟨_, _, Try.underlying220, rfl, rfl, inferInstanceAs (One Try.prog 214)⟩
instance : FldOne Try.prog 220 4 4 := ⟨_, _, Try.underlying220, rfl, rfl, inferInstanceAs (One Try.prog 5)⟩
instance : FldOne Try.prog 220 5 5 := ⟨_, _, Try.underlying220, rfl, rfl, inferInstanceAs (One Try.prog 5)⟩
instance : FldOne Try.prog 220 6 6 := ⟨_, _, Try.underlying220, rfl, rfl, inferInstanceAs (One Try.prog 215)⟩
instance : FldOne Try.prog 220 7 7 := ⟨_, _, Try.underlying220, rfl, rfl, inferInstanceAs (One Try.prog 216)⟩
instance : FldOne Try.prog 220 8 8 := ⟨_, _, Try.underlying220, rfl, rfl, inferInstanceAs (One Try.prog 217)⟩
instance : FldOne Try.prog 220 9 9 := ⟨_, _, Try.underlying220, rfl, rfl, inferInstanceAs (One Try.prog 218)⟩
instance : FldOne Try.prog 220 10 10 := ⟨_, _, Try.underlying220, rfl, rfl, inferInstanceAs (One Try.prog 219)⟩
instance : AggT Try.prog 221 11 := ⟨⟨_, Try.underlying221, rfl⟩, by kernel_rfl⟩
instance : FldOne Try.prog 221 0 0 := ⟨_, _, Try.underlying221, rfl, rfl, inferInstanceAs (One Try.prog 12)⟩
instance : FldOne Try.prog 221 1 1 := ⟨_, _, Try.underlying221, rfl, rfl, inferInstanceAs (One Try.prog 12)⟩
instance : FldOne Try.prog 221 2 2 := ⟨_, _, Try.underlying221, rfl, rfl, inferInstanceAs (One Try.prog 39)⟩
instance : FldOne Try.prog 221 3 3 := ⟨_, _, Try.underlying221, rfl, rfl, inferInstanceAs (One Try.prog 214)⟩
instance : FldOne Try.prog 221 4 4 := ⟨_, _, Try.underlying221, rfl, rfl, inferInstanceAs (One Try.prog 5)⟩
instance : FldOne Try.prog 221 5 5 := ⟨_, _, Try.underlying221, rfl, rfl, inferInstanceAs (One Try.prog 5)⟩
instance : FldOne Try.prog 221 6 6 := ⟨_, _, Try.underlying221, rfl, rfl, inferInstanceAs (One Try.prog 215)⟩
instance : FldOne Try.prog 221 7 7 := ⟨_, _, Try.underlying221, rfl, rfl, inferInstanceAs (One Try.prog 216)⟩
instance : FldOne Try.prog 221 8 8 := ⟨_, _, Try.underlying221, rfl, rfl, inferInstanceAs (One Try.prog 217)⟩
instance : FldOne Try.prog 221 9 9 := ⟨_, _, Try.underlying221, rfl, rfl, inferInstanceAs (One Try.prog 218)⟩
instance : FldOne Try.prog 221 10 10 := ⟨_, _, Try.underlying221, rfl, rfl, inferInstanceAs (One Try.prog 219)⟩
instance : HasBody Try.prog 3 := ⟨fun _ _ => by kernel_rfl⟩
instance : HasBody Try.prog 4 := ⟨fun _ _ => by kernel_rfl⟩
instance : HasBody Try.prog 5 := ⟨fun _ _ => by kernel_rfl⟩
instance : HasBody Try.prog 6 := ⟨fun _ _ => by kernel_rfl⟩
instance : HasBody Try.prog 7 := ⟨fun _ _ => by kernel_rfl⟩
instance : HasBody Try.prog 8 := ⟨fun _ _ => by kernel_rfl⟩
instance : HasBody Try.prog 9 := ⟨fun _ _ => by kernel_rfl⟩
instance : HasBody Try.prog 10 := ⟨fun _ _ => by kernel_rfl⟩
instance : HasBody Try.prog 11 := ⟨fun _ _ => by kernel_rfl⟩
instance : HasBody Try.prog 12 := ⟨fun _ _ => by kernel_rfl⟩
instance : HasBody Try.prog 13 := ⟨fun _ _ => by kernel_rfl⟩
instance : HasBody Try.prog 14 := ⟨fun _ _ => by kernel_rfl⟩
instance : HasBody Try.prog 15 := ⟨fun _ _ => by kernel_rfl⟩
instance : HasBody Try.prog 16 := ⟨fun _ _ => by kernel_rfl⟩
instance : HasBody Try.prog 17 := ⟨fun _ _ => by kernel_rfl⟩
instance : HasBody Try.prog 18 := ⟨fun _ _ => by kernel_rfl⟩
instance : HasBody Try.prog 19 := ⟨fun _ _ => by kernel_rfl⟩
instance : HasBody Try.prog 20 := ⟨fun _ _ => by kernel_rfl⟩
instance : HasBody Try.prog 21 := ⟨fun _ _ => by kernel_rfl⟩
instance : HasBody Try.prog 22 := ⟨fun _ _ => by kernel_rfl⟩
instance : HasBody Try.prog 23 := ⟨fun _ _ => by kernel_rfl⟩
instance : HasBody Try.prog 24 := ⟨fun _ _ => by kernel_rfl⟩
instance : HasBody Try.prog 25 := ⟨fun _ _ => by kernel_rfl⟩
instance : HasBody Try.prog 26 := ⟨fun _ _ => by kernel_rfl⟩
instance : HasBody Try.prog 27 := ⟨fun _ _ => by kernel_rfl⟩
instance : HasBody Try.prog 28 := ⟨fun _ _ => by kernel_rfl⟩
instance : HasBody Try.prog 29 := ⟨fun _ _ => by kernel_rfl⟩
instance : HasBody Try.prog 30 := ⟨fun _ _ => by kernel_rfl⟩
instance : HasBody Try.prog 31 := ⟨fun _ _ => by kernel_rfl⟩
instance : HasBody Try.prog 32 := ⟨fun _ _ => by kernel_rfl⟩
instance : HasBody Try.prog 33 := ⟨fun _ _ => by kernel_rfl⟩
instance : HasBody Try.prog 34 := ⟨fun _ _ => by kernel_rfl⟩
instance : HasBody Try.prog 35 := ⟨fun _ _ => by kernel_rfl⟩
instance : HasBody Try.prog 36 := ⟨fun _ _ => by kernel_rfl⟩
instance : HasBody Try.prog 37 := ⟨fun _ _ => by kernel_rfl⟩
instance : HasBody Try.prog 38 := ⟨fun _ _ => by kernel_rfl⟩
instance : HasBody Try.prog 39 := ⟨fun _ _ => by kernel_rfl⟩
instance : HasBody Try.prog 40 := ⟨fun _ _ => by kernel_rfl⟩
instance : HasBody Try.prog 41 := ⟨fun _ _ => by kernel_rfl⟩
instance : HasBody Try.prog 42 := ⟨fun _ _ => by kernel_rfl⟩
instance : HasBody Try.prog 43 := ⟨fun _ _ => by kernel_rfl⟩
instance : HasBody Try.prog 44 := ⟨fun _ _ => by kernel_rfl⟩
instance : HasBody Try.prog 45 := ⟨fun _ _ => by kernel_rfl⟩
instance : HasBody Try.prog 46 := ⟨fun _ _ => by kernel_rfl⟩
instance : HasBody Try.prog 47 := ⟨fun _ _ => by kernel_rfl⟩
instance : HasBody Try.prog 48 := ⟨fun _ _ => by kernel_rfl⟩
instance : HasBody Try.prog 49 := ⟨fun _ _ => by kernel_rfl⟩
instance : HasBody Try.prog 50 := ⟨fun _ _ => by kernel_rfl⟩
instance : HasBody Try.prog 51 := ⟨fun _ _ => by kernel_rfl⟩
instance : HasBody Try.prog 52 := ⟨fun _ _ => by kernel_rfl⟩
instance : HasBody Try.prog 53 := ⟨fun _ _ => by kernel_rfl⟩
instance : HasBody Try.prog 54 := ⟨fun _ _ => by kernel_rfl⟩
instance : HasBody Try.prog 55 := ⟨fun _ _ => by kernel_rfl⟩
instance : HasBody Try.prog 56 := ⟨fun _ _ => by kernel_rfl⟩
instance : HasBody Try.prog 57 := ⟨fun _ _ => by kernel_rfl⟩
instance : HasBody Try.prog 58 := ⟨fun _ _ => by kernel_rfl⟩
instance : HasBody Try.prog 59 := ⟨fun _ _ => by kernel_rfl⟩
instance : HasBody Try.prog 60 := ⟨fun _ _ => by kernel_rfl⟩
instance : HasBody Try.prog 61 := ⟨fun _ _ => by kernel_rfl⟩
instance : HasBody Try.prog 62 := ⟨fun _ _ => by kernel_rfl⟩
instance : HasBody Try.prog 63 := ⟨fun _ _ => by kernel_rfl⟩
instance : HasBody Try.prog 64 := ⟨fun _ _ => by kernel_rfl⟩
instance : HasBody Try.prog 65 := ⟨fun _ _ => by kernel_rfl⟩
instance : HasBody Try.prog 66 := ⟨fun _ _ => by kernel_rfl⟩
instance : HasBody Try.prog 67 := ⟨fun _ _ => by kernel_rfl⟩
instance : HasBody Try.prog 68 := ⟨fun _ _ => by kernel_rfl⟩
instance : HasBody Try.prog 69 := ⟨fun _ _ => by kernel_rfl⟩
instance : HasBody Try.prog 70 := ⟨fun _ _ => by kernel_rfl⟩
instance : HasBody Try.prog 71 := ⟨fun _ _ => by kernel_rfl⟩
instance : HasBody Try.prog 72 := ⟨fun _ _ => by kernel_rfl⟩
instance : HasBody Try.prog 73 := ⟨fun _ _ => by kernel_rfl⟩
instance : HasBody Try.prog 74 := ⟨fun _ _ => by kernel_rfl⟩
instance : HasBody Try.prog 75 := ⟨fun _ _ => by kernel_rfl⟩
instance : HasBody Try.prog 76 := ⟨fun _ _ => by kernel_rfl⟩
instance : HasBody Try.prog 77 := ⟨fun _ _ => by kernel_rfl⟩
instance : HasBody Try.prog 78 := ⟨fun _ _ => by kernel_rfl⟩
instance : HasBody Try.prog 79 := ⟨fun _ _ => by kernel_rfl⟩
instance : HasBody Try.prog 80 := ⟨fun _ _ => by kernel_rfl⟩
instance : HasBody Try.prog 81 := ⟨fun _ _ => by kernel_rfl⟩
instance : HasBody Try.prog 82 := ⟨fun _ _ => by kernel_rfl⟩
instance : HasBody Try.prog 83 := ⟨fun _ _ => by kernel_rfl⟩
instance : HasBody Try.prog 84 := ⟨fun _ _ => by kernel_rfl⟩
instance : HasBody Try.prog 85 := ⟨fun _ _ => by kernel_rfl⟩
instance : HasBody Try.prog 86 := ⟨fun _ _ => by kernel_rfl⟩
instance : HasBody Try.prog 87 := ⟨fun _ _ => by kernel_rfl⟩
instance : HasBody Try.prog 88 := ⟨fun _ _ => by kernel_rfl⟩
instance : HasBody Try.prog 89 := ⟨fun _ _ => by kernel_rfl⟩
instance : HasBody Try.prog 90 := ⟨fun _ _ => by kernel_rfl⟩
instance : HasBody Try.prog 91 := ⟨fun _ _ => by kernel_rfl⟩
instance : HasBody Try.prog 92 := ⟨fun _ _ => by kernel_rfl⟩
instance : HasBody Try.prog 93 := ⟨fun _ _ => by kernel_rfl⟩
instance : HasBody Try.prog 94 := ⟨fun _ _ => by kernel_rfl⟩
instance : HasBody Try.prog 95 := ⟨fun _ _ => by kernel_rfl⟩
instance : HasBody Try.prog 96 := ⟨fun _ _ => by kernel_rfl⟩
instance : HasBody Try.prog 97 := ⟨fun _ _ => by kernel_rfl⟩
instance : HasBody Try.prog 98 := ⟨fun _ _ => by kernel_rfl⟩
instance : HasBody Try.prog 99 := ⟨fun _ _ => by kernel_rfl⟩
instance : HasBody Try.prog 100 := ⟨fun _ _ => by kernel_rfl⟩
instance : HasBody Try.prog 101 := ⟨fun _ _ => by kernel_rfl⟩
instance : HasBody Try.prog 102 := ⟨fun _ _ => by kernel_rfl⟩
instance : HasBody Try.prog 103 := ⟨fun _ _ => by kernel_rfl⟩
instance : HasBody Try.prog 104 := ⟨fun _ _ => by kernel_rfl⟩
instance : HasBody Try.prog 105 := ⟨fun _ _ => by kernel_rfl⟩
instance : HasBody Try.prog 106 := ⟨fun _ _ => by kernel_rfl⟩
instance : HasBody Try.prog 107 := ⟨fun _ _ => by kernel_rfl⟩
instance : HasBody Try.prog 108 := ⟨fun _ _ => by kernel_rfl⟩
instance : HasBody Try.prog 109 := ⟨fun _ _ => by kernel_rfl⟩
instance : HasBody Try.prog 110 := ⟨fun _ _ => by kernel_rfl⟩
instance : HasBody Try.prog 111 := ⟨fun _ _ => by kernel_rfl⟩
instance : HasBody Try.prog 112 := ⟨fun _ _ => by kernel_rfl⟩
instance : HasBody Try.prog 113 := ⟨fun _ _ => by kernel_rfl⟩
instance : HasBody Try.prog 114 := ⟨fun _ _ => by kernel_rfl⟩
instance : HasBody Try.prog 115 := ⟨fun _ _ => by kernel_rfl⟩
instance : HasBody Try.prog 116 := ⟨fun _ _ => by kernel_rfl⟩
instance : HasBody Try.prog 117 := ⟨fun _ _ => by kernel_rfl⟩
instance : HasBody Try.prog 118 := ⟨fun _ _ => by kernel_rfl⟩
instance : HasBody Try.prog 119 := ⟨fun _ _ => by kernel_rfl⟩
instance : HasBody Try.prog 120 := ⟨fun _ _ => by kernel_rfl⟩
instance : HasBody Try.prog 121 := ⟨fun _ _ => by kernel_rfl⟩
instance : HasBody Try.prog 122 := ⟨fun _ _ => by kernel_rfl⟩
instance : HasBody Try.prog 123 := ⟨fun _ _ => by kernel_rfl⟩
instance : HasBody Try.prog 124 := ⟨fun _ _ => by kernel_rfl⟩
instance : HasBody Try.prog 125 := ⟨fun _ _ => by kernel_rfl⟩
instance : HasBody Try.prog 126 := ⟨fun _ _ => by kernel_rfl⟩
instance : HasBody Try.prog 127 := ⟨fun _ _ => by kernel_rfl⟩
instance : HasBody Try.prog 128 := ⟨fun _ _ => by kernel_rfl⟩
instance : HasBody Try.prog 129 := ⟨fun _ _ => by kernel_rfl⟩
instance : HasBody Try.prog 130 := ⟨fun _ _ => by kernel_rfl⟩
instance : HasBody Try.prog 131 := ⟨fun _ _ => by kernel_rfl⟩
instance : HasBody Try.prog 132 := ⟨fun _ _ => by kernel_rfl⟩
instance : HasBody Try.prog 133 := ⟨fun _ _ => by kernel_rfl⟩
instance : HasBody Try.prog 134 := ⟨fun _ _ => by kernel_rfl⟩
instance : HasBody Try.prog 135 := ⟨fun _ _ => by kernel_rfl⟩
instance : HasBody Try.prog 136 := ⟨fun _ _ => by kernel_rfl⟩
instance : HasBody Try.prog 137 := ⟨fun _ _ => by kernel_rfl⟩
instance : HasBody Try.prog 138 := ⟨fun _ _ => by kernel_rfl⟩
instance : HasBody Try.prog 139 := ⟨fun _ _ => by kernel_rfl⟩
instance : HasBody Try.prog 140 := ⟨fun _ _ => by kernel_rfl⟩
instance : HasBody Try.prog 141 := ⟨fun _ _ => by kernel_rfl⟩
instance : HasBody Try.prog 142 := ⟨fun _ _ => by kernel_rfl⟩
instance : HasBody Try.prog 143 := ⟨fun _ _ => by kernel_rfl⟩
instance : HasBody Try.prog 144 := ⟨fun _ _ => by kernel_rfl⟩
instance : HasBody Try.prog 145 := ⟨fun _ _ => by kernel_rfl⟩
instance : HasBody Try.prog 146 := ⟨fun _ _ => by kernel_rfl⟩
instance : HasBody Try.prog 147 := ⟨fun _ _ => by kernel_rfl⟩
instance : HasBody Try.prog 148 := ⟨fun _ _ => by kernel_rfl⟩
instance : HasBody Try.prog 149 := ⟨fun _ _ => by kernel_rfl⟩
instance : HasBody Try.prog 150 := ⟨fun _ _ => by kernel_rfl⟩
instance : HasBody Try.prog 151 := ⟨fun _ _ => by kernel_rfl⟩
instance : HasBody Try.prog 152 := ⟨fun _ _ => by kernel_rfl⟩
instance : HasBody Try.prog 153 := ⟨fun _ _ => by kernel_rfl⟩
instance : HasBody Try.prog 154 := ⟨fun _ _ => by kernel_rfl⟩
instance : HasBody Try.prog 155 := ⟨fun _ _ => by kernel_rfl⟩
instance : HasBody Try.prog 156 := ⟨fun _ _ => by kernel_rfl⟩
instance : HasBody Try.prog 157 := ⟨fun _ _ => by kernel_rfl⟩
instance : HasBody Try.prog 158 := ⟨fun _ _ => by kernel_rfl⟩
instance : HasBody Try.prog 159 := ⟨fun _ _ => by kernel_rfl⟩
instance : HasBody Try.prog 160 := ⟨fun _ _ => by kernel_rfl⟩
end Go.Proofs.Ytbnbbafffihapaa
