/- What the reader asks of types and functions, closed facts of this program. -/
import Derived.Test.YtdomclcokkijjaaV8
namespace Go.Proofs.Ytdomclcokkijjaa
open Go.RowKit
instance : Mixed Try.prog := ⟨by kernel_rfl⟩
instance : One Try.prog 1 := ⟨fun _ => by kernel_rfl, fun _ => by kernel_rfl⟩
instance : One Try.prog 2 := ⟨fun _ => by kernel_rfl, fun _ => by kernel_rfl⟩
instance : One Try.prog 3 := ⟨fun _ => by kernel_rfl, fun _ => by kernel_rfl⟩
instance : One Try.prog 4 := ⟨fun _ => by kernel_rfl, fun _ => by kernel_rfl⟩
instance : One Try.prog 5 := ⟨fun _ => by kernel_rfl, fun _ => by kernel_rfl⟩
instance : One Try.prog 6 := ⟨fun _ => by kernel_rfl, fun _ => by kernel_rfl⟩
instance : FOff Try.prog 7 0 0 := ⟨fun _ _ _ => by kernel_rfl⟩
instance : FOff Try.prog 7 1 1 := ⟨fun _ _ _ => by kernel_rfl⟩
instance : FOff Try.prog 7 2 2 := ⟨fun _ _ _ => by kernel_rfl⟩
instance : FOff Try.prog 7 3 3 := ⟨fun _ _ _ => by kernel_rfl⟩
instance : FOff Try.prog 8 0 0 := ⟨fun _ _ _ => by kernel_rfl⟩
instance : FOff Try.prog 8 1 1 := ⟨fun _ _ _ => by kernel_rfl⟩
instance : FOff Try.prog 8 2 2 := ⟨fun _ _ _ => by kernel_rfl⟩
instance : FOff Try.prog 8 3 3 := ⟨fun _ _ _ => by kernel_rfl⟩
instance : StrT Try.prog 9 := ⟨by kernel_rfl⟩
instance : One Try.prog 9 := ⟨fun _ => by kernel_rfl, fun _ => by kernel_rfl⟩
instance : StrT Try.prog 10 := ⟨by kernel_rfl⟩
instance : One Try.prog 10 := ⟨fun _ => by kernel_rfl, fun _ => by kernel_rfl⟩
instance : StrT Try.prog 11 := ⟨by kernel_rfl⟩
instance : One Try.prog 11 := ⟨fun _ => by kernel_rfl, fun _ => by kernel_rfl⟩
instance : One Try.prog 12 := ⟨fun _ => by kernel_rfl, fun _ => by kernel_rfl⟩
instance : FOff Try.prog 13 0 0 := ⟨fun _ _ _ => by kernel_rfl⟩
instance : FOff Try.prog 13 1 1 := ⟨fun _ _ _ => by kernel_rfl⟩
instance : FOff Try.prog 14 0 0 := ⟨fun _ _ _ => by kernel_rfl⟩
instance : FOff Try.prog 14 1 1 := ⟨fun _ _ _ => by kernel_rfl⟩
instance : PtrT Try.prog 15 := ⟨by kernel_rfl⟩
instance : One Try.prog 15 := ⟨fun _ => by kernel_rfl, fun _ => by kernel_rfl⟩
instance : PtrT Try.prog 16 := ⟨by kernel_rfl⟩
instance : One Try.prog 16 := ⟨fun _ => by kernel_rfl, fun _ => by kernel_rfl⟩
instance : PtrT Try.prog 17 := ⟨by kernel_rfl⟩
instance : One Try.prog 17 := ⟨fun _ => by kernel_rfl, fun _ => by kernel_rfl⟩
instance : FOff Try.prog 18 0 0 := ⟨fun _ _ _ => by kernel_rfl⟩
instance : FOff Try.prog 19 0 0 := ⟨fun _ _ _ => by kernel_rfl⟩
instance : One Try.prog 20 := ⟨fun _ => by kernel_rfl, fun _ => by kernel_rfl⟩
instance : One Try.prog 21 := ⟨fun _ => by kernel_rfl, fun _ => by kernel_rfl⟩
instance : SlT Try.prog 22 3 1 := ⟨by kernel_rfl, fun _ => by kernel_rfl⟩
instance : One Try.prog 22 := ⟨fun _ => by kernel_rfl, fun _ => by kernel_rfl⟩
instance : SlT Try.prog 23 27 1 := ⟨by kernel_rfl, fun _ => by kernel_rfl⟩
instance : One Try.prog 23 := ⟨fun _ => by kernel_rfl, fun _ => by kernel_rfl⟩
instance : One Try.prog 24 := ⟨fun _ => by kernel_rfl, fun _ => by kernel_rfl⟩
instance : PtrT Try.prog 25 := ⟨by kernel_rfl⟩
instance : One Try.prog 25 := ⟨fun _ => by kernel_rfl, fun _ => by kernel_rfl⟩
instance : SlT Try.prog 26 39 12 := ⟨by kernel_rfl, fun _ => by kernel_rfl⟩
instance : One Try.prog 26 := ⟨fun _ => by kernel_rfl, fun _ => by kernel_rfl⟩
instance : One Try.prog 27 := ⟨fun _ => by kernel_rfl, fun _ => by kernel_rfl⟩
instance : FOff Try.prog 29 0 0 := ⟨fun _ _ _ => by kernel_rfl⟩
instance : FOff Try.prog 30 0 0 := ⟨fun _ _ _ => by kernel_rfl⟩
instance : FOff Try.prog 31 0 0 := ⟨fun _ _ _ => by kernel_rfl⟩
instance : FOff Try.prog 31 1 1 := ⟨fun _ _ _ => by kernel_rfl⟩
instance : FOff Try.prog 31 2 2 := ⟨fun _ _ _ => by kernel_rfl⟩
instance : FOff Try.prog 31 3 5 := ⟨fun _ _ _ => by kernel_rfl⟩
instance : FOff Try.prog 31 4 6 := ⟨fun _ _ _ => by kernel_rfl⟩
instance : FOff Try.prog 31 5 7 := ⟨fun _ _ _ => by kernel_rfl⟩
instance : FOff Try.prog 31 6 8 := ⟨fun _ _ _ => by kernel_rfl⟩
instance : FOff Try.prog 31 7 9 := ⟨fun _ _ _ => by kernel_rfl⟩
instance : FOff Try.prog 32 0 0 := ⟨fun _ _ _ => by kernel_rfl⟩
instance : FOff Try.prog 32 1 1 := ⟨fun _ _ _ => by kernel_rfl⟩
instance : FOff Try.prog 32 2 2 := ⟨fun _ _ _ => by kernel_rfl⟩
instance : FOff Try.prog 32 3 5 := ⟨fun _ _ _ => by kernel_rfl⟩
instance : FOff Try.prog 32 4 6 := ⟨fun _ _ _ => by kernel_rfl⟩
instance : FOff Try.prog 32 5 7 := ⟨fun _ _ _ => by kernel_rfl⟩
instance : FOff Try.prog 32 6 8 := ⟨fun _ _ _ => by kernel_rfl⟩
instance : FOff Try.prog 32 7 9 := ⟨fun _ _ _ => by kernel_rfl⟩
instance : One Try.prog 33 := ⟨fun _ => by kernel_rfl, fun _ => by kernel_rfl⟩
instance : One Try.prog 34 := ⟨fun _ => by kernel_rfl, fun _ => by kernel_rfl⟩
instance : PtrT Try.prog 35 := ⟨by kernel_rfl⟩
instance : One Try.prog 35 := ⟨fun _ => by kernel_rfl, fun _ => by kernel_rfl⟩
instance : One Try.prog 36 := ⟨fun _ => by kernel_rfl, fun _ => by kernel_rfl⟩
instance : FOff Try.prog 38 0 0 := ⟨fun _ _ _ => by kernel_rfl⟩
instance : FOff Try.prog 38 1 1 := ⟨fun _ _ _ => by kernel_rfl⟩
instance : FOff Try.prog 38 2 2 := ⟨fun _ _ _ => by kernel_rfl⟩
instance : FOff Try.prog 39 0 0 := ⟨fun _ _ _ => by kernel_rfl⟩
instance : FOff Try.prog 39 1 1 := ⟨fun _ _ _ => by kernel_rfl⟩
instance : FOff Try.prog 39 2 2 := ⟨fun _ _ _ => by kernel_rfl⟩
instance : One Try.prog 40 := ⟨fun _ => by kernel_rfl, fun _ => by kernel_rfl⟩
instance : FOff Try.prog 41 0 0 := ⟨fun _ _ _ => by kernel_rfl⟩
instance : FOff Try.prog 41 1 1 := ⟨fun _ _ _ => by kernel_rfl⟩
instance : FOff Try.prog 41 2 2 := ⟨fun _ _ _ => by kernel_rfl⟩
instance : FOff Try.prog 41 3 3 := ⟨fun _ _ _ => by kernel_rfl⟩
instance : FOff Try.prog 41 4 4 := ⟨fun _ _ _ => by kernel_rfl⟩
instance : FOff Try.prog 41 5 5 := ⟨fun _ _ _ => by kernel_rfl⟩
instance : FOff Try.prog 41 6 6 := ⟨fun _ _ _ => by kernel_rfl⟩
instance : FOff Try.prog 42 0 0 := ⟨fun _ _ _ => by kernel_rfl⟩
instance : FOff Try.prog 42 1 1 := ⟨fun _ _ _ => by kernel_rfl⟩
instance : FOff Try.prog 42 2 2 := ⟨fun _ _ _ => by kernel_rfl⟩
instance : FOff Try.prog 42 3 3 := ⟨fun _ _ _ => by kernel_rfl⟩
instance : FOff Try.prog 42 4 4 := ⟨fun _ _ _ => by kernel_rfl⟩
instance : FOff Try.prog 42 5 5 := ⟨fun _ _ _ => by kernel_rfl⟩
instance : FOff Try.prog 42 6 6 := ⟨fun _ _ _ => by kernel_rfl⟩
instance : One Try.prog 43 := ⟨fun _ => by kernel_rfl, fun _ => by kernel_rfl⟩
instance : PtrT Try.prog 44 := ⟨by kernel_rfl⟩
instance : One Try.prog 44 := ⟨fun _ => by kernel_rfl, fun _ => by kernel_rfl⟩
instance : One Try.prog 45 := ⟨fun _ => by kernel_rfl, fun _ => by kernel_rfl⟩
instance : One Try.prog 47 := ⟨fun _ => by kernel_rfl, fun _ => by kernel_rfl⟩
instance : PtrT Try.prog 48 := ⟨by kernel_rfl⟩
instance : One Try.prog 48 := ⟨fun _ => by kernel_rfl, fun _ => by kernel_rfl⟩
instance : One Try.prog 49 := ⟨fun _ => by kernel_rfl, fun _ => by kernel_rfl⟩
instance : One Try.prog 50 := ⟨fun _ => by kernel_rfl, fun _ => by kernel_rfl⟩
instance : One Try.prog 51 := ⟨fun _ => by kernel_rfl, fun _ => by kernel_rfl⟩
instance : One Try.prog 52 := ⟨fun _ => by kernel_rfl, fun _ => by kernel_rfl⟩
instance : FOff Try.prog 53 0 0 := ⟨fun _ _ _ => by kernel_rfl⟩
instance : FOff Try.prog 53 1 1 := ⟨fun _ _ _ => by kernel_rfl⟩
instance : FOff Try.prog 54 0 0 := ⟨fun _ _ _ => by kernel_rfl⟩
instance : FOff Try.prog 54 1 1 := ⟨fun _ _ _ => by kernel_rfl⟩
instance : One Try.prog 55 := ⟨fun _ => by kernel_rfl, fun _ => by kernel_rfl⟩
instance : One Try.prog 56 := ⟨fun _ => by kernel_rfl, fun _ => by kernel_rfl⟩
instance : One Try.prog 57 := ⟨fun _ => by kernel_rfl, fun _ => by kernel_rfl⟩
instance : One Try.prog 58 := ⟨fun _ => by kernel_rfl, fun _ => by kernel_rfl⟩
instance : SlT Try.prog 59 5 1 := ⟨by kernel_rfl, fun _ => by kernel_rfl⟩
instance : One Try.prog 59 := ⟨fun _ => by kernel_rfl, fun _ => by kernel_rfl⟩
instance : One Try.prog 60 := ⟨fun _ => by kernel_rfl, fun _ => by kernel_rfl⟩
instance : PtrT Try.prog 61 := ⟨by kernel_rfl⟩
instance : One Try.prog 61 := ⟨fun _ => by kernel_rfl, fun _ => by kernel_rfl⟩
instance : One Try.prog 62 := ⟨fun _ => by kernel_rfl, fun _ => by kernel_rfl⟩
instance : One Try.prog 63 := ⟨fun _ => by kernel_rfl, fun _ => by kernel_rfl⟩
instance : One Try.prog 64 := ⟨fun _ => by kernel_rfl, fun _ => by kernel_rfl⟩
instance : FOff Try.prog 65 0 0 := ⟨fun _ _ _ => by kernel_rfl⟩
instance : FOff Try.prog 65 1 7 := ⟨fun _ _ _ => by kernel_rfl⟩
instance : FOff Try.prog 65 2 8 := ⟨fun _ _ _ => by kernel_rfl⟩
instance : FOff Try.prog 65 3 9 := ⟨fun _ _ _ => by kernel_rfl⟩
instance : FOff Try.prog 65 4 10 := ⟨fun _ _ _ => by kernel_rfl⟩
instance : FOff Try.prog 65 5 11 := ⟨fun _ _ _ => by kernel_rfl⟩
instance : FOff Try.prog 65 6 12 := ⟨fun _ _ _ => by kernel_rfl⟩
instance : FOff Try.prog 65 7 13 := ⟨fun _ _ _ => by kernel_rfl⟩
instance : FOff Try.prog 65 8 14 := ⟨fun _ _ _ => by kernel_rfl⟩
instance : FOff Try.prog 66 0 0 := ⟨fun _ _ _ => by kernel_rfl⟩
instance : FOff Try.prog 66 1 7 := ⟨fun _ _ _ => by kernel_rfl⟩
instance : FOff Try.prog 66 2 8 := ⟨fun _ _ _ => by kernel_rfl⟩
instance : FOff Try.prog 66 3 9 := ⟨fun _ _ _ => by kernel_rfl⟩
instance : FOff Try.prog 66 4 10 := ⟨fun _ _ _ => by kernel_rfl⟩
instance : FOff Try.prog 66 5 11 := ⟨fun _ _ _ => by kernel_rfl⟩
instance : FOff Try.prog 66 6 12 := ⟨fun _ _ _ => by kernel_rfl⟩
instance : FOff Try.prog 66 7 13 := ⟨fun _ _ _ => by kernel_rfl⟩
instance : FOff Try.prog 66 8 14 := ⟨fun _ _ _ => by kernel_rfl⟩
instance : One Try.prog 67 := ⟨fun _ => by kernel_rfl, fun _ => by kernel_rfl⟩
instance : One Try.prog 68 := ⟨fun _ => by kernel_rfl, fun _ => by kernel_rfl⟩
instance : One Try.prog 69 := ⟨fun _ => by kernel_rfl, fun _ => by kernel_rfl⟩
instance : One Try.prog 70 := ⟨fun _ => by kernel_rfl, fun _ => by kernel_rfl⟩
instance : PtrT Try.prog 71 := ⟨by kernel_rfl⟩
instance : One Try.prog 71 := ⟨fun _ => by kernel_rfl, fun _ => by kernel_rfl⟩
instance : One Try.prog 72 := ⟨fun _ => by kernel_rfl, fun _ => by kernel_rfl⟩
instance : One Try.prog 73 := ⟨fun _ => by kernel_rfl, fun _ => by kernel_rfl⟩
instance : One Try.prog 74 := ⟨fun _ => by kernel_rfl, fun _ => by kernel_rfl⟩
instance : One Try.prog 75 := ⟨fun _ => by kernel_rfl, fun _ => by kernel_rfl⟩
instance : One Try.prog 76 := ⟨fun _ => by kernel_rfl, fun _ => by kernel_rfl⟩
instance : One Try.prog 77 := ⟨fun _ => by kernel_rfl, fun _ => by kernel_rfl⟩
instance : SlT Try.prog 78 82 7 := ⟨by kernel_rfl, fun _ => by kernel_rfl⟩
instance : One Try.prog 78 := ⟨fun _ => by kernel_rfl, fun _ => by kernel_rfl⟩
instance : SlT Try.prog 79 84 3 := ⟨by kernel_rfl, fun _ => by kernel_rfl⟩
instance : One Try.prog 79 := ⟨fun _ => by kernel_rfl, fun _ => by kernel_rfl⟩
instance : One Try.prog 80 := ⟨fun _ => by kernel_rfl, fun _ => by kernel_rfl⟩
instance : FOff Try.prog 81 0 0 := ⟨fun _ _ _ => by kernel_rfl⟩
instance : FOff Try.prog 81 1 1 := ⟨fun _ _ _ => by kernel_rfl⟩
instance : FOff Try.prog 81 2 2 := ⟨fun _ _ _ => by kernel_rfl⟩
instance : FOff Try.prog 81 3 3 := ⟨fun _ _ _ => by kernel_rfl⟩
instance : FOff Try.prog 81 4 4 := ⟨fun _ _ _ => by kernel_rfl⟩
instance : FOff Try.prog 81 5 5 := ⟨fun _ _ _ => by kernel_rfl⟩
instance : FOff Try.prog 81 6 6 := ⟨fun _ _ _ => by kernel_rfl⟩
instance : FOff Try.prog 82 0 0 := ⟨fun _ _ _ => by kernel_rfl⟩
instance : FOff Try.prog 82 1 1 := ⟨fun _ _ _ => by kernel_rfl⟩
instance : FOff Try.prog 82 2 2 := ⟨fun _ _ _ => by kernel_rfl⟩
instance : FOff Try.prog 82 3 3 := ⟨fun _ _ _ => by kernel_rfl⟩
instance : FOff Try.prog 82 4 4 := ⟨fun _ _ _ => by kernel_rfl⟩
instance : FOff Try.prog 82 5 5 := ⟨fun _ _ _ => by kernel_rfl⟩
instance : FOff Try.prog 82 6 6 := ⟨fun _ _ _ => by kernel_rfl⟩
instance : FOff Try.prog 83 0 0 := ⟨fun _ _ _ => by kernel_rfl⟩
instance : FOff Try.prog 83 1 1 := ⟨fun _ _ _ => by kernel_rfl⟩
instance : FOff Try.prog 83 2 2 := ⟨fun _ _ _ => by kernel_rfl⟩
instance : FOff Try.prog 84 0 0 := ⟨fun _ _ _ => by kernel_rfl⟩
instance : FOff Try.prog 84 1 1 := ⟨fun _ _ _ => by kernel_rfl⟩
instance : FOff Try.prog 84 2 2 := ⟨fun _ _ _ => by kernel_rfl⟩
instance : One Try.prog 86 := ⟨fun _ => by kernel_rfl, fun _ => by kernel_rfl⟩
instance : One Try.prog 87 := ⟨fun _ => by kernel_rfl, fun _ => by kernel_rfl⟩
instance : One Try.prog 89 := ⟨fun _ => by kernel_rfl, fun _ => by kernel_rfl⟩
instance : One Try.prog 90 := ⟨fun _ => by kernel_rfl, fun _ => by kernel_rfl⟩
instance : SlT Try.prog 91 22 1 := ⟨by kernel_rfl, fun _ => by kernel_rfl⟩
instance : One Try.prog 91 := ⟨fun _ => by kernel_rfl, fun _ => by kernel_rfl⟩
instance : One Try.prog 92 := ⟨fun _ => by kernel_rfl, fun _ => by kernel_rfl⟩
instance : One Try.prog 93 := ⟨fun _ => by kernel_rfl, fun _ => by kernel_rfl⟩
instance : One Try.prog 94 := ⟨fun _ => by kernel_rfl, fun _ => by kernel_rfl⟩
instance : One Try.prog 95 := ⟨fun _ => by kernel_rfl, fun _ => by kernel_rfl⟩
instance : One Try.prog 97 := ⟨fun _ => by kernel_rfl, fun _ => by kernel_rfl⟩
instance : One Try.prog 98 := ⟨fun _ => by kernel_rfl, fun _ => by kernel_rfl⟩
instance : One Try.prog 99 := ⟨fun _ => by kernel_rfl, fun _ => by kernel_rfl⟩
instance : One Try.prog 101 := ⟨fun _ => by kernel_rfl, fun _ => by kernel_rfl⟩
instance : One Try.prog 102 := ⟨fun _ => by kernel_rfl, fun _ => by kernel_rfl⟩
instance : One Try.prog 103 := ⟨fun _ => by kernel_rfl, fun _ => by kernel_rfl⟩
instance : SlT Try.prog 104 4 1 := ⟨by kernel_rfl, fun _ => by kernel_rfl⟩
instance : One Try.prog 104 := ⟨fun _ => by kernel_rfl, fun _ => by kernel_rfl⟩
instance : One Try.prog 105 := ⟨fun _ => by kernel_rfl, fun _ => by kernel_rfl⟩
instance : One Try.prog 106 := ⟨fun _ => by kernel_rfl, fun _ => by kernel_rfl⟩
instance : One Try.prog 108 := ⟨fun _ => by kernel_rfl, fun _ => by kernel_rfl⟩
instance : One Try.prog 110 := ⟨fun _ => by kernel_rfl, fun _ => by kernel_rfl⟩
instance : One Try.prog 111 := ⟨fun _ => by kernel_rfl, fun _ => by kernel_rfl⟩
instance : One Try.prog 112 := ⟨fun _ => by kernel_rfl, fun _ => by kernel_rfl⟩
instance : SlT Try.prog 113 25 1 := ⟨by kernel_rfl, fun _ => by kernel_rfl⟩
instance : One Try.prog 113 := ⟨fun _ => by kernel_rfl, fun _ => by kernel_rfl⟩
instance : FOff Try.prog 114 0 0 := ⟨fun _ _ _ => by kernel_rfl⟩
instance : FOff Try.prog 114 1 15 := ⟨fun _ _ _ => by kernel_rfl⟩
instance : FOff Try.prog 114 2 16 := ⟨fun _ _ _ => by kernel_rfl⟩
instance : FOff Try.prog 114 3 17 := ⟨fun _ _ _ => by kernel_rfl⟩
instance : FOff Try.prog 114 4 18 := ⟨fun _ _ _ => by kernel_rfl⟩
instance : FOff Try.prog 114 5 19 := ⟨fun _ _ _ => by kernel_rfl⟩
instance : FOff Try.prog 114 6 20 := ⟨fun _ _ _ => by kernel_rfl⟩
instance : FOff Try.prog 115 0 0 := ⟨fun _ _ _ => by kernel_rfl⟩
instance : FOff Try.prog 115 1 15 := ⟨fun _ _ _ => by kernel_rfl⟩
instance : FOff Try.prog 115 2 16 := ⟨fun _ _ _ => by kernel_rfl⟩
instance : FOff Try.prog 115 3 17 := ⟨fun _ _ _ => by kernel_rfl⟩
instance : FOff Try.prog 115 4 18 := ⟨fun _ _ _ => by kernel_rfl⟩
instance : FOff Try.prog 115 5 19 := ⟨fun _ _ _ => by kernel_rfl⟩
instance : FOff Try.prog 115 6 20 := ⟨fun _ _ _ => by kernel_rfl⟩
instance : FOff Try.prog 116 0 0 := ⟨fun _ _ _ => by kernel_rfl⟩
instance : FOff Try.prog 116 1 1 := ⟨fun _ _ _ => by kernel_rfl⟩
instance : FOff Try.prog 117 0 0 := ⟨fun _ _ _ => by kernel_rfl⟩
instance : FOff Try.prog 117 1 1 := ⟨fun _ _ _ => by kernel_rfl⟩
instance : One Try.prog 118 := ⟨fun _ => by kernel_rfl, fun _ => by kernel_rfl⟩
instance : One Try.prog 119 := ⟨fun _ => by kernel_rfl, fun _ => by kernel_rfl⟩
instance : SlT Try.prog 120 141 4 := ⟨by kernel_rfl, fun _ => by kernel_rfl⟩
instance : One Try.prog 120 := ⟨fun _ => by kernel_rfl, fun _ => by kernel_rfl⟩
instance : FOff Try.prog 121 0 0 := ⟨fun _ _ _ => by kernel_rfl⟩
instance : FOff Try.prog 121 1 1 := ⟨fun _ _ _ => by kernel_rfl⟩
instance : FOff Try.prog 121 2 2 := ⟨fun _ _ _ => by kernel_rfl⟩
instance : FOff Try.prog 121 3 3 := ⟨fun _ _ _ => by kernel_rfl⟩
instance : FOff Try.prog 122 0 0 := ⟨fun _ _ _ => by kernel_rfl⟩
instance : FOff Try.prog 122 1 1 := ⟨fun _ _ _ => by kernel_rfl⟩
instance : FOff Try.prog 122 2 2 := ⟨fun _ _ _ => by kernel_rfl⟩
instance : FOff Try.prog 122 3 3 := ⟨fun _ _ _ => by kernel_rfl⟩
instance : PtrT Try.prog 123 := ⟨by kernel_rfl⟩
instance : One Try.prog 123 := ⟨fun _ => by kernel_rfl, fun _ => by kernel_rfl⟩
instance : FOff Try.prog 124 0 0 := ⟨fun _ _ _ => by kernel_rfl⟩
instance : FOff Try.prog 124 1 1 := ⟨fun _ _ _ => by kernel_rfl⟩
instance : FOff Try.prog 125 0 0 := ⟨fun _ _ _ => by kernel_rfl⟩
instance : FOff Try.prog 125 1 1 := ⟨fun _ _ _ => by kernel_rfl⟩
instance : One Try.prog 126 := ⟨fun _ => by kernel_rfl, fun _ => by kernel_rfl⟩
instance : One Try.prog 127 := ⟨fun _ => by kernel_rfl, fun _ => by kernel_rfl⟩
instance : One Try.prog 128 := ⟨fun _ => by kernel_rfl, fun _ => by kernel_rfl⟩
instance : One Try.prog 129 := ⟨fun _ => by kernel_rfl, fun _ => by kernel_rfl⟩
instance : One Try.prog 130 := ⟨fun _ => by kernel_rfl, fun _ => by kernel_rfl⟩
instance : One Try.prog 131 := ⟨fun _ => by kernel_rfl, fun _ => by kernel_rfl⟩
instance : One Try.prog 132 := ⟨fun _ => by kernel_rfl, fun _ => by kernel_rfl⟩
instance : One Try.prog 133 := ⟨fun _ => by kernel_rfl, fun _ => by kernel_rfl⟩
instance : One Try.prog 134 := ⟨fun _ => by kernel_rfl, fun _ => by kernel_rfl⟩
instance : One Try.prog 135 := ⟨fun _ => by kernel_rfl, fun _ => by kernel_rfl⟩
instance : One Try.prog 136 := ⟨fun _ => by kernel_rfl, fun _ => by kernel_rfl⟩
instance : One Try.prog 137 := ⟨fun _ => by kernel_rfl, fun _ => by kernel_rfl⟩
instance : One Try.prog 138 := ⟨fun _ => by kernel_rfl, fun _ => by kernel_rfl⟩
instance : One Try.prog 139 := ⟨fun _ => by kernel_rfl, fun _ => by kernel_rfl⟩
instance : FOff Try.prog 140 0 0 := ⟨fun _ _ _ => by kernel_rfl⟩
instance : FOff Try.prog 140 1 1 := ⟨fun _ _ _ => by kernel_rfl⟩
instance : FOff Try.prog 140 2 2 := ⟨fun _ _ _ => by kernel_rfl⟩
instance : FOff Try.prog 140 3 3 := ⟨fun _ _ _ => by kernel_rfl⟩
instance : FOff Try.prog 141 0 0 := ⟨fun _ _ _ => by kernel_rfl⟩
instance : FOff Try.prog 141 1 1 := ⟨fun _ _ _ => by kernel_rfl⟩
instance : FOff Try.prog 141 2 2 := ⟨fun _ _ _ => by kernel_rfl⟩
instance : FOff Try.prog 141 3 3 := ⟨fun _ _ _ => by kernel_rfl⟩
instance : One Try.prog 142 := ⟨fun _ => by kernel_rfl, fun _ => by kernel_rfl⟩
instance : FOff Try.prog 143 0 0 := ⟨fun _ _ _ => by kernel_rfl⟩
instance : FOff Try.prog 143 1 1 := ⟨fun _ _ _ => by kernel_rfl⟩
instance : FOff Try.prog 143 2 2 := ⟨fun _ _ _ => by kernel_rfl⟩
instance : FOff Try.prog 144 0 0 := ⟨fun _ _ _ => by kernel_rfl⟩
instance : FOff Try.prog 144 1 1 := ⟨fun _ _ _ => by kernel_rfl⟩
instance : FOff Try.prog 144 2 2 := ⟨fun _ _ _ => by kernel_rfl⟩
instance : One Try.prog 145 := ⟨fun _ => by kernel_rfl, fun _ => by kernel_rfl⟩
instance : One Try.prog 146 := ⟨fun _ => by kernel_rfl, fun _ => by kernel_rfl⟩
instance : One Try.prog 148 := ⟨fun _ => by kernel_rfl, fun _ => by kernel_rfl⟩
instance : One Try.prog 150 := ⟨fun _ => by kernel_rfl, fun _ => by kernel_rfl⟩
instance : One Try.prog 151 := ⟨fun _ => by kernel_rfl, fun _ => by kernel_rfl⟩
instance : One Try.prog 152 := ⟨fun _ => by kernel_rfl, fun _ => by kernel_rfl⟩
instance : One Try.prog 153 := ⟨fun _ => by kernel_rfl, fun _ => by kernel_rfl⟩
instance : One Try.prog 154 := ⟨fun _ => by kernel_rfl, fun _ => by kernel_rfl⟩
instance : One Try.prog 155 := ⟨fun _ => by kernel_rfl, fun _ => by kernel_rfl⟩
instance : SlT Try.prog 156 144 3 := ⟨by kernel_rfl, fun _ => by kernel_rfl⟩
instance : One Try.prog 156 := ⟨fun _ => by kernel_rfl, fun _ => by kernel_rfl⟩
instance : One Try.prog 157 := ⟨fun _ => by kernel_rfl, fun _ => by kernel_rfl⟩
instance : One Try.prog 158 := ⟨fun _ => by kernel_rfl, fun _ => by kernel_rfl⟩
instance : One Try.prog 159 := ⟨fun _ => by kernel_rfl, fun _ => by kernel_rfl⟩
instance : One Try.prog 160 := ⟨fun _ => by kernel_rfl, fun _ => by kernel_rfl⟩
instance : One Try.prog 162 := ⟨fun _ => by kernel_rfl, fun _ => by kernel_rfl⟩
instance : One Try.prog 163 := ⟨fun _ => by kernel_rfl, fun _ => by kernel_rfl⟩
instance : One Try.prog 164 := ⟨fun _ => by kernel_rfl, fun _ => by kernel_rfl⟩
instance : One Try.prog 165 := ⟨fun _ => by kernel_rfl, fun _ => by kernel_rfl⟩
instance : One Try.prog 166 := ⟨fun _ => by kernel_rfl, fun _ => by kernel_rfl⟩
instance : One Try.prog 167 := ⟨fun _ => by kernel_rfl, fun _ => by kernel_rfl⟩
instance : One Try.prog 168 := ⟨fun _ => by kernel_rfl, fun _ => by kernel_rfl⟩
instance : One Try.prog 169 := ⟨fun _ => by kernel_rfl, fun _ => by kernel_rfl⟩
instance : One Try.prog 170 := ⟨fun _ => by kernel_rfl, fun _ => by kernel_rfl⟩
instance : One Try.prog 171 := ⟨fun _ => by kernel_rfl, fun _ => by kernel_rfl⟩
instance : FOff Try.prog 172 0 0 := ⟨fun _ _ _ => by kernel_rfl⟩
instance : FOff Try.prog 172 1 1 := ⟨fun _ _ _ => by kernel_rfl⟩
instance : FOff Try.prog 172 2 2 := ⟨fun _ _ _ => by kernel_rfl⟩
instance : FOff Try.prog 172 3 3 := ⟨fun _ _ _ => by kernel_rfl⟩
instance : FOff Try.prog 173 0 0 := ⟨fun _ _ _ => by kernel_rfl⟩
instance : FOff Try.prog 173 1 1 := ⟨fun _ _ _ => by kernel_rfl⟩
instance : FOff Try.prog 173 2 2 := ⟨fun _ _ _ => by kernel_rfl⟩
instance : FOff Try.prog 173 3 3 := ⟨fun _ _ _ => by kernel_rfl⟩
instance : One Try.prog 177 := ⟨fun _ => by kernel_rfl, fun _ => by kernel_rfl⟩
instance : One Try.prog 178 := ⟨fun _ => by kernel_rfl, fun _ => by kernel_rfl⟩
instance : One Try.prog 179 := ⟨fun _ => by kernel_rfl, fun _ => by kernel_rfl⟩
instance : One Try.prog 180 := ⟨fun _ => by kernel_rfl, fun _ => by kernel_rfl⟩
instance : PtrT Try.prog 181 := ⟨by kernel_rfl⟩
instance : One Try.prog 181 := ⟨fun _ => by kernel_rfl, fun _ => by kernel_rfl⟩
instance : One Try.prog 182 := ⟨fun _ => by kernel_rfl, fun _ => by kernel_rfl⟩
instance : One Try.prog 183 := ⟨fun _ => by kernel_rfl, fun _ => by kernel_rfl⟩
instance : FOff Try.prog 184 0 0 := ⟨fun _ _ _ => by kernel_rfl⟩
instance : FOff Try.prog 184 1 1 := ⟨fun _ _ _ => by kernel_rfl⟩
instance : FOff Try.prog 184 2 2 := ⟨fun _ _ _ => by kernel_rfl⟩
instance : FOff Try.prog 184 3 3 := ⟨fun _ _ _ => by kernel_rfl⟩
instance : FOff Try.prog 184 4 4 := ⟨fun _ _ _ => by kernel_rfl⟩
instance : FOff Try.prog 184 5 5 := ⟨fun _ _ _ => by kernel_rfl⟩
instance : FOff Try.prog 184 6 6 := ⟨fun _ _ _ => by kernel_rfl⟩
instance : FOff Try.prog 184 7 7 := ⟨fun _ _ _ => by kernel_rfl⟩
instance : FOff Try.prog 184 8 8 := ⟨fun _ _ _ => by kernel_rfl⟩
instance : FOff Try.prog 184 9 9 := ⟨fun _ _ _ => by kernel_rfl⟩
instance : FOff Try.prog 184 10 10 := ⟨fun _ _ _ => by kernel_rfl⟩
instance : FOff Try.prog 185 0 0 := ⟨fun _ _ _ => by kernel_rfl⟩
instance : FOff Try.prog 185 1 1 := ⟨fun _ _ _ => by kernel_rfl⟩
instance : FOff Try.prog 185 2 2 := ⟨fun _ _ _ => by kernel_rfl⟩
instance : FOff Try.prog 185 3 3 := ⟨fun _ _ _ => by kernel_rfl⟩
instance : FOff Try.prog 185 4 4 := ⟨fun _ _ _ => by kernel_rfl⟩
instance : FOff Try.prog 185 5 5 := ⟨fun _ _ _ => by kernel_rfl⟩
instance : FOff Try.prog 185 6 6 := ⟨fun _ _ _ => by kernel_rfl⟩
instance : FOff Try.prog 185 7 7 := ⟨fun _ _ _ => by kernel_rfl⟩
instance : FOff Try.prog 185 8 8 := ⟨fun _ _ _ => by kernel_rfl⟩
instance : FOff Try.prog 185 9 9 := ⟨fun _ _ _ => by kernel_rfl⟩
instance : FOff Try.prog 185 10 10 := ⟨fun _ _ _ => by kernel_rfl⟩
instance : ElemT Try.prog 2 1 8 := ⟨Try.t2, _, by kernel_rfl, rfl, rfl, rfl, rfl, by decide⟩
instance : ElemT Try.prog 3 1 8 := ⟨Try.t3, _, by kernel_rfl, rfl, rfl, rfl, rfl, by decide⟩
instance : ElemT Try.prog 4 1 1 := ⟨Try.t4, _, by kernel_rfl, rfl, rfl, rfl, rfl, by decide⟩
instance : ElemT Try.prog 5 1 1 := ⟨Try.t5, _, by kernel_rfl, rfl, rfl, rfl, rfl, by decide⟩
instance : ElemT Try.prog 6 1 1 := ⟨Try.t6, _, by kernel_rfl, rfl, rfl, rfl, rfl, by decide⟩
instance : ElemT Try.prog 7 4 24 := ⟨Try.t7, _, by kernel_rfl, rfl, rfl, rfl, rfl, by decide⟩
instance : ElemT Try.prog 8 4 24 := ⟨Try.t8, _, by kernel_rfl, rfl, rfl, rfl, rfl, by decide⟩
instance : ElemT Try.prog 9 1 16 := ⟨Try.t9, _, by kernel_rfl, rfl, rfl, rfl, rfl, by decide⟩
instance : ElemT Try.prog 10 1 16 := ⟨Try.t10, _, by kernel_rfl, rfl, rfl, rfl, rfl, by decide⟩
instance : ElemT Try.prog 11 1 16 := ⟨Try.t11, _, by kernel_rfl, rfl, rfl, rfl, rfl, by decide⟩
instance : ElemT Try.prog 12 1 8 := ⟨Try.t12, _, by kernel_rfl, rfl, rfl, rfl, rfl, by decide⟩
instance : ElemT Try.prog 13 2 24 := ⟨Try.t13, _, by kernel_rfl, rfl, rfl, rfl, rfl, by decide⟩
instance : ElemT Try.prog 14 2 24 := ⟨Try.t14, _, by kernel_rfl, rfl, rfl, rfl, rfl, by decide⟩
instance : ElemT Try.prog 15 1 8 := ⟨Try.t15, _, by kernel_rfl, rfl, rfl, rfl, rfl, by decide⟩
instance : ElemT Try.prog 16 1 8 := ⟨Try.t16, _, by kernel_rfl, rfl, rfl, rfl, rfl, by decide⟩
instance : ElemT Try.prog 17 1 8 := ⟨Try.t17, _, by kernel_rfl, rfl, rfl, rfl, rfl, by decide⟩
instance : ElemT Try.prog 18 1 8 := ⟨Try.t18, _, by kernel_rfl, rfl, rfl, rfl, rfl, by decide⟩
instance : ElemT Try.prog 19 1 8 := ⟨Try.t19, _, by kernel_rfl, rfl, rfl, rfl, rfl, by decide⟩
instance : ElemT Try.prog 21 1 4 := ⟨Try.t21, _, by kernel_rfl, rfl, rfl, rfl, rfl, by decide⟩
instance : ElemT Try.prog 22 1 24 := ⟨Try.t22, _, by kernel_rfl, rfl, rfl, rfl, rfl, by decide⟩
instance : ElemT Try.prog 23 1 24 := ⟨Try.t23, _, by kernel_rfl, rfl, rfl, rfl, rfl, by decide⟩
instance : ElemT Try.prog 25 1 8 := ⟨Try.t25, _, by kernel_rfl, rfl, rfl, rfl, rfl, by decide⟩
instance : ElemT Try.prog 26 1 24 := ⟨Try.t26, _, by kernel_rfl, rfl, rfl, rfl, rfl, by decide⟩
instance : ElemT Try.prog 27 1 8 := ⟨Try.t27, _, by kernel_rfl, rfl, rfl, rfl, rfl, by decide⟩
instance : ElemT Try.prog 28 3 24 := ⟨Try.t28, _, by kernel_rfl, rfl, rfl, rfl, rfl, by decide⟩
instance : ElemT Try.prog 29 1 24 := ⟨Try.t29, _, by kernel_rfl, rfl, rfl, rfl, rfl, by decide⟩
instance : ElemT Try.prog 30 1 24 := ⟨Try.t30, _, by kernel_rfl, rfl, rfl, rfl, rfl, by decide⟩
instance : ElemT Try.prog 31 10 176 := ⟨Try.t31, _, by kernel_rfl, rfl, rfl, rfl, rfl, by decide⟩
instance : ElemT Try.prog 32 10 176 := ⟨Try.t32, _, by kernel_rfl, rfl, rfl, rfl, rfl, by decide⟩
instance : ElemT Try.prog 35 1 8 := ⟨Try.t35, _, by kernel_rfl, rfl, rfl, rfl, rfl, by decide⟩
instance : ElemT Try.prog 37 10 80 := ⟨Try.t37, _, by kernel_rfl, rfl, rfl, rfl, rfl, by decide⟩
instance : ElemT Try.prog 38 12 96 := ⟨Try.t38, _, by kernel_rfl, rfl, rfl, rfl, rfl, by decide⟩
instance : ElemT Try.prog 39 12 96 := ⟨Try.t39, _, by kernel_rfl, rfl, rfl, rfl, rfl, by decide⟩
instance : ElemT Try.prog 41 7 56 := ⟨Try.t41, _, by kernel_rfl, rfl, rfl, rfl, rfl, by decide⟩
instance : ElemT Try.prog 42 7 56 := ⟨Try.t42, _, by kernel_rfl, rfl, rfl, rfl, rfl, by decide⟩
instance : ElemT Try.prog 44 1 8 := ⟨Try.t44, _, by kernel_rfl, rfl, rfl, rfl, rfl, by decide⟩
instance : ElemT Try.prog 45 1 8 := ⟨Try.t45, _, by kernel_rfl, rfl, rfl, rfl, rfl, by decide⟩
instance : ElemT Try.prog 48 1 8 := ⟨Try.t48, _, by kernel_rfl, rfl, rfl, rfl, rfl, by decide⟩
instance : ElemT Try.prog 53 2 16 := ⟨Try.t53, _, by kernel_rfl, rfl, rfl, rfl, rfl, by decide⟩
instance : ElemT Try.prog 54 2 16 := ⟨Try.t54, _, by kernel_rfl, rfl, rfl, rfl, rfl, by decide⟩
instance : ElemT Try.prog 59 1 24 := ⟨Try.t59, _, by kernel_rfl, rfl, rfl, rfl, rfl, by decide⟩
instance : ElemT Try.prog 61 1 8 := ⟨Try.t61, _, by kernel_rfl, rfl, rfl, rfl, rfl, by decide⟩
instance : ElemT Try.prog 65 15 120 := ⟨Try.t65, _, by kernel_rfl, rfl, rfl, rfl, rfl, by decide⟩
instance : ElemT Try.prog 66 15 120 := ⟨Try.t66, _, by kernel_rfl, rfl, rfl, rfl, rfl, by decide⟩
instance : ElemT Try.prog 71 1 8 := ⟨Try.t71, _, by kernel_rfl, rfl, rfl, rfl, rfl, by decide⟩
instance : ElemT Try.prog 78 1 24 := ⟨Try.t78, _, by kernel_rfl, rfl, rfl, rfl, rfl, by decide⟩
instance : ElemT Try.prog 79 1 24 := ⟨Try.t79, _, by kernel_rfl, rfl, rfl, rfl, rfl, by decide⟩
instance : ElemT Try.prog 81 7 56 := ⟨Try.t81, _, by kernel_rfl, rfl, rfl, rfl, rfl, by decide⟩
instance : ElemT Try.prog 82 7 56 := ⟨Try.t82, _, by kernel_rfl, rfl, rfl, rfl, rfl, by decide⟩
instance : ElemT Try.prog 83 3 24 := ⟨Try.t83, _, by kernel_rfl, rfl, rfl, rfl, rfl, by decide⟩
instance : ElemT Try.prog 84 3 24 := ⟨Try.t84, _, by kernel_rfl, rfl, rfl, rfl, rfl, by decide⟩
instance : ElemT Try.prog 91 1 24 := ⟨Try.t91, _, by kernel_rfl, rfl, rfl, rfl, rfl, by decide⟩
instance : ElemT Try.prog 96 2 16 := ⟨Try.t96, _, by kernel_rfl, rfl, rfl, rfl, rfl, by decide⟩
instance : ElemT Try.prog 104 1 24 := ⟨Try.t104, _, by kernel_rfl, rfl, rfl, rfl, rfl, by decide⟩
instance : ElemT Try.prog 113 1 24 := ⟨Try.t113, _, by kernel_rfl, rfl, rfl, rfl, rfl, by decide⟩
instance : ElemT Try.prog 114 21 176 := ⟨Try.t114, _, by kernel_rfl, rfl, rfl, rfl, rfl, by decide⟩
instance : ElemT Try.prog 115 21 176 := ⟨Try.t115, _, by kernel_rfl, rfl, rfl, rfl, rfl, by decide⟩
instance : ElemT Try.prog 116 3 40 := ⟨Try.t116, _, by kernel_rfl, rfl, rfl, rfl, rfl, by decide⟩
instance : ElemT Try.prog 117 3 40 := ⟨Try.t117, _, by kernel_rfl, rfl, rfl, rfl, rfl, by decide⟩
instance : ElemT Try.prog 120 1 24 := ⟨Try.t120, _, by kernel_rfl, rfl, rfl, rfl, rfl, by decide⟩
instance : ElemT Try.prog 121 4 64 := ⟨Try.t121, _, by kernel_rfl, rfl, rfl, rfl, rfl, by decide⟩
instance : ElemT Try.prog 122 4 64 := ⟨Try.t122, _, by kernel_rfl, rfl, rfl, rfl, rfl, by decide⟩
instance : ElemT Try.prog 123 1 8 := ⟨Try.t123, _, by kernel_rfl, rfl, rfl, rfl, rfl, by decide⟩
instance : ElemT Try.prog 124 2 32 := ⟨Try.t124, _, by kernel_rfl, rfl, rfl, rfl, rfl, by decide⟩
instance : ElemT Try.prog 125 2 32 := ⟨Try.t125, _, by kernel_rfl, rfl, rfl, rfl, rfl, by decide⟩
instance : ElemT Try.prog 140 4 32 := ⟨Try.t140, _, by kernel_rfl, rfl, rfl, rfl, rfl, by decide⟩
instance : ElemT Try.prog 141 4 32 := ⟨Try.t141, _, by kernel_rfl, rfl, rfl, rfl, rfl, by decide⟩
instance : ElemT Try.prog 143 3 24 := ⟨Try.t143, _, by kernel_rfl, rfl, rfl, rfl, rfl, by decide⟩
instance : ElemT Try.prog 144 3 24 := ⟨Try.t144, _, by kernel_rfl, rfl, rfl, rfl, rfl, by decide⟩
instance : ElemT Try.prog 156 1 24 := ⟨Try.t156, _, by kernel_rfl, rfl, rfl, rfl, rfl, by decide⟩
instance : ElemT Try.prog 160 1 8 := ⟨Try.t160, _, by kernel_rfl, rfl, rfl, rfl, rfl, by decide⟩
instance : ElemT Try.prog 169 1 8 := ⟨Try.t169, _, by kernel_rfl, rfl, rfl, rfl, rfl, by decide⟩
instance : ElemT Try.prog 172 4 40 := ⟨Try.t172, _, by kernel_rfl, rfl, rfl, rfl, rfl, by decide⟩
instance : ElemT Try.prog 173 4 40 := ⟨Try.t173, _, by kernel_rfl, rfl, rfl, rfl, rfl, by decide⟩
instance : ElemT Try.prog 177 1 4 := ⟨Try.t177, _, by kernel_rfl, rfl, rfl, rfl, rfl, by decide⟩
instance : ElemT Try.prog 178 1 1 := ⟨Try.t178, _, by kernel_rfl, rfl, rfl, rfl, rfl, by decide⟩
instance : ElemT Try.prog 179 1 1 := ⟨Try.t179, _, by kernel_rfl, rfl, rfl, rfl, rfl, by decide⟩
instance : ElemT Try.prog 181 1 8 := ⟨Try.t181, _, by kernel_rfl, rfl, rfl, rfl, rfl, by decide⟩
instance : ElemT Try.prog 182 1 4 := ⟨Try.t182, _, by kernel_rfl, rfl, rfl, rfl, rfl, by decide⟩
instance : ElemT Try.prog 183 1 4 := ⟨Try.t183, _, by kernel_rfl, rfl, rfl, rfl, rfl, by decide⟩
instance : ElemT Try.prog 184 11 48 := ⟨Try.t184, _, by kernel_rfl, rfl, rfl, rfl, rfl, by decide⟩
instance : ElemT Try.prog 185 11 48 := ⟨Try.t185, _, by kernel_rfl, rfl, rfl, rfl, rfl, by decide⟩
instance : ElemZ Try.prog 2 (.int .i64 0) 8 := ⟨by kernel_rfl, rfl⟩
instance : IntT Try.prog 2 .i64 := ⟨by kernel_rfl⟩
instance : ElemZ Try.prog 3 (.int .i64 0) 8 := ⟨by kernel_rfl, rfl⟩
instance : IntT Try.prog 3 .i64 := ⟨by kernel_rfl⟩
instance : ElemZ Try.prog 4 (.bool false) 1 := ⟨by kernel_rfl, rfl⟩
instance : BoolT Try.prog 4 := ⟨by kernel_rfl⟩
instance : ElemZ Try.prog 5 (.int .u8 0) 1 := ⟨by kernel_rfl, rfl⟩
instance : IntT Try.prog 5 .u8 := ⟨by kernel_rfl⟩
instance : ElemZ Try.prog 6 (.int .u8 0) 1 := ⟨by kernel_rfl, rfl⟩
instance : IntT Try.prog 6 .u8 := ⟨by kernel_rfl⟩
instance : AggT Try.prog 7 4 := ⟨⟨_, Try.underlying7, rfl⟩, by kernel_rfl⟩
instance : FldOne Try.prog 7 0 0 := ⟨_, _, Try.underlying7, rfl, rfl, inferInstanceAs (One Try.prog 2)⟩
instance : FldOne Try.prog 7 1 1 := ⟨_, _, Try.underlying7, rfl, rfl, inferInstanceAs (One Try.prog 3)⟩
instance : FldOne Try.prog 7 2 2 := ⟨_, _, Try.underlying7, rfl, rfl, inferInstanceAs (One Try.prog 4)⟩
instance : FldOne Try.prog 7 3 3 := ⟨_, _, Try.underlying7, rfl, rfl, inferInstanceAs (One Try.prog 6)⟩
instance : AggT Try.prog 8 4 := ⟨⟨_, Try.underlying8, rfl⟩, by kernel_rfl⟩
instance : FldOne Try.prog 8 0 0 := ⟨_, _, Try.underlying8, rfl, rfl, inferInstanceAs (One Try.prog 2)⟩
instance : FldOne Try.prog 8 1 1 := ⟨_, _, Try.underlying8, rfl, rfl, inferInstanceAs (One Try.prog 3)⟩
instance : FldOne Try.prog 8 2 2 := ⟨_, _, Try.underlying8, rfl, rfl, inferInstanceAs (One Try.prog 4)⟩
instance : FldOne Try.prog 8 3 3 := ⟨_, _, Try.underlying8, rfl, rfl, inferInstanceAs (One Try.prog 6)⟩
instance : ElemZ Try.prog 9 (.string ByteArray.empty) 16 := ⟨by kernel_rfl, rfl⟩
instance : ElemZ Try.prog 10 (.string ByteArray.empty) 16 := ⟨by kernel_rfl, rfl⟩
instance : ElemZ Try.prog 11 (.string ByteArray.empty) 16 := ⟨by kernel_rfl, rfl⟩
instance : ElemZ Try.prog 12 (.int .u64 0) 8 := ⟨by kernel_rfl, rfl⟩
instance : IntT Try.prog 12 .u64 := ⟨by kernel_rfl⟩
instance : AggT Try.prog 13 2 := ⟨⟨_, Try.underlying13, rfl⟩, by kernel_rfl⟩
instance : FldOne Try.prog 13 0 0 := ⟨_, _, Try.underlying13, rfl, rfl, inferInstanceAs (One Try.prog 9)⟩
instance : FldOne Try.prog 13 1 1 := ⟨_, _, Try.underlying13, rfl, rfl, inferInstanceAs (One Try.prog 12)⟩
instance : AggT Try.prog 14 2 := ⟨⟨_, Try.underlying14, rfl⟩, by kernel_rfl⟩
instance : FldOne Try.prog 14 0 0 := ⟨_, _, Try.underlying14, rfl, rfl, inferInstanceAs (One Try.prog 9)⟩
instance : FldOne Try.prog 14 1 1 := ⟨_, _, Try.underlying14, rfl, rfl, inferInstanceAs (One Try.prog 12)⟩
instance : ElemZ Try.prog 15 (.pointer none) 8 := ⟨by kernel_rfl, rfl⟩
instance : ElemZ Try.prog 16 (.pointer none) 8 := ⟨by kernel_rfl, rfl⟩
instance : ElemZ Try.prog 17 (.pointer none) 8 := ⟨by kernel_rfl, rfl⟩
instance : AggT Try.prog 18 1 := ⟨⟨_, Try.underlying18, rfl⟩, by kernel_rfl⟩
instance : FldOne Try.prog 18 0 0 := ⟨_, _, Try.underlying18, rfl, rfl, inferInstanceAs (One Try.prog 17)⟩
instance : AggT Try.prog 19 1 := ⟨⟨_, Try.underlying19, rfl⟩, by kernel_rfl⟩
instance : FldOne Try.prog 19 0 0 := ⟨_, _, Try.underlying19, rfl, rfl, inferInstanceAs (One Try.prog 17)⟩
instance : ElemZ Try.prog 21 (.int .i32 0) 4 := ⟨by kernel_rfl, rfl⟩
instance : IntT Try.prog 21 .i32 := ⟨by kernel_rfl⟩
instance : ElemZ Try.prog 22 (.slice none 0 0) 24 := ⟨by kernel_rfl, rfl⟩
instance : ElemZ Try.prog 23 (.slice none 0 0) 24 := ⟨by kernel_rfl, rfl⟩
instance : ElemZ Try.prog 25 (.pointer none) 8 := ⟨by kernel_rfl, rfl⟩
instance : ElemZ Try.prog 26 (.slice none 0 0) 24 := ⟨by kernel_rfl, rfl⟩
instance : ElemZ Try.prog 27 (.int .u64 0) 8 := ⟨by kernel_rfl, rfl⟩
instance : IntT Try.prog 27 .u64 := ⟨by kernel_rfl⟩
instance : ArrT Try.prog 28 3 27 1 := ⟨by kernel_rfl, fun _ => by kernel_rfl⟩
instance : AggT Try.prog 28 3 := ⟨⟨_, Try.underlying28, rfl⟩, by kernel_rfl⟩
instance : AggT Try.prog 29 1 := ⟨⟨_, Try.underlying29, rfl⟩, by kernel_rfl⟩
instance : FldOne Try.prog 29 0 0 := ⟨_, _, Try.underlying29, rfl, rfl, inferInstanceAs (One Try.prog 22)⟩
instance : AggT Try.prog 30 1 := ⟨⟨_, Try.underlying30, rfl⟩, by kernel_rfl⟩
instance : FldOne Try.prog 30 0 0 := ⟨_, _, Try.underlying30, rfl, rfl, inferInstanceAs (One Try.prog 22)⟩
instance : AggT Try.prog 31 10 := ⟨⟨_, Try.underlying31, rfl⟩, by kernel_rfl⟩
instance : FldOne Try.prog 31 0 0 := ⟨_, _, Try.underlying31, rfl, rfl, inferInstanceAs (One Try.prog 3)⟩
instance : FldOne Try.prog 31 1 1 := ⟨_, _, Try.underlying31, rfl, rfl, inferInstanceAs (One Try.prog 26)⟩
instance : FldOne Try.prog 31 3 5 := ⟨_, _, Try.underlying31, rfl, rfl, inferInstanceAs (One Try.prog 23)⟩
instance : FldOne Try.prog 31 4 6 := ⟨_, _, Try.underlying31, rfl, rfl, inferInstanceAs (One Try.prog 23)⟩
instance : FldOne Try.prog 31 5 7 := ⟨_, _, Try.underlying31, rfl, rfl, inferInstanceAs (One Try.prog 23)⟩
instance : FldOne Try.prog 31 7 9 := ⟨_, _, Try.underlying31, rfl, rfl, inferInstanceAs (One Try.prog 22)⟩
instance : AggT Try.prog 32 10 := ⟨⟨_, Try.underlying32, rfl⟩, by kernel_rfl⟩
instance : FldOne Try.prog 32 0 0 := ⟨_, _, Try.underlying32, rfl, rfl, inferInstanceAs (One Try.prog 3)⟩
instance : FldOne Try.prog 32 1 1 := ⟨_, _, Try.underlying32, rfl, rfl, inferInstanceAs (One Try.prog 26)⟩
instance : FldOne Try.prog 32 3 5 := ⟨_, _, Try.underlying32, rfl, rfl, inferInstanceAs (One Try.prog 23)⟩
instance : FldOne Try.prog 32 4 6 := ⟨_, _, Try.underlying32, rfl, rfl, inferInstanceAs (One Try.prog 23)⟩
instance : FldOne Try.prog 32 5 7 := ⟨_, _, Try.underlying32, rfl, rfl, inferInstanceAs (One Try.prog 23)⟩
instance : FldOne Try.prog 32 7 9 := ⟨_, _, Try.underlying32, rfl, rfl, inferInstanceAs (One Try.prog 22)⟩
instance : ElemZ Try.prog 35 (.pointer none) 8 := ⟨by kernel_rfl, rfl⟩
instance : ArrT Try.prog 37 10 27 1 := ⟨by kernel_rfl, fun _ => by kernel_rfl⟩
instance : AggT Try.prog 37 10 := ⟨⟨_, Try.underlying37, rfl⟩, by kernel_rfl⟩
instance : AggT Try.prog 38 12 := ⟨⟨_, Try.underlying38, rfl⟩, by kernel_rfl⟩
instance : FldOne Try.prog 38 0 0 := ⟨_, _, Try.underlying38, rfl, rfl, inferInstanceAs (One Try.prog 3)⟩
instance : FldOne Try.prog 38 1 1 := ⟨_, _, Try.underlying38, rfl, rfl, inferInstanceAs (One Try.prog 3)⟩
instance : AggT Try.prog 39 12 := ⟨⟨_, Try.underlying39, rfl⟩, by kernel_rfl⟩
instance : FldOne Try.prog 39 0 0 := ⟨_, _, Try.underlying39, rfl, rfl, inferInstanceAs (One Try.prog 3)⟩
instance : FldOne Try.prog 39 1 1 := ⟨_, _, Try.underlying39, rfl, rfl, inferInstanceAs (One Try.prog 3)⟩
instance : AggT Try.prog 41 7 := ⟨⟨_, Try.underlying41, rfl⟩, by kernel_rfl⟩
instance : EqT Try.prog 41 [.i .i64, .i .i64, .i .i64, .i .i64, .i .i64, .i .i64, .i .i64] := ⟨by kernel_rfl, by kernel_rfl, by kernel_rfl, by kernel_rfl⟩
instance : FldOne Try.prog 41 0 0 := ⟨_, _, Try.underlying41, rfl, rfl, inferInstanceAs (One Try.prog 3)⟩
instance : FldOne Try.prog 41 1 1 := ⟨_, _, Try.underlying41, rfl, rfl, inferInstanceAs (One Try.prog 3)⟩
instance : FldOne Try.prog 41 2 2 := ⟨_, _, Try.underlying41, rfl, rfl, inferInstanceAs (One Try.prog 3)⟩
instance : FldOne Try.prog 41 3 3 := ⟨_, _, Try.underlying41, rfl, rfl, inferInstanceAs (One Try.prog 3)⟩
instance : FldOne Try.prog 41 4 4 := ⟨_, _, Try.underlying41, rfl, rfl, inferInstanceAs (One Try.prog 3)⟩
instance : FldOne Try.prog 41 5 5 := ⟨_, _, Try.underlying41, rfl, rfl, inferInstanceAs (One Try.prog 3)⟩
instance : FldOne Try.prog 41 6 6 := ⟨_, _, Try.underlying41, rfl, rfl, inferInstanceAs (One Try.prog 3)⟩
instance : AggT Try.prog 42 7 := ⟨⟨_, Try.underlying42, rfl⟩, by kernel_rfl⟩
instance : EqT Try.prog 42 [.i .i64, .i .i64, .i .i64, .i .i64, .i .i64, .i .i64, .i .i64] := ⟨by kernel_rfl, by kernel_rfl, by kernel_rfl, by kernel_rfl⟩
instance : FldOne Try.prog 42 0 0 := ⟨_, _, Try.underlying42, rfl, rfl, inferInstanceAs (One Try.prog 3)⟩
instance : FldOne Try.prog 42 1 1 := ⟨_, _, Try.underlying42, rfl, rfl, inferInstanceAs (One Try.prog 3)⟩
instance : FldOne Try.prog 42 2 2 := ⟨_, _, Try.underlying42, rfl, rfl, inferInstanceAs (One Try.prog 3)⟩
instance : FldOne Try.prog 42 3 3 := ⟨_, _, Try.underlying42, rfl, rfl, inferInstanceAs (One Try.prog 3)⟩
instance : FldOne Try.prog 42 4 4 := ⟨_, _, Try.underlying42, rfl, rfl, inferInstanceAs (One Try.prog 3)⟩
instance : FldOne Try.prog 42 5 5 := ⟨_, _, Try.underlying42, rfl, rfl, inferInstanceAs (One Try.prog 3)⟩
instance : FldOne Try.prog 42 6 6 := ⟨_, _, Try.underlying42, rfl, rfl, inferInstanceAs (One Try.prog 3)⟩
instance : ElemZ Try.prog 44 (.pointer none) 8 := ⟨by kernel_rfl, rfl⟩
instance : ElemZ Try.prog 45 (.int .i64 0) 8 := ⟨by kernel_rfl, rfl⟩
instance : IntT Try.prog 45 .i64 := ⟨by kernel_rfl⟩
instance : ElemZ Try.prog 48 (.pointer none) 8 := ⟨by kernel_rfl, rfl⟩
instance : AggT Try.prog 53 2 := ⟨⟨_, Try.underlying53, rfl⟩, by kernel_rfl⟩
instance : EqT Try.prog 53 [.i .i64, .i .i64] := ⟨by kernel_rfl, by kernel_rfl, by kernel_rfl, by kernel_rfl⟩
instance : FldOne Try.prog 53 0 0 := ⟨_, _, Try.underlying53, rfl, rfl, inferInstanceAs (One Try.prog 3)⟩
instance : FldOne Try.prog 53 1 1 := ⟨_, _, Try.underlying53, rfl, rfl, inferInstanceAs (One Try.prog 3)⟩
instance : AggT Try.prog 54 2 := ⟨⟨_, Try.underlying54, rfl⟩, by kernel_rfl⟩
instance : EqT Try.prog 54 [.i .i64, .i .i64] := ⟨by kernel_rfl, by kernel_rfl, by kernel_rfl, by kernel_rfl⟩
instance : FldOne Try.prog 54 0 0 := ⟨_, _, Try.underlying54, rfl, rfl, inferInstanceAs (One Try.prog 3)⟩
instance : FldOne Try.prog 54 1 1 := ⟨_, _, Try.underlying54, rfl, rfl, inferInstanceAs (One Try.prog 3)⟩
instance : ElemZ Try.prog 59 (.slice none 0 0) 24 := ⟨by kernel_rfl, rfl⟩
instance : ElemZ Try.prog 61 (.pointer none) 8 := ⟨by kernel_rfl, rfl⟩
instance : AggT Try.prog 65 15 := ⟨⟨_, Try.underlying65, rfl⟩, by kernel_rfl⟩
instance : FldOne Try.prog 65 1 7 := ⟨_, _, Try.underlying65, rfl, rfl, inferInstanceAs (One Try.prog 3)⟩
instance : FldOne Try.prog 65 2 8 := ⟨_, _, Try.underlying65, rfl, rfl, inferInstanceAs (One Try.prog 3)⟩
instance : FldOne Try.prog 65 3 9 := ⟨_, _, Try.underlying65, rfl, rfl, inferInstanceAs (One Try.prog 3)⟩
instance : FldOne Try.prog 65 4 10 := ⟨_, _, Try.underlying65, rfl, rfl, inferInstanceAs (One Try.prog 3)⟩
instance : FldOne Try.prog 65 5 11 := ⟨_, _, Try.underlying65, rfl, rfl, inferInstanceAs (One Try.prog 3)⟩
instance : FldOne Try.prog 65 6 12 := ⟨_, _, Try.underlying65, rfl, rfl, inferInstanceAs (One Try.prog 3)⟩
instance : FldOne Try.prog 65 7 13 := ⟨_, _, Try.underlying65, rfl, rfl, inferInstanceAs (One Try.prog 3)⟩
instance : FldOne Try.prog 65 8 14 := ⟨_, _, Try.underlying65, rfl, rfl, inferInstanceAs (One Try.prog 3)⟩
instance : AggT Try.prog 66 15 := ⟨⟨_, Try.underlying66, rfl⟩, by kernel_rfl⟩
instance : FldOne Try.prog 66 1 7 := ⟨_, _, Try.underlying66, rfl, rfl, inferInstanceAs (One Try.prog 3)⟩
instance : FldOne Try.prog 66 2 8 := ⟨_, _, Try.underlying66, rfl, rfl, inferInstanceAs (One Try.prog 3)⟩
instance : FldOne Try.prog 66 3 9 := ⟨_, _, Try.underlying66, rfl, rfl, inferInstanceAs (One Try.prog 3)⟩
instance : FldOne Try.prog 66 4 10 := ⟨_, _, Try.underlying66, rfl, rfl, inferInstanceAs (One Try.prog 3)⟩
instance : FldOne Try.prog 66 5 11 := ⟨_, _, Try.underlying66, rfl, rfl, inferInstanceAs (One Try.prog 3)⟩
instance : FldOne Try.prog 66 6 12 := ⟨_, _, Try.underlying66, rfl, rfl, inferInstanceAs (One Try.prog 3)⟩
instance : FldOne Try.prog 66 7 13 := ⟨_, _, Try.underlying66, rfl, rfl, inferInstanceAs (One Try.prog 3)⟩
instance : FldOne Try.prog 66 8 14 := ⟨_, _, Try.underlying66, rfl, rfl, inferInstanceAs (One Try.prog 3)⟩
instance : ElemZ Try.prog 71 (.pointer none) 8 := ⟨by kernel_rfl, rfl⟩
instance : ElemZ Try.prog 78 (.slice none 0 0) 24 := ⟨by kernel_rfl, rfl⟩
instance : ElemZ Try.prog 79 (.slice none 0 0) 24 := ⟨by kernel_rfl, rfl⟩
instance : AggT Try.prog 81 7 := ⟨⟨_, Try.underlying81, rfl⟩, by kernel_rfl⟩
instance : EqT Try.prog 81 [.i .i64, .i .i64, .i .i64, .i .u64, .i .u64, .i .u64, .i .u64] := ⟨by kernel_rfl, by kernel_rfl, by kernel_rfl, by kernel_rfl⟩
instance : FldOne Try.prog 81 0 0 := ⟨_, _, Try.underlying81, rfl, rfl, inferInstanceAs (One Try.prog 3)⟩
instance : FldOne Try.prog 81 1 1 := ⟨_, _, Try.underlying81, rfl, rfl, inferInstanceAs (One Try.prog 3)⟩
instance : FldOne Try.prog 81 2 2 := ⟨_, _, Try.underlying81, rfl, rfl, inferInstanceAs (One Try.prog 3)⟩
instance : FldOne Try.prog 81 3 3 := ⟨_, _, Try.underlying81, rfl, rfl, inferInstanceAs (One Try.prog 27)⟩
instance : FldOne Try.prog 81 4 4 := ⟨_, _, Try.underlying81, rfl, rfl, inferInstanceAs (One Try.prog 27)⟩
instance : FldOne Try.prog 81 5 5 := ⟨_, _, Try.underlying81, rfl, rfl, inferInstanceAs (One Try.prog 27)⟩
instance : FldOne Try.prog 81 6 6 := ⟨_, _, Try.underlying81, rfl, rfl, inferInstanceAs (One Try.prog 27)⟩
instance : AggT Try.prog 82 7 := ⟨⟨_, Try.underlying82, rfl⟩, by kernel_rfl⟩
instance : EqT Try.prog 82 [.i .i64, .i .i64, .i .i64, .i .u64, .i .u64, .i .u64, .i .u64] := ⟨by kernel_rfl, by kernel_rfl, by kernel_rfl, by kernel_rfl⟩
instance : FldOne Try.prog 82 0 0 := ⟨_, _, Try.underlying82, rfl, rfl, inferInstanceAs (One Try.prog 3)⟩
instance : FldOne Try.prog 82 1 1 := ⟨_, _, Try.underlying82, rfl, rfl, inferInstanceAs (One Try.prog 3)⟩
instance : FldOne Try.prog 82 2 2 := ⟨_, _, Try.underlying82, rfl, rfl, inferInstanceAs (One Try.prog 3)⟩
instance : FldOne Try.prog 82 3 3 := ⟨_, _, Try.underlying82, rfl, rfl, inferInstanceAs (One Try.prog 27)⟩
instance : FldOne Try.prog 82 4 4 := ⟨_, _, Try.underlying82, rfl, rfl, inferInstanceAs (One Try.prog 27)⟩
instance : FldOne Try.prog 82 5 5 := ⟨_, _, Try.underlying82, rfl, rfl, inferInstanceAs (One Try.prog 27)⟩
instance : FldOne Try.prog 82 6 6 := ⟨_, _, Try.underlying82, rfl, rfl, inferInstanceAs (One Try.prog 27)⟩
instance : AggT Try.prog 83 3 := ⟨⟨_, Try.underlying83, rfl⟩, by kernel_rfl⟩
instance : EqT Try.prog 83 [.i .i64, .i .i64, .i .i64] := ⟨by kernel_rfl, by kernel_rfl, by kernel_rfl, by kernel_rfl⟩
instance : FldOne Try.prog 83 0 0 := ⟨_, _, Try.underlying83, rfl, rfl, inferInstanceAs (One Try.prog 3)⟩
instance : FldOne Try.prog 83 1 1 := ⟨_, _, Try.underlying83, rfl, rfl, inferInstanceAs (One Try.prog 3)⟩
instance : FldOne Try.prog 83 2 2 := ⟨_, _, Try.underlying83, rfl, rfl, inferInstanceAs (One Try.prog 3)⟩
instance : AggT Try.prog 84 3 := ⟨⟨_, Try.underlying84, rfl⟩, by kernel_rfl⟩
instance : EqT Try.prog 84 [.i .i64, .i .i64, .i .i64] := ⟨by kernel_rfl, by kernel_rfl, by kernel_rfl, by kernel_rfl⟩
instance : FldOne Try.prog 84 0 0 := ⟨_, _, Try.underlying84, rfl, rfl, inferInstanceAs (One Try.prog 3)⟩
instance : FldOne Try.prog 84 1 1 := ⟨_, _, Try.underlying84, rfl, rfl, inferInstanceAs (One Try.prog 3)⟩
instance : FldOne Try.prog 84 2 2 := ⟨_, _, Try.underlying84, rfl, rfl, inferInstanceAs (One Try.prog 3)⟩
instance : ElemZ Try.prog 91 (.slice none 0 0) 24 := ⟨by kernel_rfl, rfl⟩
instance : ArrT Try.prog 96 2 3 1 := ⟨by kernel_rfl, fun _ => by kernel_rfl⟩
instance : AggT Try.prog 96 2 := ⟨⟨_, Try.underlying96, rfl⟩, by kernel_rfl⟩
instance : ElemZ Try.prog 104 (.slice none 0 0) 24 := ⟨by kernel_rfl, rfl⟩
instance : ElemZ Try.prog 113 (.slice none 0 0) 24 := ⟨by kernel_rfl, rfl⟩
instance : AggT Try.prog 114 21 := ⟨⟨_, Try.underlying114, rfl⟩, by kernel_rfl⟩
instance : FldOne Try.prog 114 1 15 := ⟨_, _, Try.underlying114, rfl, rfl, inferInstanceAs (One Try.prog 61)⟩
instance : FldOne Try.prog 114 2 16 := ⟨_, _, Try.underlying114, rfl, rfl, inferInstanceAs (One Try.prog 48)⟩
instance : FldOne Try.prog 114 3 17 := ⟨_, _, Try.underlying114, rfl, rfl, inferInstanceAs (One Try.prog 71)⟩
instance : FldOne Try.prog 114 4 18 := ⟨_, _, Try.underlying114, rfl, rfl, inferInstanceAs (One Try.prog 113)⟩
instance : FldOne Try.prog 114 5 19 := ⟨_, _, Try.underlying114, rfl, rfl, inferInstanceAs (One Try.prog 4)⟩
instance : FldOne Try.prog 114 6 20 := ⟨_, _, Try.underlying114, rfl, rfl, inferInstanceAs (One Try.prog 4)⟩
instance : AggT Try.prog 115 21 := ⟨⟨_, Try.underlying115, rfl⟩, by kernel_rfl⟩
instance : FldOne Try.prog 115 1 15 := ⟨_, _, Try.underlying115, rfl, rfl, inferInstanceAs (One Try.prog 61)⟩
instance : FldOne Try.prog 115 2 16 := ⟨_, _, Try.underlying115, rfl, rfl, inferInstanceAs (One Try.prog 48)⟩
instance : FldOne Try.prog 115 3 17 := ⟨_, _, Try.underlying115, rfl, rfl, inferInstanceAs (One Try.prog 71)⟩
instance : FldOne Try.prog 115 4 18 := ⟨_, _, Try.underlying115, rfl, rfl, inferInstanceAs (One Try.prog 113)⟩
instance : FldOne Try.prog 115 5 19 := ⟨_, _, Try.underlying115, rfl, rfl, inferInstanceAs (One Try.prog 4)⟩
instance : FldOne Try.prog 115 6 20 := ⟨_, _, Try.underlying115, rfl, rfl, inferInstanceAs (One Try.prog 4)⟩
instance : AggT Try.prog 116 3 := ⟨⟨_, Try.underlying116, rfl⟩, by kernel_rfl⟩
instance : FldOne Try.prog 116 0 0 := ⟨_, _, Try.underlying116, rfl, rfl, inferInstanceAs (One Try.prog 22)⟩
instance : AggT Try.prog 117 3 := ⟨⟨_, Try.underlying117, rfl⟩, by kernel_rfl⟩
instance : FldOne Try.prog 117 0 0 := ⟨_, _, Try.underlying117, rfl, rfl, inferInstanceAs (One Try.prog 22)⟩
instance : ElemZ Try.prog 120 (.slice none 0 0) 24 := ⟨by kernel_rfl, rfl⟩
instance : AggT Try.prog 121 4 := ⟨⟨_, Try.underlying121, rfl⟩, by kernel_rfl⟩
instance : FldOne Try.prog 121 0 0 := ⟨_, _, Try.underlying121, rfl, rfl, inferInstanceAs (One Try.prog 23)⟩
instance : FldOne Try.prog 121 1 1 := ⟨_, _, Try.underlying121, rfl, rfl, inferInstanceAs (One Try.prog 3)⟩
instance : FldOne Try.prog 121 2 2 := ⟨_, _, Try.underlying121, rfl, rfl, inferInstanceAs (One Try.prog 4)⟩
instance : FldOne Try.prog 121 3 3 := ⟨_, _, Try.underlying121, rfl, rfl, inferInstanceAs (One Try.prog 120)⟩
instance : AggT Try.prog 122 4 := ⟨⟨_, Try.underlying122, rfl⟩, by kernel_rfl⟩
instance : FldOne Try.prog 122 0 0 := ⟨_, _, Try.underlying122, rfl, rfl, inferInstanceAs (One Try.prog 23)⟩
instance : FldOne Try.prog 122 1 1 := ⟨_, _, Try.underlying122, rfl, rfl, inferInstanceAs (One Try.prog 3)⟩
instance : FldOne Try.prog 122 2 2 := ⟨_, _, Try.underlying122, rfl, rfl, inferInstanceAs (One Try.prog 4)⟩
instance : FldOne Try.prog 122 3 3 := ⟨_, _, Try.underlying122, rfl, rfl, inferInstanceAs (One Try.prog 120)⟩
instance : ElemZ Try.prog 123 (.pointer none) 8 := ⟨by kernel_rfl, rfl⟩
instance : AggT Try.prog 124 2 := ⟨⟨_, Try.underlying124, rfl⟩, by kernel_rfl⟩
instance : FldOne Try.prog 124 0 0 := ⟨_, _, Try.underlying124, rfl, rfl, inferInstanceAs (One Try.prog 59)⟩
instance : FldOne Try.prog 124 1 1 := ⟨_, _, Try.underlying124, rfl, rfl, inferInstanceAs (One Try.prog 3)⟩
instance : AggT Try.prog 125 2 := ⟨⟨_, Try.underlying125, rfl⟩, by kernel_rfl⟩
instance : FldOne Try.prog 125 0 0 := ⟨_, _, Try.underlying125, rfl, rfl, inferInstanceAs (One Try.prog 59)⟩
instance : FldOne Try.prog 125 1 1 := ⟨_, _, Try.underlying125, rfl, rfl, inferInstanceAs (One Try.prog 3)⟩
instance : AggT Try.prog 140 4 := ⟨⟨_, Try.underlying140, rfl⟩, by kernel_rfl⟩
instance : EqT Try.prog 140 [.i .i64, .i .i64, .i .i64, .b] := ⟨by kernel_rfl, by kernel_rfl, by kernel_rfl, by kernel_rfl⟩
instance : FldOne Try.prog 140 0 0 := ⟨_, _, Try.underlying140, rfl, rfl, inferInstanceAs (One Try.prog 3)⟩
instance : FldOne Try.prog 140 1 1 := ⟨_, _, Try.underlying140, rfl, rfl, inferInstanceAs (One Try.prog 3)⟩
instance : FldOne Try.prog 140 2 2 := ⟨_, _, Try.underlying140, rfl, rfl, inferInstanceAs (One Try.prog 3)⟩
instance : FldOne Try.prog 140 3 3 := ⟨_, _, Try.underlying140, rfl, rfl, inferInstanceAs (One Try.prog 4)⟩
instance : AggT Try.prog 141 4 := ⟨⟨_, Try.underlying141, rfl⟩, by kernel_rfl⟩
instance : EqT Try.prog 141 [.i .i64, .i .i64, .i .i64, .b] := ⟨by kernel_rfl, by kernel_rfl, by kernel_rfl, by kernel_rfl⟩
instance : FldOne Try.prog 141 0 0 := ⟨_, _, Try.underlying141, rfl, rfl, inferInstanceAs (One Try.prog 3)⟩
instance : FldOne Try.prog 141 1 1 := ⟨_, _, Try.underlying141, rfl, rfl, inferInstanceAs (One Try.prog 3)⟩
instance : FldOne Try.prog 141 2 2 := ⟨_, _, Try.underlying141, rfl, rfl, inferInstanceAs (One Try.prog 3)⟩
instance : FldOne Try.prog 141 3 3 := ⟨_, _, Try.underlying141, rfl, rfl, inferInstanceAs (One Try.prog 4)⟩
instance : AggT Try.prog 143 3 := ⟨⟨_, Try.underlying143, rfl⟩, by kernel_rfl⟩
instance : EqT Try.prog 143 [.i .i64, .i .i64, .i .i64] := ⟨by kernel_rfl, by kernel_rfl, by kernel_rfl, by kernel_rfl⟩
instance : FldOne Try.prog 143 0 0 := ⟨_, _, Try.underlying143, rfl, rfl, inferInstanceAs (One Try.prog 3)⟩
instance : FldOne Try.prog 143 1 1 := ⟨_, _, Try.underlying143, rfl, rfl, inferInstanceAs (One Try.prog 3)⟩
instance : FldOne Try.prog 143 2 2 := ⟨_, _, Try.underlying143, rfl, rfl, inferInstanceAs (One Try.prog 3)⟩
instance : AggT Try.prog 144 3 := ⟨⟨_, Try.underlying144, rfl⟩, by kernel_rfl⟩
instance : EqT Try.prog 144 [.i .i64, .i .i64, .i .i64] := ⟨by kernel_rfl, by kernel_rfl, by kernel_rfl, by kernel_rfl⟩
instance : FldOne Try.prog 144 0 0 := ⟨_, _, Try.underlying144, rfl, rfl, inferInstanceAs (One Try.prog 3)⟩
instance : FldOne Try.prog 144 1 1 := ⟨_, _, Try.underlying144, rfl, rfl, inferInstanceAs (One Try.prog 3)⟩
instance : FldOne Try.prog 144 2 2 := ⟨_, _, Try.underlying144, rfl, rfl, inferInstanceAs (One Try.prog 3)⟩
instance : ElemZ Try.prog 156 (.slice none 0 0) 24 := ⟨by kernel_rfl, rfl⟩
instance : ElemZ Try.prog 160 (.int .u64 0) 8 := ⟨by kernel_rfl, rfl⟩
instance : IntT Try.prog 160 .u64 := ⟨by kernel_rfl⟩
instance : ElemZ Try.prog 169 (.int .u64 0) 8 := ⟨by kernel_rfl, rfl⟩
instance : IntT Try.prog 169 .u64 := ⟨by kernel_rfl⟩
instance : AggT Try.prog 172 4 := ⟨⟨_, Try.underlying172, rfl⟩, by kernel_rfl⟩
instance : FldOne Try.prog 172 0 0 := ⟨_, _, Try.underlying172, rfl, rfl, inferInstanceAs (One Try.prog 17)⟩
instance : FldOne Try.prog 172 1 1 := ⟨_, _, Try.underlying172, rfl, rfl, inferInstanceAs (One Try.prog 17)⟩
instance : FldOne Try.prog 172 2 2 := ⟨_, _, Try.underlying172, rfl, rfl, inferInstanceAs (One Try.prog 17)⟩
instance : FldOne Try.prog 172 3 3 := ⟨_, _, Try.underlying172, rfl, rfl, inferInstanceAs (One Try.prog 9)⟩
instance : AggT Try.prog 173 4 := ⟨⟨_, Try.underlying173, rfl⟩, by kernel_rfl⟩
instance : FldOne Try.prog 173 0 0 := ⟨_, _, Try.underlying173, rfl, rfl, inferInstanceAs (One Try.prog 17)⟩
instance : FldOne Try.prog 173 1 1 := ⟨_, _, Try.underlying173, rfl, rfl, inferInstanceAs (One Try.prog 17)⟩
instance : FldOne Try.prog 173 2 2 := ⟨_, _, Try.underlying173, rfl, rfl, inferInstanceAs (One Try.prog 17)⟩
instance : FldOne Try.prog 173 3 3 := ⟨_, _, Try.underlying173, rfl, rfl, inferInstanceAs (One Try.prog 9)⟩
instance : ElemZ Try.prog 177 (.int .u32 0) 4 := ⟨by kernel_rfl, rfl⟩
instance : IntT Try.prog 177 .u32 := ⟨by kernel_rfl⟩
instance : ElemZ Try.prog 178 (.int .u8 0) 1 := ⟨by kernel_rfl, rfl⟩
instance : IntT Try.prog 178 .u8 := ⟨by kernel_rfl⟩
instance : ElemZ Try.prog 179 (.int .u8 0) 1 := ⟨by kernel_rfl, rfl⟩
instance : IntT Try.prog 179 .u8 := ⟨by kernel_rfl⟩
instance : ElemZ Try.prog 181 (.pointer none) 8 := ⟨by kernel_rfl, rfl⟩
instance : ElemZ Try.prog 182 (.int .i32 0) 4 := ⟨by kernel_rfl, rfl⟩
instance : IntT Try.prog 182 .i32 := ⟨by kernel_rfl⟩
instance : ElemZ Try.prog 183 (.int .i32 0) 4 := ⟨by kernel_rfl, rfl⟩
instance : IntT Try.prog 183 .i32 := ⟨by kernel_rfl⟩
instance : AggT Try.prog 184 11 := ⟨⟨_, Try.underlying184, rfl⟩, by kernel_rfl⟩
instance : FldOne Try.prog 184 0 0 := ⟨_, _, Try.underlying184, rfl, rfl, inferInstanceAs (One Try.prog 12)⟩
instance : FldOne Try.prog 184 1 1 := ⟨_, _, Try.underlying184, rfl, rfl, inferInstanceAs (One Try.prog 12)⟩
instance : FldOne Try.prog 184 2 2 := ⟨_, _, Try.underlying184, rfl, rfl, inferInstanceAs (One Try.prog 177)⟩
instance : FldOne Try.prog 184 3 3 := ⟨_, _, Try.underlying184, rfl, rfl, inferInstanceAs (One Try.prog 178)⟩
instance : FldOne Try.prog 184 4 4 := ⟨_, _, Try.underlying184, rfl, rfl, inferInstanceAs (One Try.prog 5)⟩
instance : FldOne Try.prog 184 5 5 := ⟨_, _, Try.underlying184, rfl, rfl, inferInstanceAs (One Try.prog 5)⟩
instance : FldOne Try.prog 184 6 6 := ⟨_, _, Try.underlying184, rfl, rfl, inferInstanceAs (One Try.prog 179)⟩
instance : FldOne Try.prog 184 7 7 := ⟨_, _, Try.underlying184, rfl, rfl, inferInstanceAs (One Try.prog 180)⟩
instance : FldOne Try.prog 184 8 8 := ⟨_, _, Try.underlying184, rfl, rfl, inferInstanceAs (One Try.prog 181)⟩
instance : FldOne Try.prog 184 9 9 := ⟨_, _, Try.underlying184, rfl, rfl, inferInstanceAs (One Try.prog 182)⟩
instance : FldOne Try.prog 184 10 10 := ⟨_, _, Try.underlying184, rfl, rfl, inferInstanceAs (One Try.prog 183)⟩
instance : AggT Try.prog 185 11 := ⟨⟨_, Try.underlying185, rfl⟩, by kernel_rfl⟩
instance : FldOne Try.prog 185 0 0 := ⟨_, _, Try.underlying185, rfl, rfl, inferInstanceAs (One Try.prog 12)⟩
instance : FldOne Try.prog 185 1 1 := ⟨_, _, Try.underlying185, rfl, rfl, inferInstanceAs (One Try.prog 12)⟩
instance : FldOne Try.prog 185 2 2 := ⟨_, _, Try.underlying185, rfl, rfl, inferInstanceAs (One Try.prog 177)⟩
instance : FldOne Try.prog 185 3 3 := ⟨_, _, Try.underlying185, rfl, rfl, inferInstanceAs (One Try.prog 178)⟩
instance : FldOne Try.prog 185 4 4 := ⟨_, _, Try.underlying185, rfl, rfl, inferInstanceAs (One Try.prog 5)⟩
instance : FldOne Try.prog 185 5 5 := ⟨_, _, Try.underlying185, rfl, rfl, inferInstanceAs (One Try.prog 5)⟩
instance : FldOne Try.prog 185 6 6 := ⟨_, _, Try.underlying185, rfl, rfl, inferInstanceAs (One Try.prog 179)⟩
instance : FldOne Try.prog 185 7 7 := ⟨_, _, Try.underlying185, rfl, rfl, inferInstanceAs (One Try.prog 180)⟩
instance : FldOne Try.prog 185 8 8 := ⟨_, _, Try.underlying185, rfl, rfl, inferInstanceAs (One Try.prog 181)⟩
instance : FldOne Try.prog 185 9 9 := ⟨_, _, Try.underlying185, rfl, rfl, inferInstanceAs (One Try.prog 182)⟩
instance : FldOne Try.prog 185 10 10 := ⟨_, _, Try.underlying185, rfl, rfl, inferInstanceAs (One Try.prog 183)⟩
instance : HasBody Try.prog 3 := ⟨fun _ _ => by kernel_rfl⟩
instance : HasBody Try.prog 4 := ⟨fun _ _ => by kernel_rfl⟩
instance : HasBody Try.prog 5 := ⟨fun _ _ => by kernel_rfl⟩
instance : HasBody Try.prog 6 := ⟨fun _ _ => by kernel_rfl⟩
instance : HasBody Try.prog 7 := ⟨fun _ _ => by kernel_rfl⟩
instance : HasBody Try.prog 8 := ⟨fun _ _ => by kernel_rfl⟩
instance : HasBody Try.prog 9 := ⟨fun _ _ => by kernel_rfl⟩
instance : HasBody Try.prog 10 := ⟨fun _ _ => by kernel_rfl⟩
instance : HasBody Try.prog 11 := ⟨fun _ _ => by kernel_rfl⟩
instance : HasBody Try.prog 12 := ⟨fun _ _ => by kernel_rfl⟩
instance : HasBody Try.prog 13 := ⟨fun _ _ => by kernel_rfl⟩
instance : HasBody Try.prog 14 := ⟨fun _ _ => by kernel_rfl⟩
instance : HasBody Try.prog 15 := ⟨fun _ _ => by kernel_rfl⟩
instance : HasBody Try.prog 16 := ⟨fun _ _ => by kernel_rfl⟩
instance : HasBody Try.prog 17 := ⟨fun _ _ => by kernel_rfl⟩
instance : HasBody Try.prog 18 := ⟨fun _ _ => by kernel_rfl⟩
instance : HasBody Try.prog 19 := ⟨fun _ _ => by kernel_rfl⟩
instance : HasBody Try.prog 20 := ⟨fun _ _ => by kernel_rfl⟩
instance : HasBody Try.prog 21 := ⟨fun _ _ => by kernel_rfl⟩
instance : HasBody Try.prog 22 := ⟨fun _ _ => by kernel_rfl⟩
instance : HasBody Try.prog 23 := ⟨fun _ _ => by kernel_rfl⟩
instance : HasBody Try.prog 24 := ⟨fun _ _ => by kernel_rfl⟩
instance : HasBody Try.prog 25 := ⟨fun _ _ => by kernel_rfl⟩
instance : HasBody Try.prog 26 := ⟨fun _ _ => by kernel_rfl⟩
instance : HasBody Try.prog 27 := ⟨fun _ _ => by kernel_rfl⟩
instance : HasBody Try.prog 28 := ⟨fun _ _ => by kernel_rfl⟩
instance : HasBody Try.prog 29 := ⟨fun _ _ => by kernel_rfl⟩
instance : HasBody Try.prog 30 := ⟨fun _ _ => by kernel_rfl⟩
instance : HasBody Try.prog 31 := ⟨fun _ _ => by kernel_rfl⟩
instance : HasBody Try.prog 32 := ⟨fun _ _ => by kernel_rfl⟩
instance : HasBody Try.prog 33 := ⟨fun _ _ => by kernel_rfl⟩
instance : HasBody Try.prog 34 := ⟨fun _ _ => by kernel_rfl⟩
instance : HasBody Try.prog 35 := ⟨fun _ _ => by kernel_rfl⟩
instance : HasBody Try.prog 36 := ⟨fun _ _ => by kernel_rfl⟩
instance : HasBody Try.prog 37 := ⟨fun _ _ => by kernel_rfl⟩
instance : HasBody Try.prog 38 := ⟨fun _ _ => by kernel_rfl⟩
instance : HasBody Try.prog 39 := ⟨fun _ _ => by kernel_rfl⟩
instance : HasBody Try.prog 40 := ⟨fun _ _ => by kernel_rfl⟩
instance : HasBody Try.prog 41 := ⟨fun _ _ => by kernel_rfl⟩
instance : HasBody Try.prog 42 := ⟨fun _ _ => by kernel_rfl⟩
instance : HasBody Try.prog 43 := ⟨fun _ _ => by kernel_rfl⟩
instance : HasBody Try.prog 44 := ⟨fun _ _ => by kernel_rfl⟩
instance : HasBody Try.prog 45 := ⟨fun _ _ => by kernel_rfl⟩
instance : HasBody Try.prog 46 := ⟨fun _ _ => by kernel_rfl⟩
instance : HasBody Try.prog 47 := ⟨fun _ _ => by kernel_rfl⟩
instance : HasBody Try.prog 48 := ⟨fun _ _ => by kernel_rfl⟩
instance : HasBody Try.prog 49 := ⟨fun _ _ => by kernel_rfl⟩
instance : HasBody Try.prog 50 := ⟨fun _ _ => by kernel_rfl⟩
instance : HasBody Try.prog 51 := ⟨fun _ _ => by kernel_rfl⟩
instance : HasBody Try.prog 52 := ⟨fun _ _ => by kernel_rfl⟩
instance : HasBody Try.prog 53 := ⟨fun _ _ => by kernel_rfl⟩
instance : HasBody Try.prog 54 := ⟨fun _ _ => by kernel_rfl⟩
instance : HasBody Try.prog 55 := ⟨fun _ _ => by kernel_rfl⟩
instance : HasBody Try.prog 56 := ⟨fun _ _ => by kernel_rfl⟩
instance : HasBody Try.prog 57 := ⟨fun _ _ => by kernel_rfl⟩
instance : HasBody Try.prog 58 := ⟨fun _ _ => by kernel_rfl⟩
instance : HasBody Try.prog 59 := ⟨fun _ _ => by kernel_rfl⟩
instance : HasBody Try.prog 60 := ⟨fun _ _ => by kernel_rfl⟩
instance : HasBody Try.prog 61 := ⟨fun _ _ => by kernel_rfl⟩
instance : HasBody Try.prog 62 := ⟨fun _ _ => by kernel_rfl⟩
instance : HasBody Try.prog 63 := ⟨fun _ _ => by kernel_rfl⟩
instance : HasBody Try.prog 64 := ⟨fun _ _ => by kernel_rfl⟩
instance : HasBody Try.prog 65 := ⟨fun _ _ => by kernel_rfl⟩
instance : HasBody Try.prog 66 := ⟨fun _ _ => by kernel_rfl⟩
instance : HasBody Try.prog 67 := ⟨fun _ _ => by kernel_rfl⟩
instance : HasBody Try.prog 68 := ⟨fun _ _ => by kernel_rfl⟩
instance : HasBody Try.prog 69 := ⟨fun _ _ => by kernel_rfl⟩
instance : HasBody Try.prog 70 := ⟨fun _ _ => by kernel_rfl⟩
instance : HasBody Try.prog 71 := ⟨fun _ _ => by kernel_rfl⟩
instance : HasBody Try.prog 72 := ⟨fun _ _ => by kernel_rfl⟩
instance : HasBody Try.prog 73 := ⟨fun _ _ => by kernel_rfl⟩
instance : HasBody Try.prog 74 := ⟨fun _ _ => by kernel_rfl⟩
instance : HasBody Try.prog 75 := ⟨fun _ _ => by kernel_rfl⟩
instance : HasBody Try.prog 76 := ⟨fun _ _ => by kernel_rfl⟩
instance : HasBody Try.prog 77 := ⟨fun _ _ => by kernel_rfl⟩
instance : HasBody Try.prog 78 := ⟨fun _ _ => by kernel_rfl⟩
instance : HasBody Try.prog 79 := ⟨fun _ _ => by kernel_rfl⟩
instance : HasBody Try.prog 80 := ⟨fun _ _ => by kernel_rfl⟩
instance : HasBody Try.prog 81 := ⟨fun _ _ => by kernel_rfl⟩
instance : HasBody Try.prog 82 := ⟨fun _ _ => by kernel_rfl⟩
instance : HasBody Try.prog 83 := ⟨fun _ _ => by kernel_rfl⟩
instance : HasBody Try.prog 84 := ⟨fun _ _ => by kernel_rfl⟩
instance : HasBody Try.prog 85 := ⟨fun _ _ => by kernel_rfl⟩
instance : HasBody Try.prog 86 := ⟨fun _ _ => by kernel_rfl⟩
instance : HasBody Try.prog 87 := ⟨fun _ _ => by kernel_rfl⟩
instance : HasBody Try.prog 88 := ⟨fun _ _ => by kernel_rfl⟩
instance : HasBody Try.prog 89 := ⟨fun _ _ => by kernel_rfl⟩
instance : HasBody Try.prog 90 := ⟨fun _ _ => by kernel_rfl⟩
instance : HasBody Try.prog 91 := ⟨fun _ _ => by kernel_rfl⟩
instance : HasBody Try.prog 92 := ⟨fun _ _ => by kernel_rfl⟩
instance : HasBody Try.prog 93 := ⟨fun _ _ => by kernel_rfl⟩
instance : HasBody Try.prog 94 := ⟨fun _ _ => by kernel_rfl⟩
instance : HasBody Try.prog 95 := ⟨fun _ _ => by kernel_rfl⟩
instance : HasBody Try.prog 96 := ⟨fun _ _ => by kernel_rfl⟩
instance : HasBody Try.prog 97 := ⟨fun _ _ => by kernel_rfl⟩
instance : HasBody Try.prog 98 := ⟨fun _ _ => by kernel_rfl⟩
instance : HasBody Try.prog 99 := ⟨fun _ _ => by kernel_rfl⟩
instance : HasBody Try.prog 100 := ⟨fun _ _ => by kernel_rfl⟩
instance : HasBody Try.prog 101 := ⟨fun _ _ => by kernel_rfl⟩
instance : HasBody Try.prog 102 := ⟨fun _ _ => by kernel_rfl⟩
instance : HasBody Try.prog 103 := ⟨fun _ _ => by kernel_rfl⟩
instance : HasBody Try.prog 104 := ⟨fun _ _ => by kernel_rfl⟩
instance : HasBody Try.prog 105 := ⟨fun _ _ => by kernel_rfl⟩
instance : HasBody Try.prog 106 := ⟨fun _ _ => by kernel_rfl⟩
instance : HasBody Try.prog 107 := ⟨fun _ _ => by kernel_rfl⟩
instance : HasBody Try.prog 108 := ⟨fun _ _ => by kernel_rfl⟩
instance : HasBody Try.prog 109 := ⟨fun _ _ => by kernel_rfl⟩
instance : HasBody Try.prog 110 := ⟨fun _ _ => by kernel_rfl⟩
instance : HasBody Try.prog 111 := ⟨fun _ _ => by kernel_rfl⟩
instance : HasBody Try.prog 112 := ⟨fun _ _ => by kernel_rfl⟩
instance : HasBody Try.prog 113 := ⟨fun _ _ => by kernel_rfl⟩
instance : HasBody Try.prog 114 := ⟨fun _ _ => by kernel_rfl⟩
instance : HasBody Try.prog 115 := ⟨fun _ _ => by kernel_rfl⟩
instance : HasBody Try.prog 116 := ⟨fun _ _ => by kernel_rfl⟩
instance : HasBody Try.prog 117 := ⟨fun _ _ => by kernel_rfl⟩
instance : HasBody Try.prog 118 := ⟨fun _ _ => by kernel_rfl⟩
instance : HasBody Try.prog 119 := ⟨fun _ _ => by kernel_rfl⟩
instance : HasBody Try.prog 120 := ⟨fun _ _ => by kernel_rfl⟩
instance : HasBody Try.prog 121 := ⟨fun _ _ => by kernel_rfl⟩
instance : HasBody Try.prog 122 := ⟨fun _ _ => by kernel_rfl⟩
end Go.Proofs.Ytdomclcokkijjaa
