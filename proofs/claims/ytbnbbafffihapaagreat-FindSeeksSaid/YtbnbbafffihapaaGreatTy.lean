/- What the reader asks of types and functions, closed facts of this program. -/
import Derived.Test.YtbnbbafffihapaaGreatV8
namespace Go.Proofs.YtbnbbafffihapaaGreat
open Go.RowKit
instance : Mixed Tryz.prog := ⟨by kernel_rfl⟩
instance : One Tryz.prog 1 := ⟨fun _ => by kernel_rfl, fun _ => by kernel_rfl⟩
instance : One Tryz.prog 2 := ⟨fun _ => by kernel_rfl, fun _ => by kernel_rfl⟩
instance : One Tryz.prog 3 := ⟨fun _ => by kernel_rfl, fun _ => by kernel_rfl⟩
instance : One Tryz.prog 4 := ⟨fun _ => by kernel_rfl, fun _ => by kernel_rfl⟩
instance : One Tryz.prog 5 := ⟨fun _ => by kernel_rfl, fun _ => by kernel_rfl⟩
instance : One Tryz.prog 6 := ⟨fun _ => by kernel_rfl, fun _ => by kernel_rfl⟩
instance : FOff Tryz.prog 7 0 0 := ⟨fun _ _ _ => by kernel_rfl⟩
instance : FOff Tryz.prog 7 1 1 := ⟨fun _ _ _ => by kernel_rfl⟩
instance : FOff Tryz.prog 7 2 2 := ⟨fun _ _ _ => by kernel_rfl⟩
instance : FOff Tryz.prog 7 3 3 := ⟨fun _ _ _ => by kernel_rfl⟩
instance : FOff Tryz.prog 8 0 0 := ⟨fun _ _ _ => by kernel_rfl⟩
instance : FOff Tryz.prog 8 1 1 := ⟨fun _ _ _ => by kernel_rfl⟩
instance : FOff Tryz.prog 8 2 2 := ⟨fun _ _ _ => by kernel_rfl⟩
instance : FOff Tryz.prog 8 3 3 := ⟨fun _ _ _ => by kernel_rfl⟩
instance : StrT Tryz.prog 9 := ⟨by kernel_rfl⟩
instance : One Tryz.prog 9 := ⟨fun _ => by kernel_rfl, fun _ => by kernel_rfl⟩
instance : StrT Tryz.prog 10 := ⟨by kernel_rfl⟩
instance : One Tryz.prog 10 := ⟨fun _ => by kernel_rfl, fun _ => by kernel_rfl⟩
instance : StrT Tryz.prog 11 := ⟨by kernel_rfl⟩
instance : One Tryz.prog 11 := ⟨fun _ => by kernel_rfl, fun _ => by kernel_rfl⟩
instance : One Tryz.prog 12 := ⟨fun _ => by kernel_rfl, fun _ => by kernel_rfl⟩
instance : FOff Tryz.prog 13 0 0 := ⟨fun _ _ _ => by kernel_rfl⟩
instance : FOff Tryz.prog 13 1 1 := ⟨fun _ _ _ => by kernel_rfl⟩
instance : FOff Tryz.prog 14 0 0 := ⟨fun _ _ _ => by kernel_rfl⟩
instance : FOff Tryz.prog 14 1 1 := ⟨fun _ _ _ => by kernel_rfl⟩
instance : PtrT Tryz.prog 15 := ⟨by kernel_rfl⟩
instance : One Tryz.prog 15 := ⟨fun _ => by kernel_rfl, fun _ => by kernel_rfl⟩
instance : PtrT Tryz.prog 16 := ⟨by kernel_rfl⟩
instance : One Tryz.prog 16 := ⟨fun _ => by kernel_rfl, fun _ => by kernel_rfl⟩
instance : PtrT Tryz.prog 17 := ⟨by kernel_rfl⟩
instance : One Tryz.prog 17 := ⟨fun _ => by kernel_rfl, fun _ => by kernel_rfl⟩
instance : FOff Tryz.prog 18 0 0 := ⟨fun _ _ _ => by kernel_rfl⟩
instance : FOff Tryz.prog 19 0 0 := ⟨fun _ _ _ => by kernel_rfl⟩
instance : One Tryz.prog 20 := ⟨fun _ => by kernel_rfl, fun _ => by kernel_rfl⟩
instance : One Tryz.prog 21 := ⟨fun _ => by kernel_rfl, fun _ => by kernel_rfl⟩
instance : SlT Tryz.prog 22 61 4 := ⟨by kernel_rfl, fun _ => by kernel_rfl⟩
instance : One Tryz.prog 22 := ⟨fun _ => by kernel_rfl, fun _ => by kernel_rfl⟩
instance : SlT Tryz.prog 23 3 1 := ⟨by kernel_rfl, fun _ => by kernel_rfl⟩
instance : One Tryz.prog 23 := ⟨fun _ => by kernel_rfl, fun _ => by kernel_rfl⟩
instance : One Tryz.prog 24 := ⟨fun _ => by kernel_rfl, fun _ => by kernel_rfl⟩
instance : PtrT Tryz.prog 25 := ⟨by kernel_rfl⟩
instance : One Tryz.prog 25 := ⟨fun _ => by kernel_rfl, fun _ => by kernel_rfl⟩
instance : SlT Tryz.prog 26 63 3 := ⟨by kernel_rfl, fun _ => by kernel_rfl⟩
instance : One Tryz.prog 26 := ⟨fun _ => by kernel_rfl, fun _ => by kernel_rfl⟩
instance : One Tryz.prog 28 := ⟨fun _ => by kernel_rfl, fun _ => by kernel_rfl⟩
instance : One Tryz.prog 29 := ⟨fun _ => by kernel_rfl, fun _ => by kernel_rfl⟩
instance : One Tryz.prog 30 := ⟨fun _ => by kernel_rfl, fun _ => by kernel_rfl⟩
instance : SlT Tryz.prog 31 23 1 := ⟨by kernel_rfl, fun _ => by kernel_rfl⟩
instance : One Tryz.prog 31 := ⟨fun _ => by kernel_rfl, fun _ => by kernel_rfl⟩
instance : One Tryz.prog 32 := ⟨fun _ => by kernel_rfl, fun _ => by kernel_rfl⟩
instance : PtrT Tryz.prog 33 := ⟨by kernel_rfl⟩
instance : One Tryz.prog 33 := ⟨fun _ => by kernel_rfl, fun _ => by kernel_rfl⟩
instance : One Tryz.prog 34 := ⟨fun _ => by kernel_rfl, fun _ => by kernel_rfl⟩
instance : One Tryz.prog 36 := ⟨fun _ => by kernel_rfl, fun _ => by kernel_rfl⟩
instance : One Tryz.prog 37 := ⟨fun _ => by kernel_rfl, fun _ => by kernel_rfl⟩
instance : PtrT Tryz.prog 39 := ⟨by kernel_rfl⟩
instance : One Tryz.prog 39 := ⟨fun _ => by kernel_rfl, fun _ => by kernel_rfl⟩
instance : One Tryz.prog 40 := ⟨fun _ => by kernel_rfl, fun _ => by kernel_rfl⟩
instance : One Tryz.prog 41 := ⟨fun _ => by kernel_rfl, fun _ => by kernel_rfl⟩
instance : FOff Tryz.prog 42 0 0 := ⟨fun _ _ _ => by kernel_rfl⟩
instance : FOff Tryz.prog 42 1 1 := ⟨fun _ _ _ => by kernel_rfl⟩
instance : FOff Tryz.prog 42 2 2 := ⟨fun _ _ _ => by kernel_rfl⟩
instance : FOff Tryz.prog 42 3 3 := ⟨fun _ _ _ => by kernel_rfl⟩
instance : FOff Tryz.prog 42 4 4 := ⟨fun _ _ _ => by kernel_rfl⟩
instance : FOff Tryz.prog 42 5 5 := ⟨fun _ _ _ => by kernel_rfl⟩
instance : FOff Tryz.prog 42 6 6 := ⟨fun _ _ _ => by kernel_rfl⟩
instance : FOff Tryz.prog 43 0 0 := ⟨fun _ _ _ => by kernel_rfl⟩
instance : FOff Tryz.prog 43 1 1 := ⟨fun _ _ _ => by kernel_rfl⟩
instance : FOff Tryz.prog 43 2 2 := ⟨fun _ _ _ => by kernel_rfl⟩
instance : FOff Tryz.prog 43 3 3 := ⟨fun _ _ _ => by kernel_rfl⟩
instance : FOff Tryz.prog 43 4 4 := ⟨fun _ _ _ => by kernel_rfl⟩
instance : FOff Tryz.prog 43 5 5 := ⟨fun _ _ _ => by kernel_rfl⟩
instance : FOff Tryz.prog 43 6 6 := ⟨fun _ _ _ => by kernel_rfl⟩
instance : FOff Tryz.prog 44 0 0 := ⟨fun _ _ _ => by kernel_rfl⟩
instance : FOff Tryz.prog 44 1 7 := ⟨fun _ _ _ => by kernel_rfl⟩
instance : FOff Tryz.prog 44 2 8 := ⟨fun _ _ _ => by kernel_rfl⟩
instance : FOff Tryz.prog 44 3 9 := ⟨fun _ _ _ => by kernel_rfl⟩
instance : FOff Tryz.prog 44 4 10 := ⟨fun _ _ _ => by kernel_rfl⟩
instance : FOff Tryz.prog 44 5 11 := ⟨fun _ _ _ => by kernel_rfl⟩
instance : FOff Tryz.prog 44 6 12 := ⟨fun _ _ _ => by kernel_rfl⟩
instance : FOff Tryz.prog 44 7 13 := ⟨fun _ _ _ => by kernel_rfl⟩
instance : FOff Tryz.prog 44 8 14 := ⟨fun _ _ _ => by kernel_rfl⟩
instance : FOff Tryz.prog 45 0 0 := ⟨fun _ _ _ => by kernel_rfl⟩
instance : FOff Tryz.prog 45 1 7 := ⟨fun _ _ _ => by kernel_rfl⟩
instance : FOff Tryz.prog 45 2 8 := ⟨fun _ _ _ => by kernel_rfl⟩
instance : FOff Tryz.prog 45 3 9 := ⟨fun _ _ _ => by kernel_rfl⟩
instance : FOff Tryz.prog 45 4 10 := ⟨fun _ _ _ => by kernel_rfl⟩
instance : FOff Tryz.prog 45 5 11 := ⟨fun _ _ _ => by kernel_rfl⟩
instance : FOff Tryz.prog 45 6 12 := ⟨fun _ _ _ => by kernel_rfl⟩
instance : FOff Tryz.prog 45 7 13 := ⟨fun _ _ _ => by kernel_rfl⟩
instance : FOff Tryz.prog 45 8 14 := ⟨fun _ _ _ => by kernel_rfl⟩
instance : One Tryz.prog 46 := ⟨fun _ => by kernel_rfl, fun _ => by kernel_rfl⟩
instance : One Tryz.prog 47 := ⟨fun _ => by kernel_rfl, fun _ => by kernel_rfl⟩
instance : One Tryz.prog 48 := ⟨fun _ => by kernel_rfl, fun _ => by kernel_rfl⟩
instance : SlT Tryz.prog 49 101 12 := ⟨by kernel_rfl, fun _ => by kernel_rfl⟩
instance : One Tryz.prog 49 := ⟨fun _ => by kernel_rfl, fun _ => by kernel_rfl⟩
instance : SlT Tryz.prog 51 24 1 := ⟨by kernel_rfl, fun _ => by kernel_rfl⟩
instance : One Tryz.prog 51 := ⟨fun _ => by kernel_rfl, fun _ => by kernel_rfl⟩
instance : FOff Tryz.prog 52 0 0 := ⟨fun _ _ _ => by kernel_rfl⟩
instance : FOff Tryz.prog 53 0 0 := ⟨fun _ _ _ => by kernel_rfl⟩
instance : FOff Tryz.prog 54 0 0 := ⟨fun _ _ _ => by kernel_rfl⟩
instance : FOff Tryz.prog 54 1 1 := ⟨fun _ _ _ => by kernel_rfl⟩
instance : FOff Tryz.prog 54 2 2 := ⟨fun _ _ _ => by kernel_rfl⟩
instance : FOff Tryz.prog 54 3 5 := ⟨fun _ _ _ => by kernel_rfl⟩
instance : FOff Tryz.prog 54 4 6 := ⟨fun _ _ _ => by kernel_rfl⟩
instance : FOff Tryz.prog 54 5 7 := ⟨fun _ _ _ => by kernel_rfl⟩
instance : FOff Tryz.prog 54 6 8 := ⟨fun _ _ _ => by kernel_rfl⟩
instance : FOff Tryz.prog 54 7 9 := ⟨fun _ _ _ => by kernel_rfl⟩
instance : FOff Tryz.prog 55 0 0 := ⟨fun _ _ _ => by kernel_rfl⟩
instance : FOff Tryz.prog 55 1 1 := ⟨fun _ _ _ => by kernel_rfl⟩
instance : FOff Tryz.prog 55 2 2 := ⟨fun _ _ _ => by kernel_rfl⟩
instance : FOff Tryz.prog 55 3 5 := ⟨fun _ _ _ => by kernel_rfl⟩
instance : FOff Tryz.prog 55 4 6 := ⟨fun _ _ _ => by kernel_rfl⟩
instance : FOff Tryz.prog 55 5 7 := ⟨fun _ _ _ => by kernel_rfl⟩
instance : FOff Tryz.prog 55 6 8 := ⟨fun _ _ _ => by kernel_rfl⟩
instance : FOff Tryz.prog 55 7 9 := ⟨fun _ _ _ => by kernel_rfl⟩
instance : One Tryz.prog 56 := ⟨fun _ => by kernel_rfl, fun _ => by kernel_rfl⟩
instance : One Tryz.prog 57 := ⟨fun _ => by kernel_rfl, fun _ => by kernel_rfl⟩
instance : One Tryz.prog 58 := ⟨fun _ => by kernel_rfl, fun _ => by kernel_rfl⟩
instance : One Tryz.prog 59 := ⟨fun _ => by kernel_rfl, fun _ => by kernel_rfl⟩
instance : FOff Tryz.prog 60 0 0 := ⟨fun _ _ _ => by kernel_rfl⟩
instance : FOff Tryz.prog 60 1 1 := ⟨fun _ _ _ => by kernel_rfl⟩
instance : FOff Tryz.prog 60 2 2 := ⟨fun _ _ _ => by kernel_rfl⟩
instance : FOff Tryz.prog 60 3 3 := ⟨fun _ _ _ => by kernel_rfl⟩
instance : FOff Tryz.prog 61 0 0 := ⟨fun _ _ _ => by kernel_rfl⟩
instance : FOff Tryz.prog 61 1 1 := ⟨fun _ _ _ => by kernel_rfl⟩
instance : FOff Tryz.prog 61 2 2 := ⟨fun _ _ _ => by kernel_rfl⟩
instance : FOff Tryz.prog 61 3 3 := ⟨fun _ _ _ => by kernel_rfl⟩
instance : FOff Tryz.prog 62 0 0 := ⟨fun _ _ _ => by kernel_rfl⟩
instance : FOff Tryz.prog 62 1 1 := ⟨fun _ _ _ => by kernel_rfl⟩
instance : FOff Tryz.prog 62 2 2 := ⟨fun _ _ _ => by kernel_rfl⟩
instance : FOff Tryz.prog 63 0 0 := ⟨fun _ _ _ => by kernel_rfl⟩
instance : FOff Tryz.prog 63 1 1 := ⟨fun _ _ _ => by kernel_rfl⟩
instance : FOff Tryz.prog 63 2 2 := ⟨fun _ _ _ => by kernel_rfl⟩
instance : One Tryz.prog 64 := ⟨fun _ => by kernel_rfl, fun _ => by kernel_rfl⟩
instance : One Tryz.prog 65 := ⟨fun _ => by kernel_rfl, fun _ => by kernel_rfl⟩
instance : One Tryz.prog 66 := ⟨fun _ => by kernel_rfl, fun _ => by kernel_rfl⟩
instance : One Tryz.prog 67 := ⟨fun _ => by kernel_rfl, fun _ => by kernel_rfl⟩
instance : One Tryz.prog 68 := ⟨fun _ => by kernel_rfl, fun _ => by kernel_rfl⟩
instance : One Tryz.prog 69 := ⟨fun _ => by kernel_rfl, fun _ => by kernel_rfl⟩
instance : PtrT Tryz.prog 70 := ⟨by kernel_rfl⟩
instance : One Tryz.prog 70 := ⟨fun _ => by kernel_rfl, fun _ => by kernel_rfl⟩
instance : PtrT Tryz.prog 71 := ⟨by kernel_rfl⟩
instance : One Tryz.prog 71 := ⟨fun _ => by kernel_rfl, fun _ => by kernel_rfl⟩
instance : SlT Tryz.prog 72 33 1 := ⟨by kernel_rfl, fun _ => by kernel_rfl⟩
instance : One Tryz.prog 72 := ⟨fun _ => by kernel_rfl, fun _ => by kernel_rfl⟩
instance : FOff Tryz.prog 73 0 0 := ⟨fun _ _ _ => by kernel_rfl⟩
instance : FOff Tryz.prog 73 1 15 := ⟨fun _ _ _ => by kernel_rfl⟩
instance : FOff Tryz.prog 73 2 16 := ⟨fun _ _ _ => by kernel_rfl⟩
instance : FOff Tryz.prog 73 3 17 := ⟨fun _ _ _ => by kernel_rfl⟩
instance : FOff Tryz.prog 73 4 18 := ⟨fun _ _ _ => by kernel_rfl⟩
instance : FOff Tryz.prog 73 5 19 := ⟨fun _ _ _ => by kernel_rfl⟩
instance : FOff Tryz.prog 73 6 20 := ⟨fun _ _ _ => by kernel_rfl⟩
instance : FOff Tryz.prog 74 0 0 := ⟨fun _ _ _ => by kernel_rfl⟩
instance : FOff Tryz.prog 74 1 15 := ⟨fun _ _ _ => by kernel_rfl⟩
instance : FOff Tryz.prog 74 2 16 := ⟨fun _ _ _ => by kernel_rfl⟩
instance : FOff Tryz.prog 74 3 17 := ⟨fun _ _ _ => by kernel_rfl⟩
instance : FOff Tryz.prog 74 4 18 := ⟨fun _ _ _ => by kernel_rfl⟩
instance : FOff Tryz.prog 74 5 19 := ⟨fun _ _ _ => by kernel_rfl⟩
instance : FOff Tryz.prog 74 6 20 := ⟨fun _ _ _ => by kernel_rfl⟩
instance : One Tryz.prog 75 := ⟨fun _ => by kernel_rfl, fun _ => by kernel_rfl⟩
instance : One Tryz.prog 76 := ⟨fun _ => by kernel_rfl, fun _ => by kernel_rfl⟩
instance : FOff Tryz.prog 77 0 0 := ⟨fun _ _ _ => by kernel_rfl⟩
instance : FOff Tryz.prog 77 1 1 := ⟨fun _ _ _ => by kernel_rfl⟩
instance : FOff Tryz.prog 77 2 2 := ⟨fun _ _ _ => by kernel_rfl⟩
instance : FOff Tryz.prog 77 3 3 := ⟨fun _ _ _ => by kernel_rfl⟩
instance : FOff Tryz.prog 78 0 0 := ⟨fun _ _ _ => by kernel_rfl⟩
instance : FOff Tryz.prog 78 1 1 := ⟨fun _ _ _ => by kernel_rfl⟩
instance : FOff Tryz.prog 78 2 2 := ⟨fun _ _ _ => by kernel_rfl⟩
instance : FOff Tryz.prog 78 3 3 := ⟨fun _ _ _ => by kernel_rfl⟩
instance : SlT Tryz.prog 79 78 4 := ⟨by kernel_rfl, fun _ => by kernel_rfl⟩
instance : One Tryz.prog 79 := ⟨fun _ => by kernel_rfl, fun _ => by kernel_rfl⟩
instance : FOff Tryz.prog 80 0 0 := ⟨fun _ _ _ => by kernel_rfl⟩
instance : FOff Tryz.prog 80 1 1 := ⟨fun _ _ _ => by kernel_rfl⟩
instance : FOff Tryz.prog 80 2 2 := ⟨fun _ _ _ => by kernel_rfl⟩
instance : FOff Tryz.prog 80 3 3 := ⟨fun _ _ _ => by kernel_rfl⟩
instance : FOff Tryz.prog 81 0 0 := ⟨fun _ _ _ => by kernel_rfl⟩
instance : FOff Tryz.prog 81 1 1 := ⟨fun _ _ _ => by kernel_rfl⟩
instance : FOff Tryz.prog 81 2 2 := ⟨fun _ _ _ => by kernel_rfl⟩
instance : FOff Tryz.prog 81 3 3 := ⟨fun _ _ _ => by kernel_rfl⟩
instance : One Tryz.prog 82 := ⟨fun _ => by kernel_rfl, fun _ => by kernel_rfl⟩
instance : FOff Tryz.prog 83 0 0 := ⟨fun _ _ _ => by kernel_rfl⟩
instance : FOff Tryz.prog 83 1 1 := ⟨fun _ _ _ => by kernel_rfl⟩
instance : FOff Tryz.prog 83 2 2 := ⟨fun _ _ _ => by kernel_rfl⟩
instance : FOff Tryz.prog 84 0 0 := ⟨fun _ _ _ => by kernel_rfl⟩
instance : FOff Tryz.prog 84 1 1 := ⟨fun _ _ _ => by kernel_rfl⟩
instance : FOff Tryz.prog 84 2 2 := ⟨fun _ _ _ => by kernel_rfl⟩
instance : FOff Tryz.prog 85 0 0 := ⟨fun _ _ _ => by kernel_rfl⟩
instance : FOff Tryz.prog 85 1 15 := ⟨fun _ _ _ => by kernel_rfl⟩
instance : FOff Tryz.prog 86 0 0 := ⟨fun _ _ _ => by kernel_rfl⟩
instance : FOff Tryz.prog 86 1 15 := ⟨fun _ _ _ => by kernel_rfl⟩
instance : One Tryz.prog 88 := ⟨fun _ => by kernel_rfl, fun _ => by kernel_rfl⟩
instance : One Tryz.prog 89 := ⟨fun _ => by kernel_rfl, fun _ => by kernel_rfl⟩
instance : SlT Tryz.prog 90 93 2 := ⟨by kernel_rfl, fun _ => by kernel_rfl⟩
instance : One Tryz.prog 90 := ⟨fun _ => by kernel_rfl, fun _ => by kernel_rfl⟩
instance : One Tryz.prog 91 := ⟨fun _ => by kernel_rfl, fun _ => by kernel_rfl⟩
instance : FOff Tryz.prog 92 0 0 := ⟨fun _ _ _ => by kernel_rfl⟩
instance : FOff Tryz.prog 92 1 1 := ⟨fun _ _ _ => by kernel_rfl⟩
instance : FOff Tryz.prog 93 0 0 := ⟨fun _ _ _ => by kernel_rfl⟩
instance : FOff Tryz.prog 93 1 1 := ⟨fun _ _ _ => by kernel_rfl⟩
instance : One Tryz.prog 95 := ⟨fun _ => by kernel_rfl, fun _ => by kernel_rfl⟩
instance : One Tryz.prog 96 := ⟨fun _ => by kernel_rfl, fun _ => by kernel_rfl⟩
instance : One Tryz.prog 97 := ⟨fun _ => by kernel_rfl, fun _ => by kernel_rfl⟩
instance : One Tryz.prog 98 := ⟨fun _ => by kernel_rfl, fun _ => by kernel_rfl⟩
instance : FOff Tryz.prog 100 0 0 := ⟨fun _ _ _ => by kernel_rfl⟩
instance : FOff Tryz.prog 100 1 1 := ⟨fun _ _ _ => by kernel_rfl⟩
instance : FOff Tryz.prog 100 2 2 := ⟨fun _ _ _ => by kernel_rfl⟩
instance : FOff Tryz.prog 101 0 0 := ⟨fun _ _ _ => by kernel_rfl⟩
instance : FOff Tryz.prog 101 1 1 := ⟨fun _ _ _ => by kernel_rfl⟩
instance : FOff Tryz.prog 101 2 2 := ⟨fun _ _ _ => by kernel_rfl⟩
instance : One Tryz.prog 102 := ⟨fun _ => by kernel_rfl, fun _ => by kernel_rfl⟩
instance : PtrT Tryz.prog 103 := ⟨by kernel_rfl⟩
instance : One Tryz.prog 103 := ⟨fun _ => by kernel_rfl, fun _ => by kernel_rfl⟩
instance : One Tryz.prog 104 := ⟨fun _ => by kernel_rfl, fun _ => by kernel_rfl⟩
instance : FOff Tryz.prog 105 0 0 := ⟨fun _ _ _ => by kernel_rfl⟩
instance : FOff Tryz.prog 105 1 1 := ⟨fun _ _ _ => by kernel_rfl⟩
instance : FOff Tryz.prog 105 2 2 := ⟨fun _ _ _ => by kernel_rfl⟩
instance : FOff Tryz.prog 106 0 0 := ⟨fun _ _ _ => by kernel_rfl⟩
instance : FOff Tryz.prog 106 1 1 := ⟨fun _ _ _ => by kernel_rfl⟩
instance : FOff Tryz.prog 106 2 2 := ⟨fun _ _ _ => by kernel_rfl⟩
instance : FOff Tryz.prog 107 0 0 := ⟨fun _ _ _ => by kernel_rfl⟩
instance : FOff Tryz.prog 108 0 0 := ⟨fun _ _ _ => by kernel_rfl⟩
instance : FOff Tryz.prog 109 0 0 := ⟨fun _ _ _ => by kernel_rfl⟩
instance : FOff Tryz.prog 109 1 1 := ⟨fun _ _ _ => by kernel_rfl⟩
instance : FOff Tryz.prog 110 0 0 := ⟨fun _ _ _ => by kernel_rfl⟩
instance : FOff Tryz.prog 110 1 1 := ⟨fun _ _ _ => by kernel_rfl⟩
instance : One Tryz.prog 111 := ⟨fun _ => by kernel_rfl, fun _ => by kernel_rfl⟩
instance : SlT Tryz.prog 112 84 3 := ⟨by kernel_rfl, fun _ => by kernel_rfl⟩
instance : One Tryz.prog 112 := ⟨fun _ => by kernel_rfl, fun _ => by kernel_rfl⟩
instance : One Tryz.prog 113 := ⟨fun _ => by kernel_rfl, fun _ => by kernel_rfl⟩
instance : One Tryz.prog 114 := ⟨fun _ => by kernel_rfl, fun _ => by kernel_rfl⟩
instance : One Tryz.prog 115 := ⟨fun _ => by kernel_rfl, fun _ => by kernel_rfl⟩
instance : One Tryz.prog 116 := ⟨fun _ => by kernel_rfl, fun _ => by kernel_rfl⟩
instance : SlT Tryz.prog 117 5 1 := ⟨by kernel_rfl, fun _ => by kernel_rfl⟩
instance : One Tryz.prog 117 := ⟨fun _ => by kernel_rfl, fun _ => by kernel_rfl⟩
instance : One Tryz.prog 119 := ⟨fun _ => by kernel_rfl, fun _ => by kernel_rfl⟩
instance : One Tryz.prog 121 := ⟨fun _ => by kernel_rfl, fun _ => by kernel_rfl⟩
instance : One Tryz.prog 122 := ⟨fun _ => by kernel_rfl, fun _ => by kernel_rfl⟩
instance : One Tryz.prog 123 := ⟨fun _ => by kernel_rfl, fun _ => by kernel_rfl⟩
instance : One Tryz.prog 124 := ⟨fun _ => by kernel_rfl, fun _ => by kernel_rfl⟩
instance : One Tryz.prog 126 := ⟨fun _ => by kernel_rfl, fun _ => by kernel_rfl⟩
instance : One Tryz.prog 127 := ⟨fun _ => by kernel_rfl, fun _ => by kernel_rfl⟩
instance : One Tryz.prog 128 := ⟨fun _ => by kernel_rfl, fun _ => by kernel_rfl⟩
instance : One Tryz.prog 129 := ⟨fun _ => by kernel_rfl, fun _ => by kernel_rfl⟩
instance : One Tryz.prog 130 := ⟨fun _ => by kernel_rfl, fun _ => by kernel_rfl⟩
instance : FOff Tryz.prog 131 0 0 := ⟨fun _ _ _ => by kernel_rfl⟩
instance : FOff Tryz.prog 131 1 1 := ⟨fun _ _ _ => by kernel_rfl⟩
instance : FOff Tryz.prog 132 0 0 := ⟨fun _ _ _ => by kernel_rfl⟩
instance : FOff Tryz.prog 132 1 1 := ⟨fun _ _ _ => by kernel_rfl⟩
instance : One Tryz.prog 133 := ⟨fun _ => by kernel_rfl, fun _ => by kernel_rfl⟩
instance : One Tryz.prog 134 := ⟨fun _ => by kernel_rfl, fun _ => by kernel_rfl⟩
instance : One Tryz.prog 135 := ⟨fun _ => by kernel_rfl, fun _ => by kernel_rfl⟩
instance : FOff Tryz.prog 136 0 0 := ⟨fun _ _ _ => by kernel_rfl⟩
instance : FOff Tryz.prog 136 1 1 := ⟨fun _ _ _ => by kernel_rfl⟩
instance : FOff Tryz.prog 137 0 0 := ⟨fun _ _ _ => by kernel_rfl⟩
instance : FOff Tryz.prog 137 1 1 := ⟨fun _ _ _ => by kernel_rfl⟩
instance : One Tryz.prog 138 := ⟨fun _ => by kernel_rfl, fun _ => by kernel_rfl⟩
instance : One Tryz.prog 139 := ⟨fun _ => by kernel_rfl, fun _ => by kernel_rfl⟩
instance : One Tryz.prog 140 := ⟨fun _ => by kernel_rfl, fun _ => by kernel_rfl⟩
instance : One Tryz.prog 141 := ⟨fun _ => by kernel_rfl, fun _ => by kernel_rfl⟩
instance : One Tryz.prog 142 := ⟨fun _ => by kernel_rfl, fun _ => by kernel_rfl⟩
instance : One Tryz.prog 143 := ⟨fun _ => by kernel_rfl, fun _ => by kernel_rfl⟩
instance : One Tryz.prog 144 := ⟨fun _ => by kernel_rfl, fun _ => by kernel_rfl⟩
instance : One Tryz.prog 145 := ⟨fun _ => by kernel_rfl, fun _ => by kernel_rfl⟩
instance : One Tryz.prog 146 := ⟨fun _ => by kernel_rfl, fun _ => by kernel_rfl⟩
instance : One Tryz.prog 147 := ⟨fun _ => by kernel_rfl, fun _ => by kernel_rfl⟩
instance : One Tryz.prog 149 := ⟨fun _ => by kernel_rfl, fun _ => by kernel_rfl⟩
instance : One Tryz.prog 150 := ⟨fun _ => by kernel_rfl, fun _ => by kernel_rfl⟩
instance : One Tryz.prog 151 := ⟨fun _ => by kernel_rfl, fun _ => by kernel_rfl⟩
instance : One Tryz.prog 153 := ⟨fun _ => by kernel_rfl, fun _ => by kernel_rfl⟩
instance : PtrT Tryz.prog 154 := ⟨by kernel_rfl⟩
instance : One Tryz.prog 154 := ⟨fun _ => by kernel_rfl, fun _ => by kernel_rfl⟩
instance : One Tryz.prog 155 := ⟨fun _ => by kernel_rfl, fun _ => by kernel_rfl⟩
instance : One Tryz.prog 156 := ⟨fun _ => by kernel_rfl, fun _ => by kernel_rfl⟩
instance : One Tryz.prog 157 := ⟨fun _ => by kernel_rfl, fun _ => by kernel_rfl⟩
instance : One Tryz.prog 158 := ⟨fun _ => by kernel_rfl, fun _ => by kernel_rfl⟩
instance : One Tryz.prog 159 := ⟨fun _ => by kernel_rfl, fun _ => by kernel_rfl⟩
instance : One Tryz.prog 160 := ⟨fun _ => by kernel_rfl, fun _ => by kernel_rfl⟩
instance : One Tryz.prog 161 := ⟨fun _ => by kernel_rfl, fun _ => by kernel_rfl⟩
instance : One Tryz.prog 162 := ⟨fun _ => by kernel_rfl, fun _ => by kernel_rfl⟩
instance : One Tryz.prog 163 := ⟨fun _ => by kernel_rfl, fun _ => by kernel_rfl⟩
instance : One Tryz.prog 164 := ⟨fun _ => by kernel_rfl, fun _ => by kernel_rfl⟩
instance : FOff Tryz.prog 165 0 0 := ⟨fun _ _ _ => by kernel_rfl⟩
instance : FOff Tryz.prog 165 1 1 := ⟨fun _ _ _ => by kernel_rfl⟩
instance : FOff Tryz.prog 165 2 2 := ⟨fun _ _ _ => by kernel_rfl⟩
instance : FOff Tryz.prog 165 3 3 := ⟨fun _ _ _ => by kernel_rfl⟩
instance : FOff Tryz.prog 166 0 0 := ⟨fun _ _ _ => by kernel_rfl⟩
instance : FOff Tryz.prog 166 1 1 := ⟨fun _ _ _ => by kernel_rfl⟩
instance : FOff Tryz.prog 166 2 2 := ⟨fun _ _ _ => by kernel_rfl⟩
instance : FOff Tryz.prog 166 3 3 := ⟨fun _ _ _ => by kernel_rfl⟩
instance : One Tryz.prog 170 := ⟨fun _ => by kernel_rfl, fun _ => by kernel_rfl⟩
instance : One Tryz.prog 171 := ⟨fun _ => by kernel_rfl, fun _ => by kernel_rfl⟩
instance : One Tryz.prog 172 := ⟨fun _ => by kernel_rfl, fun _ => by kernel_rfl⟩
instance : PtrT Tryz.prog 173 := ⟨by kernel_rfl⟩
instance : One Tryz.prog 173 := ⟨fun _ => by kernel_rfl, fun _ => by kernel_rfl⟩
instance : One Tryz.prog 174 := ⟨fun _ => by kernel_rfl, fun _ => by kernel_rfl⟩
instance : One Tryz.prog 175 := ⟨fun _ => by kernel_rfl, fun _ => by kernel_rfl⟩
instance : FOff Tryz.prog 176 0 0 := ⟨fun _ _ _ => by kernel_rfl⟩
instance : FOff Tryz.prog 176 1 1 := ⟨fun _ _ _ => by kernel_rfl⟩
instance : FOff Tryz.prog 176 2 2 := ⟨fun _ _ _ => by kernel_rfl⟩
instance : FOff Tryz.prog 176 3 3 := ⟨fun _ _ _ => by kernel_rfl⟩
instance : FOff Tryz.prog 176 4 4 := ⟨fun _ _ _ => by kernel_rfl⟩
instance : FOff Tryz.prog 176 5 5 := ⟨fun _ _ _ => by kernel_rfl⟩
instance : FOff Tryz.prog 176 6 6 := ⟨fun _ _ _ => by kernel_rfl⟩
instance : FOff Tryz.prog 176 7 7 := ⟨fun _ _ _ => by kernel_rfl⟩
instance : FOff Tryz.prog 176 8 8 := ⟨fun _ _ _ => by kernel_rfl⟩
instance : FOff Tryz.prog 176 9 9 := ⟨fun _ _ _ => by kernel_rfl⟩
instance : FOff Tryz.prog 176 10 10 := ⟨fun _ _ _ => by kernel_rfl⟩
instance : FOff Tryz.prog 177 0 0 := ⟨fun _ _ _ => by kernel_rfl⟩
instance : FOff Tryz.prog 177 1 1 := ⟨fun _ _ _ => by kernel_rfl⟩
instance : FOff Tryz.prog 177 2 2 := ⟨fun _ _ _ => by kernel_rfl⟩
instance : FOff Tryz.prog 177 3 3 := ⟨fun _ _ _ => by kernel_rfl⟩
instance : FOff Tryz.prog 177 4 4 := ⟨fun _ _ _ => by kernel_rfl⟩
instance : FOff Tryz.prog 177 5 5 := ⟨fun _ _ _ => by kernel_rfl⟩
instance : FOff Tryz.prog 177 6 6 := ⟨fun _ _ _ => by kernel_rfl⟩
instance : FOff Tryz.prog 177 7 7 := ⟨fun _ _ _ => by kernel_rfl⟩
instance : FOff Tryz.prog 177 8 8 := ⟨fun _ _ _ => by kernel_rfl⟩
instance : FOff Tryz.prog 177 9 9 := ⟨fun _ _ _ => by kernel_rfl⟩
instance : FOff Tryz.prog 177 10 10 := ⟨fun _ _ _ => by kernel_rfl⟩
instance : ElemT Tryz.prog 2 1 8 := ⟨Tryz.t2, _, by kernel_rfl, rfl, rfl, rfl, rfl, by decide⟩
instance : ElemT Tryz.prog 3 1 8 := ⟨Tryz.t3, _, by kernel_rfl, rfl, rfl, rfl, rfl, by decide⟩
instance : ElemT Tryz.prog 4 1 1 := ⟨Tryz.t4, _, by kernel_rfl, rfl, rfl, rfl, rfl, by decide⟩
instance : ElemT Tryz.prog 5 1 1 := ⟨Tryz.t5, _, by kernel_rfl, rfl, rfl, rfl, rfl, by decide⟩
instance : ElemT Tryz.prog 6 1 1 := ⟨Tryz.t6, _, by kernel_rfl, rfl, rfl, rfl, rfl, by decide⟩
instance : ElemT Tryz.prog 7 4 24 := ⟨Tryz.t7, _, by kernel_rfl, rfl, rfl, rfl, rfl, by decide⟩
instance : ElemT Tryz.prog 8 4 24 := ⟨Tryz.t8, _, by kernel_rfl, rfl, rfl, rfl, rfl, by decide⟩
instance : ElemT Tryz.prog 9 1 16 := ⟨Tryz.t9, _, by kernel_rfl, rfl, rfl, rfl, rfl, by decide⟩
instance : ElemT Tryz.prog 10 1 16 := ⟨Tryz.t10, _, by kernel_rfl, rfl, rfl, rfl, rfl, by decide⟩
instance : ElemT Tryz.prog 11 1 16 := ⟨Tryz.t11, _, by kernel_rfl, rfl, rfl, rfl, rfl, by decide⟩
instance : ElemT Tryz.prog 12 1 8 := ⟨Tryz.t12, _, by kernel_rfl, rfl, rfl, rfl, rfl, by decide⟩
instance : ElemT Tryz.prog 13 2 24 := ⟨Tryz.t13, _, by kernel_rfl, rfl, rfl, rfl, rfl, by decide⟩
instance : ElemT Tryz.prog 14 2 24 := ⟨Tryz.t14, _, by kernel_rfl, rfl, rfl, rfl, rfl, by decide⟩
instance : ElemT Tryz.prog 15 1 8 := ⟨Tryz.t15, _, by kernel_rfl, rfl, rfl, rfl, rfl, by decide⟩
instance : ElemT Tryz.prog 16 1 8 := ⟨Tryz.t16, _, by kernel_rfl, rfl, rfl, rfl, rfl, by decide⟩
instance : ElemT Tryz.prog 17 1 8 := ⟨Tryz.t17, _, by kernel_rfl, rfl, rfl, rfl, rfl, by decide⟩
instance : ElemT Tryz.prog 18 1 8 := ⟨Tryz.t18, _, by kernel_rfl, rfl, rfl, rfl, rfl, by decide⟩
instance : ElemT Tryz.prog 19 1 8 := ⟨Tryz.t19, _, by kernel_rfl, rfl, rfl, rfl, rfl, by decide⟩
instance : ElemT Tryz.prog 21 1 4 := ⟨Tryz.t21, _, by kernel_rfl, rfl, rfl, rfl, rfl, by decide⟩
instance : ElemT Tryz.prog 22 1 24 := ⟨Tryz.t22, _, by kernel_rfl, rfl, rfl, rfl, rfl, by decide⟩
instance : ElemT Tryz.prog 23 1 24 := ⟨Tryz.t23, _, by kernel_rfl, rfl, rfl, rfl, rfl, by decide⟩
instance : ElemT Tryz.prog 24 1 8 := ⟨Tryz.t24, _, by kernel_rfl, rfl, rfl, rfl, rfl, by decide⟩
instance : ElemT Tryz.prog 25 1 8 := ⟨Tryz.t25, _, by kernel_rfl, rfl, rfl, rfl, rfl, by decide⟩
instance : ElemT Tryz.prog 26 1 24 := ⟨Tryz.t26, _, by kernel_rfl, rfl, rfl, rfl, rfl, by decide⟩
instance : ElemT Tryz.prog 31 1 24 := ⟨Tryz.t31, _, by kernel_rfl, rfl, rfl, rfl, rfl, by decide⟩
instance : ElemT Tryz.prog 33 1 8 := ⟨Tryz.t33, _, by kernel_rfl, rfl, rfl, rfl, rfl, by decide⟩
instance : ElemT Tryz.prog 37 1 8 := ⟨Tryz.t37, _, by kernel_rfl, rfl, rfl, rfl, rfl, by decide⟩
instance : ElemT Tryz.prog 39 1 8 := ⟨Tryz.t39, _, by kernel_rfl, rfl, rfl, rfl, rfl, by decide⟩
instance : ElemT Tryz.prog 42 7 56 := ⟨Tryz.t42, _, by kernel_rfl, rfl, rfl, rfl, rfl, by decide⟩
instance : ElemT Tryz.prog 43 7 56 := ⟨Tryz.t43, _, by kernel_rfl, rfl, rfl, rfl, rfl, by decide⟩
instance : ElemT Tryz.prog 44 15 120 := ⟨Tryz.t44, _, by kernel_rfl, rfl, rfl, rfl, rfl, by decide⟩
instance : ElemT Tryz.prog 45 15 120 := ⟨Tryz.t45, _, by kernel_rfl, rfl, rfl, rfl, rfl, by decide⟩
instance : ElemT Tryz.prog 49 1 24 := ⟨Tryz.t49, _, by kernel_rfl, rfl, rfl, rfl, rfl, by decide⟩
instance : ElemT Tryz.prog 50 3 24 := ⟨Tryz.t50, _, by kernel_rfl, rfl, rfl, rfl, rfl, by decide⟩
instance : ElemT Tryz.prog 51 1 24 := ⟨Tryz.t51, _, by kernel_rfl, rfl, rfl, rfl, rfl, by decide⟩
instance : ElemT Tryz.prog 52 1 24 := ⟨Tryz.t52, _, by kernel_rfl, rfl, rfl, rfl, rfl, by decide⟩
instance : ElemT Tryz.prog 53 1 24 := ⟨Tryz.t53, _, by kernel_rfl, rfl, rfl, rfl, rfl, by decide⟩
instance : ElemT Tryz.prog 54 10 176 := ⟨Tryz.t54, _, by kernel_rfl, rfl, rfl, rfl, rfl, by decide⟩
instance : ElemT Tryz.prog 55 10 176 := ⟨Tryz.t55, _, by kernel_rfl, rfl, rfl, rfl, rfl, by decide⟩
instance : ElemT Tryz.prog 59 1 4 := ⟨Tryz.t59, _, by kernel_rfl, rfl, rfl, rfl, rfl, by decide⟩
instance : ElemT Tryz.prog 60 4 24 := ⟨Tryz.t60, _, by kernel_rfl, rfl, rfl, rfl, rfl, by decide⟩
instance : ElemT Tryz.prog 61 4 24 := ⟨Tryz.t61, _, by kernel_rfl, rfl, rfl, rfl, rfl, by decide⟩
instance : ElemT Tryz.prog 62 3 24 := ⟨Tryz.t62, _, by kernel_rfl, rfl, rfl, rfl, rfl, by decide⟩
instance : ElemT Tryz.prog 63 3 24 := ⟨Tryz.t63, _, by kernel_rfl, rfl, rfl, rfl, rfl, by decide⟩
instance : ElemT Tryz.prog 70 1 8 := ⟨Tryz.t70, _, by kernel_rfl, rfl, rfl, rfl, rfl, by decide⟩
instance : ElemT Tryz.prog 71 1 8 := ⟨Tryz.t71, _, by kernel_rfl, rfl, rfl, rfl, rfl, by decide⟩
instance : ElemT Tryz.prog 72 1 24 := ⟨Tryz.t72, _, by kernel_rfl, rfl, rfl, rfl, rfl, by decide⟩
instance : ElemT Tryz.prog 73 21 176 := ⟨Tryz.t73, _, by kernel_rfl, rfl, rfl, rfl, rfl, by decide⟩
instance : ElemT Tryz.prog 74 21 176 := ⟨Tryz.t74, _, by kernel_rfl, rfl, rfl, rfl, rfl, by decide⟩
instance : ElemT Tryz.prog 77 4 32 := ⟨Tryz.t77, _, by kernel_rfl, rfl, rfl, rfl, rfl, by decide⟩
instance : ElemT Tryz.prog 78 4 32 := ⟨Tryz.t78, _, by kernel_rfl, rfl, rfl, rfl, rfl, by decide⟩
instance : ElemT Tryz.prog 79 1 24 := ⟨Tryz.t79, _, by kernel_rfl, rfl, rfl, rfl, rfl, by decide⟩
instance : ElemT Tryz.prog 80 4 64 := ⟨Tryz.t80, _, by kernel_rfl, rfl, rfl, rfl, rfl, by decide⟩
instance : ElemT Tryz.prog 81 4 64 := ⟨Tryz.t81, _, by kernel_rfl, rfl, rfl, rfl, rfl, by decide⟩
instance : ElemT Tryz.prog 83 3 24 := ⟨Tryz.t83, _, by kernel_rfl, rfl, rfl, rfl, rfl, by decide⟩
instance : ElemT Tryz.prog 84 3 24 := ⟨Tryz.t84, _, by kernel_rfl, rfl, rfl, rfl, rfl, by decide⟩
instance : ElemT Tryz.prog 85 16 144 := ⟨Tryz.t85, _, by kernel_rfl, rfl, rfl, rfl, rfl, by decide⟩
instance : ElemT Tryz.prog 86 16 144 := ⟨Tryz.t86, _, by kernel_rfl, rfl, rfl, rfl, rfl, by decide⟩
instance : ElemT Tryz.prog 90 1 24 := ⟨Tryz.t90, _, by kernel_rfl, rfl, rfl, rfl, rfl, by decide⟩
instance : ElemT Tryz.prog 92 2 16 := ⟨Tryz.t92, _, by kernel_rfl, rfl, rfl, rfl, rfl, by decide⟩
instance : ElemT Tryz.prog 93 2 16 := ⟨Tryz.t93, _, by kernel_rfl, rfl, rfl, rfl, rfl, by decide⟩
instance : ElemT Tryz.prog 99 10 80 := ⟨Tryz.t99, _, by kernel_rfl, rfl, rfl, rfl, rfl, by decide⟩
instance : ElemT Tryz.prog 100 12 96 := ⟨Tryz.t100, _, by kernel_rfl, rfl, rfl, rfl, rfl, by decide⟩
instance : ElemT Tryz.prog 101 12 96 := ⟨Tryz.t101, _, by kernel_rfl, rfl, rfl, rfl, rfl, by decide⟩
instance : ElemT Tryz.prog 103 1 8 := ⟨Tryz.t103, _, by kernel_rfl, rfl, rfl, rfl, rfl, by decide⟩
instance : ElemT Tryz.prog 105 3 24 := ⟨Tryz.t105, _, by kernel_rfl, rfl, rfl, rfl, rfl, by decide⟩
instance : ElemT Tryz.prog 106 3 24 := ⟨Tryz.t106, _, by kernel_rfl, rfl, rfl, rfl, rfl, by decide⟩
instance : ElemT Tryz.prog 107 3 24 := ⟨Tryz.t107, _, by kernel_rfl, rfl, rfl, rfl, rfl, by decide⟩
instance : ElemT Tryz.prog 108 3 24 := ⟨Tryz.t108, _, by kernel_rfl, rfl, rfl, rfl, rfl, by decide⟩
instance : ElemT Tryz.prog 109 2 16 := ⟨Tryz.t109, _, by kernel_rfl, rfl, rfl, rfl, rfl, by decide⟩
instance : ElemT Tryz.prog 110 2 16 := ⟨Tryz.t110, _, by kernel_rfl, rfl, rfl, rfl, rfl, by decide⟩
instance : ElemT Tryz.prog 112 1 24 := ⟨Tryz.t112, _, by kernel_rfl, rfl, rfl, rfl, rfl, by decide⟩
instance : ElemT Tryz.prog 114 1 8 := ⟨Tryz.t114, _, by kernel_rfl, rfl, rfl, rfl, rfl, by decide⟩
instance : ElemT Tryz.prog 117 1 24 := ⟨Tryz.t117, _, by kernel_rfl, rfl, rfl, rfl, rfl, by decide⟩
instance : ElemT Tryz.prog 131 3 40 := ⟨Tryz.t131, _, by kernel_rfl, rfl, rfl, rfl, rfl, by decide⟩
instance : ElemT Tryz.prog 132 3 40 := ⟨Tryz.t132, _, by kernel_rfl, rfl, rfl, rfl, rfl, by decide⟩
instance : ElemT Tryz.prog 134 1 8 := ⟨Tryz.t134, _, by kernel_rfl, rfl, rfl, rfl, rfl, by decide⟩
instance : ElemT Tryz.prog 136 2 32 := ⟨Tryz.t136, _, by kernel_rfl, rfl, rfl, rfl, rfl, by decide⟩
instance : ElemT Tryz.prog 137 2 32 := ⟨Tryz.t137, _, by kernel_rfl, rfl, rfl, rfl, rfl, by decide⟩
instance : ElemT Tryz.prog 154 1 8 := ⟨Tryz.t154, _, by kernel_rfl, rfl, rfl, rfl, rfl, by decide⟩
instance : ElemT Tryz.prog 165 4 40 := ⟨Tryz.t165, _, by kernel_rfl, rfl, rfl, rfl, rfl, by decide⟩
instance : ElemT Tryz.prog 166 4 40 := ⟨Tryz.t166, _, by kernel_rfl, rfl, rfl, rfl, rfl, by decide⟩
instance : ElemT Tryz.prog 170 1 1 := ⟨Tryz.t170, _, by kernel_rfl, rfl, rfl, rfl, rfl, by decide⟩
instance : ElemT Tryz.prog 171 1 1 := ⟨Tryz.t171, _, by kernel_rfl, rfl, rfl, rfl, rfl, by decide⟩
instance : ElemT Tryz.prog 173 1 8 := ⟨Tryz.t173, _, by kernel_rfl, rfl, rfl, rfl, rfl, by decide⟩
instance : ElemT Tryz.prog 174 1 4 := ⟨Tryz.t174, _, by kernel_rfl, rfl, rfl, rfl, rfl, by decide⟩
instance : ElemT Tryz.prog 175 1 4 := ⟨Tryz.t175, _, by kernel_rfl, rfl, rfl, rfl, rfl, by decide⟩
instance : ElemT Tryz.prog 176 11 48 := ⟨Tryz.t176, _, by kernel_rfl, rfl, rfl, rfl, rfl, by decide⟩
instance : ElemT Tryz.prog 177 11 48 := ⟨Tryz.t177, _, by kernel_rfl, rfl, rfl, rfl, rfl, by decide⟩
instance : ElemZ Tryz.prog 2 (.int .i64 0) 8 := ⟨by kernel_rfl, rfl⟩
instance : IntT Tryz.prog 2 .i64 := ⟨by kernel_rfl⟩
instance : ElemZ Tryz.prog 3 (.int .i64 0) 8 := ⟨by kernel_rfl, rfl⟩
instance : IntT Tryz.prog 3 .i64 := ⟨by kernel_rfl⟩
instance : ElemZ Tryz.prog 4 (.bool false) 1 := ⟨by kernel_rfl, rfl⟩
instance : BoolT Tryz.prog 4 := ⟨by kernel_rfl⟩
instance : ElemZ Tryz.prog 5 (.int .u8 0) 1 := ⟨by kernel_rfl, rfl⟩
instance : IntT Tryz.prog 5 .u8 := ⟨by kernel_rfl⟩
instance : ElemZ Tryz.prog 6 (.int .u8 0) 1 := ⟨by kernel_rfl, rfl⟩
instance : IntT Tryz.prog 6 .u8 := ⟨by kernel_rfl⟩
instance : AggT Tryz.prog 7 4 := ⟨⟨_, Tryz.underlying7, rfl⟩, by kernel_rfl⟩
instance : FldOne Tryz.prog 7 0 0 := ⟨_, _, Tryz.underlying7, rfl, rfl, inferInstanceAs (One Tryz.prog 2)⟩
instance : FldOne Tryz.prog 7 1 1 := ⟨_, _, Tryz.underlying7, rfl, rfl, inferInstanceAs (One Tryz.prog 3)⟩
instance : FldOne Tryz.prog 7 2 2 := ⟨_, _, Tryz.underlying7, rfl, rfl, inferInstanceAs (One Tryz.prog 4)⟩
instance : FldOne Tryz.prog 7 3 3 := ⟨_, _, Tryz.underlying7, rfl, rfl, inferInstanceAs (One Tryz.prog 6)⟩
instance : AggT Tryz.prog 8 4 := ⟨⟨_, Tryz.underlying8, rfl⟩, by kernel_rfl⟩
instance : FldOne Tryz.prog 8 0 0 := ⟨_, _, Tryz.underlying8, rfl, rfl, inferInstanceAs (One Tryz.prog 2)⟩
instance : FldOne Tryz.prog 8 1 1 := ⟨_, _, Tryz.underlying8, rfl, rfl, inferInstanceAs (One Tryz.prog 3)⟩
instance : FldOne Tryz.prog 8 2 2 := ⟨_, _, Tryz.underlying8, rfl, rfl, inferInstanceAs (One Tryz.prog 4)⟩
instance : FldOne Tryz.prog 8 3 3 := ⟨_, _, Tryz.underlying8, rfl, rfl, inferInstanceAs (One Tryz.prog 6)⟩
instance : ElemZ Tryz.prog 9 (.string ByteArray.empty) 16 := ⟨by kernel_rfl, rfl⟩
instance : ElemZ Tryz.prog 10 (.string ByteArray.empty) 16 := ⟨by kernel_rfl, rfl⟩
instance : ElemZ Tryz.prog 11 (.string ByteArray.empty) 16 := ⟨by kernel_rfl, rfl⟩
instance : ElemZ Tryz.prog 12 (.int .u64 0) 8 := ⟨by kernel_rfl, rfl⟩
instance : IntT Tryz.prog 12 .u64 := ⟨by kernel_rfl⟩
instance : AggT Tryz.prog 13 2 := ⟨⟨_, Tryz.underlying13, rfl⟩, by kernel_rfl⟩
instance : FldOne Tryz.prog 13 0 0 := ⟨_, _, Tryz.underlying13, rfl, rfl, inferInstanceAs (One Tryz.prog 9)⟩
instance : FldOne Tryz.prog 13 1 1 := ⟨_, _, Tryz.underlying13, rfl, rfl, inferInstanceAs (One Tryz.prog 12)⟩
instance : AggT Tryz.prog 14 2 := ⟨⟨_, Tryz.underlying14, rfl⟩, by kernel_rfl⟩
instance : FldOne Tryz.prog 14 0 0 := ⟨_, _, Tryz.underlying14, rfl, rfl, inferInstanceAs (One Tryz.prog 9)⟩
instance : FldOne Tryz.prog 14 1 1 := ⟨_, _, Tryz.underlying14, rfl, rfl, inferInstanceAs (One Tryz.prog 12)⟩
instance : ElemZ Tryz.prog 15 (.pointer none) 8 := ⟨by kernel_rfl, rfl⟩
instance : ElemZ Tryz.prog 16 (.pointer none) 8 := ⟨by kernel_rfl, rfl⟩
instance : ElemZ Tryz.prog 17 (.pointer none) 8 := ⟨by kernel_rfl, rfl⟩
instance : AggT Tryz.prog 18 1 := ⟨⟨_, Tryz.underlying18, rfl⟩, by kernel_rfl⟩
instance : FldOne Tryz.prog 18 0 0 := ⟨_, _, Tryz.underlying18, rfl, rfl, inferInstanceAs (One Tryz.prog 17)⟩
instance : AggT Tryz.prog 19 1 := ⟨⟨_, Tryz.underlying19, rfl⟩, by kernel_rfl⟩
instance : FldOne Tryz.prog 19 0 0 := ⟨_, _, Tryz.underlying19, rfl, rfl, inferInstanceAs (One Tryz.prog 17)⟩
instance : ElemZ Tryz.prog 21 (.int .i32 0) 4 := ⟨by kernel_rfl, rfl⟩
instance : IntT Tryz.prog 21 .i32 := ⟨by kernel_rfl⟩
instance : ElemZ Tryz.prog 22 (.slice none 0 0) 24 := ⟨by kernel_rfl, rfl⟩
instance : ElemZ Tryz.prog 23 (.slice none 0 0) 24 := ⟨by kernel_rfl, rfl⟩
instance : ElemZ Tryz.prog 24 (.int .u64 0) 8 := ⟨by kernel_rfl, rfl⟩
instance : IntT Tryz.prog 24 .u64 := ⟨by kernel_rfl⟩
instance : ElemZ Tryz.prog 25 (.pointer none) 8 := ⟨by kernel_rfl, rfl⟩
instance : ElemZ Tryz.prog 26 (.slice none 0 0) 24 := ⟨by kernel_rfl, rfl⟩
instance : ElemZ Tryz.prog 31 (.slice none 0 0) 24 := ⟨by kernel_rfl, rfl⟩
instance : ElemZ Tryz.prog 33 (.pointer none) 8 := ⟨by kernel_rfl, rfl⟩
instance : ElemZ Tryz.prog 37 (.int .i64 0) 8 := ⟨by kernel_rfl, rfl⟩
instance : IntT Tryz.prog 37 .i64 := ⟨by kernel_rfl⟩
instance : ElemZ Tryz.prog 39 (.pointer none) 8 := ⟨by kernel_rfl, rfl⟩
instance : AggT Tryz.prog 42 7 := ⟨⟨_, Tryz.underlying42, rfl⟩, by kernel_rfl⟩
instance : EqT Tryz.prog 42 [.i .i64, .i .i64, .i .i64, .i .i64, .i .i64, .i .i64, .i .i64] := ⟨by kernel_rfl, by kernel_rfl, by kernel_rfl, by kernel_rfl⟩
instance : FldOne Tryz.prog 42 0 0 := ⟨_, _, Tryz.underlying42, rfl, rfl, inferInstanceAs (One Tryz.prog 3)⟩
instance : FldOne Tryz.prog 42 1 1 := ⟨_, _, Tryz.underlying42, rfl, rfl, inferInstanceAs (One Tryz.prog 3)⟩
instance : FldOne Tryz.prog 42 2 2 := ⟨_, _, Tryz.underlying42, rfl, rfl, inferInstanceAs (One Tryz.prog 3)⟩
instance : FldOne Tryz.prog 42 3 3 := ⟨_, _, Tryz.underlying42, rfl, rfl, inferInstanceAs (One Tryz.prog 3)⟩
instance : FldOne Tryz.prog 42 4 4 := ⟨_, _, Tryz.underlying42, rfl, rfl, inferInstanceAs (One Tryz.prog 3)⟩
instance : FldOne Tryz.prog 42 5 5 := ⟨_, _, Tryz.underlying42, rfl, rfl, inferInstanceAs (One Tryz.prog 3)⟩
instance : FldOne Tryz.prog 42 6 6 := ⟨_, _, Tryz.underlying42, rfl, rfl, inferInstanceAs (One Tryz.prog 3)⟩
instance : AggT Tryz.prog 43 7 := ⟨⟨_, Tryz.underlying43, rfl⟩, by kernel_rfl⟩
instance : EqT Tryz.prog 43 [.i .i64, .i .i64, .i .i64, .i .i64, .i .i64, .i .i64, .i .i64] := ⟨by kernel_rfl, by kernel_rfl, by kernel_rfl, by kernel_rfl⟩
instance : FldOne Tryz.prog 43 0 0 := ⟨_, _, Tryz.underlying43, rfl, rfl, inferInstanceAs (One Tryz.prog 3)⟩
instance : FldOne Tryz.prog 43 1 1 := ⟨_, _, Tryz.underlying43, rfl, rfl, inferInstanceAs (One Tryz.prog 3)⟩
instance : FldOne Tryz.prog 43 2 2 := ⟨_, _, Tryz.underlying43, rfl, rfl, inferInstanceAs (One Tryz.prog 3)⟩
instance : FldOne Tryz.prog 43 3 3 := ⟨_, _, Tryz.underlying43, rfl, rfl, inferInstanceAs (One Tryz.prog 3)⟩
instance : FldOne Tryz.prog 43 4 4 := ⟨_, _, Tryz.underlying43, rfl, rfl, inferInstanceAs (One Tryz.prog 3)⟩
instance : FldOne Tryz.prog 43 5 5 := ⟨_, _, Tryz.underlying43, rfl, rfl, inferInstanceAs (One Tryz.prog 3)⟩
instance : FldOne Tryz.prog 43 6 6 := ⟨_, _, Tryz.underlying43, rfl, rfl, inferInstanceAs (One Tryz.prog 3)⟩
instance : AggT Tryz.prog 44 15 := ⟨⟨_, Tryz.underlying44, rfl⟩, by kernel_rfl⟩
instance : FldOne Tryz.prog 44 1 7 := ⟨_, _, Tryz.underlying44, rfl, rfl, inferInstanceAs (One Tryz.prog 3)⟩
instance : FldOne Tryz.prog 44 2 8 := ⟨_, _, Tryz.underlying44, rfl, rfl, inferInstanceAs (One Tryz.prog 3)⟩
instance : FldOne Tryz.prog 44 3 9 := ⟨_, _, Tryz.underlying44, rfl, rfl, inferInstanceAs (One Tryz.prog 3)⟩
instance : FldOne Tryz.prog 44 4 10 := ⟨_, _, Tryz.underlying44, rfl, rfl, inferInstanceAs (One Tryz.prog 3)⟩
instance : FldOne Tryz.prog 44 5 11 := ⟨_, _, Tryz.underlying44, rfl, rfl, inferInstanceAs (One Tryz.prog 3)⟩
instance : FldOne Tryz.prog 44 6 12 := ⟨_, _, Tryz.underlying44, rfl, rfl, inferInstanceAs (One Tryz.prog 3)⟩
instance : FldOne Tryz.prog 44 7 13 := ⟨_, _, Tryz.underlying44, rfl, rfl, inferInstanceAs (One Tryz.prog 3)⟩
instance : FldOne Tryz.prog 44 8 14 := ⟨_, _, Tryz.underlying44, rfl, rfl, inferInstanceAs (One Tryz.prog 3)⟩
instance : AggT Tryz.prog 45 15 := ⟨⟨_, Tryz.underlying45, rfl⟩, by kernel_rfl⟩
instance : FldOne Tryz.prog 45 1 7 := ⟨_, _, Tryz.underlying45, rfl, rfl, inferInstanceAs (One Tryz.prog 3)⟩
instance : FldOne Tryz.prog 45 2 8 := ⟨_, _, Tryz.underlying45, rfl, rfl, inferInstanceAs (One Tryz.prog 3)⟩
instance : FldOne Tryz.prog 45 3 9 := ⟨_, _, Tryz.underlying45, rfl, rfl, inferInstanceAs (One Tryz.prog 3)⟩
instance : FldOne Tryz.prog 45 4 10 := ⟨_, _, Tryz.underlying45, rfl, rfl, inferInstanceAs (One Tryz.prog 3)⟩
instance : FldOne Tryz.prog 45 5 11 := ⟨_, _, Tryz.underlying45, rfl, rfl, inferInstanceAs (One Tryz.prog 3)⟩
instance : FldOne Tryz.prog 45 6 12 := ⟨_, _, Tryz.underlying45, rfl, rfl, inferInstanceAs (One Tryz.prog 3)⟩
instance : FldOne Tryz.prog 45 7 13 := ⟨_, _, Tryz.underlying45, rfl, rfl, inferInstanceAs (One Tryz.prog 3)⟩
instance : FldOne Tryz.prog 45 8 14 := ⟨_, _, Tryz.underlying45, rfl, rfl, inferInstanceAs (One Tryz.prog 3)⟩
instance : ElemZ Tryz.prog 49 (.slice none 0 0) 24 := ⟨by kernel_rfl, rfl⟩
instance : ArrT Tryz.prog 50 3 24 1 := ⟨by kernel_rfl, fun _ => by kernel_rfl⟩
instance : AggT Tryz.prog 50 3 := ⟨⟨_, Tryz.underlying50, rfl⟩, by kernel_rfl⟩
instance : ElemZ Tryz.prog 51 (.slice none 0 0) 24 := ⟨by kernel_rfl, rfl⟩
instance : AggT Tryz.prog 52 1 := ⟨⟨_, Tryz.underlying52, rfl⟩, by kernel_rfl⟩
instance : FldOne Tryz.prog 52 0 0 := ⟨_, _, Tryz.underlying52, rfl, rfl, inferInstanceAs (One Tryz.prog 23)⟩
instance : AggT Tryz.prog 53 1 := ⟨⟨_, Tryz.underlying53, rfl⟩, by kernel_rfl⟩
instance : FldOne Tryz.prog 53 0 0 := ⟨_, _, Tryz.underlying53, rfl, rfl, inferInstanceAs (One Tryz.prog 23)⟩
instance : AggT Tryz.prog 54 10 := ⟨⟨_, Tryz.underlying54, rfl⟩, by kernel_rfl⟩
instance : FldOne Tryz.prog 54 0 0 := ⟨_, _, Tryz.underlying54, rfl, rfl, inferInstanceAs (One Tryz.prog 3)⟩
instance : FldOne Tryz.prog 54 1 1 := ⟨_, _, Tryz.underlying54, rfl, rfl, inferInstanceAs (One Tryz.prog 49)⟩
instance : FldOne Tryz.prog 54 3 5 := ⟨_, _, Tryz.underlying54, rfl, rfl, inferInstanceAs (One Tryz.prog 51)⟩
instance : FldOne Tryz.prog 54 4 6 := ⟨_, _, Tryz.underlying54, rfl, rfl, inferInstanceAs (One Tryz.prog 51)⟩
instance : FldOne Tryz.prog 54 5 7 := ⟨_, _, Tryz.underlying54, rfl, rfl, inferInstanceAs (One Tryz.prog 51)⟩
instance : FldOne Tryz.prog 54 7 9 := ⟨_, _, Tryz.underlying54, rfl, rfl, inferInstanceAs (One Tryz.prog 23)⟩
instance : AggT Tryz.prog 55 10 := ⟨⟨_, Tryz.underlying55, rfl⟩, by kernel_rfl⟩
instance : FldOne Tryz.prog 55 0 0 := ⟨_, _, Tryz.underlying55, rfl, rfl, inferInstanceAs (One Tryz.prog 3)⟩
instance : FldOne Tryz.prog 55 1 1 := ⟨_, _, Tryz.underlying55, rfl, rfl, inferInstanceAs (One Tryz.prog 49)⟩
instance : FldOne Tryz.prog 55 3 5 := ⟨_, _, Tryz.underlying55, rfl, rfl, inferInstanceAs (One Tryz.prog 51)⟩
instance : FldOne Tryz.prog 55 4 6 := ⟨_, _, Tryz.underlying55, rfl, rfl, inferInstanceAs (One Tryz.prog 51)⟩
instance : FldOne Tryz.prog 55 5 7 := ⟨_, _, Tryz.underlying55, rfl, rfl, inferInstanceAs (One Tryz.prog 51)⟩
instance : FldOne Tryz.prog 55 7 9 := ⟨_, _, Tryz.underlying55, rfl, rfl, inferInstanceAs (One Tryz.prog 23)⟩
instance : ElemZ Tryz.prog 59 (.int .u32 0) 4 := ⟨by kernel_rfl, rfl⟩
instance : IntT Tryz.prog 59 .u32 := ⟨by kernel_rfl⟩
instance : AggT Tryz.prog 60 4 := ⟨⟨_, Tryz.underlying60, rfl⟩, by kernel_rfl⟩
instance : EqT Tryz.prog 60 [.i .u32, .i .u32, .i .i64, .b] := ⟨by kernel_rfl, by kernel_rfl, by kernel_rfl, by kernel_rfl⟩
instance : FldOne Tryz.prog 60 0 0 := ⟨_, _, Tryz.underlying60, rfl, rfl, inferInstanceAs (One Tryz.prog 59)⟩
instance : FldOne Tryz.prog 60 1 1 := ⟨_, _, Tryz.underlying60, rfl, rfl, inferInstanceAs (One Tryz.prog 59)⟩
instance : FldOne Tryz.prog 60 2 2 := ⟨_, _, Tryz.underlying60, rfl, rfl, inferInstanceAs (One Tryz.prog 3)⟩
instance : FldOne Tryz.prog 60 3 3 := ⟨_, _, Tryz.underlying60, rfl, rfl, inferInstanceAs (One Tryz.prog 4)⟩
instance : AggT Tryz.prog 61 4 := ⟨⟨_, Tryz.underlying61, rfl⟩, by kernel_rfl⟩
instance : EqT Tryz.prog 61 [.i .u32, .i .u32, .i .i64, .b] := ⟨by kernel_rfl, by kernel_rfl, by kernel_rfl, by kernel_rfl⟩
instance : FldOne Tryz.prog 61 0 0 := ⟨_, _, Tryz.underlying61, rfl, rfl, inferInstanceAs (One Tryz.prog 59)⟩
instance : FldOne Tryz.prog 61 1 1 := ⟨_, _, Tryz.underlying61, rfl, rfl, inferInstanceAs (One Tryz.prog 59)⟩
instance : FldOne Tryz.prog 61 2 2 := ⟨_, _, Tryz.underlying61, rfl, rfl, inferInstanceAs (One Tryz.prog 3)⟩
instance : FldOne Tryz.prog 61 3 3 := ⟨_, _, Tryz.underlying61, rfl, rfl, inferInstanceAs (One Tryz.prog 4)⟩
instance : AggT Tryz.prog 62 3 := ⟨⟨_, Tryz.underlying62, rfl⟩, by kernel_rfl⟩
instance : EqT Tryz.prog 62 [.i .u64, .i .i64, .i .i64] := ⟨by kernel_rfl, by kernel_rfl, by kernel_rfl, by kernel_rfl⟩
instance : FldOne Tryz.prog 62 0 0 := ⟨_, _, Tryz.underlying62, rfl, rfl, inferInstanceAs (One Tryz.prog 24)⟩
instance : FldOne Tryz.prog 62 1 1 := ⟨_, _, Tryz.underlying62, rfl, rfl, inferInstanceAs (One Tryz.prog 3)⟩
instance : FldOne Tryz.prog 62 2 2 := ⟨_, _, Tryz.underlying62, rfl, rfl, inferInstanceAs (One Tryz.prog 3)⟩
instance : AggT Tryz.prog 63 3 := ⟨⟨_, Tryz.underlying63, rfl⟩, by kernel_rfl⟩
instance : EqT Tryz.prog 63 [.i .u64, .i .i64, .i .i64] := ⟨by kernel_rfl, by kernel_rfl, by kernel_rfl, by kernel_rfl⟩
instance : FldOne Tryz.prog 63 0 0 := ⟨_, _, Tryz.underlying63, rfl, rfl, inferInstanceAs (One Tryz.prog 24)⟩
instance : FldOne Tryz.prog 63 1 1 := ⟨_, _, Tryz.underlying63, rfl, rfl, inferInstanceAs (One Tryz.prog 3)⟩
instance : FldOne Tryz.prog 63 2 2 := ⟨_, _, Tryz.underlying63, rfl, rfl, inferInstanceAs (One Tryz.prog 3)⟩
instance : ElemZ Tryz.prog 70 (.pointer none) 8 := ⟨by kernel_rfl, rfl⟩
instance : ElemZ Tryz.prog 71 (.pointer none) 8 := ⟨by kernel_rfl, rfl⟩
instance : ElemZ Tryz.prog 72 (.slice none 0 0) 24 := ⟨by kernel_rfl, rfl⟩
instance : AggT Tryz.prog 73 21 := ⟨⟨_, Tryz.underlying73, rfl⟩, by kernel_rfl⟩
instance : FldOne Tryz.prog 73 1 15 := ⟨_, _, Tryz.underlying73, rfl, rfl, inferInstanceAs (One Tryz.prog 39)⟩
instance : FldOne Tryz.prog 73 2 16 := ⟨_, _, Tryz.underlying73, rfl, rfl, inferInstanceAs (One Tryz.prog 70)⟩
instance : FldOne Tryz.prog 73 3 17 := ⟨_, _, Tryz.underlying73, rfl, rfl, inferInstanceAs (One Tryz.prog 71)⟩
instance : FldOne Tryz.prog 73 4 18 := ⟨_, _, Tryz.underlying73, rfl, rfl, inferInstanceAs (One Tryz.prog 72)⟩
instance : FldOne Tryz.prog 73 5 19 := ⟨_, _, Tryz.underlying73, rfl, rfl, inferInstanceAs (One Tryz.prog 4)⟩
instance : FldOne Tryz.prog 73 6 20 := ⟨_, _, Tryz.underlying73, rfl, rfl, inferInstanceAs (One Tryz.prog 4)⟩
instance : AggT Tryz.prog 74 21 := ⟨⟨_, Tryz.underlying74, rfl⟩, by kernel_rfl⟩
instance : FldOne Tryz.prog 74 1 15 := ⟨_, _, Tryz.underlying74, rfl, rfl, inferInstanceAs (One Tryz.prog 39)⟩
instance : FldOne Tryz.prog 74 2 16 := ⟨_, _, Tryz.underlying74, rfl, rfl, inferInstanceAs (One Tryz.prog 70)⟩
instance : FldOne Tryz.prog 74 3 17 := ⟨_, _, Tryz.underlying74, rfl, rfl, inferInstanceAs (One Tryz.prog 71)⟩
instance : FldOne Tryz.prog 74 4 18 := ⟨_, _, Tryz.underlying74, rfl, rfl, inferInstanceAs (One Tryz.prog 72)⟩
instance : FldOne Tryz.prog 74 5 19 := ⟨_, _, Tryz.underlying74, rfl, rfl, inferInstanceAs (One Tryz.prog 4)⟩
instance : FldOne Tryz.prog 74 6 20 := ⟨_, _, Tryz.underlying74, rfl, rfl, inferInstanceAs (One Tryz.prog 4)⟩
instance : AggT Tryz.prog 77 4 := ⟨⟨_, Tryz.underlying77, rfl⟩, by kernel_rfl⟩
instance : EqT Tryz.prog 77 [.i .i64, .i .i64, .i .i64, .b] := ⟨by kernel_rfl, by kernel_rfl, by kernel_rfl, by kernel_rfl⟩
instance : FldOne Tryz.prog 77 0 0 := ⟨_, _, Tryz.underlying77, rfl, rfl, inferInstanceAs (One Tryz.prog 3)⟩
instance : FldOne Tryz.prog 77 1 1 := ⟨_, _, Tryz.underlying77, rfl, rfl, inferInstanceAs (One Tryz.prog 3)⟩
instance : FldOne Tryz.prog 77 2 2 := ⟨_, _, Tryz.underlying77, rfl, rfl, inferInstanceAs (One Tryz.prog 3)⟩
instance : FldOne Tryz.prog 77 3 3 := ⟨_, _, Tryz.underlying77, rfl, rfl, inferInstanceAs (One Tryz.prog 4)⟩
instance : AggT Tryz.prog 78 4 := ⟨⟨_, Tryz.underlying78, rfl⟩, by kernel_rfl⟩
instance : EqT Tryz.prog 78 [.i .i64, .i .i64, .i .i64, .b] := ⟨by kernel_rfl, by kernel_rfl, by kernel_rfl, by kernel_rfl⟩
instance : FldOne Tryz.prog 78 0 0 := ⟨_, _, Tryz.underlying78, rfl, rfl, inferInstanceAs (One Tryz.prog 3)⟩
instance : FldOne Tryz.prog 78 1 1 := ⟨_, _, Tryz.underlying78, rfl, rfl, inferInstanceAs (One Tryz.prog 3)⟩
instance : FldOne Tryz.prog 78 2 2 := ⟨_, _, Tryz.underlying78, rfl, rfl, inferInstanceAs (One Tryz.prog 3)⟩
instance : FldOne Tryz.prog 78 3 3 := ⟨_, _, Tryz.underlying78, rfl, rfl, inferInstanceAs (One Tryz.prog 4)⟩
instance : ElemZ Tryz.prog 79 (.slice none 0 0) 24 := ⟨by kernel_rfl, rfl⟩
instance : AggT Tryz.prog 80 4 := ⟨⟨_, Tryz.underlying80, rfl⟩, by kernel_rfl⟩
instance : FldOne Tryz.prog 80 0 0 := ⟨_, _, Tryz.underlying80, rfl, rfl, inferInstanceAs (One Tryz.prog 51)⟩
instance : FldOne Tryz.prog 80 1 1 := ⟨_, _, Tryz.underlying80, rfl, rfl, inferInstanceAs (One Tryz.prog 3)⟩
instance : FldOne Tryz.prog 80 2 2 := ⟨_, _, Tryz.underlying80, rfl, rfl, inferInstanceAs (One Tryz.prog 4)⟩
instance : FldOne Tryz.prog 80 3 3 := ⟨_, _, Tryz.underlying80, rfl, rfl, inferInstanceAs (One Tryz.prog 79)⟩
instance : AggT Tryz.prog 81 4 := ⟨⟨_, Tryz.underlying81, rfl⟩, by kernel_rfl⟩
instance : FldOne Tryz.prog 81 0 0 := ⟨_, _, Tryz.underlying81, rfl, rfl, inferInstanceAs (One Tryz.prog 51)⟩
instance : FldOne Tryz.prog 81 1 1 := ⟨_, _, Tryz.underlying81, rfl, rfl, inferInstanceAs (One Tryz.prog 3)⟩
instance : FldOne Tryz.prog 81 2 2 := ⟨_, _, Tryz.underlying81, rfl, rfl, inferInstanceAs (One Tryz.prog 4)⟩
instance : FldOne Tryz.prog 81 3 3 := ⟨_, _, Tryz.underlying81, rfl, rfl, inferInstanceAs (One Tryz.prog 79)⟩
instance : AggT Tryz.prog 83 3 := ⟨⟨_, Tryz.underlying83, rfl⟩, by kernel_rfl⟩
instance : EqT Tryz.prog 83 [.i .i64, .i .i64, .i .i64] := ⟨by kernel_rfl, by kernel_rfl, by kernel_rfl, by kernel_rfl⟩
instance : FldOne Tryz.prog 83 0 0 := ⟨_, _, Tryz.underlying83, rfl, rfl, inferInstanceAs (One Tryz.prog 3)⟩
instance : FldOne Tryz.prog 83 1 1 := ⟨_, _, Tryz.underlying83, rfl, rfl, inferInstanceAs (One Tryz.prog 3)⟩
instance : FldOne Tryz.prog 83 2 2 := ⟨_, _, Tryz.underlying83, rfl, rfl, inferInstanceAs (One Tryz.prog 3)⟩
instance : AggT Tryz.prog 84 3 := ⟨⟨_, Tryz.underlying84, rfl⟩, by kernel_rfl⟩
instance : EqT Tryz.prog 84 [.i .i64, .i .i64, .i .i64] := ⟨by kernel_rfl, by kernel_rfl, by kernel_rfl, by kernel_rfl⟩
instance : FldOne Tryz.prog 84 0 0 := ⟨_, _, Tryz.underlying84, rfl, rfl, inferInstanceAs (One Tryz.prog 3)⟩
instance : FldOne Tryz.prog 84 1 1 := ⟨_, _, Tryz.underlying84, rfl, rfl, inferInstanceAs (One Tryz.prog 3)⟩
instance : FldOne Tryz.prog 84 2 2 := ⟨_, _, Tryz.underlying84, rfl, rfl, inferInstanceAs (One Tryz.prog 3)⟩
instance : AggT Tryz.prog 85 16 := ⟨⟨_, Tryz.underlying85, rfl⟩, by kernel_rfl⟩
instance : FldOne Tryz.prog 85 1 15 := ⟨_, _, Tryz.underlying85, rfl, rfl, inferInstanceAs (One Tryz.prog 51)⟩
instance : AggT Tryz.prog 86 16 := ⟨⟨_, Tryz.underlying86, rfl⟩, by kernel_rfl⟩
instance : FldOne Tryz.prog 86 1 15 := ⟨_, _, Tryz.underlying86, rfl, rfl, inferInstanceAs (One Tryz.prog 51)⟩
instance : ElemZ Tryz.prog 90 (.slice none 0 0) 24 := ⟨by kernel_rfl, rfl⟩
instance : AggT Tryz.prog 92 2 := ⟨⟨_, Tryz.underlying92, rfl⟩, by kernel_rfl⟩
instance : EqT Tryz.prog 92 [.i .i64, .b] := ⟨by kernel_rfl, by kernel_rfl, by kernel_rfl, by kernel_rfl⟩
instance : FldOne Tryz.prog 92 0 0 := ⟨_, _, Tryz.underlying92, rfl, rfl, inferInstanceAs (One Tryz.prog 3)⟩
instance : FldOne Tryz.prog 92 1 1 := ⟨_, _, Tryz.underlying92, rfl, rfl, inferInstanceAs (One Tryz.prog 4)⟩
instance : AggT Tryz.prog 93 2 := ⟨⟨_, Tryz.underlying93, rfl⟩, by kernel_rfl⟩
instance : EqT Tryz.prog 93 [.i .i64, .b] := ⟨by kernel_rfl, by kernel_rfl, by kernel_rfl, by kernel_rfl⟩
instance : FldOne Tryz.prog 93 0 0 := ⟨_, _, Tryz.underlying93, rfl, rfl, inferInstanceAs (One Tryz.prog 3)⟩
instance : FldOne Tryz.prog 93 1 1 := ⟨_, _, Tryz.underlying93, rfl, rfl, inferInstanceAs (One Tryz.prog 4)⟩
instance : ArrT Tryz.prog 99 10 24 1 := ⟨by kernel_rfl, fun _ => by kernel_rfl⟩
instance : AggT Tryz.prog 99 10 := ⟨⟨_, Tryz.underlying99, rfl⟩, by kernel_rfl⟩
instance : AggT Tryz.prog 100 12 := ⟨⟨_, Tryz.underlying100, rfl⟩, by kernel_rfl⟩
instance : FldOne Tryz.prog 100 0 0 := ⟨_, _, Tryz.underlying100, rfl, rfl, inferInstanceAs (One Tryz.prog 3)⟩
instance : FldOne Tryz.prog 100 1 1 := ⟨_, _, Tryz.underlying100, rfl, rfl, inferInstanceAs (One Tryz.prog 3)⟩
instance : AggT Tryz.prog 101 12 := ⟨⟨_, Tryz.underlying101, rfl⟩, by kernel_rfl⟩
instance : FldOne Tryz.prog 101 0 0 := ⟨_, _, Tryz.underlying101, rfl, rfl, inferInstanceAs (One Tryz.prog 3)⟩
instance : FldOne Tryz.prog 101 1 1 := ⟨_, _, Tryz.underlying101, rfl, rfl, inferInstanceAs (One Tryz.prog 3)⟩
instance : ElemZ Tryz.prog 103 (.pointer none) 8 := ⟨by kernel_rfl, rfl⟩
instance : AggT Tryz.prog 105 3 := ⟨⟨_, Tryz.underlying105, rfl⟩, by kernel_rfl⟩
instance : FldOne Tryz.prog 105 0 0 := ⟨_, _, Tryz.underlying105, rfl, rfl, inferInstanceAs (One Tryz.prog 25)⟩
instance : FldOne Tryz.prog 105 1 1 := ⟨_, _, Tryz.underlying105, rfl, rfl, inferInstanceAs (One Tryz.prog 33)⟩
instance : FldOne Tryz.prog 105 2 2 := ⟨_, _, Tryz.underlying105, rfl, rfl, inferInstanceAs (One Tryz.prog 103)⟩
instance : AggT Tryz.prog 106 3 := ⟨⟨_, Tryz.underlying106, rfl⟩, by kernel_rfl⟩
instance : FldOne Tryz.prog 106 0 0 := ⟨_, _, Tryz.underlying106, rfl, rfl, inferInstanceAs (One Tryz.prog 25)⟩
instance : FldOne Tryz.prog 106 1 1 := ⟨_, _, Tryz.underlying106, rfl, rfl, inferInstanceAs (One Tryz.prog 33)⟩
instance : FldOne Tryz.prog 106 2 2 := ⟨_, _, Tryz.underlying106, rfl, rfl, inferInstanceAs (One Tryz.prog 103)⟩
instance : AggT Tryz.prog 107 3 := ⟨⟨_, Tryz.underlying107, rfl⟩, by kernel_rfl⟩
instance : AggT Tryz.prog 108 3 := ⟨⟨_, Tryz.underlying108, rfl⟩, by kernel_rfl⟩
instance : AggT Tryz.prog 109 2 := ⟨⟨_, Tryz.underlying109, rfl⟩, by kernel_rfl⟩
instance : EqT Tryz.prog 109 [.i .i64, .i .i64] := ⟨by kernel_rfl, by kernel_rfl, by kernel_rfl, by kernel_rfl⟩
instance : FldOne Tryz.prog 109 0 0 := ⟨_, _, Tryz.underlying109, rfl, rfl, inferInstanceAs (One Tryz.prog 3)⟩
instance : FldOne Tryz.prog 109 1 1 := ⟨_, _, Tryz.underlying109, rfl, rfl, inferInstanceAs (One Tryz.prog 3)⟩
instance : AggT Tryz.prog 110 2 := ⟨⟨_, Tryz.underlying110, rfl⟩, by kernel_rfl⟩
instance : EqT Tryz.prog 110 [.i .i64, .i .i64] := ⟨by kernel_rfl, by kernel_rfl, by kernel_rfl, by kernel_rfl⟩
instance : FldOne Tryz.prog 110 0 0 := ⟨_, _, Tryz.underlying110, rfl, rfl, inferInstanceAs (One Tryz.prog 3)⟩
instance : FldOne Tryz.prog 110 1 1 := ⟨_, _, Tryz.underlying110, rfl, rfl, inferInstanceAs (One Tryz.prog 3)⟩
instance : ElemZ Tryz.prog 112 (.slice none 0 0) 24 := ⟨by kernel_rfl, rfl⟩
instance : ElemZ Tryz.prog 114 (.int .u64 0) 8 := ⟨by kernel_rfl, rfl⟩
instance : IntT Tryz.prog 114 .u64 := ⟨by kernel_rfl⟩
instance : ElemZ Tryz.prog 117 (.slice none 0 0) 24 := ⟨by kernel_rfl, rfl⟩
instance : AggT Tryz.prog 131 3 := ⟨⟨_, Tryz.underlying131, rfl⟩, by kernel_rfl⟩
instance : FldOne Tryz.prog 131 0 0 := ⟨_, _, Tryz.underlying131, rfl, rfl, inferInstanceAs (One Tryz.prog 23)⟩
instance : AggT Tryz.prog 132 3 := ⟨⟨_, Tryz.underlying132, rfl⟩, by kernel_rfl⟩
instance : FldOne Tryz.prog 132 0 0 := ⟨_, _, Tryz.underlying132, rfl, rfl, inferInstanceAs (One Tryz.prog 23)⟩
instance : ElemZ Tryz.prog 134 (.int .u64 0) 8 := ⟨by kernel_rfl, rfl⟩
instance : IntT Tryz.prog 134 .u64 := ⟨by kernel_rfl⟩
instance : AggT Tryz.prog 136 2 := ⟨⟨_, Tryz.underlying136, rfl⟩, by kernel_rfl⟩
instance : FldOne Tryz.prog 136 0 0 := ⟨_, _, Tryz.underlying136, rfl, rfl, inferInstanceAs (One Tryz.prog 117)⟩
instance : FldOne Tryz.prog 136 1 1 := ⟨_, _, Tryz.underlying136, rfl, rfl, inferInstanceAs (One Tryz.prog 3)⟩
instance : AggT Tryz.prog 137 2 := ⟨⟨_, Tryz.underlying137, rfl⟩, by kernel_rfl⟩
instance : FldOne Tryz.prog 137 0 0 := ⟨_, _, Tryz.underlying137, rfl, rfl, inferInstanceAs (One Tryz.prog 117)⟩
instance : FldOne Tryz.prog 137 1 1 := ⟨_, _, Tryz.underlying137, rfl, rfl, inferInstanceAs (One Tryz.prog 3)⟩
instance : ElemZ Tryz.prog 154 (.pointer none) 8 := ⟨by kernel_rfl, rfl⟩
instance : AggT Tryz.prog 165 4 := ⟨⟨_, Tryz.underlying165, rfl⟩, by kernel_rfl⟩
instance : FldOne Tryz.prog 165 0 0 := ⟨_, _, Tryz.underlying165, rfl, rfl, inferInstanceAs (One Tryz.prog 17)⟩
instance : FldOne Tryz.prog 165 1 1 := ⟨_, _, Tryz.underlying165, rfl, rfl, inferInstanceAs (One Tryz.prog 17)⟩
instance : FldOne Tryz.prog 165 2 2 := ⟨_, _, Tryz.underlying165, rfl, rfl, inferInstanceAs (One Tryz.prog 17)⟩
instance : FldOne Tryz.prog 165 3 3 := ⟨_, _, Tryz.underlying165, rfl, rfl, inferInstanceAs (One Tryz.prog 9)⟩
instance : AggT Tryz.prog 166 4 := ⟨⟨_, Tryz.underlying166, rfl⟩, by kernel_rfl⟩
instance : FldOne Tryz.prog 166 0 0 := ⟨_, _, Tryz.underlying166, rfl, rfl, inferInstanceAs (One Tryz.prog 17)⟩
instance : FldOne Tryz.prog 166 1 1 := ⟨_, _, Tryz.underlying166, rfl, rfl, inferInstanceAs (One Tryz.prog 17)⟩
instance : FldOne Tryz.prog 166 2 2 := ⟨_, _, Tryz.underlying166, rfl, rfl, inferInstanceAs (One Tryz.prog 17)⟩
instance : FldOne Tryz.prog 166 3 3 := ⟨_, _, Tryz.underlying166, rfl, rfl, inferInstanceAs (One Tryz.prog 9)⟩
instance : ElemZ Tryz.prog 170 (.int .u8 0) 1 := ⟨by kernel_rfl, rfl⟩
instance : IntT Tryz.prog 170 .u8 := ⟨by kernel_rfl⟩
instance : ElemZ Tryz.prog 171 (.int .u8 0) 1 := ⟨by kernel_rfl, rfl⟩
instance : IntT Tryz.prog 171 .u8 := ⟨by kernel_rfl⟩
instance : ElemZ Tryz.prog 173 (.pointer none) 8 := ⟨by kernel_rfl, rfl⟩
instance : ElemZ Tryz.prog 174 (.int .i32 0) 4 := ⟨by kernel_rfl, rfl⟩
instance : IntT Tryz.prog 174 .i32 := ⟨by kernel_rfl⟩
instance : ElemZ Tryz.prog 175 (.int .i32 0) 4 := ⟨by kernel_rfl, rfl⟩
instance : IntT Tryz.prog 175 .i32 := ⟨by kernel_rfl⟩
instance : AggT Tryz.prog 176 11 := ⟨⟨_, Tryz.underlying176, rfl⟩, by kernel_rfl⟩
instance : FldOne Tryz.prog 176 0 0 := ⟨_, _, Tryz.underlying176, rfl, rfl, inferInstanceAs (One Tryz.prog 12)⟩
instance : FldOne Tryz.prog 176 1 1 := ⟨_, _, Tryz.underlying176, rfl, rfl, inferInstanceAs (One Tryz.prog 12)⟩
instance : FldOne Tryz.prog 176 2 2 := ⟨_, _, Tryz.underlying176, rfl, rfl, inferInstanceAs (One Tryz.prog 59)⟩
instance : FldOne Tryz.prog 176 3 3 := ⟨_, _, Tryz.underlying176, rfl, rfl, inferInstanceAs (One Tryz.prog 170)⟩
instance : FldOne Tryz.prog 176 4 4 := ⟨_, _, Tryz.underlying176, rfl, rfl, inferInstanceAs (One Tryz.prog 5)⟩
instance : FldOne Tryz.prog 176 5 5 := ⟨_, _, Tryz.underlying176, rfl, rfl, inferInstanceAs (One Tryz.prog 5)⟩
instance : FldOne Tryz.prog 176 6 6 := ⟨_, _, Tryz.underlying176, rfl, rfl, inferInstanceAs (One Tryz.prog 171)⟩
instance : FldOne Tryz.prog 176 7 7 := ⟨_, _, Tryz.underlying176, rfl, rfl, inferInstanceAs (One Tryz.prog 172)⟩
instance : FldOne Tryz.prog 176 8 8 := ⟨_, _, Tryz.underlying176, rfl, rfl, inferInstanceAs (One Tryz.prog 173)⟩
instance : FldOne Tryz.prog 176 9 9 := ⟨_, _, Tryz.underlying176, rfl, rfl, inferInstanceAs (One Tryz.prog 174)⟩
instance : FldOne Tryz.prog 176 10 10 := ⟨_, _, Tryz.underlying176, rfl, rfl, inferInstanceAs (One Tryz.prog 175)⟩
instance : AggT Tryz.prog 177 11 := ⟨⟨_, Tryz.underlying177, rfl⟩, by kernel_rfl⟩
instance : FldOne Tryz.prog 177 0 0 := ⟨_, _, Tryz.underlying177, rfl, rfl, inferInstanceAs (One Tryz.prog 12)⟩
instance : FldOne Tryz.prog 177 1 1 := ⟨_, _, Tryz.underlying177, rfl, rfl, inferInstanceAs (One Tryz.prog 12)⟩
instance : FldOne Tryz.prog 177 2 2 := ⟨_, _, Tryz.underlying177, rfl, rfl, inferInstanceAs (One Tryz.prog 59)⟩
instance : FldOne Tryz.prog 177 3 3 := ⟨_, _, Tryz.underlying177, rfl, rfl, inferInstanceAs (One Tryz.prog 170)⟩
instance : FldOne Tryz.prog 177 4 4 := ⟨_, _, Tryz.underlying177, rfl, rfl, inferInstanceAs (One Tryz.prog 5)⟩
instance : FldOne Tryz.prog 177 5 5 := ⟨_, _, Tryz.underlying177, rfl, rfl, inferInstanceAs (One Tryz.prog 5)⟩
instance : FldOne Tryz.prog 177 6 6 := ⟨_, _, Tryz.underlying177, rfl, rfl, inferInstanceAs (One Tryz.prog 171)⟩
instance : FldOne Tryz.prog 177 7 7 := ⟨_, _, Tryz.underlying177, rfl, rfl, inferInstanceAs (One Tryz.prog 172)⟩
instance : FldOne Tryz.prog 177 8 8 := ⟨_, _, Tryz.underlying177, rfl, rfl, inferInstanceAs (One Tryz.prog 173)⟩
instance : FldOne Tryz.prog 177 9 9 := ⟨_, _, Tryz.underlying177, rfl, rfl, inferInstanceAs (One Tryz.prog 174)⟩
instance : FldOne Tryz.prog 177 10 10 := ⟨_, _, Tryz.underlying177, rfl, rfl, inferInstanceAs (One Tryz.prog 175)⟩
instance : HasBody Tryz.prog 3 := ⟨fun _ _ => by kernel_rfl⟩
instance : HasBody Tryz.prog 4 := ⟨fun _ _ => by kernel_rfl⟩
instance : HasBody Tryz.prog 5 := ⟨fun _ _ => by kernel_rfl⟩
instance : HasBody Tryz.prog 6 := ⟨fun _ _ => by kernel_rfl⟩
instance : HasBody Tryz.prog 7 := ⟨fun _ _ => by kernel_rfl⟩
instance : HasBody Tryz.prog 8 := ⟨fun _ _ => by kernel_rfl⟩
instance : HasBody Tryz.prog 9 := ⟨fun _ _ => by kernel_rfl⟩
instance : HasBody Tryz.prog 10 := ⟨fun _ _ => by kernel_rfl⟩
instance : HasBody Tryz.prog 11 := ⟨fun _ _ => by kernel_rfl⟩
instance : HasBody Tryz.prog 12 := ⟨fun _ _ => by kernel_rfl⟩
instance : HasBody Tryz.prog 13 := ⟨fun _ _ => by kernel_rfl⟩
instance : HasBody Tryz.prog 14 := ⟨fun _ _ => by kernel_rfl⟩
instance : HasBody Tryz.prog 15 := ⟨fun _ _ => by kernel_rfl⟩
instance : HasBody Tryz.prog 16 := ⟨fun _ _ => by kernel_rfl⟩
instance : HasBody Tryz.prog 17 := ⟨fun _ _ => by kernel_rfl⟩
instance : HasBody Tryz.prog 18 := ⟨fun _ _ => by kernel_rfl⟩
instance : HasBody Tryz.prog 19 := ⟨fun _ _ => by kernel_rfl⟩
instance : HasBody Tryz.prog 20 := ⟨fun _ _ => by kernel_rfl⟩
instance : HasBody Tryz.prog 21 := ⟨fun _ _ => by kernel_rfl⟩
instance : HasBody Tryz.prog 22 := ⟨fun _ _ => by kernel_rfl⟩
instance : HasBody Tryz.prog 23 := ⟨fun _ _ => by kernel_rfl⟩
instance : HasBody Tryz.prog 24 := ⟨fun _ _ => by kernel_rfl⟩
instance : HasBody Tryz.prog 25 := ⟨fun _ _ => by kernel_rfl⟩
instance : HasBody Tryz.prog 26 := ⟨fun _ _ => by kernel_rfl⟩
instance : HasBody Tryz.prog 27 := ⟨fun _ _ => by kernel_rfl⟩
instance : HasBody Tryz.prog 28 := ⟨fun _ _ => by kernel_rfl⟩
instance : HasBody Tryz.prog 29 := ⟨fun _ _ => by kernel_rfl⟩
instance : HasBody Tryz.prog 30 := ⟨fun _ _ => by kernel_rfl⟩
instance : HasBody Tryz.prog 31 := ⟨fun _ _ => by kernel_rfl⟩
instance : HasBody Tryz.prog 32 := ⟨fun _ _ => by kernel_rfl⟩
instance : HasBody Tryz.prog 33 := ⟨fun _ _ => by kernel_rfl⟩
instance : HasBody Tryz.prog 34 := ⟨fun _ _ => by kernel_rfl⟩
instance : HasBody Tryz.prog 35 := ⟨fun _ _ => by kernel_rfl⟩
instance : HasBody Tryz.prog 36 := ⟨fun _ _ => by kernel_rfl⟩
instance : HasBody Tryz.prog 37 := ⟨fun _ _ => by kernel_rfl⟩
instance : HasBody Tryz.prog 38 := ⟨fun _ _ => by kernel_rfl⟩
instance : HasBody Tryz.prog 39 := ⟨fun _ _ => by kernel_rfl⟩
instance : HasBody Tryz.prog 40 := ⟨fun _ _ => by kernel_rfl⟩
instance : HasBody Tryz.prog 41 := ⟨fun _ _ => by kernel_rfl⟩
instance : HasBody Tryz.prog 42 := ⟨fun _ _ => by kernel_rfl⟩
instance : HasBody Tryz.prog 43 := ⟨fun _ _ => by kernel_rfl⟩
instance : HasBody Tryz.prog 44 := ⟨fun _ _ => by kernel_rfl⟩
instance : HasBody Tryz.prog 45 := ⟨fun _ _ => by kernel_rfl⟩
instance : HasBody Tryz.prog 46 := ⟨fun _ _ => by kernel_rfl⟩
instance : HasBody Tryz.prog 47 := ⟨fun _ _ => by kernel_rfl⟩
instance : HasBody Tryz.prog 48 := ⟨fun _ _ => by kernel_rfl⟩
instance : HasBody Tryz.prog 49 := ⟨fun _ _ => by kernel_rfl⟩
instance : HasBody Tryz.prog 50 := ⟨fun _ _ => by kernel_rfl⟩
instance : HasBody Tryz.prog 51 := ⟨fun _ _ => by kernel_rfl⟩
instance : HasBody Tryz.prog 52 := ⟨fun _ _ => by kernel_rfl⟩
instance : HasBody Tryz.prog 53 := ⟨fun _ _ => by kernel_rfl⟩
instance : HasBody Tryz.prog 54 := ⟨fun _ _ => by kernel_rfl⟩
instance : HasBody Tryz.prog 55 := ⟨fun _ _ => by kernel_rfl⟩
instance : HasBody Tryz.prog 56 := ⟨fun _ _ => by kernel_rfl⟩
instance : HasBody Tryz.prog 57 := ⟨fun _ _ => by kernel_rfl⟩
instance : HasBody Tryz.prog 58 := ⟨fun _ _ => by kernel_rfl⟩
instance : HasBody Tryz.prog 59 := ⟨fun _ _ => by kernel_rfl⟩
instance : HasBody Tryz.prog 60 := ⟨fun _ _ => by kernel_rfl⟩
instance : HasBody Tryz.prog 61 := ⟨fun _ _ => by kernel_rfl⟩
instance : HasBody Tryz.prog 62 := ⟨fun _ _ => by kernel_rfl⟩
instance : HasBody Tryz.prog 63 := ⟨fun _ _ => by kernel_rfl⟩
instance : HasBody Tryz.prog 64 := ⟨fun _ _ => by kernel_rfl⟩
instance : HasBody Tryz.prog 65 := ⟨fun _ _ => by kernel_rfl⟩
instance : HasBody Tryz.prog 66 := ⟨fun _ _ => by kernel_rfl⟩
instance : HasBody Tryz.prog 67 := ⟨fun _ _ => by kernel_rfl⟩
instance : HasBody Tryz.prog 68 := ⟨fun _ _ => by kernel_rfl⟩
instance : HasBody Tryz.prog 69 := ⟨fun _ _ => by kernel_rfl⟩
instance : HasBody Tryz.prog 70 := ⟨fun _ _ => by kernel_rfl⟩
instance : HasBody Tryz.prog 71 := ⟨fun _ _ => by kernel_rfl⟩
instance : HasBody Tryz.prog 72 := ⟨fun _ _ => by kernel_rfl⟩
instance : HasBody Tryz.prog 73 := ⟨fun _ _ => by kernel_rfl⟩
instance : HasBody Tryz.prog 74 := ⟨fun _ _ => by kernel_rfl⟩
instance : HasBody Tryz.prog 75 := ⟨fun _ _ => by kernel_rfl⟩
instance : HasBody Tryz.prog 76 := ⟨fun _ _ => by kernel_rfl⟩
instance : HasBody Tryz.prog 77 := ⟨fun _ _ => by kernel_rfl⟩
instance : HasBody Tryz.prog 78 := ⟨fun _ _ => by kernel_rfl⟩
instance : HasBody Tryz.prog 79 := ⟨fun _ _ => by kernel_rfl⟩
instance : HasBody Tryz.prog 80 := ⟨fun _ _ => by kernel_rfl⟩
instance : HasBody Tryz.prog 81 := ⟨fun _ _ => by kernel_rfl⟩
instance : HasBody Tryz.prog 82 := ⟨fun _ _ => by kernel_rfl⟩
instance : HasBody Tryz.prog 83 := ⟨fun _ _ => by kernel_rfl⟩
instance : HasBody Tryz.prog 84 := ⟨fun _ _ => by kernel_rfl⟩
instance : HasBody Tryz.prog 85 := ⟨fun _ _ => by kernel_rfl⟩
instance : HasBody Tryz.prog 86 := ⟨fun _ _ => by kernel_rfl⟩
instance : HasBody Tryz.prog 87 := ⟨fun _ _ => by kernel_rfl⟩
instance : HasBody Tryz.prog 88 := ⟨fun _ _ => by kernel_rfl⟩
instance : HasBody Tryz.prog 89 := ⟨fun _ _ => by kernel_rfl⟩
instance : HasBody Tryz.prog 90 := ⟨fun _ _ => by kernel_rfl⟩
instance : HasBody Tryz.prog 91 := ⟨fun _ _ => by kernel_rfl⟩
instance : HasBody Tryz.prog 92 := ⟨fun _ _ => by kernel_rfl⟩
instance : HasBody Tryz.prog 93 := ⟨fun _ _ => by kernel_rfl⟩
instance : HasBody Tryz.prog 94 := ⟨fun _ _ => by kernel_rfl⟩
instance : HasBody Tryz.prog 95 := ⟨fun _ _ => by kernel_rfl⟩
instance : HasBody Tryz.prog 96 := ⟨fun _ _ => by kernel_rfl⟩
instance : HasBody Tryz.prog 97 := ⟨fun _ _ => by kernel_rfl⟩
instance : HasBody Tryz.prog 98 := ⟨fun _ _ => by kernel_rfl⟩
instance : HasBody Tryz.prog 99 := ⟨fun _ _ => by kernel_rfl⟩
instance : HasBody Tryz.prog 100 := ⟨fun _ _ => by kernel_rfl⟩
instance : HasBody Tryz.prog 101 := ⟨fun _ _ => by kernel_rfl⟩
instance : HasBody Tryz.prog 102 := ⟨fun _ _ => by kernel_rfl⟩
end Go.Proofs.YtbnbbafffihapaaGreat
