/- What the reader asks of types and functions, closed facts of this program. -/
import Derived.Test.YtlhbgnoghjendaaDoorV8
namespace Go.Proofs.YtlhbgnoghjendaaDoor
open Go.RowKit
instance : Mixed Tryd.prog := ⟨by kernel_rfl⟩
instance : One Tryd.prog 1 := ⟨fun _ => by kernel_rfl, fun _ => by kernel_rfl⟩
instance : One Tryd.prog 2 := ⟨fun _ => by kernel_rfl, fun _ => by kernel_rfl⟩
instance : One Tryd.prog 3 := ⟨fun _ => by kernel_rfl, fun _ => by kernel_rfl⟩
instance : One Tryd.prog 4 := ⟨fun _ => by kernel_rfl, fun _ => by kernel_rfl⟩
instance : One Tryd.prog 5 := ⟨fun _ => by kernel_rfl, fun _ => by kernel_rfl⟩
instance : One Tryd.prog 6 := ⟨fun _ => by kernel_rfl, fun _ => by kernel_rfl⟩
instance : FOff Tryd.prog 7 0 0 := ⟨fun _ _ _ => by kernel_rfl⟩
instance : FOff Tryd.prog 7 1 1 := ⟨fun _ _ _ => by kernel_rfl⟩
instance : FOff Tryd.prog 7 2 2 := ⟨fun _ _ _ => by kernel_rfl⟩
instance : FOff Tryd.prog 7 3 3 := ⟨fun _ _ _ => by kernel_rfl⟩
instance : FOff Tryd.prog 8 0 0 := ⟨fun _ _ _ => by kernel_rfl⟩
instance : FOff Tryd.prog 8 1 1 := ⟨fun _ _ _ => by kernel_rfl⟩
instance : FOff Tryd.prog 8 2 2 := ⟨fun _ _ _ => by kernel_rfl⟩
instance : FOff Tryd.prog 8 3 3 := ⟨fun _ _ _ => by kernel_rfl⟩
instance : StrT Tryd.prog 9 := ⟨by kernel_rfl⟩
instance : One Tryd.prog 9 := ⟨fun _ => by kernel_rfl, fun _ => by kernel_rfl⟩
instance : StrT Tryd.prog 10 := ⟨by kernel_rfl⟩
instance : One Tryd.prog 10 := ⟨fun _ => by kernel_rfl, fun _ => by kernel_rfl⟩
instance : StrT Tryd.prog 11 := ⟨by kernel_rfl⟩
instance : One Tryd.prog 11 := ⟨fun _ => by kernel_rfl, fun _ => by kernel_rfl⟩
instance : One Tryd.prog 12 := ⟨fun _ => by kernel_rfl, fun _ => by kernel_rfl⟩
instance : FOff Tryd.prog 13 0 0 := ⟨fun _ _ _ => by kernel_rfl⟩
instance : FOff Tryd.prog 13 1 1 := ⟨fun _ _ _ => by kernel_rfl⟩
instance : FOff Tryd.prog 14 0 0 := ⟨fun _ _ _ => by kernel_rfl⟩
instance : FOff Tryd.prog 14 1 1 := ⟨fun _ _ _ => by kernel_rfl⟩
instance : PtrT Tryd.prog 15 := ⟨by kernel_rfl⟩
instance : One Tryd.prog 15 := ⟨fun _ => by kernel_rfl, fun _ => by kernel_rfl⟩
instance : PtrT Tryd.prog 16 := ⟨by kernel_rfl⟩
instance : One Tryd.prog 16 := ⟨fun _ => by kernel_rfl, fun _ => by kernel_rfl⟩
instance : PtrT Tryd.prog 17 := ⟨by kernel_rfl⟩
instance : One Tryd.prog 17 := ⟨fun _ => by kernel_rfl, fun _ => by kernel_rfl⟩
instance : FOff Tryd.prog 18 0 0 := ⟨fun _ _ _ => by kernel_rfl⟩
instance : FOff Tryd.prog 19 0 0 := ⟨fun _ _ _ => by kernel_rfl⟩
instance : One Tryd.prog 20 := ⟨fun _ => by kernel_rfl, fun _ => by kernel_rfl⟩
instance : One Tryd.prog 21 := ⟨fun _ => by kernel_rfl, fun _ => by kernel_rfl⟩
instance : One Tryd.prog 22 := ⟨fun _ => by kernel_rfl, fun _ => by kernel_rfl⟩
instance : FOff Tryd.prog 23 0 0 := ⟨fun _ _ _ => by kernel_rfl⟩
instance : FOff Tryd.prog 23 1 1 := ⟨fun _ _ _ => by kernel_rfl⟩
instance : FOff Tryd.prog 23 2 2 := ⟨fun _ _ _ => by kernel_rfl⟩
instance : FOff Tryd.prog 23 3 3 := ⟨fun _ _ _ => by kernel_rfl⟩
instance : FOff Tryd.prog 23 4 4 := ⟨fun _ _ _ => by kernel_rfl⟩
instance : FOff Tryd.prog 23 5 5 := ⟨fun _ _ _ => by kernel_rfl⟩
instance : FOff Tryd.prog 23 6 6 := ⟨fun _ _ _ => by kernel_rfl⟩
instance : FOff Tryd.prog 24 0 0 := ⟨fun _ _ _ => by kernel_rfl⟩
instance : FOff Tryd.prog 24 1 1 := ⟨fun _ _ _ => by kernel_rfl⟩
instance : FOff Tryd.prog 24 2 2 := ⟨fun _ _ _ => by kernel_rfl⟩
instance : FOff Tryd.prog 24 3 3 := ⟨fun _ _ _ => by kernel_rfl⟩
instance : FOff Tryd.prog 24 4 4 := ⟨fun _ _ _ => by kernel_rfl⟩
instance : FOff Tryd.prog 24 5 5 := ⟨fun _ _ _ => by kernel_rfl⟩
instance : FOff Tryd.prog 24 6 6 := ⟨fun _ _ _ => by kernel_rfl⟩
instance : One Tryd.prog 25 := ⟨fun _ => by kernel_rfl, fun _ => by kernel_rfl⟩
instance : One Tryd.prog 27 := ⟨fun _ => by kernel_rfl, fun _ => by kernel_rfl⟩
instance : One Tryd.prog 29 := ⟨fun _ => by kernel_rfl, fun _ => by kernel_rfl⟩
instance : One Tryd.prog 30 := ⟨fun _ => by kernel_rfl, fun _ => by kernel_rfl⟩
instance : SlT Tryd.prog 31 5 1 := ⟨by kernel_rfl, fun _ => by kernel_rfl⟩
instance : One Tryd.prog 31 := ⟨fun _ => by kernel_rfl, fun _ => by kernel_rfl⟩
instance : One Tryd.prog 32 := ⟨fun _ => by kernel_rfl, fun _ => by kernel_rfl⟩
instance : One Tryd.prog 33 := ⟨fun _ => by kernel_rfl, fun _ => by kernel_rfl⟩
instance : One Tryd.prog 34 := ⟨fun _ => by kernel_rfl, fun _ => by kernel_rfl⟩
instance : One Tryd.prog 35 := ⟨fun _ => by kernel_rfl, fun _ => by kernel_rfl⟩
instance : One Tryd.prog 36 := ⟨fun _ => by kernel_rfl, fun _ => by kernel_rfl⟩
instance : SlT Tryd.prog 37 68 1 := ⟨by kernel_rfl, fun _ => by kernel_rfl⟩
instance : One Tryd.prog 37 := ⟨fun _ => by kernel_rfl, fun _ => by kernel_rfl⟩
instance : SlT Tryd.prog 38 3 1 := ⟨by kernel_rfl, fun _ => by kernel_rfl⟩
instance : One Tryd.prog 38 := ⟨fun _ => by kernel_rfl, fun _ => by kernel_rfl⟩
instance : FOff Tryd.prog 39 0 0 := ⟨fun _ _ _ => by kernel_rfl⟩
instance : FOff Tryd.prog 39 1 7 := ⟨fun _ _ _ => by kernel_rfl⟩
instance : FOff Tryd.prog 39 2 8 := ⟨fun _ _ _ => by kernel_rfl⟩
instance : FOff Tryd.prog 39 3 9 := ⟨fun _ _ _ => by kernel_rfl⟩
instance : FOff Tryd.prog 40 0 0 := ⟨fun _ _ _ => by kernel_rfl⟩
instance : FOff Tryd.prog 40 1 7 := ⟨fun _ _ _ => by kernel_rfl⟩
instance : FOff Tryd.prog 40 2 8 := ⟨fun _ _ _ => by kernel_rfl⟩
instance : FOff Tryd.prog 40 3 9 := ⟨fun _ _ _ => by kernel_rfl⟩
instance : One Tryd.prog 42 := ⟨fun _ => by kernel_rfl, fun _ => by kernel_rfl⟩
instance : One Tryd.prog 43 := ⟨fun _ => by kernel_rfl, fun _ => by kernel_rfl⟩
instance : One Tryd.prog 44 := ⟨fun _ => by kernel_rfl, fun _ => by kernel_rfl⟩
instance : One Tryd.prog 46 := ⟨fun _ => by kernel_rfl, fun _ => by kernel_rfl⟩
instance : One Tryd.prog 47 := ⟨fun _ => by kernel_rfl, fun _ => by kernel_rfl⟩
instance : One Tryd.prog 48 := ⟨fun _ => by kernel_rfl, fun _ => by kernel_rfl⟩
instance : SlT Tryd.prog 49 9 1 := ⟨by kernel_rfl, fun _ => by kernel_rfl⟩
instance : One Tryd.prog 49 := ⟨fun _ => by kernel_rfl, fun _ => by kernel_rfl⟩
instance : One Tryd.prog 50 := ⟨fun _ => by kernel_rfl, fun _ => by kernel_rfl⟩
instance : One Tryd.prog 54 := ⟨fun _ => by kernel_rfl, fun _ => by kernel_rfl⟩
instance : One Tryd.prog 56 := ⟨fun _ => by kernel_rfl, fun _ => by kernel_rfl⟩
instance : One Tryd.prog 58 := ⟨fun _ => by kernel_rfl, fun _ => by kernel_rfl⟩
instance : One Tryd.prog 59 := ⟨fun _ => by kernel_rfl, fun _ => by kernel_rfl⟩
instance : One Tryd.prog 60 := ⟨fun _ => by kernel_rfl, fun _ => by kernel_rfl⟩
instance : One Tryd.prog 62 := ⟨fun _ => by kernel_rfl, fun _ => by kernel_rfl⟩
instance : One Tryd.prog 63 := ⟨fun _ => by kernel_rfl, fun _ => by kernel_rfl⟩
instance : One Tryd.prog 64 := ⟨fun _ => by kernel_rfl, fun _ => by kernel_rfl⟩
instance : One Tryd.prog 65 := ⟨fun _ => by kernel_rfl, fun _ => by kernel_rfl⟩
instance : FOff Tryd.prog 66 0 0 := ⟨fun _ _ _ => by kernel_rfl⟩
instance : FOff Tryd.prog 66 1 1 := ⟨fun _ _ _ => by kernel_rfl⟩
instance : FOff Tryd.prog 66 2 2 := ⟨fun _ _ _ => by kernel_rfl⟩
instance : FOff Tryd.prog 67 0 0 := ⟨fun _ _ _ => by kernel_rfl⟩
instance : FOff Tryd.prog 67 1 1 := ⟨fun _ _ _ => by kernel_rfl⟩
instance : FOff Tryd.prog 67 2 2 := ⟨fun _ _ _ => by kernel_rfl⟩
instance : SlT Tryd.prog 68 67 3 := ⟨by kernel_rfl, fun _ => by kernel_rfl⟩
instance : One Tryd.prog 68 := ⟨fun _ => by kernel_rfl, fun _ => by kernel_rfl⟩
instance : PtrT Tryd.prog 69 := ⟨by kernel_rfl⟩
instance : One Tryd.prog 69 := ⟨fun _ => by kernel_rfl, fun _ => by kernel_rfl⟩
instance : FOff Tryd.prog 70 0 0 := ⟨fun _ _ _ => by kernel_rfl⟩
instance : FOff Tryd.prog 70 1 1 := ⟨fun _ _ _ => by kernel_rfl⟩
instance : FOff Tryd.prog 71 0 0 := ⟨fun _ _ _ => by kernel_rfl⟩
instance : FOff Tryd.prog 71 1 1 := ⟨fun _ _ _ => by kernel_rfl⟩
instance : FOff Tryd.prog 72 0 0 := ⟨fun _ _ _ => by kernel_rfl⟩
instance : FOff Tryd.prog 72 1 2 := ⟨fun _ _ _ => by kernel_rfl⟩
instance : FOff Tryd.prog 73 0 0 := ⟨fun _ _ _ => by kernel_rfl⟩
instance : FOff Tryd.prog 73 1 2 := ⟨fun _ _ _ => by kernel_rfl⟩
instance : One Tryd.prog 74 := ⟨fun _ => by kernel_rfl, fun _ => by kernel_rfl⟩
instance : One Tryd.prog 76 := ⟨fun _ => by kernel_rfl, fun _ => by kernel_rfl⟩
instance : One Tryd.prog 77 := ⟨fun _ => by kernel_rfl, fun _ => by kernel_rfl⟩
instance : One Tryd.prog 79 := ⟨fun _ => by kernel_rfl, fun _ => by kernel_rfl⟩
instance : One Tryd.prog 81 := ⟨fun _ => by kernel_rfl, fun _ => by kernel_rfl⟩
instance : One Tryd.prog 83 := ⟨fun _ => by kernel_rfl, fun _ => by kernel_rfl⟩
instance : PtrT Tryd.prog 84 := ⟨by kernel_rfl⟩
instance : One Tryd.prog 84 := ⟨fun _ => by kernel_rfl, fun _ => by kernel_rfl⟩
instance : FOff Tryd.prog 85 0 0 := ⟨fun _ _ _ => by kernel_rfl⟩
instance : FOff Tryd.prog 85 1 1 := ⟨fun _ _ _ => by kernel_rfl⟩
instance : FOff Tryd.prog 86 0 0 := ⟨fun _ _ _ => by kernel_rfl⟩
instance : FOff Tryd.prog 86 1 1 := ⟨fun _ _ _ => by kernel_rfl⟩
instance : One Tryd.prog 87 := ⟨fun _ => by kernel_rfl, fun _ => by kernel_rfl⟩
instance : One Tryd.prog 88 := ⟨fun _ => by kernel_rfl, fun _ => by kernel_rfl⟩
instance : One Tryd.prog 90 := ⟨fun _ => by kernel_rfl, fun _ => by kernel_rfl⟩
instance : One Tryd.prog 91 := ⟨fun _ => by kernel_rfl, fun _ => by kernel_rfl⟩
instance : One Tryd.prog 92 := ⟨fun _ => by kernel_rfl, fun _ => by kernel_rfl⟩
instance : One Tryd.prog 93 := ⟨fun _ => by kernel_rfl, fun _ => by kernel_rfl⟩
instance : One Tryd.prog 94 := ⟨fun _ => by kernel_rfl, fun _ => by kernel_rfl⟩
instance : One Tryd.prog 96 := ⟨fun _ => by kernel_rfl, fun _ => by kernel_rfl⟩
instance : One Tryd.prog 97 := ⟨fun _ => by kernel_rfl, fun _ => by kernel_rfl⟩
instance : FOff Tryd.prog 98 0 0 := ⟨fun _ _ _ => by kernel_rfl⟩
instance : FOff Tryd.prog 98 1 1 := ⟨fun _ _ _ => by kernel_rfl⟩
instance : FOff Tryd.prog 98 2 2 := ⟨fun _ _ _ => by kernel_rfl⟩
instance : FOff Tryd.prog 99 0 0 := ⟨fun _ _ _ => by kernel_rfl⟩
instance : FOff Tryd.prog 99 1 1 := ⟨fun _ _ _ => by kernel_rfl⟩
instance : FOff Tryd.prog 99 2 2 := ⟨fun _ _ _ => by kernel_rfl⟩
instance : One Tryd.prog 101 := ⟨fun _ => by kernel_rfl, fun _ => by kernel_rfl⟩
instance : FOff Tryd.prog 102 0 0 := ⟨fun _ _ _ => by kernel_rfl⟩
instance : FOff Tryd.prog 102 1 7 := ⟨fun _ _ _ => by kernel_rfl⟩
instance : FOff Tryd.prog 102 2 8 := ⟨fun _ _ _ => by kernel_rfl⟩
instance : FOff Tryd.prog 102 3 9 := ⟨fun _ _ _ => by kernel_rfl⟩
instance : FOff Tryd.prog 102 4 10 := ⟨fun _ _ _ => by kernel_rfl⟩
instance : FOff Tryd.prog 102 5 11 := ⟨fun _ _ _ => by kernel_rfl⟩
instance : FOff Tryd.prog 102 6 12 := ⟨fun _ _ _ => by kernel_rfl⟩
instance : FOff Tryd.prog 102 7 13 := ⟨fun _ _ _ => by kernel_rfl⟩
instance : FOff Tryd.prog 102 8 14 := ⟨fun _ _ _ => by kernel_rfl⟩
instance : FOff Tryd.prog 103 0 0 := ⟨fun _ _ _ => by kernel_rfl⟩
instance : FOff Tryd.prog 103 1 7 := ⟨fun _ _ _ => by kernel_rfl⟩
instance : FOff Tryd.prog 103 2 8 := ⟨fun _ _ _ => by kernel_rfl⟩
instance : FOff Tryd.prog 103 3 9 := ⟨fun _ _ _ => by kernel_rfl⟩
instance : FOff Tryd.prog 103 4 10 := ⟨fun _ _ _ => by kernel_rfl⟩
instance : FOff Tryd.prog 103 5 11 := ⟨fun _ _ _ => by kernel_rfl⟩
instance : FOff Tryd.prog 103 6 12 := ⟨fun _ _ _ => by kernel_rfl⟩
instance : FOff Tryd.prog 103 7 13 := ⟨fun _ _ _ => by kernel_rfl⟩
instance : FOff Tryd.prog 103 8 14 := ⟨fun _ _ _ => by kernel_rfl⟩
instance : One Tryd.prog 105 := ⟨fun _ => by kernel_rfl, fun _ => by kernel_rfl⟩
instance : One Tryd.prog 106 := ⟨fun _ => by kernel_rfl, fun _ => by kernel_rfl⟩
instance : One Tryd.prog 107 := ⟨fun _ => by kernel_rfl, fun _ => by kernel_rfl⟩
instance : One Tryd.prog 108 := ⟨fun _ => by kernel_rfl, fun _ => by kernel_rfl⟩
instance : One Tryd.prog 109 := ⟨fun _ => by kernel_rfl, fun _ => by kernel_rfl⟩
instance : One Tryd.prog 111 := ⟨fun _ => by kernel_rfl, fun _ => by kernel_rfl⟩
instance : One Tryd.prog 113 := ⟨fun _ => by kernel_rfl, fun _ => by kernel_rfl⟩
instance : One Tryd.prog 115 := ⟨fun _ => by kernel_rfl, fun _ => by kernel_rfl⟩
instance : One Tryd.prog 116 := ⟨fun _ => by kernel_rfl, fun _ => by kernel_rfl⟩
instance : One Tryd.prog 117 := ⟨fun _ => by kernel_rfl, fun _ => by kernel_rfl⟩
instance : One Tryd.prog 118 := ⟨fun _ => by kernel_rfl, fun _ => by kernel_rfl⟩
instance : One Tryd.prog 119 := ⟨fun _ => by kernel_rfl, fun _ => by kernel_rfl⟩
instance : SlT Tryd.prog 120 109 1 := ⟨by kernel_rfl, fun _ => by kernel_rfl⟩
instance : One Tryd.prog 120 := ⟨fun _ => by kernel_rfl, fun _ => by kernel_rfl⟩
instance : One Tryd.prog 121 := ⟨fun _ => by kernel_rfl, fun _ => by kernel_rfl⟩
instance : One Tryd.prog 122 := ⟨fun _ => by kernel_rfl, fun _ => by kernel_rfl⟩
instance : One Tryd.prog 123 := ⟨fun _ => by kernel_rfl, fun _ => by kernel_rfl⟩
instance : One Tryd.prog 124 := ⟨fun _ => by kernel_rfl, fun _ => by kernel_rfl⟩
instance : PtrT Tryd.prog 125 := ⟨by kernel_rfl⟩
instance : One Tryd.prog 125 := ⟨fun _ => by kernel_rfl, fun _ => by kernel_rfl⟩
instance : One Tryd.prog 126 := ⟨fun _ => by kernel_rfl, fun _ => by kernel_rfl⟩
instance : One Tryd.prog 127 := ⟨fun _ => by kernel_rfl, fun _ => by kernel_rfl⟩
instance : One Tryd.prog 129 := ⟨fun _ => by kernel_rfl, fun _ => by kernel_rfl⟩
instance : One Tryd.prog 130 := ⟨fun _ => by kernel_rfl, fun _ => by kernel_rfl⟩
instance : FOff Tryd.prog 131 0 0 := ⟨fun _ _ _ => by kernel_rfl⟩
instance : FOff Tryd.prog 131 1 1 := ⟨fun _ _ _ => by kernel_rfl⟩
instance : FOff Tryd.prog 131 2 2 := ⟨fun _ _ _ => by kernel_rfl⟩
instance : FOff Tryd.prog 132 0 0 := ⟨fun _ _ _ => by kernel_rfl⟩
instance : FOff Tryd.prog 132 1 1 := ⟨fun _ _ _ => by kernel_rfl⟩
instance : FOff Tryd.prog 132 2 2 := ⟨fun _ _ _ => by kernel_rfl⟩
instance : One Tryd.prog 133 := ⟨fun _ => by kernel_rfl, fun _ => by kernel_rfl⟩
instance : PtrT Tryd.prog 134 := ⟨by kernel_rfl⟩
instance : One Tryd.prog 134 := ⟨fun _ => by kernel_rfl, fun _ => by kernel_rfl⟩
instance : One Tryd.prog 136 := ⟨fun _ => by kernel_rfl, fun _ => by kernel_rfl⟩
instance : One Tryd.prog 137 := ⟨fun _ => by kernel_rfl, fun _ => by kernel_rfl⟩
instance : One Tryd.prog 138 := ⟨fun _ => by kernel_rfl, fun _ => by kernel_rfl⟩
instance : One Tryd.prog 140 := ⟨fun _ => by kernel_rfl, fun _ => by kernel_rfl⟩
instance : One Tryd.prog 142 := ⟨fun _ => by kernel_rfl, fun _ => by kernel_rfl⟩
instance : One Tryd.prog 144 := ⟨fun _ => by kernel_rfl, fun _ => by kernel_rfl⟩
instance : SlT Tryd.prog 145 132 3 := ⟨by kernel_rfl, fun _ => by kernel_rfl⟩
instance : One Tryd.prog 145 := ⟨fun _ => by kernel_rfl, fun _ => by kernel_rfl⟩
instance : One Tryd.prog 146 := ⟨fun _ => by kernel_rfl, fun _ => by kernel_rfl⟩
instance : FOff Tryd.prog 148 0 0 := ⟨fun _ _ _ => by kernel_rfl⟩
instance : FOff Tryd.prog 148 1 1 := ⟨fun _ _ _ => by kernel_rfl⟩
instance : FOff Tryd.prog 149 0 0 := ⟨fun _ _ _ => by kernel_rfl⟩
instance : FOff Tryd.prog 149 1 1 := ⟨fun _ _ _ => by kernel_rfl⟩
instance : One Tryd.prog 152 := ⟨fun _ => by kernel_rfl, fun _ => by kernel_rfl⟩
instance : FOff Tryd.prog 153 0 0 := ⟨fun _ _ _ => by kernel_rfl⟩
instance : FOff Tryd.prog 153 1 1 := ⟨fun _ _ _ => by kernel_rfl⟩
instance : FOff Tryd.prog 153 2 2 := ⟨fun _ _ _ => by kernel_rfl⟩
instance : FOff Tryd.prog 153 3 3 := ⟨fun _ _ _ => by kernel_rfl⟩
instance : FOff Tryd.prog 154 0 0 := ⟨fun _ _ _ => by kernel_rfl⟩
instance : FOff Tryd.prog 154 1 1 := ⟨fun _ _ _ => by kernel_rfl⟩
instance : FOff Tryd.prog 154 2 2 := ⟨fun _ _ _ => by kernel_rfl⟩
instance : FOff Tryd.prog 154 3 3 := ⟨fun _ _ _ => by kernel_rfl⟩
instance : One Tryd.prog 158 := ⟨fun _ => by kernel_rfl, fun _ => by kernel_rfl⟩
instance : One Tryd.prog 159 := ⟨fun _ => by kernel_rfl, fun _ => by kernel_rfl⟩
instance : One Tryd.prog 160 := ⟨fun _ => by kernel_rfl, fun _ => by kernel_rfl⟩
instance : One Tryd.prog 161 := ⟨fun _ => by kernel_rfl, fun _ => by kernel_rfl⟩
instance : One Tryd.prog 162 := ⟨fun _ => by kernel_rfl, fun _ => by kernel_rfl⟩
instance : One Tryd.prog 163 := ⟨fun _ => by kernel_rfl, fun _ => by kernel_rfl⟩
instance : FOff Tryd.prog 164 0 0 := ⟨fun _ _ _ => by kernel_rfl⟩
instance : FOff Tryd.prog 164 1 1 := ⟨fun _ _ _ => by kernel_rfl⟩
instance : FOff Tryd.prog 164 2 2 := ⟨fun _ _ _ => by kernel_rfl⟩
instance : FOff Tryd.prog 164 3 3 := ⟨fun _ _ _ => by kernel_rfl⟩
instance : FOff Tryd.prog 164 4 4 := ⟨fun _ _ _ => by kernel_rfl⟩
instance : FOff Tryd.prog 164 5 5 := ⟨fun _ _ _ => by kernel_rfl⟩
instance : FOff Tryd.prog 164 6 6 := ⟨fun _ _ _ => by kernel_rfl⟩
instance : FOff Tryd.prog 164 7 7 := ⟨fun _ _ _ => by kernel_rfl⟩
instance : FOff Tryd.prog 164 8 8 := ⟨fun _ _ _ => by kernel_rfl⟩
instance : FOff Tryd.prog 164 9 9 := ⟨fun _ _ _ => by kernel_rfl⟩
instance : FOff Tryd.prog 164 10 10 := ⟨fun _ _ _ => by kernel_rfl⟩
instance : FOff Tryd.prog 165 0 0 := ⟨fun _ _ _ => by kernel_rfl⟩
instance : FOff Tryd.prog 165 1 1 := ⟨fun _ _ _ => by kernel_rfl⟩
instance : FOff Tryd.prog 165 2 2 := ⟨fun _ _ _ => by kernel_rfl⟩
instance : FOff Tryd.prog 165 3 3 := ⟨fun _ _ _ => by kernel_rfl⟩
instance : FOff Tryd.prog 165 4 4 := ⟨fun _ _ _ => by kernel_rfl⟩
instance : FOff Tryd.prog 165 5 5 := ⟨fun _ _ _ => by kernel_rfl⟩
instance : FOff Tryd.prog 165 6 6 := ⟨fun _ _ _ => by kernel_rfl⟩
instance : FOff Tryd.prog 165 7 7 := ⟨fun _ _ _ => by kernel_rfl⟩
instance : FOff Tryd.prog 165 8 8 := ⟨fun _ _ _ => by kernel_rfl⟩
instance : FOff Tryd.prog 165 9 9 := ⟨fun _ _ _ => by kernel_rfl⟩
instance : FOff Tryd.prog 165 10 10 := ⟨fun _ _ _ => by kernel_rfl⟩
instance : ElemT Tryd.prog 2 1 8 := ⟨Tryd.t2, _, by kernel_rfl, rfl, rfl, rfl, rfl, by decide⟩
instance : ElemT Tryd.prog 3 1 8 := ⟨Tryd.t3, _, by kernel_rfl, rfl, rfl, rfl, rfl, by decide⟩
instance : ElemT Tryd.prog 4 1 1 := ⟨Tryd.t4, _, by kernel_rfl, rfl, rfl, rfl, rfl, by decide⟩
instance : ElemT Tryd.prog 5 1 1 := ⟨Tryd.t5, _, by kernel_rfl, rfl, rfl, rfl, rfl, by decide⟩
instance : ElemT Tryd.prog 6 1 1 := ⟨Tryd.t6, _, by kernel_rfl, rfl, rfl, rfl, rfl, by decide⟩
instance : ElemT Tryd.prog 7 4 24 := ⟨Tryd.t7, _, by kernel_rfl, rfl, rfl, rfl, rfl, by decide⟩
instance : ElemT Tryd.prog 8 4 24 := ⟨Tryd.t8, _, by kernel_rfl, rfl, rfl, rfl, rfl, by decide⟩
instance : ElemT Tryd.prog 9 1 16 := ⟨Tryd.t9, _, by kernel_rfl, rfl, rfl, rfl, rfl, by decide⟩
instance : ElemT Tryd.prog 10 1 16 := ⟨Tryd.t10, _, by kernel_rfl, rfl, rfl, rfl, rfl, by decide⟩
instance : ElemT Tryd.prog 11 1 16 := ⟨Tryd.t11, _, by kernel_rfl, rfl, rfl, rfl, rfl, by decide⟩
instance : ElemT Tryd.prog 12 1 8 := ⟨Tryd.t12, _, by kernel_rfl, rfl, rfl, rfl, rfl, by decide⟩
instance : ElemT Tryd.prog 13 2 24 := ⟨Tryd.t13, _, by kernel_rfl, rfl, rfl, rfl, rfl, by decide⟩
instance : ElemT Tryd.prog 14 2 24 := ⟨Tryd.t14, _, by kernel_rfl, rfl, rfl, rfl, rfl, by decide⟩
instance : ElemT Tryd.prog 15 1 8 := ⟨Tryd.t15, _, by kernel_rfl, rfl, rfl, rfl, rfl, by decide⟩
instance : ElemT Tryd.prog 16 1 8 := ⟨Tryd.t16, _, by kernel_rfl, rfl, rfl, rfl, rfl, by decide⟩
instance : ElemT Tryd.prog 17 1 8 := ⟨Tryd.t17, _, by kernel_rfl, rfl, rfl, rfl, rfl, by decide⟩
instance : ElemT Tryd.prog 18 1 8 := ⟨Tryd.t18, _, by kernel_rfl, rfl, rfl, rfl, rfl, by decide⟩
instance : ElemT Tryd.prog 19 1 8 := ⟨Tryd.t19, _, by kernel_rfl, rfl, rfl, rfl, rfl, by decide⟩
instance : ElemT Tryd.prog 21 1 4 := ⟨Tryd.t21, _, by kernel_rfl, rfl, rfl, rfl, rfl, by decide⟩
instance : ElemT Tryd.prog 23 7 56 := ⟨Tryd.t23, _, by kernel_rfl, rfl, rfl, rfl, rfl, by decide⟩
instance : ElemT Tryd.prog 24 7 56 := ⟨Tryd.t24, _, by kernel_rfl, rfl, rfl, rfl, rfl, by decide⟩
instance : ElemT Tryd.prog 25 1 8 := ⟨Tryd.t25, _, by kernel_rfl, rfl, rfl, rfl, rfl, by decide⟩
instance : ElemT Tryd.prog 31 1 24 := ⟨Tryd.t31, _, by kernel_rfl, rfl, rfl, rfl, rfl, by decide⟩
instance : ElemT Tryd.prog 37 1 24 := ⟨Tryd.t37, _, by kernel_rfl, rfl, rfl, rfl, rfl, by decide⟩
instance : ElemT Tryd.prog 38 1 24 := ⟨Tryd.t38, _, by kernel_rfl, rfl, rfl, rfl, rfl, by decide⟩
instance : ElemT Tryd.prog 39 10 128 := ⟨Tryd.t39, _, by kernel_rfl, rfl, rfl, rfl, rfl, by decide⟩
instance : ElemT Tryd.prog 40 10 128 := ⟨Tryd.t40, _, by kernel_rfl, rfl, rfl, rfl, rfl, by decide⟩
instance : ElemT Tryd.prog 49 1 24 := ⟨Tryd.t49, _, by kernel_rfl, rfl, rfl, rfl, rfl, by decide⟩
instance : ElemT Tryd.prog 51 7 56 := ⟨Tryd.t51, _, by kernel_rfl, rfl, rfl, rfl, rfl, by decide⟩
instance : ElemT Tryd.prog 52 7 56 := ⟨Tryd.t52, _, by kernel_rfl, rfl, rfl, rfl, rfl, by decide⟩
instance : ElemT Tryd.prog 53 3 48 := ⟨Tryd.t53, _, by kernel_rfl, rfl, rfl, rfl, rfl, by decide⟩
instance : ElemT Tryd.prog 55 7 112 := ⟨Tryd.t55, _, by kernel_rfl, rfl, rfl, rfl, rfl, by decide⟩
instance : ElemT Tryd.prog 61 6 48 := ⟨Tryd.t61, _, by kernel_rfl, rfl, rfl, rfl, rfl, by decide⟩
instance : ElemT Tryd.prog 65 1 4 := ⟨Tryd.t65, _, by kernel_rfl, rfl, rfl, rfl, rfl, by decide⟩
instance : ElemT Tryd.prog 66 3 16 := ⟨Tryd.t66, _, by kernel_rfl, rfl, rfl, rfl, rfl, by decide⟩
instance : ElemT Tryd.prog 67 3 16 := ⟨Tryd.t67, _, by kernel_rfl, rfl, rfl, rfl, rfl, by decide⟩
instance : ElemT Tryd.prog 68 1 24 := ⟨Tryd.t68, _, by kernel_rfl, rfl, rfl, rfl, rfl, by decide⟩
instance : ElemT Tryd.prog 69 1 8 := ⟨Tryd.t69, _, by kernel_rfl, rfl, rfl, rfl, rfl, by decide⟩
instance : ElemT Tryd.prog 70 2 24 := ⟨Tryd.t70, _, by kernel_rfl, rfl, rfl, rfl, rfl, by decide⟩
instance : ElemT Tryd.prog 71 2 24 := ⟨Tryd.t71, _, by kernel_rfl, rfl, rfl, rfl, rfl, by decide⟩
instance : ElemT Tryd.prog 72 12 152 := ⟨Tryd.t72, _, by kernel_rfl, rfl, rfl, rfl, rfl, by decide⟩
instance : ElemT Tryd.prog 73 12 152 := ⟨Tryd.t73, _, by kernel_rfl, rfl, rfl, rfl, rfl, by decide⟩
instance : ElemT Tryd.prog 84 1 8 := ⟨Tryd.t84, _, by kernel_rfl, rfl, rfl, rfl, rfl, by decide⟩
instance : ElemT Tryd.prog 85 2 32 := ⟨Tryd.t85, _, by kernel_rfl, rfl, rfl, rfl, rfl, by decide⟩
instance : ElemT Tryd.prog 86 2 32 := ⟨Tryd.t86, _, by kernel_rfl, rfl, rfl, rfl, rfl, by decide⟩
instance : ElemT Tryd.prog 98 3 16 := ⟨Tryd.t98, _, by kernel_rfl, rfl, rfl, rfl, rfl, by decide⟩
instance : ElemT Tryd.prog 99 3 16 := ⟨Tryd.t99, _, by kernel_rfl, rfl, rfl, rfl, rfl, by decide⟩
instance : ElemT Tryd.prog 102 15 120 := ⟨Tryd.t102, _, by kernel_rfl, rfl, rfl, rfl, rfl, by decide⟩
instance : ElemT Tryd.prog 103 15 120 := ⟨Tryd.t103, _, by kernel_rfl, rfl, rfl, rfl, rfl, by decide⟩
instance : ElemT Tryd.prog 109 1 8 := ⟨Tryd.t109, _, by kernel_rfl, rfl, rfl, rfl, rfl, by decide⟩
instance : ElemT Tryd.prog 117 1 8 := ⟨Tryd.t117, _, by kernel_rfl, rfl, rfl, rfl, rfl, by decide⟩
instance : ElemT Tryd.prog 120 1 24 := ⟨Tryd.t120, _, by kernel_rfl, rfl, rfl, rfl, rfl, by decide⟩
instance : ElemT Tryd.prog 125 1 8 := ⟨Tryd.t125, _, by kernel_rfl, rfl, rfl, rfl, rfl, by decide⟩
instance : ElemT Tryd.prog 131 3 24 := ⟨Tryd.t131, _, by kernel_rfl, rfl, rfl, rfl, rfl, by decide⟩
instance : ElemT Tryd.prog 132 3 24 := ⟨Tryd.t132, _, by kernel_rfl, rfl, rfl, rfl, rfl, by decide⟩
instance : ElemT Tryd.prog 134 1 8 := ⟨Tryd.t134, _, by kernel_rfl, rfl, rfl, rfl, rfl, by decide⟩
instance : ElemT Tryd.prog 145 1 24 := ⟨Tryd.t145, _, by kernel_rfl, rfl, rfl, rfl, rfl, by decide⟩
instance : ElemT Tryd.prog 148 2 2 := ⟨Tryd.t148, _, by kernel_rfl, rfl, rfl, rfl, rfl, by decide⟩
instance : ElemT Tryd.prog 149 2 2 := ⟨Tryd.t149, _, by kernel_rfl, rfl, rfl, rfl, rfl, by decide⟩
instance : ElemT Tryd.prog 150 32 32 := ⟨Tryd.t150, _, by kernel_rfl, rfl, rfl, rfl, rfl, by decide⟩
instance : ElemT Tryd.prog 153 4 40 := ⟨Tryd.t153, _, by kernel_rfl, rfl, rfl, rfl, rfl, by decide⟩
instance : ElemT Tryd.prog 154 4 40 := ⟨Tryd.t154, _, by kernel_rfl, rfl, rfl, rfl, rfl, by decide⟩
instance : ElemT Tryd.prog 159 1 1 := ⟨Tryd.t159, _, by kernel_rfl, rfl, rfl, rfl, rfl, by decide⟩
instance : ElemT Tryd.prog 160 1 1 := ⟨Tryd.t160, _, by kernel_rfl, rfl, rfl, rfl, rfl, by decide⟩
instance : ElemT Tryd.prog 162 1 4 := ⟨Tryd.t162, _, by kernel_rfl, rfl, rfl, rfl, rfl, by decide⟩
instance : ElemT Tryd.prog 163 1 4 := ⟨Tryd.t163, _, by kernel_rfl, rfl, rfl, rfl, rfl, by decide⟩
instance : ElemT Tryd.prog 164 11 48 := ⟨Tryd.t164, _, by kernel_rfl, rfl, rfl, rfl, rfl, by decide⟩
instance : ElemT Tryd.prog 165 11 48 := ⟨Tryd.t165, _, by kernel_rfl, rfl, rfl, rfl, rfl, by decide⟩
instance : ElemZ Tryd.prog 2 (.int .i64 0) 8 := ⟨by kernel_rfl, rfl⟩
instance : IntT Tryd.prog 2 .i64 := ⟨by kernel_rfl⟩
instance : ElemZ Tryd.prog 3 (.int .i64 0) 8 := ⟨by kernel_rfl, rfl⟩
instance : IntT Tryd.prog 3 .i64 := ⟨by kernel_rfl⟩
instance : ElemZ Tryd.prog 4 (.bool false) 1 := ⟨by kernel_rfl, rfl⟩
instance : BoolT Tryd.prog 4 := ⟨by kernel_rfl⟩
instance : ElemZ Tryd.prog 5 (.int .u8 0) 1 := ⟨by kernel_rfl, rfl⟩
instance : IntT Tryd.prog 5 .u8 := ⟨by kernel_rfl⟩
instance : ElemZ Tryd.prog 6 (.int .u8 0) 1 := ⟨by kernel_rfl, rfl⟩
instance : IntT Tryd.prog 6 .u8 := ⟨by kernel_rfl⟩
instance : AggT Tryd.prog 7 4 := ⟨⟨_, Tryd.underlying7, rfl⟩, by kernel_rfl⟩
instance : FldOne Tryd.prog 7 0 0 := ⟨_, _, Tryd.underlying7, rfl, rfl, inferInstanceAs (One Tryd.prog 2)⟩
instance : FldOne Tryd.prog 7 1 1 := ⟨_, _, Tryd.underlying7, rfl, rfl, inferInstanceAs (One Tryd.prog 3)⟩
instance : FldOne Tryd.prog 7 2 2 := ⟨_, _, Tryd.underlying7, rfl, rfl, inferInstanceAs (One Tryd.prog 4)⟩
instance : FldOne Tryd.prog 7 3 3 := ⟨_, _, Tryd.underlying7, rfl, rfl, inferInstanceAs (One Tryd.prog 6)⟩
instance : AggT Tryd.prog 8 4 := ⟨⟨_, Tryd.underlying8, rfl⟩, by kernel_rfl⟩
instance : FldOne Tryd.prog 8 0 0 := ⟨_, _, Tryd.underlying8, rfl, rfl, inferInstanceAs (One Tryd.prog 2)⟩
instance : FldOne Tryd.prog 8 1 1 := ⟨_, _, Tryd.underlying8, rfl, rfl, inferInstanceAs (One Tryd.prog 3)⟩
instance : FldOne Tryd.prog 8 2 2 := ⟨_, _, Tryd.underlying8, rfl, rfl, inferInstanceAs (One Tryd.prog 4)⟩
instance : FldOne Tryd.prog 8 3 3 := ⟨_, _, Tryd.underlying8, rfl, rfl, inferInstanceAs (One Tryd.prog 6)⟩
instance : ElemZ Tryd.prog 9 (.string ByteArray.empty) 16 := ⟨by kernel_rfl, rfl⟩
instance : ElemZ Tryd.prog 10 (.string ByteArray.empty) 16 := ⟨by kernel_rfl, rfl⟩
instance : ElemZ Tryd.prog 11 (.string ByteArray.empty) 16 := ⟨by kernel_rfl, rfl⟩
instance : ElemZ Tryd.prog 12 (.int .u64 0) 8 := ⟨by kernel_rfl, rfl⟩
instance : IntT Tryd.prog 12 .u64 := ⟨by kernel_rfl⟩
instance : AggT Tryd.prog 13 2 := ⟨⟨_, Tryd.underlying13, rfl⟩, by kernel_rfl⟩
instance : FldOne Tryd.prog 13 0 0 := ⟨_, _, Tryd.underlying13, rfl, rfl, inferInstanceAs (One Tryd.prog 9)⟩
instance : FldOne Tryd.prog 13 1 1 := ⟨_, _, Tryd.underlying13, rfl, rfl, inferInstanceAs (One Tryd.prog 12)⟩
instance : AggT Tryd.prog 14 2 := ⟨⟨_, Tryd.underlying14, rfl⟩, by kernel_rfl⟩
instance : FldOne Tryd.prog 14 0 0 := ⟨_, _, Tryd.underlying14, rfl, rfl, inferInstanceAs (One Tryd.prog 9)⟩
instance : FldOne Tryd.prog 14 1 1 := ⟨_, _, Tryd.underlying14, rfl, rfl, inferInstanceAs (One Tryd.prog 12)⟩
instance : ElemZ Tryd.prog 15 (.pointer none) 8 := ⟨by kernel_rfl, rfl⟩
instance : ElemZ Tryd.prog 16 (.pointer none) 8 := ⟨by kernel_rfl, rfl⟩
instance : ElemZ Tryd.prog 17 (.pointer none) 8 := ⟨by kernel_rfl, rfl⟩
instance : AggT Tryd.prog 18 1 := ⟨⟨_, Tryd.underlying18, rfl⟩, by kernel_rfl⟩
instance : FldOne Tryd.prog 18 0 0 := ⟨_, _, Tryd.underlying18, rfl, rfl, inferInstanceAs (One Tryd.prog 17)⟩
instance : AggT Tryd.prog 19 1 := ⟨⟨_, Tryd.underlying19, rfl⟩, by kernel_rfl⟩
instance : FldOne Tryd.prog 19 0 0 := ⟨_, _, Tryd.underlying19, rfl, rfl, inferInstanceAs (One Tryd.prog 17)⟩
instance : ElemZ Tryd.prog 21 (.int .i32 0) 4 := ⟨by kernel_rfl, rfl⟩
instance : IntT Tryd.prog 21 .i32 := ⟨by kernel_rfl⟩
instance : AggT Tryd.prog 23 7 := ⟨⟨_, Tryd.underlying23, rfl⟩, by kernel_rfl⟩
instance : EqT Tryd.prog 23 [.i .i64, .i .i64, .i .i64, .i .i64, .i .i64, .i .i64, .i .i64] := ⟨by kernel_rfl, by kernel_rfl, by kernel_rfl, by kernel_rfl⟩
instance : FldOne Tryd.prog 23 0 0 := ⟨_, _, Tryd.underlying23, rfl, rfl, inferInstanceAs (One Tryd.prog 3)⟩
instance : FldOne Tryd.prog 23 1 1 := ⟨_, _, Tryd.underlying23, rfl, rfl, inferInstanceAs (One Tryd.prog 3)⟩
instance : FldOne Tryd.prog 23 2 2 := ⟨_, _, Tryd.underlying23, rfl, rfl, inferInstanceAs (One Tryd.prog 3)⟩
instance : FldOne Tryd.prog 23 3 3 := ⟨_, _, Tryd.underlying23, rfl, rfl, inferInstanceAs (One Tryd.prog 3)⟩
instance : FldOne Tryd.prog 23 4 4 := ⟨_, _, Tryd.underlying23, rfl, rfl, inferInstanceAs (One Tryd.prog 3)⟩
instance : FldOne Tryd.prog 23 5 5 := ⟨_, _, Tryd.underlying23, rfl, rfl, inferInstanceAs (One Tryd.prog 3)⟩
instance : FldOne Tryd.prog 23 6 6 := ⟨_, _, Tryd.underlying23, rfl, rfl, inferInstanceAs (One Tryd.prog 3)⟩
instance : AggT Tryd.prog 24 7 := ⟨⟨_, Tryd.underlying24, rfl⟩, by kernel_rfl⟩
instance : EqT Tryd.prog 24 [.i .i64, .i .i64, .i .i64, .i .i64, .i .i64, .i .i64, .i .i64] := ⟨by kernel_rfl, by kernel_rfl, by kernel_rfl, by kernel_rfl⟩
instance : FldOne Tryd.prog 24 0 0 := ⟨_, _, Tryd.underlying24, rfl, rfl, inferInstanceAs (One Tryd.prog 3)⟩
instance : FldOne Tryd.prog 24 1 1 := ⟨_, _, Tryd.underlying24, rfl, rfl, inferInstanceAs (One Tryd.prog 3)⟩
instance : FldOne Tryd.prog 24 2 2 := ⟨_, _, Tryd.underlying24, rfl, rfl, inferInstanceAs (One Tryd.prog 3)⟩
instance : FldOne Tryd.prog 24 3 3 := ⟨_, _, Tryd.underlying24, rfl, rfl, inferInstanceAs (One Tryd.prog 3)⟩
instance : FldOne Tryd.prog 24 4 4 := ⟨_, _, Tryd.underlying24, rfl, rfl, inferInstanceAs (One Tryd.prog 3)⟩
instance : FldOne Tryd.prog 24 5 5 := ⟨_, _, Tryd.underlying24, rfl, rfl, inferInstanceAs (One Tryd.prog 3)⟩
instance : FldOne Tryd.prog 24 6 6 := ⟨_, _, Tryd.underlying24, rfl, rfl, inferInstanceAs (One Tryd.prog 3)⟩
instance : ElemZ Tryd.prog 25 (.int .i64 0) 8 := ⟨by kernel_rfl, rfl⟩
instance : IntT Tryd.prog 25 .i64 := ⟨by kernel_rfl⟩
instance : ElemZ Tryd.prog 31 (.slice none 0 0) 24 := ⟨by kernel_rfl, rfl⟩
instance : ElemZ Tryd.prog 37 (.slice none 0 0) 24 := ⟨by kernel_rfl, rfl⟩
instance : ElemZ Tryd.prog 38 (.slice none 0 0) 24 := ⟨by kernel_rfl, rfl⟩
instance : AggT Tryd.prog 39 10 := ⟨⟨_, Tryd.underlying39, rfl⟩, by kernel_rfl⟩
instance : FldOne Tryd.prog 39 1 7 := ⟨_, _, Tryd.underlying39, rfl, rfl, inferInstanceAs (One Tryd.prog 37)⟩
instance : FldOne Tryd.prog 39 2 8 := ⟨_, _, Tryd.underlying39, rfl, rfl, inferInstanceAs (One Tryd.prog 38)⟩
instance : FldOne Tryd.prog 39 3 9 := ⟨_, _, Tryd.underlying39, rfl, rfl, inferInstanceAs (One Tryd.prog 31)⟩
instance : AggT Tryd.prog 40 10 := ⟨⟨_, Tryd.underlying40, rfl⟩, by kernel_rfl⟩
instance : FldOne Tryd.prog 40 1 7 := ⟨_, _, Tryd.underlying40, rfl, rfl, inferInstanceAs (One Tryd.prog 37)⟩
instance : FldOne Tryd.prog 40 2 8 := ⟨_, _, Tryd.underlying40, rfl, rfl, inferInstanceAs (One Tryd.prog 38)⟩
instance : FldOne Tryd.prog 40 3 9 := ⟨_, _, Tryd.underlying40, rfl, rfl, inferInstanceAs (One Tryd.prog 31)⟩
instance : ElemZ Tryd.prog 49 (.slice none 0 0) 24 := ⟨by kernel_rfl, rfl⟩
instance : ArrT Tryd.prog 51 7 3 1 := ⟨by kernel_rfl, fun _ => by kernel_rfl⟩
instance : AggT Tryd.prog 51 7 := ⟨⟨_, Tryd.underlying51, rfl⟩, by kernel_rfl⟩
instance : ArrT Tryd.prog 52 7 3 1 := ⟨by kernel_rfl, fun _ => by kernel_rfl⟩
instance : AggT Tryd.prog 52 7 := ⟨⟨_, Tryd.underlying52, rfl⟩, by kernel_rfl⟩
instance : ArrT Tryd.prog 53 3 9 1 := ⟨by kernel_rfl, fun _ => by kernel_rfl⟩
instance : AggT Tryd.prog 53 3 := ⟨⟨_, Tryd.underlying53, rfl⟩, by kernel_rfl⟩
instance : ArrT Tryd.prog 55 7 9 1 := ⟨by kernel_rfl, fun _ => by kernel_rfl⟩
instance : AggT Tryd.prog 55 7 := ⟨⟨_, Tryd.underlying55, rfl⟩, by kernel_rfl⟩
instance : ArrT Tryd.prog 61 6 3 1 := ⟨by kernel_rfl, fun _ => by kernel_rfl⟩
instance : AggT Tryd.prog 61 6 := ⟨⟨_, Tryd.underlying61, rfl⟩, by kernel_rfl⟩
instance : ElemZ Tryd.prog 65 (.int .u32 0) 4 := ⟨by kernel_rfl, rfl⟩
instance : IntT Tryd.prog 65 .u32 := ⟨by kernel_rfl⟩
instance : AggT Tryd.prog 66 3 := ⟨⟨_, Tryd.underlying66, rfl⟩, by kernel_rfl⟩
instance : EqT Tryd.prog 66 [.i .i64, .i .u32, .i .u32] := ⟨by kernel_rfl, by kernel_rfl, by kernel_rfl, by kernel_rfl⟩
instance : FldOne Tryd.prog 66 0 0 := ⟨_, _, Tryd.underlying66, rfl, rfl, inferInstanceAs (One Tryd.prog 3)⟩
instance : FldOne Tryd.prog 66 1 1 := ⟨_, _, Tryd.underlying66, rfl, rfl, inferInstanceAs (One Tryd.prog 65)⟩
instance : FldOne Tryd.prog 66 2 2 := ⟨_, _, Tryd.underlying66, rfl, rfl, inferInstanceAs (One Tryd.prog 65)⟩
instance : AggT Tryd.prog 67 3 := ⟨⟨_, Tryd.underlying67, rfl⟩, by kernel_rfl⟩
instance : EqT Tryd.prog 67 [.i .i64, .i .u32, .i .u32] := ⟨by kernel_rfl, by kernel_rfl, by kernel_rfl, by kernel_rfl⟩
instance : FldOne Tryd.prog 67 0 0 := ⟨_, _, Tryd.underlying67, rfl, rfl, inferInstanceAs (One Tryd.prog 3)⟩
instance : FldOne Tryd.prog 67 1 1 := ⟨_, _, Tryd.underlying67, rfl, rfl, inferInstanceAs (One Tryd.prog 65)⟩
instance : FldOne Tryd.prog 67 2 2 := ⟨_, _, Tryd.underlying67, rfl, rfl, inferInstanceAs (One Tryd.prog 65)⟩
instance : ElemZ Tryd.prog 68 (.slice none 0 0) 24 := ⟨by kernel_rfl, rfl⟩
instance : ElemZ Tryd.prog 69 (.pointer none) 8 := ⟨by kernel_rfl, rfl⟩
instance : AggT Tryd.prog 70 2 := ⟨⟨_, Tryd.underlying70, rfl⟩, by kernel_rfl⟩
instance : EqT Tryd.prog 70 [.s, .i .i64] := ⟨by kernel_rfl, by kernel_rfl, by kernel_rfl, by kernel_rfl⟩
instance : FldOne Tryd.prog 70 0 0 := ⟨_, _, Tryd.underlying70, rfl, rfl, inferInstanceAs (One Tryd.prog 9)⟩
instance : FldOne Tryd.prog 70 1 1 := ⟨_, _, Tryd.underlying70, rfl, rfl, inferInstanceAs (One Tryd.prog 3)⟩
instance : AggT Tryd.prog 71 2 := ⟨⟨_, Tryd.underlying71, rfl⟩, by kernel_rfl⟩
instance : EqT Tryd.prog 71 [.s, .i .i64] := ⟨by kernel_rfl, by kernel_rfl, by kernel_rfl, by kernel_rfl⟩
instance : FldOne Tryd.prog 71 0 0 := ⟨_, _, Tryd.underlying71, rfl, rfl, inferInstanceAs (One Tryd.prog 9)⟩
instance : FldOne Tryd.prog 71 1 1 := ⟨_, _, Tryd.underlying71, rfl, rfl, inferInstanceAs (One Tryd.prog 3)⟩
instance : AggT Tryd.prog 72 12 := ⟨⟨_, Tryd.underlying72, rfl⟩, by kernel_rfl⟩
instance : AggT Tryd.prog 73 12 := ⟨⟨_, Tryd.underlying73, rfl⟩, by kernel_rfl⟩
instance : ElemZ Tryd.prog 84 (.pointer none) 8 := ⟨by kernel_rfl, rfl⟩
instance : AggT Tryd.prog 85 2 := ⟨⟨_, Tryd.underlying85, rfl⟩, by kernel_rfl⟩
instance : FldOne Tryd.prog 85 0 0 := ⟨_, _, Tryd.underlying85, rfl, rfl, inferInstanceAs (One Tryd.prog 84)⟩
instance : FldOne Tryd.prog 85 1 1 := ⟨_, _, Tryd.underlying85, rfl, rfl, inferInstanceAs (One Tryd.prog 31)⟩
instance : AggT Tryd.prog 86 2 := ⟨⟨_, Tryd.underlying86, rfl⟩, by kernel_rfl⟩
instance : FldOne Tryd.prog 86 0 0 := ⟨_, _, Tryd.underlying86, rfl, rfl, inferInstanceAs (One Tryd.prog 84)⟩
instance : FldOne Tryd.prog 86 1 1 := ⟨_, _, Tryd.underlying86, rfl, rfl, inferInstanceAs (One Tryd.prog 31)⟩
instance : AggT Tryd.prog 98 3 := ⟨⟨_, Tryd.underlying98, rfl⟩, by kernel_rfl⟩
instance : EqT Tryd.prog 98 [.i .i64, .i .u32, .i .u32] := ⟨by kernel_rfl, by kernel_rfl, by kernel_rfl, by kernel_rfl⟩
instance : FldOne Tryd.prog 98 0 0 := ⟨_, _, Tryd.underlying98, rfl, rfl, inferInstanceAs (One Tryd.prog 3)⟩
instance : FldOne Tryd.prog 98 1 1 := ⟨_, _, Tryd.underlying98, rfl, rfl, inferInstanceAs (One Tryd.prog 65)⟩
instance : FldOne Tryd.prog 98 2 2 := ⟨_, _, Tryd.underlying98, rfl, rfl, inferInstanceAs (One Tryd.prog 65)⟩
instance : AggT Tryd.prog 99 3 := ⟨⟨_, Tryd.underlying99, rfl⟩, by kernel_rfl⟩
instance : EqT Tryd.prog 99 [.i .i64, .i .u32, .i .u32] := ⟨by kernel_rfl, by kernel_rfl, by kernel_rfl, by kernel_rfl⟩
instance : FldOne Tryd.prog 99 0 0 := ⟨_, _, Tryd.underlying99, rfl, rfl, inferInstanceAs (One Tryd.prog 3)⟩
instance : FldOne Tryd.prog 99 1 1 := ⟨_, _, Tryd.underlying99, rfl, rfl, inferInstanceAs (One Tryd.prog 65)⟩
instance : FldOne Tryd.prog 99 2 2 := ⟨_, _, Tryd.underlying99, rfl, rfl, inferInstanceAs (One Tryd.prog 65)⟩
instance : AggT Tryd.prog 102 15 := ⟨⟨_, Tryd.underlying102, rfl⟩, by kernel_rfl⟩
instance : FldOne Tryd.prog 102 1 7 := ⟨_, _, Tryd.underlying102, rfl, rfl, inferInstanceAs (One Tryd.prog 3)⟩
instance : FldOne Tryd.prog 102 2 8 := ⟨_, _, Tryd.underlying102, rfl, rfl, inferInstanceAs (One Tryd.prog 3)⟩
instance : FldOne Tryd.prog 102 3 9 := ⟨_, _, Tryd.underlying102, rfl, rfl, inferInstanceAs (One Tryd.prog 3)⟩
instance : FldOne Tryd.prog 102 4 10 := ⟨_, _, Tryd.underlying102, rfl, rfl, inferInstanceAs (One Tryd.prog 3)⟩
instance : FldOne Tryd.prog 102 5 11 := ⟨_, _, Tryd.underlying102, rfl, rfl, inferInstanceAs (One Tryd.prog 3)⟩
instance : FldOne Tryd.prog 102 6 12 := ⟨_, _, Tryd.underlying102, rfl, rfl, inferInstanceAs (One Tryd.prog 3)⟩
instance : FldOne Tryd.prog 102 7 13 := ⟨_, _, Tryd.underlying102, rfl, rfl, inferInstanceAs (One Tryd.prog 3)⟩
instance : FldOne Tryd.prog 102 8 14 := ⟨_, _, Tryd.underlying102, rfl, rfl, inferInstanceAs (One Tryd.prog 3)⟩
instance : AggT Tryd.prog 103 15 := ⟨⟨_, Tryd.underlying103, rfl⟩, by kernel_rfl⟩
instance : FldOne Tryd.prog 103 1 7 := ⟨_, _, Tryd.underlying103, rfl, rfl, inferInstanceAs (One Tryd.prog 3)⟩
instance : FldOne Tryd.prog 103 2 8 := ⟨_, _, Tryd.underlying103, rfl, rfl, inferInstanceAs (One Tryd.prog 3)⟩
instance : FldOne Tryd.prog 103 3 9 := ⟨_, _, Tryd.underlying103, rfl, rfl, inferInstanceAs (One Tryd.prog 3)⟩
instance : FldOne Tryd.prog 103 4 10 := ⟨_, _, Tryd.underlying103, rfl, rfl, inferInstanceAs (One Tryd.prog 3)⟩
instance : FldOne Tryd.prog 103 5 11 := ⟨_, _, Tryd.underlying103, rfl, rfl, inferInstanceAs (One Tryd.prog 3)⟩
instance : FldOne Tryd.prog 103 6 12 := ⟨_, _, Tryd.underlying103, rfl, rfl, inferInstanceAs (One Tryd.prog 3)⟩
instance : FldOne Tryd.prog 103 7 13 := ⟨_, _, Tryd.underlying103, rfl, rfl, inferInstanceAs (One Tryd.prog 3)⟩
instance : FldOne Tryd.prog 103 8 14 := ⟨_, _, Tryd.underlying103, rfl, rfl, inferInstanceAs (One Tryd.prog 3)⟩
instance : ElemZ Tryd.prog 109 (.int .u64 0) 8 := ⟨by kernel_rfl, rfl⟩
instance : IntT Tryd.prog 109 .u64 := ⟨by kernel_rfl⟩
instance : ElemZ Tryd.prog 117 (.int .u64 0) 8 := ⟨by kernel_rfl, rfl⟩
instance : IntT Tryd.prog 117 .u64 := ⟨by kernel_rfl⟩
instance : ElemZ Tryd.prog 120 (.slice none 0 0) 24 := ⟨by kernel_rfl, rfl⟩
instance : ElemZ Tryd.prog 125 (.pointer none) 8 := ⟨by kernel_rfl, rfl⟩
instance : AggT Tryd.prog 131 3 := ⟨⟨_, Tryd.underlying131, rfl⟩, by kernel_rfl⟩
instance : EqT Tryd.prog 131 [.i .i64, .i .i64, .i .i64] := ⟨by kernel_rfl, by kernel_rfl, by kernel_rfl, by kernel_rfl⟩
instance : FldOne Tryd.prog 131 0 0 := ⟨_, _, Tryd.underlying131, rfl, rfl, inferInstanceAs (One Tryd.prog 3)⟩
instance : FldOne Tryd.prog 131 1 1 := ⟨_, _, Tryd.underlying131, rfl, rfl, inferInstanceAs (One Tryd.prog 3)⟩
instance : FldOne Tryd.prog 131 2 2 := ⟨_, _, Tryd.underlying131, rfl, rfl, inferInstanceAs (One Tryd.prog 3)⟩
instance : AggT Tryd.prog 132 3 := ⟨⟨_, Tryd.underlying132, rfl⟩, by kernel_rfl⟩
instance : EqT Tryd.prog 132 [.i .i64, .i .i64, .i .i64] := ⟨by kernel_rfl, by kernel_rfl, by kernel_rfl, by kernel_rfl⟩
instance : FldOne Tryd.prog 132 0 0 := ⟨_, _, Tryd.underlying132, rfl, rfl, inferInstanceAs (One Tryd.prog 3)⟩
instance : FldOne Tryd.prog 132 1 1 := ⟨_, _, Tryd.underlying132, rfl, rfl, inferInstanceAs (One Tryd.prog 3)⟩
instance : FldOne Tryd.prog 132 2 2 := ⟨_, _, Tryd.underlying132, rfl, rfl, inferInstanceAs (One Tryd.prog 3)⟩
instance : ElemZ Tryd.prog 134 (.pointer none) 8 := ⟨by kernel_rfl, rfl⟩
instance : ElemZ Tryd.prog 145 (.slice none 0 0) 24 := ⟨by kernel_rfl, rfl⟩
instance : ArrT Tryd.prog 147 256 5 1 := ⟨by kernel_rfl, fun _ => by kernel_rfl⟩
instance : AggT Tryd.prog 147 256 := ⟨⟨_, Tryd.underlying147, rfl⟩, by kernel_rfl⟩
instance : AggT Tryd.prog 148 2 := ⟨⟨_, Tryd.underlying148, rfl⟩, by kernel_rfl⟩
instance : EqT Tryd.prog 148 [.i .u8, .i .u8] := ⟨by kernel_rfl, by kernel_rfl, by kernel_rfl, by kernel_rfl⟩
instance : FldOne Tryd.prog 148 0 0 := ⟨_, _, Tryd.underlying148, rfl, rfl, inferInstanceAs (One Tryd.prog 5)⟩
instance : FldOne Tryd.prog 148 1 1 := ⟨_, _, Tryd.underlying148, rfl, rfl, inferInstanceAs (One Tryd.prog 5)⟩
instance : AggT Tryd.prog 149 2 := ⟨⟨_, Tryd.underlying149, rfl⟩, by kernel_rfl⟩
instance : EqT Tryd.prog 149 [.i .u8, .i .u8] := ⟨by kernel_rfl, by kernel_rfl, by kernel_rfl, by kernel_rfl⟩
instance : FldOne Tryd.prog 149 0 0 := ⟨_, _, Tryd.underlying149, rfl, rfl, inferInstanceAs (One Tryd.prog 5)⟩
instance : FldOne Tryd.prog 149 1 1 := ⟨_, _, Tryd.underlying149, rfl, rfl, inferInstanceAs (One Tryd.prog 5)⟩
instance : ArrT Tryd.prog 150 16 149 2 := ⟨by kernel_rfl, fun _ => by kernel_rfl⟩
instance : AggT Tryd.prog 150 32 := ⟨⟨_, Tryd.underlying150, rfl⟩, by kernel_rfl⟩
instance : AggT Tryd.prog 153 4 := ⟨⟨_, Tryd.underlying153, rfl⟩, by kernel_rfl⟩
instance : FldOne Tryd.prog 153 0 0 := ⟨_, _, Tryd.underlying153, rfl, rfl, inferInstanceAs (One Tryd.prog 17)⟩
instance : FldOne Tryd.prog 153 1 1 := ⟨_, _, Tryd.underlying153, rfl, rfl, inferInstanceAs (One Tryd.prog 17)⟩
instance : FldOne Tryd.prog 153 2 2 := ⟨_, _, Tryd.underlying153, rfl, rfl, inferInstanceAs (One Tryd.prog 17)⟩
instance : FldOne Tryd.prog 153 3 3 := ⟨_, _, Tryd.underlying153, rfl, rfl, inferInstanceAs (One Tryd.prog 9)⟩
instance : AggT Tryd.prog 154 4 := ⟨⟨_, Tryd.underlying154, rfl⟩, by kernel_rfl⟩
instance : FldOne Tryd.prog 154 0 0 := ⟨_, _, Tryd.underlying154, rfl, rfl, inferInstanceAs (One Tryd.prog 17)⟩
instance : FldOne Tryd.prog 154 1 1 := ⟨_, _, Tryd.underlying154, rfl, rfl, inferInstanceAs (One Tryd.prog 17)⟩
instance : FldOne Tryd.prog 154 2 2 := ⟨_, _, Tryd.underlying154, rfl, rfl, inferInstanceAs (One Tryd.prog 17)⟩
instance : FldOne Tryd.prog 154 3 3 := ⟨_, _, Tryd.underlying154, rfl, rfl, inferInstanceAs (One Tryd.prog 9)⟩
instance : ElemZ Tryd.prog 159 (.int .u8 0) 1 := ⟨by kernel_rfl, rfl⟩
instance : IntT Tryd.prog 159 .u8 := ⟨by kernel_rfl⟩
instance : ElemZ Tryd.prog 160 (.int .u8 0) 1 := ⟨by kernel_rfl, rfl⟩
instance : IntT Tryd.prog 160 .u8 := ⟨by kernel_rfl⟩
instance : ElemZ Tryd.prog 162 (.int .i32 0) 4 := ⟨by kernel_rfl, rfl⟩
instance : IntT Tryd.prog 162 .i32 := ⟨by kernel_rfl⟩
instance : ElemZ Tryd.prog 163 (.int .i32 0) 4 := ⟨by kernel_rfl, rfl⟩
instance : IntT Tryd.prog 163 .i32 := ⟨by kernel_rfl⟩
instance : AggT Tryd.prog 164 11 := ⟨⟨_, Tryd.underlying164, rfl⟩, by kernel_rfl⟩
instance : FldOne Tryd.prog 164 0 0 := ⟨_, _, Tryd.underlying164, rfl, rfl, inferInstanceAs (One Tryd.prog 12)⟩
instance : FldOne Tryd.prog 164 1 1 := ⟨_, _, Tryd.underlying164, rfl, rfl, inferInstanceAs (One Tryd.prog 12)⟩
instance : FldOne Tryd.prog 164 2 2 := ⟨_, _, Tryd.underlying164, rfl, rfl, inferInstanceAs (One Tryd.prog 65)⟩
instance : FldOne Tryd.prog 164 3 3 := ⟨_, _, Tryd.underlying164, rfl, rfl, inferInstanceAs (One Tryd.prog 159)⟩
instance : FldOne Tryd.prog 164 4 4 := ⟨_, _, Tryd.underlying164, rfl, rfl, inferInstanceAs (One Tryd.prog 5)⟩
instance : FldOne Tryd.prog 164 5 5 := ⟨_, _, Tryd.underlying164, rfl, rfl, inferInstanceAs (One Tryd.prog 5)⟩
instance : FldOne Tryd.prog 164 6 6 := ⟨_, _, Tryd.underlying164, rfl, rfl, inferInstanceAs (One Tryd.prog 160)⟩
instance : FldOne Tryd.prog 164 7 7 := ⟨_, _, Tryd.underlying164, rfl, rfl, inferInstanceAs (One Tryd.prog 161)⟩
instance : FldOne Tryd.prog 164 8 8 := ⟨_, _, Tryd.underlying164, rfl, rfl, inferInstanceAs (One Tryd.prog 125)⟩
instance : FldOne Tryd.prog 164 9 9 := ⟨_, _, Tryd.underlying164, rfl, rfl, inferInstanceAs (One Tryd.prog 162)⟩
instance : FldOne Tryd.prog 164 10 10 := ⟨_, _, Tryd.underlying164, rfl, rfl, inferInstanceAs (One Tryd.prog 163)⟩
instance : AggT Tryd.prog 165 11 := ⟨⟨_, Tryd.underlying165, rfl⟩, by kernel_rfl⟩
instance : FldOne Tryd.prog 165 0 0 := ⟨_, _, Tryd.underlying165, rfl, rfl, inferInstanceAs (One Tryd.prog 12)⟩
instance : FldOne Tryd.prog 165 1 1 := ⟨_, _, Tryd.underlying165, rfl, rfl, inferInstanceAs (One Tryd.prog 12)⟩
instance : FldOne Tryd.prog 165 2 2 := ⟨_, _, Tryd.underlying165, rfl, rfl, inferInstanceAs (One Tryd.prog 65)⟩
instance : FldOne Tryd.prog 165 3 3 := ⟨_, _, Tryd.underlying165, rfl, rfl, inferInstanceAs (One Tryd.prog 159)⟩
instance : FldOne Tryd.prog 165 4 4 := ⟨_, _, Tryd.underlying165, rfl, rfl, inferInstanceAs (One Tryd.prog 5)⟩
instance : FldOne Tryd.prog 165 5 5 := ⟨_, _, Tryd.underlying165, rfl, rfl, inferInstanceAs (One Tryd.prog 5)⟩
instance : FldOne Tryd.prog 165 6 6 := ⟨_, _, Tryd.underlying165, rfl, rfl, inferInstanceAs (One Tryd.prog 160)⟩
instance : FldOne Tryd.prog 165 7 7 := ⟨_, _, Tryd.underlying165, rfl, rfl, inferInstanceAs (One Tryd.prog 161)⟩
instance : FldOne Tryd.prog 165 8 8 := ⟨_, _, Tryd.underlying165, rfl, rfl, inferInstanceAs (One Tryd.prog 125)⟩
instance : FldOne Tryd.prog 165 9 9 := ⟨_, _, Tryd.underlying165, rfl, rfl, inferInstanceAs (One Tryd.prog 162)⟩
instance : FldOne Tryd.prog 165 10 10 := ⟨_, _, Tryd.underlying165, rfl, rfl, inferInstanceAs (One Tryd.prog 163)⟩
instance : HasBody Tryd.prog 3 := ⟨fun _ _ => by kernel_rfl⟩
instance : HasBody Tryd.prog 4 := ⟨fun _ _ => by kernel_rfl⟩
instance : HasBody Tryd.prog 5 := ⟨fun _ _ => by kernel_rfl⟩
instance : HasBody Tryd.prog 6 := ⟨fun _ _ => by kernel_rfl⟩
instance : HasBody Tryd.prog 7 := ⟨fun _ _ => by kernel_rfl⟩
instance : HasBody Tryd.prog 8 := ⟨fun _ _ => by kernel_rfl⟩
instance : HasBody Tryd.prog 9 := ⟨fun _ _ => by kernel_rfl⟩
instance : HasBody Tryd.prog 10 := ⟨fun _ _ => by kernel_rfl⟩
instance : HasBody Tryd.prog 11 := ⟨fun _ _ => by kernel_rfl⟩
instance : HasBody Tryd.prog 12 := ⟨fun _ _ => by kernel_rfl⟩
instance : HasBody Tryd.prog 13 := ⟨fun _ _ => by kernel_rfl⟩
instance : HasBody Tryd.prog 14 := ⟨fun _ _ => by kernel_rfl⟩
instance : HasBody Tryd.prog 15 := ⟨fun _ _ => by kernel_rfl⟩
instance : HasBody Tryd.prog 16 := ⟨fun _ _ => by kernel_rfl⟩
instance : HasBody Tryd.prog 17 := ⟨fun _ _ => by kernel_rfl⟩
instance : HasBody Tryd.prog 18 := ⟨fun _ _ => by kernel_rfl⟩
instance : HasBody Tryd.prog 19 := ⟨fun _ _ => by kernel_rfl⟩
instance : HasBody Tryd.prog 20 := ⟨fun _ _ => by kernel_rfl⟩
instance : HasBody Tryd.prog 21 := ⟨fun _ _ => by kernel_rfl⟩
instance : HasBody Tryd.prog 22 := ⟨fun _ _ => by kernel_rfl⟩
instance : HasBody Tryd.prog 23 := ⟨fun _ _ => by kernel_rfl⟩
instance : HasBody Tryd.prog 24 := ⟨fun _ _ => by kernel_rfl⟩
instance : HasBody Tryd.prog 25 := ⟨fun _ _ => by kernel_rfl⟩
instance : HasBody Tryd.prog 26 := ⟨fun _ _ => by kernel_rfl⟩
instance : HasBody Tryd.prog 27 := ⟨fun _ _ => by kernel_rfl⟩
instance : HasBody Tryd.prog 28 := ⟨fun _ _ => by kernel_rfl⟩
instance : HasBody Tryd.prog 29 := ⟨fun _ _ => by kernel_rfl⟩
instance : HasBody Tryd.prog 30 := ⟨fun _ _ => by kernel_rfl⟩
instance : HasBody Tryd.prog 31 := ⟨fun _ _ => by kernel_rfl⟩
instance : HasBody Tryd.prog 32 := ⟨fun _ _ => by kernel_rfl⟩
instance : HasBody Tryd.prog 33 := ⟨fun _ _ => by kernel_rfl⟩
instance : HasBody Tryd.prog 34 := ⟨fun _ _ => by kernel_rfl⟩
instance : HasBody Tryd.prog 35 := ⟨fun _ _ => by kernel_rfl⟩
instance : HasBody Tryd.prog 36 := ⟨fun _ _ => by kernel_rfl⟩
instance : HasBody Tryd.prog 37 := ⟨fun _ _ => by kernel_rfl⟩
instance : HasBody Tryd.prog 38 := ⟨fun _ _ => by kernel_rfl⟩
instance : HasBody Tryd.prog 39 := ⟨fun _ _ => by kernel_rfl⟩
instance : HasBody Tryd.prog 40 := ⟨fun _ _ => by kernel_rfl⟩
instance : HasBody Tryd.prog 41 := ⟨fun _ _ => by kernel_rfl⟩
instance : HasBody Tryd.prog 42 := ⟨fun _ _ => by kernel_rfl⟩
instance : HasBody Tryd.prog 43 := ⟨fun _ _ => by kernel_rfl⟩
instance : HasBody Tryd.prog 44 := ⟨fun _ _ => by kernel_rfl⟩
instance : HasBody Tryd.prog 45 := ⟨fun _ _ => by kernel_rfl⟩
instance : HasBody Tryd.prog 46 := ⟨fun _ _ => by kernel_rfl⟩
instance : HasBody Tryd.prog 47 := ⟨fun _ _ => by kernel_rfl⟩
instance : HasBody Tryd.prog 48 := ⟨fun _ _ => by kernel_rfl⟩
instance : HasBody Tryd.prog 49 := ⟨fun _ _ => by kernel_rfl⟩
instance : HasBody Tryd.prog 50 := ⟨fun _ _ => by kernel_rfl⟩
instance : HasBody Tryd.prog 51 := ⟨fun _ _ => by kernel_rfl⟩
instance : HasBody Tryd.prog 52 := ⟨fun _ _ => by kernel_rfl⟩
instance : HasBody Tryd.prog 53 := ⟨fun _ _ => by kernel_rfl⟩
instance : HasBody Tryd.prog 54 := ⟨fun _ _ => by kernel_rfl⟩
instance : HasBody Tryd.prog 55 := ⟨fun _ _ => by kernel_rfl⟩
instance : HasBody Tryd.prog 56 := ⟨fun _ _ => by kernel_rfl⟩
instance : HasBody Tryd.prog 57 := ⟨fun _ _ => by kernel_rfl⟩
instance : HasBody Tryd.prog 58 := ⟨fun _ _ => by kernel_rfl⟩
instance : HasBody Tryd.prog 59 := ⟨fun _ _ => by kernel_rfl⟩
instance : HasBody Tryd.prog 60 := ⟨fun _ _ => by kernel_rfl⟩
instance : HasBody Tryd.prog 61 := ⟨fun _ _ => by kernel_rfl⟩
instance : HasBody Tryd.prog 62 := ⟨fun _ _ => by kernel_rfl⟩
instance : HasBody Tryd.prog 63 := ⟨fun _ _ => by kernel_rfl⟩
instance : HasBody Tryd.prog 64 := ⟨fun _ _ => by kernel_rfl⟩
instance : HasBody Tryd.prog 65 := ⟨fun _ _ => by kernel_rfl⟩
instance : HasBody Tryd.prog 66 := ⟨fun _ _ => by kernel_rfl⟩
instance : HasBody Tryd.prog 67 := ⟨fun _ _ => by kernel_rfl⟩
instance : HasBody Tryd.prog 68 := ⟨fun _ _ => by kernel_rfl⟩
instance : HasBody Tryd.prog 69 := ⟨fun _ _ => by kernel_rfl⟩
instance : HasBody Tryd.prog 70 := ⟨fun _ _ => by kernel_rfl⟩
instance : HasBody Tryd.prog 71 := ⟨fun _ _ => by kernel_rfl⟩
instance : HasBody Tryd.prog 72 := ⟨fun _ _ => by kernel_rfl⟩
instance : HasBody Tryd.prog 73 := ⟨fun _ _ => by kernel_rfl⟩
instance : HasBody Tryd.prog 74 := ⟨fun _ _ => by kernel_rfl⟩
instance : HasBody Tryd.prog 75 := ⟨fun _ _ => by kernel_rfl⟩
instance : HasBody Tryd.prog 76 := ⟨fun _ _ => by kernel_rfl⟩
instance : HasBody Tryd.prog 77 := ⟨fun _ _ => by kernel_rfl⟩
instance : HasBody Tryd.prog 78 := ⟨fun _ _ => by kernel_rfl⟩
instance : HasBody Tryd.prog 79 := ⟨fun _ _ => by kernel_rfl⟩
instance : HasBody Tryd.prog 80 := ⟨fun _ _ => by kernel_rfl⟩
instance : HasBody Tryd.prog 81 := ⟨fun _ _ => by kernel_rfl⟩
instance : HasBody Tryd.prog 82 := ⟨fun _ _ => by kernel_rfl⟩
instance : HasBody Tryd.prog 83 := ⟨fun _ _ => by kernel_rfl⟩
instance : HasBody Tryd.prog 84 := ⟨fun _ _ => by kernel_rfl⟩
instance : HasBody Tryd.prog 85 := ⟨fun _ _ => by kernel_rfl⟩
instance : HasBody Tryd.prog 87 := ⟨fun _ _ => by kernel_rfl⟩
instance : HasBody Tryd.prog 88 := ⟨fun _ _ => by kernel_rfl⟩
instance : HasBody Tryd.prog 90 := ⟨fun _ _ => by kernel_rfl⟩
instance : HasBody Tryd.prog 91 := ⟨fun _ _ => by kernel_rfl⟩
instance : HasBody Tryd.prog 92 := ⟨fun _ _ => by kernel_rfl⟩
instance : HasBody Tryd.prog 93 := ⟨fun _ _ => by kernel_rfl⟩
instance : HasBody Tryd.prog 94 := ⟨fun _ _ => by kernel_rfl⟩
instance : HasBody Tryd.prog 95 := ⟨fun _ _ => by kernel_rfl⟩
instance : HasBody Tryd.prog 96 := ⟨fun _ _ => by kernel_rfl⟩
instance : HasBody Tryd.prog 98 := ⟨fun _ _ => by kernel_rfl⟩
instance : HasBody Tryd.prog 100 := ⟨fun _ _ => by kernel_rfl⟩
instance : HasBody Tryd.prog 101 := ⟨fun _ _ => by kernel_rfl⟩
instance : HasBody Tryd.prog 102 := ⟨fun _ _ => by kernel_rfl⟩
instance : HasBody Tryd.prog 125 := ⟨fun _ _ => by kernel_rfl⟩
end Go.Proofs.YtlhbgnoghjendaaDoor
