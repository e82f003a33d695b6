import Derived.Test.YtjimmpldofoimaaGreatDoorAlCall
import Derived.Test.YtjimmpldofoimaaGreatDoorProg
import Derived.KernelRfl
namespace Go.AL
open Go.Proofs
theorem by3 : Tryz.prog.bytesOf 3 = 8 := by kernel_rfl
theorem tk3 : tkOf Tryz.prog 3 = some ⟨false, 1, [.v (.int .i64 0)]⟩ := by kernel_rfl
theorem us3 : Tryz.prog.underlying 3 = some (.int .i64) := by kernel_rfl
theorem by4 : Tryz.prog.bytesOf 4 = 1 := by kernel_rfl
theorem tk4 : tkOf Tryz.prog 4 = some ⟨false, 1, [.v (.bool false)]⟩ := by kernel_rfl
theorem us4 : Tryz.prog.underlying 4 = some .bool := by kernel_rfl
theorem by9 : Tryz.prog.bytesOf 9 = 16 := by kernel_rfl
theorem tk9 : tkOf Tryz.prog 9 = some ⟨false, 1, [.v (.string ByteArray.empty)]⟩ := by kernel_rfl
theorem us9 : Tryz.prog.underlying 9 = some .string := by kernel_rfl
theorem us21 : Tryz.prog.underlying 21 = some (.int .i32) := by kernel_rfl
theorem by22 : Tryz.prog.bytesOf 22 = 24 := by kernel_rfl
theorem tk22 : tkOf Tryz.prog 22 = some ⟨false, 1, [.v (.slice none 0 0)]⟩ := by kernel_rfl
theorem el22 : elemOf Tryz.prog 22 = some (none, 88) := by kernel_rfl
theorem us22 : Tryz.prog.underlying 22 = some (.slice 88) := by kernel_rfl
theorem tk23 : tkOf Tryz.prog 23 = some ⟨false, 1, [.v (.slice none 0 0)]⟩ := by kernel_rfl
theorem el23 : elemOf Tryz.prog 23 = some (none, 176) := by kernel_rfl
theorem us23 : Tryz.prog.underlying 23 = some (.slice 176) := by kernel_rfl
theorem tk25 : tkOf Tryz.prog 25 = some ⟨true, 1, [.v (.slice none 0 0)]⟩ := by kernel_rfl
theorem fs25 : fieldsOf Tryz.prog 25 = some [⟨ "Steps", 23, 0, false, "", "", 0⟩] := by kernel_rfl
theorem by29 : Tryz.prog.bytesOf 29 = 8 := by kernel_rfl
theorem tk29 : tkOf Tryz.prog 29 = some ⟨false, 1, [.v (.int .i64 0)]⟩ := by kernel_rfl
theorem us29 : Tryz.prog.underlying 29 = some (.int .i64) := by kernel_rfl
theorem by32 : Tryz.prog.bytesOf 32 = 24 := by kernel_rfl
theorem tk32 : tkOf Tryz.prog 32 = some ⟨false, 1, [.v (.slice none 0 0)]⟩ := by kernel_rfl
theorem el32 : elemOf Tryz.prog 32 = some (none, 94) := by kernel_rfl
theorem us32 : Tryz.prog.underlying 32 = some (.slice 94) := by kernel_rfl
theorem tk34 : tkOf Tryz.prog 34 = some ⟨false, 1, [.v (.slice none 0 0)]⟩ := by kernel_rfl
theorem el34 : elemOf Tryz.prog 34 = some (none, 179) := by kernel_rfl
theorem us34 : Tryz.prog.underlying 34 = some (.slice 179) := by kernel_rfl
theorem by36 : Tryz.prog.bytesOf 36 = 24 := by kernel_rfl
theorem tk36 : tkOf Tryz.prog 36 = some ⟨true, 1, [.v (.slice none 0 0)]⟩ := by kernel_rfl
theorem fs36 : fieldsOf Tryz.prog 36 = some [⟨ "Steps", 34, 0, false, "", "", 0⟩] := by kernel_rfl
theorem pl36 : places Tryz.prog 36 = some (fun i => ([(0, 1)] : List (Nat × Nat))[i]?) := by kernel_rfl
theorem tk46 : tkOf Tryz.prog 46 = some ⟨false, 1, [.v (.slice none 0 0)]⟩ := by kernel_rfl
theorem el46 : elemOf Tryz.prog 46 = some (none, 3) := by kernel_rfl
theorem us46 : Tryz.prog.underlying 46 = some (.slice 3) := by kernel_rfl
theorem el49 : elemOf Tryz.prog 49 = some (none, 91) := by kernel_rfl
theorem us49 : Tryz.prog.underlying 49 = some (.slice 91) := by kernel_rfl
theorem tk58 : tkOf Tryz.prog 58 = some ⟨false, 1, [.v (.slice none 0 0)]⟩ := by kernel_rfl
theorem el58 : elemOf Tryz.prog 58 = some (none, 138) := by kernel_rfl
theorem us58 : Tryz.prog.underlying 58 = some (.slice 138) := by kernel_rfl
theorem tk60 : tkOf Tryz.prog 60 = some ⟨true, 2, [.v (.int .i64 0), .v (.slice none 0 0)]⟩ := by kernel_rfl
theorem fs60 : fieldsOf Tryz.prog 60 = some [⟨ "Vars", 3, 0, false, "", "", 0⟩, ⟨ "Nodes", 58, 1, false, "", "", 8⟩] := by kernel_rfl
theorem pl60 : places Tryz.prog 60 = some (fun i => ([(0, 1), (1, 1)] : List (Nat × Nat))[i]?) := by kernel_rfl
theorem tk64 : tkOf Tryz.prog 64 = some ⟨false, 1, [.v (.slice none 0 0)]⟩ := by kernel_rfl
theorem el64 : elemOf Tryz.prog 64 = some (none, 216) := by kernel_rfl
theorem tk66 : tkOf Tryz.prog 66 = some ⟨true, 2, [.v (.int .i64 0), .v (.slice none 0 0)]⟩ := by kernel_rfl
theorem fs66 : fieldsOf Tryz.prog 66 = some [⟨ "Vars", 3, 0, false, "", "", 0⟩, ⟨ "Nodes", 64, 1, false, "", "", 8⟩] := by kernel_rfl
theorem pl66 : places Tryz.prog 66 = some (fun i => ([(0, 1), (1, 1)] : List (Nat × Nat))[i]?) := by kernel_rfl
theorem by73 : Tryz.prog.bytesOf 73 = 24 := by kernel_rfl
theorem tk73 : tkOf Tryz.prog 73 = some ⟨false, 1, [.v (.slice none 0 0)]⟩ := by kernel_rfl
theorem el73 : elemOf Tryz.prog 73 = some (none, 32) := by kernel_rfl
theorem us73 : Tryz.prog.underlying 73 = some (.slice 32) := by kernel_rfl
theorem by76 : Tryz.prog.bytesOf 76 = 24 := by kernel_rfl
theorem tk76 : tkOf Tryz.prog 76 = some ⟨false, 1, [.v (.slice none 0 0)]⟩ := by kernel_rfl
theorem el76 : elemOf Tryz.prog 76 = some (none, 22) := by kernel_rfl
theorem us76 : Tryz.prog.underlying 76 = some (.slice 22) := by kernel_rfl
theorem by88 : Tryz.prog.bytesOf 88 = 32 := by kernel_rfl
theorem tk88 : tkOf Tryz.prog 88 = some ⟨true, 2, [.v (.slice none 0 0), .v (.int .i64 0)]⟩ := by kernel_rfl
theorem fs88 : fieldsOf Tryz.prog 88 = some [⟨ "Coeffs", 46, 0, false, "", "", 0⟩, ⟨ "Const", 3, 1, false, "", "", 24⟩] := by kernel_rfl
theorem pl88 : places Tryz.prog 88 = some (fun i => ([(0, 1), (1, 1)] : List (Nat × Nat))[i]?) := by kernel_rfl
theorem by91 : Tryz.prog.bytesOf 91 = 16 := by kernel_rfl
theorem tk91 : tkOf Tryz.prog 91 = some ⟨true, 2, [.v (.int .i64 0), .v (.int .i64 0)]⟩ := by kernel_rfl
theorem fs91 : fieldsOf Tryz.prog 91 = some [⟨ "Low", 3, 0, false, "", "", 0⟩, ⟨ "High", 3, 1, false, "", "", 8⟩] := by kernel_rfl
theorem pl91 : places Tryz.prog 91 = some (fun i => ([(0, 1), (1, 1)] : List (Nat × Nat))[i]?) := by kernel_rfl
theorem by94 : Tryz.prog.bytesOf 94 = 32 := by kernel_rfl
theorem tk94 : tkOf Tryz.prog 94 = some ⟨true, 2, [.v (.slice none 0 0), .v (.int .i64 0)]⟩ := by kernel_rfl
theorem fs94 : fieldsOf Tryz.prog 94 = some [⟨ "Coeffs", 46, 0, false, "", "", 0⟩, ⟨ "Const", 3, 1, false, "", "", 24⟩] := by kernel_rfl
theorem pl94 : places Tryz.prog 94 = some (fun i => ([(0, 1), (1, 1)] : List (Nat × Nat))[i]?) := by kernel_rfl
theorem by138 : Tryz.prog.bytesOf 138 = 64 := by kernel_rfl
theorem tk138 : tkOf Tryz.prog 138 = some ⟨true, 4, [.v (.int .i64 0), .v (.slice none 0 0), .v (.int .i64 0), .v (.slice none 0 0)]⟩ := by kernel_rfl
theorem fs138 : fieldsOf Tryz.prog 138 = some [⟨ "Kind", 3, 0, false, "", "", 0⟩, ⟨ "Term", 88, 1, false, "", "", 8⟩, ⟨ "Kids", 46, 3, false, "", "", 40⟩] := by kernel_rfl
theorem pl138 : places Tryz.prog 138 = some (fun i => ([(0, 1), (1, 2), (3, 1)] : List (Nat × Nat))[i]?) := by kernel_rfl
theorem el147 : elemOf Tryz.prog 147 = some (none, 36) := by kernel_rfl
theorem us147 : Tryz.prog.underlying 147 = some (.slice 36) := by kernel_rfl
theorem el152 : elemOf Tryz.prog 152 = some (none, 25) := by kernel_rfl
theorem us152 : Tryz.prog.underlying 152 = some (.slice 25) := by kernel_rfl
theorem tk174 : tkOf Tryz.prog 174 = some ⟨true, 2, [.v (.int .i64 0), .v (.int .i64 0)]⟩ := by kernel_rfl
theorem el174 : elemOf Tryz.prog 174 = some (some 2, 3) := by kernel_rfl
theorem pl174 : places Tryz.prog 174 = some (fun i => some (i * 1, 1)) := by kernel_rfl
theorem by176 : Tryz.prog.bytesOf 176 = 64 := by kernel_rfl
theorem tk176 : tkOf Tryz.prog 176 = some ⟨true, 6, [.v (.bool false), .v (.slice none 0 0), .v (.int .i64 0), .v (.int .i64 0), .v (.int .i64 0), .v (.int .i64 0)]⟩ := by kernel_rfl
theorem fs176 : fieldsOf Tryz.prog 176 = some [⟨ "Leaf", 4, 0, false, "", "", 0⟩, ⟨ "Factors", 46, 1, false, "", "", 8⟩, ⟨ "Variable", 3, 2, false, "", "", 32⟩, ⟨ "Bound", 3, 3, false, "", "", 40⟩, ⟨ "Kids", 174, 4, false, "", "", 48⟩] := by kernel_rfl
theorem by179 : Tryz.prog.bytesOf 179 = 64 := by kernel_rfl
theorem tk179 : tkOf Tryz.prog 179 = some ⟨true, 6, [.v (.bool false), .v (.slice none 0 0), .v (.int .i64 0), .v (.int .i64 0), .v (.int .i64 0), .v (.int .i64 0)]⟩ := by kernel_rfl
theorem fs179 : fieldsOf Tryz.prog 179 = some [⟨ "Leaf", 4, 0, false, "", "", 0⟩, ⟨ "Factors", 46, 1, false, "", "", 8⟩, ⟨ "Variable", 3, 2, false, "", "", 32⟩, ⟨ "Bound", 3, 3, false, "", "", 40⟩, ⟨ "Kids", 174, 4, false, "", "", 48⟩] := by kernel_rfl
theorem pl179 : places Tryz.prog 179 = some (fun i => ([(0, 1), (1, 1), (2, 1), (3, 1), (4, 2)] : List (Nat × Nat))[i]?) := by kernel_rfl
theorem tk182 : tkOf Tryz.prog 182 = some ⟨true, 2, [.v (.slice none 0 0), .v (.int .i64 0)]⟩ := by kernel_rfl
theorem fs182 : fieldsOf Tryz.prog 182 = some [⟨ "p", 36, 0, false, "", "bailment/prove", 0⟩, ⟨ "count", 3, 1, false, "", "bailment/prove", 24⟩] := by kernel_rfl
theorem pl182 : places Tryz.prog 182 = some (fun i => ([(0, 1), (1, 1)] : List (Nat × Nat))[i]?) := by kernel_rfl
theorem tk187 : tkOf Tryz.prog 187 = some ⟨true, 3, [.v (.int .i64 0), .v (.int .i64 0), .v (.int .i64 0)]⟩ := by kernel_rfl
theorem fs187 : fieldsOf Tryz.prog 187 = some [⟨ "many", 3, 0, false, "", "bailment/bailmentref29", 0⟩, ⟨ "at", 3, 1, false, "", "bailment/bailmentref29", 8⟩, ⟨ "error", 3, 2, false, "", "bailment/bailmentref29", 16⟩] := by kernel_rfl
theorem pl187 : places Tryz.prog 187 = some (fun i => ([(0, 1), (1, 1), (2, 1)] : List (Nat × Nat))[i]?) := by kernel_rfl
theorem el191 : elemOf Tryz.prog 191 = some (none, 29) := by kernel_rfl
theorem us191 : Tryz.prog.underlying 191 = some (.slice 29) := by kernel_rfl
theorem tk200 : tkOf Tryz.prog 200 = some ⟨true, 2, [.v (.slice none 0 0), .v (.int .i64 0)]⟩ := by kernel_rfl
theorem fs200 : fieldsOf Tryz.prog 200 = some [⟨ "terms", 32, 0, false, "", "bailment/prove", 0⟩, ⟨ "left", 3, 1, false, "", "bailment/prove", 24⟩] := by kernel_rfl
theorem pl200 : places Tryz.prog 200 = some (fun i => ([(0, 1), (1, 1)] : List (Nat × Nat))[i]?) := by kernel_rfl
theorem tk211 : tkOf Tryz.prog 211 = some ⟨false, 1, [.v (.slice none 0 0)]⟩ := by kernel_rfl
theorem el211 : elemOf Tryz.prog 211 = some (none, 4) := by kernel_rfl
theorem us211 : Tryz.prog.underlying 211 = some (.slice 4) := by kernel_rfl
theorem by216 : Tryz.prog.bytesOf 216 = 64 := by kernel_rfl
theorem tk216 : tkOf Tryz.prog 216 = some ⟨true, 4, [.v (.int .i64 0), .v (.slice none 0 0), .v (.int .i64 0), .v (.slice none 0 0)]⟩ := by kernel_rfl
theorem fs216 : fieldsOf Tryz.prog 216 = some [⟨ "Kind", 3, 0, false, "", "", 0⟩, ⟨ "Term", 94, 1, false, "", "", 8⟩, ⟨ "Kids", 46, 3, false, "", "", 40⟩] := by kernel_rfl
theorem pl216 : places Tryz.prog 216 = some (fun i => ([(0, 1), (1, 2), (3, 1)] : List (Nat × Nat))[i]?) := by kernel_rfl
theorem tk218 : tkOf Tryz.prog 218 = some ⟨true, 5, [.v (.int .i64 0), .v (.slice none 0 0), .v (.int .i64 0), .v (.slice none 0 0), .v (.int .i64 0)]⟩ := by kernel_rfl
theorem fs218 : fieldsOf Tryz.prog 218 = some [⟨ "Node", 216, 0, true, "", "", 0⟩, ⟨ "at", 3, 4, false, "", "bailment/formula", 64⟩] := by kernel_rfl
theorem pl218 : places Tryz.prog 218 = some (fun i => ([(0, 4), (4, 1)] : List (Nat × Nat))[i]?) := by kernel_rfl
theorem tk219 : tkOf Tryz.prog 219 = some ⟨false, 1, [.v (.nilFunc)]⟩ := by kernel_rfl
theorem tk221 : tkOf Tryz.prog 221 = some ⟨true, 3, [.v (.string ByteArray.empty), .v (.bool false), .v (.nilFunc)]⟩ := by kernel_rfl
theorem fs221 : fieldsOf Tryz.prog 221 = some [⟨ "word", 9, 0, false, "", "bailment/formula", 0⟩, ⟨ "term", 4, 1, false, "", "bailment/formula", 16⟩, ⟨ "holds", 219, 2, false, "", "bailment/formula", 24⟩] := by kernel_rfl
theorem el222 : elemOf Tryz.prog 222 = some (some 5, 221) := by kernel_rfl
theorem tk224 : tkOf Tryz.prog 224 = some ⟨false, 1, [.v (.nilFunc)]⟩ := by kernel_rfl
theorem tk229 : tkOf Tryz.prog 229 = some ⟨true, 2, [.v (.int .i64 0), .v (.bool false)]⟩ := by kernel_rfl
theorem fs229 : fieldsOf Tryz.prog 229 = some [⟨ "at", 3, 0, false, "", "bailment/formula", 0⟩, ⟨ "opposite", 4, 1, false, "", "bailment/formula", 8⟩] := by kernel_rfl
theorem pl229 : places Tryz.prog 229 = some (fun i => ([(0, 1), (1, 1)] : List (Nat × Nat))[i]?) := by kernel_rfl
theorem tk230 : tkOf Tryz.prog 230 = some ⟨false, 1, [.v (.pointer none)]⟩ := by kernel_rfl
theorem tk231 : tkOf Tryz.prog 231 = some ⟨false, 1, [.v (.map none)]⟩ := by kernel_rfl
theorem tk233 : tkOf Tryz.prog 233 = some ⟨true, 4, [.v (.int .i64 0), .v (.slice none 0 0), .v (.map none), .v (.bool false)]⟩ := by kernel_rfl
theorem fs233 : fieldsOf Tryz.prog 233 = some [⟨ "f", 66, 0, false, "", "bailment/formula", 0⟩, ⟨ "seen", 231, 2, false, "", "bailment/formula", 32⟩, ⟨ "bad", 4, 3, false, "", "bailment/formula", 40⟩] := by kernel_rfl
theorem pl233 : places Tryz.prog 233 = some (fun i => ([(0, 2), (2, 1), (3, 1)] : List (Nat × Nat))[i]?) := by kernel_rfl
theorem tk234 : tkOf Tryz.prog 234 = some ⟨true, 2, [.v (.int .i64 0), .v (.int .i64 0)]⟩ := by kernel_rfl
theorem el234 : elemOf Tryz.prog 234 = some (some 2, 3) := by kernel_rfl
theorem pl234 : places Tryz.prog 234 = some (fun i => some (i * 1, 1)) := by kernel_rfl
theorem tk236 : tkOf Tryz.prog 236 = some ⟨false, 1, [.v (.pointer none)]⟩ := by kernel_rfl
theorem tk237 : tkOf Tryz.prog 237 = some ⟨false, 1, [.v (.map none)]⟩ := by kernel_rfl
theorem tk239 : tkOf Tryz.prog 239 = some ⟨true, 4, [.v (.int .i64 0), .v (.slice none 0 0), .v (.map none), .v (.bool false)]⟩ := by kernel_rfl
theorem fs239 : fieldsOf Tryz.prog 239 = some [⟨ "f", 66, 0, false, "", "bailment/formula", 0⟩, ⟨ "seen", 237, 2, false, "", "bailment/formula", 32⟩, ⟨ "large", 4, 3, false, "", "bailment/formula", 40⟩] := by kernel_rfl
theorem pl239 : places Tryz.prog 239 = some (fun i => ([(0, 2), (2, 1), (3, 1)] : List (Nat × Nat))[i]?) := by kernel_rfl
theorem el267 : elemOf Tryz.prog 267 = some (none, 9) := by kernel_rfl
theorem us267 : Tryz.prog.underlying 267 = some (.slice 9) := by kernel_rfl
theorem tk301 : tkOf Tryz.prog 301 = some ⟨true, 8, [.v (.bool false), .v (.slice none 0 0), .v (.int .i64 0), .v (.int .i64 0), .v (.int .i64 0), .v (.int .i64 0), .v (.int .i64 0), .v (.slice none 0 0)]⟩ := by kernel_rfl
theorem fs301 : fieldsOf Tryz.prog 301 = some [⟨ "Step", 179, 0, true, "", "", 0⟩, ⟨ "at", 3, 6, false, "", "bailment/prove", 64⟩, ⟨ "terms", 32, 7, false, "", "bailment/prove", 72⟩] := by kernel_rfl
theorem pl301 : places Tryz.prog 301 = some (fun i => ([(0, 6), (6, 1), (7, 1)] : List (Nat × Nat))[i]?) := by kernel_rfl
theorem tk303 : tkOf Tryz.prog 303 = some ⟨true, 4, [.v (.slice none 0 0), .v (.int .i64 0), .v (.slice none 0 0), .v (.int .i64 0)]⟩ := by kernel_rfl
theorem el303 : elemOf Tryz.prog 303 = some (some 2, 94) := by kernel_rfl
theorem pl303 : places Tryz.prog 303 = some (fun i => some (i * 2, 2)) := by kernel_rfl
theorem tk307 : tkOf Tryz.prog 307 = some ⟨true, 2, [.v (.int .i64 0), .v (.int .i64 0)]⟩ := by kernel_rfl
theorem el307 : elemOf Tryz.prog 307 = some (some 2, 3) := by kernel_rfl
theorem tk309 : tkOf Tryz.prog 309 = some ⟨true, 4, [.v (.int .i64 0), .v (.int .i64 0), .v (.int .i64 0), .v (.int .i64 0)]⟩ := by kernel_rfl
theorem el309 : elemOf Tryz.prog 309 = some (some 2, 91) := by kernel_rfl
theorem pl309 : places Tryz.prog 309 = some (fun i => some (i * 2, 2)) := by kernel_rfl
theorem tk329 : tkOf Tryz.prog 329 = some ⟨false, 1, [.v (.nilFunc)]⟩ := by kernel_rfl
theorem tk331 : tkOf Tryz.prog 331 = some ⟨true, 3, [.v (.string ByteArray.empty), .v (.nilFunc), .v (.nilFunc)]⟩ := by kernel_rfl
theorem fs331 : fieldsOf Tryz.prog 331 = some [⟨ "word", 9, 0, false, "", "bailment/prove", 0⟩, ⟨ "fits", 224, 1, false, "", "bailment/prove", 16⟩, ⟨ "made", 329, 2, false, "", "bailment/prove", 24⟩] := by kernel_rfl
theorem el332 : elemOf Tryz.prog 332 = some (some 2, 331) := by kernel_rfl
theorem tk344 : tkOf Tryz.prog 344 = some ⟨false, 1, [.v (.slice none 0 0)]⟩ := by kernel_rfl
theorem el344 : elemOf Tryz.prog 344 = some (none, 73) := by kernel_rfl
theorem us344 : Tryz.prog.underlying 344 = some (.slice 73) := by kernel_rfl
theorem el350 : elemOf Tryz.prog 350 = some (none, 76) := by kernel_rfl
theorem us350 : Tryz.prog.underlying 350 = some (.slice 76) := by kernel_rfl
attribute [go_sem] by3 tk3 us3 by4 tk4 us4
attribute [go_sem] by9 tk9 us9
attribute [go_sem] us21 by22 tk22 el22 us22 tk23 el23 us23 tk25 fs25
attribute [go_sem] by29 tk29 us29 by32 tk32 el32 us32 tk34 el34
attribute [go_sem] us34 by36 tk36 fs36 pl36
attribute [go_sem] tk46 el46 us46 el49 us49
attribute [go_sem] tk58 el58 us58
attribute [go_sem] tk60 fs60 pl60 tk64 el64 tk66 fs66 pl66
attribute [go_sem] by73 tk73 el73 us73 by76 tk76 el76
attribute [go_sem] us76 by88
attribute [go_sem] tk88 fs88 pl88 by91 tk91 fs91 pl91 by94 tk94 fs94 pl94
attribute [go_sem] by138 tk138 fs138 pl138 el147
attribute [go_sem] us147 el152 us152
attribute [go_sem] tk174 el174 pl174 by176 tk176 fs176
attribute [go_sem] by179 tk179 fs179 pl179 tk182 fs182 pl182
attribute [go_sem] tk187 fs187 pl187 el191 us191
attribute [go_sem] tk200
attribute [go_sem] fs200 pl200
attribute [go_sem] tk211 el211 us211
attribute [go_sem] by216 tk216 fs216 pl216 tk218 fs218 pl218 tk219 tk221
attribute [go_sem] fs221 el222 tk224
attribute [go_sem] tk229 fs229 pl229 tk230 tk231 tk233 fs233 pl233 tk234 el234
attribute [go_sem] pl234 tk236 tk237 tk239 fs239 pl239
attribute [go_sem] el267 us267
attribute [go_sem] tk301 fs301 pl301 tk303
attribute [go_sem] el303 pl303 tk307 el307 tk309 el309
attribute [go_sem] pl309
attribute [go_sem] tk329
attribute [go_sem] tk331 fs331 el332
attribute [go_sem] tk344 el344 us344
attribute [go_sem] el350 us350
end Go.AL
