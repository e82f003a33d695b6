/- Facts on the program's types, each by the kernel. -/
import Derived.Test.YtjimmpldofoimaaGreatDoorAlCall
import Derived.Test.YtjimmpldofoimaaGreatDoorProg
import Derived.KernelRfl
namespace Go.AL
open Go.Proofs
theorem by1 : Tryz.prog.bytesOf 1 = 8 := by kernel_rfl
theorem tk1 : tkOf Tryz.prog 1 = some ⟨false, 1, [.v (.nilFunc)]⟩ := by kernel_rfl
theorem by2 : Tryz.prog.bytesOf 2 = 8 := by kernel_rfl
theorem tk2 : tkOf Tryz.prog 2 = some ⟨false, 1, [.v (.int .i64 0)]⟩ := by kernel_rfl
theorem us2 : Tryz.prog.underlying 2 = some (.int .i64) := by kernel_rfl
theorem by3 : Tryz.prog.bytesOf 3 = 8 := by kernel_rfl
theorem tk3 : tkOf Tryz.prog 3 = some ⟨false, 1, [.v (.int .i64 0)]⟩ := by kernel_rfl
theorem us3 : Tryz.prog.underlying 3 = some (.int .i64) := by kernel_rfl
theorem by4 : Tryz.prog.bytesOf 4 = 1 := by kernel_rfl
theorem tk4 : tkOf Tryz.prog 4 = some ⟨false, 1, [.v (.bool false)]⟩ := by kernel_rfl
theorem us4 : Tryz.prog.underlying 4 = some .bool := by kernel_rfl
theorem by5 : Tryz.prog.bytesOf 5 = 1 := by kernel_rfl
theorem tk5 : tkOf Tryz.prog 5 = some ⟨false, 1, [.v (.int .u8 0)]⟩ := by kernel_rfl
theorem us5 : Tryz.prog.underlying 5 = some (.int .u8) := by kernel_rfl
theorem by6 : Tryz.prog.bytesOf 6 = 1 := by kernel_rfl
theorem tk6 : tkOf Tryz.prog 6 = some ⟨false, 1, [.v (.int .u8 0)]⟩ := by kernel_rfl
theorem us6 : Tryz.prog.underlying 6 = some (.int .u8) := by kernel_rfl
theorem by7 : Tryz.prog.bytesOf 7 = 24 := by kernel_rfl
theorem tk7 : tkOf Tryz.prog 7 = some ⟨true, 4, [.v (.int .i64 0), .v (.int .i64 0), .v (.bool false), .v (.int .u8 0)]⟩ := by kernel_rfl
theorem fs7 : fieldsOf Tryz.prog 7 = some [⟨ "x", 2, 0, false, "", "runtime", 0⟩, ⟨ "y", 3, 1, false, "", "runtime", 8⟩, ⟨ "signed", 4, 2, false, "", "runtime", 16⟩, ⟨ "code", 6, 3, false, "", "runtime", 17⟩] := by kernel_rfl
theorem pl7 : places Tryz.prog 7 = some (fun i => ([(0, 1), (1, 1), (2, 1), (3, 1)] : List (Nat × Nat))[i]?) := by kernel_rfl
theorem by8 : Tryz.prog.bytesOf 8 = 24 := by kernel_rfl
theorem tk8 : tkOf Tryz.prog 8 = some ⟨true, 4, [.v (.int .i64 0), .v (.int .i64 0), .v (.bool false), .v (.int .u8 0)]⟩ := by kernel_rfl
theorem fs8 : fieldsOf Tryz.prog 8 = some [⟨ "x", 2, 0, false, "", "runtime", 0⟩, ⟨ "y", 3, 1, false, "", "runtime", 8⟩, ⟨ "signed", 4, 2, false, "", "runtime", 16⟩, ⟨ "code", 6, 3, false, "", "runtime", 17⟩] := by kernel_rfl
theorem pl8 : places Tryz.prog 8 = some (fun i => ([(0, 1), (1, 1), (2, 1), (3, 1)] : List (Nat × Nat))[i]?) := by kernel_rfl
theorem by9 : Tryz.prog.bytesOf 9 = 16 := by kernel_rfl
theorem tk9 : tkOf Tryz.prog 9 = some ⟨false, 1, [.v (.string ByteArray.empty)]⟩ := by kernel_rfl
theorem us9 : Tryz.prog.underlying 9 = some .string := by kernel_rfl
theorem by16 : Tryz.prog.bytesOf 16 = 8 := by kernel_rfl
theorem tk16 : tkOf Tryz.prog 16 = some ⟨false, 1, [.v (.pointer none)]⟩ := by kernel_rfl
theorem by17 : Tryz.prog.bytesOf 17 = 8 := by kernel_rfl
theorem tk17 : tkOf Tryz.prog 17 = some ⟨false, 1, [.v (.pointer none)]⟩ := by kernel_rfl
theorem by21 : Tryz.prog.bytesOf 21 = 4 := by kernel_rfl
theorem tk21 : tkOf Tryz.prog 21 = some ⟨false, 1, [.v (.int .i32 0)]⟩ := by kernel_rfl
theorem us21 : Tryz.prog.underlying 21 = some (.int .i32) := by kernel_rfl
theorem by22 : Tryz.prog.bytesOf 22 = 24 := by kernel_rfl
theorem tk22 : tkOf Tryz.prog 22 = some ⟨false, 1, [.v (.slice none 0 0)]⟩ := by kernel_rfl
theorem el22 : elemOf Tryz.prog 22 = some (none, 88) := by kernel_rfl
theorem us22 : Tryz.prog.underlying 22 = some (.slice 88) := by kernel_rfl
theorem by23 : Tryz.prog.bytesOf 23 = 24 := by kernel_rfl
theorem tk23 : tkOf Tryz.prog 23 = some ⟨false, 1, [.v (.slice none 0 0)]⟩ := by kernel_rfl
theorem el23 : elemOf Tryz.prog 23 = some (none, 176) := by kernel_rfl
theorem us23 : Tryz.prog.underlying 23 = some (.slice 176) := by kernel_rfl
theorem by24 : Tryz.prog.bytesOf 24 = 24 := by kernel_rfl
theorem tk24 : tkOf Tryz.prog 24 = some ⟨true, 1, [.v (.slice none 0 0)]⟩ := by kernel_rfl
theorem fs24 : fieldsOf Tryz.prog 24 = some [⟨ "Steps", 23, 0, false, "", "", 0⟩] := by kernel_rfl
theorem pl24 : places Tryz.prog 24 = some (fun i => ([(0, 1)] : List (Nat × Nat))[i]?) := by kernel_rfl
theorem by25 : Tryz.prog.bytesOf 25 = 24 := by kernel_rfl
theorem tk25 : tkOf Tryz.prog 25 = some ⟨true, 1, [.v (.slice none 0 0)]⟩ := by kernel_rfl
theorem fs25 : fieldsOf Tryz.prog 25 = some [⟨ "Steps", 23, 0, false, "", "", 0⟩] := by kernel_rfl
theorem pl25 : places Tryz.prog 25 = some (fun i => ([(0, 1)] : List (Nat × Nat))[i]?) := by kernel_rfl
theorem by29 : Tryz.prog.bytesOf 29 = 8 := by kernel_rfl
theorem tk29 : tkOf Tryz.prog 29 = some ⟨false, 1, [.v (.int .i64 0)]⟩ := by kernel_rfl
theorem us29 : Tryz.prog.underlying 29 = some (.int .i64) := by kernel_rfl
theorem by32 : Tryz.prog.bytesOf 32 = 24 := by kernel_rfl
theorem tk32 : tkOf Tryz.prog 32 = some ⟨false, 1, [.v (.slice none 0 0)]⟩ := by kernel_rfl
theorem el32 : elemOf Tryz.prog 32 = some (none, 94) := by kernel_rfl
theorem us32 : Tryz.prog.underlying 32 = some (.slice 94) := by kernel_rfl
theorem by34 : Tryz.prog.bytesOf 34 = 24 := by kernel_rfl
theorem tk34 : tkOf Tryz.prog 34 = some ⟨false, 1, [.v (.slice none 0 0)]⟩ := by kernel_rfl
theorem el34 : elemOf Tryz.prog 34 = some (none, 179) := by kernel_rfl
theorem us34 : Tryz.prog.underlying 34 = some (.slice 179) := by kernel_rfl
theorem by36 : Tryz.prog.bytesOf 36 = 24 := by kernel_rfl
theorem tk36 : tkOf Tryz.prog 36 = some ⟨true, 1, [.v (.slice none 0 0)]⟩ := by kernel_rfl
theorem fs36 : fieldsOf Tryz.prog 36 = some [⟨ "Steps", 34, 0, false, "", "", 0⟩] := by kernel_rfl
theorem pl36 : places Tryz.prog 36 = some (fun i => ([(0, 1)] : List (Nat × Nat))[i]?) := by kernel_rfl
theorem by40 : Tryz.prog.bytesOf 40 = 8 := by kernel_rfl
theorem tk40 : tkOf Tryz.prog 40 = some ⟨false, 1, [.v (.nilFunc)]⟩ := by kernel_rfl
theorem by45 : Tryz.prog.bytesOf 45 = 24 := by kernel_rfl
theorem tk45 : tkOf Tryz.prog 45 = some ⟨false, 1, [.v (.slice none 0 0)]⟩ := by kernel_rfl
theorem el45 : elemOf Tryz.prog 45 = some (none, 97) := by kernel_rfl
theorem us45 : Tryz.prog.underlying 45 = some (.slice 97) := by kernel_rfl
theorem by46 : Tryz.prog.bytesOf 46 = 24 := by kernel_rfl
theorem tk46 : tkOf Tryz.prog 46 = some ⟨false, 1, [.v (.slice none 0 0)]⟩ := by kernel_rfl
theorem el46 : elemOf Tryz.prog 46 = some (none, 3) := by kernel_rfl
theorem us46 : Tryz.prog.underlying 46 = some (.slice 3) := by kernel_rfl
theorem by48 : Tryz.prog.bytesOf 48 = 8 := by kernel_rfl
theorem tk48 : tkOf Tryz.prog 48 = some ⟨false, 1, [.v (.nilFunc)]⟩ := by kernel_rfl
theorem by49 : Tryz.prog.bytesOf 49 = 24 := by kernel_rfl
theorem tk49 : tkOf Tryz.prog 49 = some ⟨false, 1, [.v (.slice none 0 0)]⟩ := by kernel_rfl
theorem el49 : elemOf Tryz.prog 49 = some (none, 91) := by kernel_rfl
theorem us49 : Tryz.prog.underlying 49 = some (.slice 91) := by kernel_rfl
theorem by53 : Tryz.prog.bytesOf 53 = 8 := by kernel_rfl
theorem tk53 : tkOf Tryz.prog 53 = some ⟨false, 1, [.v (.nilFunc)]⟩ := by kernel_rfl
theorem by58 : Tryz.prog.bytesOf 58 = 24 := by kernel_rfl
theorem tk58 : tkOf Tryz.prog 58 = some ⟨false, 1, [.v (.slice none 0 0)]⟩ := by kernel_rfl
theorem el58 : elemOf Tryz.prog 58 = some (none, 138) := by kernel_rfl
theorem us58 : Tryz.prog.underlying 58 = some (.slice 138) := by kernel_rfl
theorem by60 : Tryz.prog.bytesOf 60 = 32 := by kernel_rfl
theorem tk60 : tkOf Tryz.prog 60 = some ⟨true, 2, [.v (.int .i64 0), .v (.slice none 0 0)]⟩ := by kernel_rfl
theorem fs60 : fieldsOf Tryz.prog 60 = some [⟨ "Vars", 3, 0, false, "", "", 0⟩, ⟨ "Nodes", 58, 1, false, "", "", 8⟩] := by kernel_rfl
theorem pl60 : places Tryz.prog 60 = some (fun i => ([(0, 1), (1, 1)] : List (Nat × Nat))[i]?) := by kernel_rfl
theorem by64 : Tryz.prog.bytesOf 64 = 24 := by kernel_rfl
theorem tk64 : tkOf Tryz.prog 64 = some ⟨false, 1, [.v (.slice none 0 0)]⟩ := by kernel_rfl
theorem el64 : elemOf Tryz.prog 64 = some (none, 216) := by kernel_rfl
theorem us64 : Tryz.prog.underlying 64 = some (.slice 216) := by kernel_rfl
theorem by66 : Tryz.prog.bytesOf 66 = 32 := by kernel_rfl
theorem tk66 : tkOf Tryz.prog 66 = some ⟨true, 2, [.v (.int .i64 0), .v (.slice none 0 0)]⟩ := by kernel_rfl
theorem fs66 : fieldsOf Tryz.prog 66 = some [⟨ "Vars", 3, 0, false, "", "", 0⟩, ⟨ "Nodes", 64, 1, false, "", "", 8⟩] := by kernel_rfl
theorem pl66 : places Tryz.prog 66 = some (fun i => ([(0, 1), (1, 1)] : List (Nat × Nat))[i]?) := by kernel_rfl
theorem by72 : Tryz.prog.bytesOf 72 = 8 := by kernel_rfl
theorem tk72 : tkOf Tryz.prog 72 = some ⟨false, 1, [.v (.nilFunc)]⟩ := by kernel_rfl
theorem by73 : Tryz.prog.bytesOf 73 = 24 := by kernel_rfl
theorem tk73 : tkOf Tryz.prog 73 = some ⟨false, 1, [.v (.slice none 0 0)]⟩ := by kernel_rfl
theorem el73 : elemOf Tryz.prog 73 = some (none, 32) := by kernel_rfl
theorem us73 : Tryz.prog.underlying 73 = some (.slice 32) := by kernel_rfl
theorem by76 : Tryz.prog.bytesOf 76 = 24 := by kernel_rfl
theorem tk76 : tkOf Tryz.prog 76 = some ⟨false, 1, [.v (.slice none 0 0)]⟩ := by kernel_rfl
theorem el76 : elemOf Tryz.prog 76 = some (none, 22) := by kernel_rfl
theorem us76 : Tryz.prog.underlying 76 = some (.slice 22) := by kernel_rfl
theorem by78 : Tryz.prog.bytesOf 78 = 8 := by kernel_rfl
theorem tk78 : tkOf Tryz.prog 78 = some ⟨false, 1, [.v (.nilFunc)]⟩ := by kernel_rfl
theorem by88 : Tryz.prog.bytesOf 88 = 32 := by kernel_rfl
theorem tk88 : tkOf Tryz.prog 88 = some ⟨true, 2, [.v (.slice none 0 0), .v (.int .i64 0)]⟩ := by kernel_rfl
theorem fs88 : fieldsOf Tryz.prog 88 = some [⟨ "Coeffs", 46, 0, false, "", "", 0⟩, ⟨ "Const", 3, 1, false, "", "", 24⟩] := by kernel_rfl
theorem pl88 : places Tryz.prog 88 = some (fun i => ([(0, 1), (1, 1)] : List (Nat × Nat))[i]?) := by kernel_rfl
theorem by91 : Tryz.prog.bytesOf 91 = 16 := by kernel_rfl
theorem tk91 : tkOf Tryz.prog 91 = some ⟨true, 2, [.v (.int .i64 0), .v (.int .i64 0)]⟩ := by kernel_rfl
theorem fs91 : fieldsOf Tryz.prog 91 = some [⟨ "Low", 3, 0, false, "", "", 0⟩, ⟨ "High", 3, 1, false, "", "", 8⟩] := by kernel_rfl
theorem pl91 : places Tryz.prog 91 = some (fun i => ([(0, 1), (1, 1)] : List (Nat × Nat))[i]?) := by kernel_rfl
theorem by94 : Tryz.prog.bytesOf 94 = 32 := by kernel_rfl
theorem tk94 : tkOf Tryz.prog 94 = some ⟨true, 2, [.v (.slice none 0 0), .v (.int .i64 0)]⟩ := by kernel_rfl
theorem fs94 : fieldsOf Tryz.prog 94 = some [⟨ "Coeffs", 46, 0, false, "", "", 0⟩, ⟨ "Const", 3, 1, false, "", "", 24⟩] := by kernel_rfl
theorem pl94 : places Tryz.prog 94 = some (fun i => ([(0, 1), (1, 1)] : List (Nat × Nat))[i]?) := by kernel_rfl
theorem by97 : Tryz.prog.bytesOf 97 = 16 := by kernel_rfl
theorem tk97 : tkOf Tryz.prog 97 = some ⟨true, 2, [.v (.int .i64 0), .v (.int .i64 0)]⟩ := by kernel_rfl
theorem fs97 : fieldsOf Tryz.prog 97 = some [⟨ "Low", 3, 0, false, "", "", 0⟩, ⟨ "High", 3, 1, false, "", "", 8⟩] := by kernel_rfl
theorem pl97 : places Tryz.prog 97 = some (fun i => ([(0, 1), (1, 1)] : List (Nat × Nat))[i]?) := by kernel_rfl
theorem by106 : Tryz.prog.bytesOf 106 = 8 := by kernel_rfl
theorem tk106 : tkOf Tryz.prog 106 = some ⟨false, 1, [.v (.nilFunc)]⟩ := by kernel_rfl
theorem by138 : Tryz.prog.bytesOf 138 = 64 := by kernel_rfl
theorem tk138 : tkOf Tryz.prog 138 = some ⟨true, 4, [.v (.int .i64 0), .v (.slice none 0 0), .v (.int .i64 0), .v (.slice none 0 0)]⟩ := by kernel_rfl
theorem fs138 : fieldsOf Tryz.prog 138 = some [⟨ "Kind", 3, 0, false, "", "", 0⟩, ⟨ "Term", 88, 1, false, "", "", 8⟩, ⟨ "Kids", 46, 3, false, "", "", 40⟩] := by kernel_rfl
theorem pl138 : places Tryz.prog 138 = some (fun i => ([(0, 1), (1, 2), (3, 1)] : List (Nat × Nat))[i]?) := by kernel_rfl
theorem by174 : Tryz.prog.bytesOf 174 = 16 := by kernel_rfl
theorem tk174 : tkOf Tryz.prog 174 = some ⟨true, 2, [.v (.int .i64 0), .v (.int .i64 0)]⟩ := by kernel_rfl
theorem el174 : elemOf Tryz.prog 174 = some (some 2, 3) := by kernel_rfl
theorem fs174 : fieldsOf Tryz.prog 174 = none := by kernel_rfl
theorem pl174 : places Tryz.prog 174 = some (fun i => some (i * 1, 1)) := by kernel_rfl
theorem by176 : Tryz.prog.bytesOf 176 = 64 := by kernel_rfl
theorem tk176 : tkOf Tryz.prog 176 = some ⟨true, 6, [.v (.bool false), .v (.slice none 0 0), .v (.int .i64 0), .v (.int .i64 0), .v (.int .i64 0), .v (.int .i64 0)]⟩ := by kernel_rfl
theorem fs176 : fieldsOf Tryz.prog 176 = some [⟨ "Leaf", 4, 0, false, "", "", 0⟩, ⟨ "Factors", 46, 1, false, "", "", 8⟩, ⟨ "Variable", 3, 2, false, "", "", 32⟩, ⟨ "Bound", 3, 3, false, "", "", 40⟩, ⟨ "Kids", 174, 4, false, "", "", 48⟩] := by kernel_rfl
theorem pl176 : places Tryz.prog 176 = some (fun i => ([(0, 1), (1, 1), (2, 1), (3, 1), (4, 2)] : List (Nat × Nat))[i]?) := by kernel_rfl
theorem by179 : Tryz.prog.bytesOf 179 = 64 := by kernel_rfl
theorem tk179 : tkOf Tryz.prog 179 = some ⟨true, 6, [.v (.bool false), .v (.slice none 0 0), .v (.int .i64 0), .v (.int .i64 0), .v (.int .i64 0), .v (.int .i64 0)]⟩ := by kernel_rfl
theorem fs179 : fieldsOf Tryz.prog 179 = some [⟨ "Leaf", 4, 0, false, "", "", 0⟩, ⟨ "Factors", 46, 1, false, "", "", 8⟩, ⟨ "Variable", 3, 2, false, "", "", 32⟩, ⟨ "Bound", 3, 3, false, "", "", 40⟩, ⟨ "Kids", 174, 4, false, "", "", 48⟩] := by kernel_rfl
theorem pl179 : places Tryz.prog 179 = some (fun i => ([(0, 1), (1, 1), (2, 1), (3, 1), (4, 2)] : List (Nat × Nat))[i]?) := by kernel_rfl
theorem by180 : Tryz.prog.bytesOf 180 = 8 := by kernel_rfl
theorem tk180 : tkOf Tryz.prog 180 = some ⟨false, 1, [.v (.pointer none)]⟩ := by kernel_rfl
theorem by182 : Tryz.prog.bytesOf 182 = 32 := by kernel_rfl
theorem tk182 : tkOf Tryz.prog 182 = some ⟨true, 2, [.v (.slice none 0 0), .v (.int .i64 0)]⟩ := by kernel_rfl
theorem fs182 : fieldsOf Tryz.prog 182 = some [⟨ "p", 36, 0, false, "", "bailment/prove", 0⟩, ⟨ "count", 3, 1, false, "", "bailment/prove", 24⟩] := by kernel_rfl
theorem pl182 : places Tryz.prog 182 = some (fun i => ([(0, 1), (1, 1)] : List (Nat × Nat))[i]?) := by kernel_rfl
theorem by187 : Tryz.prog.bytesOf 187 = 24 := by kernel_rfl
theorem tk187 : tkOf Tryz.prog 187 = some ⟨true, 3, [.v (.int .i64 0), .v (.int .i64 0), .v (.int .i64 0)]⟩ := by kernel_rfl
theorem fs187 : fieldsOf Tryz.prog 187 = some [⟨ "many", 3, 0, false, "", "bailment/bailmentref29", 0⟩, ⟨ "at", 3, 1, false, "", "bailment/bailmentref29", 8⟩, ⟨ "error", 3, 2, false, "", "bailment/bailmentref29", 16⟩] := by kernel_rfl
theorem pl187 : places Tryz.prog 187 = some (fun i => ([(0, 1), (1, 1), (2, 1)] : List (Nat × Nat))[i]?) := by kernel_rfl
theorem by191 : Tryz.prog.bytesOf 191 = 24 := by kernel_rfl
theorem tk191 : tkOf Tryz.prog 191 = some ⟨false, 1, [.v (.slice none 0 0)]⟩ := by kernel_rfl
theorem el191 : elemOf Tryz.prog 191 = some (none, 29) := by kernel_rfl
theorem us191 : Tryz.prog.underlying 191 = some (.slice 29) := by kernel_rfl
theorem by193 : Tryz.prog.bytesOf 193 = 8 := by kernel_rfl
theorem tk193 : tkOf Tryz.prog 193 = some ⟨false, 1, [.v (.nilFunc)]⟩ := by kernel_rfl
theorem by198 : Tryz.prog.bytesOf 198 = 8 := by kernel_rfl
theorem tk198 : tkOf Tryz.prog 198 = some ⟨false, 1, [.v (.pointer none)]⟩ := by kernel_rfl
theorem by200 : Tryz.prog.bytesOf 200 = 32 := by kernel_rfl
theorem tk200 : tkOf Tryz.prog 200 = some ⟨true, 2, [.v (.slice none 0 0), .v (.int .i64 0)]⟩ := by kernel_rfl
theorem fs200 : fieldsOf Tryz.prog 200 = some [⟨ "terms", 32, 0, false, "", "bailment/prove", 0⟩, ⟨ "left", 3, 1, false, "", "bailment/prove", 24⟩] := by kernel_rfl
theorem pl200 : places Tryz.prog 200 = some (fun i => ([(0, 1), (1, 1)] : List (Nat × Nat))[i]?) := by kernel_rfl
theorem by204 : Tryz.prog.bytesOf 204 = 48 := by kernel_rfl
theorem tk204 : tkOf Tryz.prog 204 = some ⟨true, 4, [.v (.slice none 0 0), .v (.bool false), .v (.int .i64 0), .v (.int .i64 0)]⟩ := by kernel_rfl
theorem fs204 : fieldsOf Tryz.prog 204 = some [⟨ "values", 46, 0, false, "", "bailment/bailmentref29", 0⟩, ⟨ "is", 4, 1, false, "", "bailment/bailmentref29", 24⟩, ⟨ "left", 3, 2, false, "", "bailment/bailmentref29", 32⟩, ⟨ "error", 3, 3, false, "", "bailment/bailmentref29", 40⟩] := by kernel_rfl
theorem pl204 : places Tryz.prog 204 = some (fun i => ([(0, 1), (1, 1), (2, 1), (3, 1)] : List (Nat × Nat))[i]?) := by kernel_rfl
theorem by211 : Tryz.prog.bytesOf 211 = 24 := by kernel_rfl
theorem tk211 : tkOf Tryz.prog 211 = some ⟨false, 1, [.v (.slice none 0 0)]⟩ := by kernel_rfl
theorem el211 : elemOf Tryz.prog 211 = some (none, 4) := by kernel_rfl
theorem us211 : Tryz.prog.underlying 211 = some (.slice 4) := by kernel_rfl
theorem by216 : Tryz.prog.bytesOf 216 = 64 := by kernel_rfl
theorem tk216 : tkOf Tryz.prog 216 = some ⟨true, 4, [.v (.int .i64 0), .v (.slice none 0 0), .v (.int .i64 0), .v (.slice none 0 0)]⟩ := by kernel_rfl
theorem fs216 : fieldsOf Tryz.prog 216 = some [⟨ "Kind", 3, 0, false, "", "", 0⟩, ⟨ "Term", 94, 1, false, "", "", 8⟩, ⟨ "Kids", 46, 3, false, "", "", 40⟩] := by kernel_rfl
theorem pl216 : places Tryz.prog 216 = some (fun i => ([(0, 1), (1, 2), (3, 1)] : List (Nat × Nat))[i]?) := by kernel_rfl
theorem by218 : Tryz.prog.bytesOf 218 = 72 := by kernel_rfl
theorem tk218 : tkOf Tryz.prog 218 = some ⟨true, 5, [.v (.int .i64 0), .v (.slice none 0 0), .v (.int .i64 0), .v (.slice none 0 0), .v (.int .i64 0)]⟩ := by kernel_rfl
theorem fs218 : fieldsOf Tryz.prog 218 = some [⟨ "Node", 216, 0, true, "", "", 0⟩, ⟨ "at", 3, 4, false, "", "bailment/formula", 64⟩] := by kernel_rfl
theorem pl218 : places Tryz.prog 218 = some (fun i => ([(0, 4), (4, 1)] : List (Nat × Nat))[i]?) := by kernel_rfl
theorem by224 : Tryz.prog.bytesOf 224 = 8 := by kernel_rfl
theorem tk224 : tkOf Tryz.prog 224 = some ⟨false, 1, [.v (.nilFunc)]⟩ := by kernel_rfl
theorem by227 : Tryz.prog.bytesOf 227 = 8 := by kernel_rfl
theorem tk227 : tkOf Tryz.prog 227 = some ⟨false, 1, [.v (.nilFunc)]⟩ := by kernel_rfl
theorem by229 : Tryz.prog.bytesOf 229 = 16 := by kernel_rfl
theorem tk229 : tkOf Tryz.prog 229 = some ⟨true, 2, [.v (.int .i64 0), .v (.bool false)]⟩ := by kernel_rfl
theorem fs229 : fieldsOf Tryz.prog 229 = some [⟨ "at", 3, 0, false, "", "bailment/formula", 0⟩, ⟨ "opposite", 4, 1, false, "", "bailment/formula", 8⟩] := by kernel_rfl
theorem pl229 : places Tryz.prog 229 = some (fun i => ([(0, 1), (1, 1)] : List (Nat × Nat))[i]?) := by kernel_rfl
theorem by234 : Tryz.prog.bytesOf 234 = 16 := by kernel_rfl
theorem tk234 : tkOf Tryz.prog 234 = some ⟨true, 2, [.v (.int .i64 0), .v (.int .i64 0)]⟩ := by kernel_rfl
theorem el234 : elemOf Tryz.prog 234 = some (some 2, 3) := by kernel_rfl
theorem fs234 : fieldsOf Tryz.prog 234 = none := by kernel_rfl
theorem pl234 : places Tryz.prog 234 = some (fun i => some (i * 1, 1)) := by kernel_rfl
theorem by236 : Tryz.prog.bytesOf 236 = 8 := by kernel_rfl
theorem tk236 : tkOf Tryz.prog 236 = some ⟨false, 1, [.v (.pointer none)]⟩ := by kernel_rfl
theorem by237 : Tryz.prog.bytesOf 237 = 8 := by kernel_rfl
theorem tk237 : tkOf Tryz.prog 237 = some ⟨false, 1, [.v (.map none)]⟩ := by kernel_rfl
theorem by239 : Tryz.prog.bytesOf 239 = 48 := by kernel_rfl
theorem tk239 : tkOf Tryz.prog 239 = some ⟨true, 4, [.v (.int .i64 0), .v (.slice none 0 0), .v (.map none), .v (.bool false)]⟩ := by kernel_rfl
theorem fs239 : fieldsOf Tryz.prog 239 = some [⟨ "f", 66, 0, false, "", "bailment/formula", 0⟩, ⟨ "seen", 237, 2, false, "", "bailment/formula", 32⟩, ⟨ "large", 4, 3, false, "", "bailment/formula", 40⟩] := by kernel_rfl
theorem pl239 : places Tryz.prog 239 = some (fun i => ([(0, 2), (2, 1), (3, 1)] : List (Nat × Nat))[i]?) := by kernel_rfl
theorem by252 : Tryz.prog.bytesOf 252 = 8 := by kernel_rfl
theorem tk252 : tkOf Tryz.prog 252 = some ⟨false, 1, [.v (.nilFunc)]⟩ := by kernel_rfl
theorem by265 : Tryz.prog.bytesOf 265 = 8 := by kernel_rfl
theorem tk265 : tkOf Tryz.prog 265 = some ⟨false, 1, [.v (.nilFunc)]⟩ := by kernel_rfl
theorem by267 : Tryz.prog.bytesOf 267 = 24 := by kernel_rfl
theorem tk267 : tkOf Tryz.prog 267 = some ⟨false, 1, [.v (.slice none 0 0)]⟩ := by kernel_rfl
theorem el267 : elemOf Tryz.prog 267 = some (none, 9) := by kernel_rfl
theorem us267 : Tryz.prog.underlying 267 = some (.slice 9) := by kernel_rfl
theorem by269 : Tryz.prog.bytesOf 269 = 8 := by kernel_rfl
theorem tk269 : tkOf Tryz.prog 269 = some ⟨false, 1, [.v (.nilFunc)]⟩ := by kernel_rfl
theorem by279 : Tryz.prog.bytesOf 279 = 8 := by kernel_rfl
theorem tk279 : tkOf Tryz.prog 279 = some ⟨false, 1, [.v (.nilFunc)]⟩ := by kernel_rfl
theorem by301 : Tryz.prog.bytesOf 301 = 96 := by kernel_rfl
theorem tk301 : tkOf Tryz.prog 301 = some ⟨true, 8, [.v (.bool false), .v (.slice none 0 0), .v (.int .i64 0), .v (.int .i64 0), .v (.int .i64 0), .v (.int .i64 0), .v (.int .i64 0), .v (.slice none 0 0)]⟩ := by kernel_rfl
theorem fs301 : fieldsOf Tryz.prog 301 = some [⟨ "Step", 179, 0, true, "", "", 0⟩, ⟨ "at", 3, 6, false, "", "bailment/prove", 64⟩, ⟨ "terms", 32, 7, false, "", "bailment/prove", 72⟩] := by kernel_rfl
theorem pl301 : places Tryz.prog 301 = some (fun i => ([(0, 6), (6, 1), (7, 1)] : List (Nat × Nat))[i]?) := by kernel_rfl
theorem by303 : Tryz.prog.bytesOf 303 = 64 := by kernel_rfl
theorem tk303 : tkOf Tryz.prog 303 = some ⟨true, 4, [.v (.slice none 0 0), .v (.int .i64 0), .v (.slice none 0 0), .v (.int .i64 0)]⟩ := by kernel_rfl
theorem el303 : elemOf Tryz.prog 303 = some (some 2, 94) := by kernel_rfl
theorem fs303 : fieldsOf Tryz.prog 303 = none := by kernel_rfl
theorem pl303 : places Tryz.prog 303 = some (fun i => some (i * 2, 2)) := by kernel_rfl
theorem by307 : Tryz.prog.bytesOf 307 = 16 := by kernel_rfl
theorem tk307 : tkOf Tryz.prog 307 = some ⟨true, 2, [.v (.int .i64 0), .v (.int .i64 0)]⟩ := by kernel_rfl
theorem el307 : elemOf Tryz.prog 307 = some (some 2, 3) := by kernel_rfl
theorem fs307 : fieldsOf Tryz.prog 307 = none := by kernel_rfl
theorem pl307 : places Tryz.prog 307 = some (fun i => some (i * 1, 1)) := by kernel_rfl
theorem by309 : Tryz.prog.bytesOf 309 = 32 := by kernel_rfl
theorem tk309 : tkOf Tryz.prog 309 = some ⟨true, 4, [.v (.int .i64 0), .v (.int .i64 0), .v (.int .i64 0), .v (.int .i64 0)]⟩ := by kernel_rfl
theorem el309 : elemOf Tryz.prog 309 = some (some 2, 91) := by kernel_rfl
theorem fs309 : fieldsOf Tryz.prog 309 = none := by kernel_rfl
theorem pl309 : places Tryz.prog 309 = some (fun i => some (i * 2, 2)) := by kernel_rfl
theorem by325 : Tryz.prog.bytesOf 325 = 8 := by kernel_rfl
theorem tk325 : tkOf Tryz.prog 325 = some ⟨false, 1, [.v (.nilFunc)]⟩ := by kernel_rfl
theorem by329 : Tryz.prog.bytesOf 329 = 8 := by kernel_rfl
theorem tk329 : tkOf Tryz.prog 329 = some ⟨false, 1, [.v (.nilFunc)]⟩ := by kernel_rfl
theorem by331 : Tryz.prog.bytesOf 331 = 32 := by kernel_rfl
theorem tk331 : tkOf Tryz.prog 331 = some ⟨true, 3, [.v (.string ByteArray.empty), .v (.nilFunc), .v (.nilFunc)]⟩ := by kernel_rfl
theorem fs331 : fieldsOf Tryz.prog 331 = some [⟨ "word", 9, 0, false, "", "bailment/prove", 0⟩, ⟨ "fits", 224, 1, false, "", "bailment/prove", 16⟩, ⟨ "made", 329, 2, false, "", "bailment/prove", 24⟩] := by kernel_rfl
theorem pl331 : places Tryz.prog 331 = some (fun i => ([(0, 1), (1, 1), (2, 1)] : List (Nat × Nat))[i]?) := by kernel_rfl
theorem by332 : Tryz.prog.bytesOf 332 = 64 := by kernel_rfl
theorem tk332 : tkOf Tryz.prog 332 = some ⟨true, 6, [.v (.string ByteArray.empty), .v (.nilFunc), .v (.nilFunc), .v (.string ByteArray.empty), .v (.nilFunc), .v (.nilFunc)]⟩ := by kernel_rfl
theorem el332 : elemOf Tryz.prog 332 = some (some 2, 331) := by kernel_rfl
theorem fs332 : fieldsOf Tryz.prog 332 = none := by kernel_rfl
theorem pl332 : places Tryz.prog 332 = some (fun i => some (i * 3, 3)) := by kernel_rfl
theorem by334 : Tryz.prog.bytesOf 334 = 8 := by kernel_rfl
theorem tk334 : tkOf Tryz.prog 334 = some ⟨false, 1, [.v (.nilFunc)]⟩ := by kernel_rfl
theorem by336 : Tryz.prog.bytesOf 336 = 8 := by kernel_rfl
theorem tk336 : tkOf Tryz.prog 336 = some ⟨false, 1, [.v (.nilFunc)]⟩ := by kernel_rfl
theorem by337 : Tryz.prog.bytesOf 337 = 8 := by kernel_rfl
theorem tk337 : tkOf Tryz.prog 337 = some ⟨false, 1, [.v (.map none)]⟩ := by kernel_rfl
theorem by343 : Tryz.prog.bytesOf 343 = 8 := by kernel_rfl
theorem tk343 : tkOf Tryz.prog 343 = some ⟨false, 1, [.v (.nilFunc)]⟩ := by kernel_rfl
theorem by344 : Tryz.prog.bytesOf 344 = 24 := by kernel_rfl
theorem tk344 : tkOf Tryz.prog 344 = some ⟨false, 1, [.v (.slice none 0 0)]⟩ := by kernel_rfl
theorem el344 : elemOf Tryz.prog 344 = some (none, 73) := by kernel_rfl
theorem us344 : Tryz.prog.underlying 344 = some (.slice 73) := by kernel_rfl
theorem by346 : Tryz.prog.bytesOf 346 = 8 := by kernel_rfl
theorem tk346 : tkOf Tryz.prog 346 = some ⟨false, 1, [.v (.nilFunc)]⟩ := by kernel_rfl
theorem by352 : Tryz.prog.bytesOf 352 = 8 := by kernel_rfl
theorem tk352 : tkOf Tryz.prog 352 = some ⟨false, 1, [.v (.nilFunc)]⟩ := by kernel_rfl
attribute [go_sem] by1 tk1 by2 tk2 us2 by3 tk3 us3 by4 tk4 us4 by5 tk5 us5 by6 tk6 us6 by7 tk7 fs7
attribute [go_sem] pl7 by8 tk8 fs8 pl8 by9 tk9 us9
attribute [go_sem] by16 tk16 by17 tk17
attribute [go_sem] by21 tk21 us21 by22 tk22 el22 us22 by23 tk23 el23 us23 by24 tk24 fs24 pl24 by25 tk25 fs25 pl25
attribute [go_sem] by29 tk29 us29 by32 tk32 el32 us32 by34 tk34 el34
attribute [go_sem] us34 by36 tk36 fs36 pl36 by40 tk40
attribute [go_sem] by45 tk45 el45 us45 by46 tk46 el46 us46 by48 tk48 by49 tk49 el49 us49
attribute [go_sem] by53 tk53 by58 tk58 el58 us58 by60
attribute [go_sem] tk60 fs60 pl60 by64 tk64 el64 us64 by66 tk66 fs66 pl66
attribute [go_sem] by72 tk72 by73 tk73 el73 us73 by76 tk76 el76
attribute [go_sem] us76 by78 tk78 by88
attribute [go_sem] tk88 fs88 pl88 by91 tk91 fs91 pl91 by94 tk94 fs94 pl94
attribute [go_sem] by97 tk97 fs97 pl97
attribute [go_sem] by106 tk106
attribute [go_sem] by138 tk138 fs138 pl138
attribute [go_sem] by174 tk174 el174 fs174 pl174 by176 tk176 fs176 pl176
attribute [go_sem] by179 tk179 fs179 pl179 by180 tk180 by182 tk182 fs182 pl182
attribute [go_sem] by187 tk187 fs187 pl187 by191 tk191 el191 us191
attribute [go_sem] by193 tk193 by198 tk198 by200 tk200
attribute [go_sem] fs200 pl200 by204 tk204 fs204 pl204
attribute [go_sem] by211 tk211 el211 us211
attribute [go_sem] by216 tk216 fs216 pl216 by218 tk218 fs218 pl218
attribute [go_sem] by224 tk224 by227 tk227
attribute [go_sem] by229 tk229 fs229 pl229 by234 tk234 el234
attribute [go_sem] fs234 pl234 by236 tk236 by237 tk237 by239 tk239 fs239 pl239
attribute [go_sem] by252 tk252
attribute [go_sem] by265 tk265 by267 tk267 el267 us267 by269 tk269
attribute [go_sem] by279 tk279
attribute [go_sem] by301 tk301 fs301 pl301 by303 tk303
attribute [go_sem] el303 fs303 pl303 by307 tk307 el307 fs307 pl307 by309 tk309 el309 fs309
attribute [go_sem] pl309
attribute [go_sem] by325 tk325 by329 tk329 by331
attribute [go_sem] tk331 fs331 pl331 by332 tk332 el332 fs332 pl332 by334 tk334 by336 tk336 by337 tk337
attribute [go_sem] by343 tk343 by344 tk344 el344 us344 by346 tk346
attribute [go_sem] by352 tk352
end Go.AL
