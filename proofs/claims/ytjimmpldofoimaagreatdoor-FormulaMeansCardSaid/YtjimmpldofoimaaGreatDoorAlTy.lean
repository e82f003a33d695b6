/- Facts on the program's types, each by the kernel. -/
import Derived.Test.YtjimmpldofoimaaGreatDoorAlCall
import Derived.Test.YtjimmpldofoimaaGreatDoorProg
import Derived.KernelRfl
namespace Go.AL
open Go.Proofs
theorem by1 : Tryz.prog.bytesOf 1 = 8 := by kernel_rfl
theorem tk1 : tkOf Tryz.prog 1 = some ⟨false, 1, [.v (.nilFunc)]⟩ := by kernel_rfl
theorem by2 : Tryz.prog.bytesOf 2 = 8 := by kernel_rfl
theorem tk2 : tkOf Tryz.prog 2 = some ⟨false, 1, [.v (.int .i64 0)]⟩ := by kernel_rfl
theorem us2 : Tryz.prog.underlying 2 = some (.int .i64) := by kernel_rfl
theorem by3 : Tryz.prog.bytesOf 3 = 8 := by kernel_rfl
theorem tk3 : tkOf Tryz.prog 3 = some ⟨false, 1, [.v (.int .i64 0)]⟩ := by kernel_rfl
theorem us3 : Tryz.prog.underlying 3 = some (.int .i64) := by kernel_rfl
theorem by4 : Tryz.prog.bytesOf 4 = 1 := by kernel_rfl
theorem tk4 : tkOf Tryz.prog 4 = some ⟨false, 1, [.v (.bool false)]⟩ := by kernel_rfl
theorem us4 : Tryz.prog.underlying 4 = some .bool := by kernel_rfl
theorem by5 : Tryz.prog.bytesOf 5 = 1 := by kernel_rfl
theorem tk5 : tkOf Tryz.prog 5 = some ⟨false, 1, [.v (.int .u8 0)]⟩ := by kernel_rfl
theorem us5 : Tryz.prog.underlying 5 = some (.int .u8) := by kernel_rfl
theorem by6 : Tryz.prog.bytesOf 6 = 1 := by kernel_rfl
theorem tk6 : tkOf Tryz.prog 6 = some ⟨false, 1, [.v (.int .u8 0)]⟩ := by kernel_rfl
theorem us6 : Tryz.prog.underlying 6 = some (.int .u8) := by kernel_rfl
theorem by7 : Tryz.prog.bytesOf 7 = 24 := by kernel_rfl
theorem tk7 : tkOf Tryz.prog 7 = some ⟨true, 4, [.v (.int .i64 0), .v (.int .i64 0), .v (.bool false), .v (.int .u8 0)]⟩ := by kernel_rfl
theorem fs7 : fieldsOf Tryz.prog 7 = some [⟨ "x", 2, 0, false, "", "runtime", 0⟩, ⟨ "y", 3, 1, false, "", "runtime", 8⟩, ⟨ "signed", 4, 2, false, "", "runtime", 16⟩, ⟨ "code", 6, 3, false, "", "runtime", 17⟩] := by kernel_rfl
theorem pl7 : places Tryz.prog 7 = some (fun i => ([(0, 1), (1, 1), (2, 1), (3, 1)] : List (Nat × Nat))[i]?) := by kernel_rfl
theorem by8 : Tryz.prog.bytesOf 8 = 24 := by kernel_rfl
theorem tk8 : tkOf Tryz.prog 8 = some ⟨true, 4, [.v (.int .i64 0), .v (.int .i64 0), .v (.bool false), .v (.int .u8 0)]⟩ := by kernel_rfl
theorem fs8 : fieldsOf Tryz.prog 8 = some [⟨ "x", 2, 0, false, "", "runtime", 0⟩, ⟨ "y", 3, 1, false, "", "runtime", 8⟩, ⟨ "signed", 4, 2, false, "", "runtime", 16⟩, ⟨ "code", 6, 3, false, "", "runtime", 17⟩] := by kernel_rfl
theorem pl8 : places Tryz.prog 8 = some (fun i => ([(0, 1), (1, 1), (2, 1), (3, 1)] : List (Nat × Nat))[i]?) := by kernel_rfl
theorem by9 : Tryz.prog.bytesOf 9 = 16 := by kernel_rfl
theorem tk9 : tkOf Tryz.prog 9 = some ⟨false, 1, [.v (.string ByteArray.empty)]⟩ := by kernel_rfl
theorem us9 : Tryz.prog.underlying 9 = some .string := by kernel_rfl
theorem by10 : Tryz.prog.bytesOf 10 = 16 := by kernel_rfl
theorem tk10 : tkOf Tryz.prog 10 = some ⟨false, 1, [.v (.string ByteArray.empty)]⟩ := by kernel_rfl
theorem us10 : Tryz.prog.underlying 10 = some .string := by kernel_rfl
theorem by11 : Tryz.prog.bytesOf 11 = 16 := by kernel_rfl
theorem tk11 : tkOf Tryz.prog 11 = some ⟨false, 1, [.v (.string ByteArray.empty)]⟩ := by kernel_rfl
theorem us11 : Tryz.prog.underlying 11 = some .string := by kernel_rfl
theorem by12 : Tryz.prog.bytesOf 12 = 8 := by kernel_rfl
theorem tk12 : tkOf Tryz.prog 12 = some ⟨false, 1, [.v (.int .u64 0)]⟩ := by kernel_rfl
theorem us12 : Tryz.prog.underlying 12 = some (.int .u64) := by kernel_rfl
theorem by13 : Tryz.prog.bytesOf 13 = 24 := by kernel_rfl
theorem tk13 : tkOf Tryz.prog 13 = some ⟨true, 2, [.v (.string ByteArray.empty), .v (.int .u64 0)]⟩ := by kernel_rfl
theorem fs13 : fieldsOf Tryz.prog 13 = some [⟨ "msg", 9, 0, false, "", "runtime", 0⟩, ⟨ "addr", 12, 1, false, "", "runtime", 16⟩] := by kernel_rfl
theorem pl13 : places Tryz.prog 13 = some (fun i => ([(0, 1), (1, 1)] : List (Nat × Nat))[i]?) := by kernel_rfl
theorem by14 : Tryz.prog.bytesOf 14 = 24 := by kernel_rfl
theorem tk14 : tkOf Tryz.prog 14 = some ⟨true, 2, [.v (.string ByteArray.empty), .v (.int .u64 0)]⟩ := by kernel_rfl
theorem fs14 : fieldsOf Tryz.prog 14 = some [⟨ "msg", 9, 0, false, "", "runtime", 0⟩, ⟨ "addr", 12, 1, false, "", "runtime", 16⟩] := by kernel_rfl
theorem pl14 : places Tryz.prog 14 = some (fun i => ([(0, 1), (1, 1)] : List (Nat × Nat))[i]?) := by kernel_rfl
theorem by15 : Tryz.prog.bytesOf 15 = 8 := by kernel_rfl
theorem tk15 : tkOf Tryz.prog 15 = some ⟨false, 1, [.v (.pointer none)]⟩ := by kernel_rfl
theorem by16 : Tryz.prog.bytesOf 16 = 8 := by kernel_rfl
theorem tk16 : tkOf Tryz.prog 16 = some ⟨false, 1, [.v (.pointer none)]⟩ := by kernel_rfl
theorem by17 : Tryz.prog.bytesOf 17 = 8 := by kernel_rfl
theorem tk17 : tkOf Tryz.prog 17 = some ⟨false, 1, [.v (.pointer none)]⟩ := by kernel_rfl
theorem by18 : Tryz.prog.bytesOf 18 = 8 := by kernel_rfl
theorem tk18 : tkOf Tryz.prog 18 = some ⟨true, 1, [.v (.pointer none)]⟩ := by kernel_rfl
theorem fs18 : fieldsOf Tryz.prog 18 = some [⟨ "typ", 17, 0, false, "", "internal/runtime/maps", 0⟩] := by kernel_rfl
theorem pl18 : places Tryz.prog 18 = some (fun i => ([(0, 1)] : List (Nat × Nat))[i]?) := by kernel_rfl
theorem by19 : Tryz.prog.bytesOf 19 = 8 := by kernel_rfl
theorem tk19 : tkOf Tryz.prog 19 = some ⟨true, 1, [.v (.pointer none)]⟩ := by kernel_rfl
theorem fs19 : fieldsOf Tryz.prog 19 = some [⟨ "typ", 17, 0, false, "", "internal/runtime/maps", 0⟩] := by kernel_rfl
theorem pl19 : places Tryz.prog 19 = some (fun i => ([(0, 1)] : List (Nat × Nat))[i]?) := by kernel_rfl
theorem by20 : Tryz.prog.bytesOf 20 = 16 := by kernel_rfl
theorem tk20 : tkOf Tryz.prog 20 = some ⟨false, 1, [.v (.nilIface)]⟩ := by kernel_rfl
theorem by21 : Tryz.prog.bytesOf 21 = 4 := by kernel_rfl
theorem tk21 : tkOf Tryz.prog 21 = some ⟨false, 1, [.v (.int .i32 0)]⟩ := by kernel_rfl
theorem us21 : Tryz.prog.underlying 21 = some (.int .i32) := by kernel_rfl
theorem by22 : Tryz.prog.bytesOf 22 = 24 := by kernel_rfl
theorem tk22 : tkOf Tryz.prog 22 = some ⟨false, 1, [.v (.slice none 0 0)]⟩ := by kernel_rfl
theorem el22 : elemOf Tryz.prog 22 = some (none, 88) := by kernel_rfl
theorem us22 : Tryz.prog.underlying 22 = some (.slice 88) := by kernel_rfl
theorem by23 : Tryz.prog.bytesOf 23 = 24 := by kernel_rfl
theorem tk23 : tkOf Tryz.prog 23 = some ⟨false, 1, [.v (.slice none 0 0)]⟩ := by kernel_rfl
theorem el23 : elemOf Tryz.prog 23 = some (none, 176) := by kernel_rfl
theorem us23 : Tryz.prog.underlying 23 = some (.slice 176) := by kernel_rfl
theorem by24 : Tryz.prog.bytesOf 24 = 24 := by kernel_rfl
theorem tk24 : tkOf Tryz.prog 24 = some ⟨true, 1, [.v (.slice none 0 0)]⟩ := by kernel_rfl
theorem fs24 : fieldsOf Tryz.prog 24 = some [⟨ "Steps", 23, 0, false, "", "", 0⟩] := by kernel_rfl
theorem pl24 : places Tryz.prog 24 = some (fun i => ([(0, 1)] : List (Nat × Nat))[i]?) := by kernel_rfl
theorem by25 : Tryz.prog.bytesOf 25 = 24 := by kernel_rfl
theorem tk25 : tkOf Tryz.prog 25 = some ⟨true, 1, [.v (.slice none 0 0)]⟩ := by kernel_rfl
theorem fs25 : fieldsOf Tryz.prog 25 = some [⟨ "Steps", 23, 0, false, "", "", 0⟩] := by kernel_rfl
theorem pl25 : places Tryz.prog 25 = some (fun i => ([(0, 1)] : List (Nat × Nat))[i]?) := by kernel_rfl
theorem by26 : Tryz.prog.bytesOf 26 = 8 := by kernel_rfl
theorem tk26 : tkOf Tryz.prog 26 = some ⟨false, 1, [.v (.nilFunc)]⟩ := by kernel_rfl
theorem by27 : Tryz.prog.bytesOf 27 = 8 := by kernel_rfl
theorem tk27 : tkOf Tryz.prog 27 = some ⟨false, 1, [.v (.nilFunc)]⟩ := by kernel_rfl
theorem by28 : Tryz.prog.bytesOf 28 = 8 := by kernel_rfl
theorem tk28 : tkOf Tryz.prog 28 = some ⟨false, 1, [.v (.nilFunc)]⟩ := by kernel_rfl
theorem by29 : Tryz.prog.bytesOf 29 = 8 := by kernel_rfl
theorem tk29 : tkOf Tryz.prog 29 = some ⟨false, 1, [.v (.int .i64 0)]⟩ := by kernel_rfl
theorem us29 : Tryz.prog.underlying 29 = some (.int .i64) := by kernel_rfl
theorem by31 : Tryz.prog.bytesOf 31 = 8 := by kernel_rfl
theorem tk31 : tkOf Tryz.prog 31 = some ⟨false, 1, [.v (.nilFunc)]⟩ := by kernel_rfl
theorem by32 : Tryz.prog.bytesOf 32 = 24 := by kernel_rfl
theorem tk32 : tkOf Tryz.prog 32 = some ⟨false, 1, [.v (.slice none 0 0)]⟩ := by kernel_rfl
theorem el32 : elemOf Tryz.prog 32 = some (none, 94) := by kernel_rfl
theorem us32 : Tryz.prog.underlying 32 = some (.slice 94) := by kernel_rfl
theorem by33 : Tryz.prog.bytesOf 33 = 8 := by kernel_rfl
theorem tk33 : tkOf Tryz.prog 33 = some ⟨false, 1, [.v (.nilFunc)]⟩ := by kernel_rfl
theorem by34 : Tryz.prog.bytesOf 34 = 24 := by kernel_rfl
theorem tk34 : tkOf Tryz.prog 34 = some ⟨false, 1, [.v (.slice none 0 0)]⟩ := by kernel_rfl
theorem el34 : elemOf Tryz.prog 34 = some (none, 179) := by kernel_rfl
theorem us34 : Tryz.prog.underlying 34 = some (.slice 179) := by kernel_rfl
theorem by35 : Tryz.prog.bytesOf 35 = 24 := by kernel_rfl
theorem tk35 : tkOf Tryz.prog 35 = some ⟨true, 1, [.v (.slice none 0 0)]⟩ := by kernel_rfl
theorem fs35 : fieldsOf Tryz.prog 35 = some [⟨ "Steps", 34, 0, false, "", "", 0⟩] := by kernel_rfl
theorem pl35 : places Tryz.prog 35 = some (fun i => ([(0, 1)] : List (Nat × Nat))[i]?) := by kernel_rfl
theorem by36 : Tryz.prog.bytesOf 36 = 24 := by kernel_rfl
theorem tk36 : tkOf Tryz.prog 36 = some ⟨true, 1, [.v (.slice none 0 0)]⟩ := by kernel_rfl
theorem fs36 : fieldsOf Tryz.prog 36 = some [⟨ "Steps", 34, 0, false, "", "", 0⟩] := by kernel_rfl
theorem pl36 : places Tryz.prog 36 = some (fun i => ([(0, 1)] : List (Nat × Nat))[i]?) := by kernel_rfl
theorem by37 : Tryz.prog.bytesOf 37 = 8 := by kernel_rfl
theorem tk37 : tkOf Tryz.prog 37 = some ⟨false, 1, [.v (.nilFunc)]⟩ := by kernel_rfl
theorem by39 : Tryz.prog.bytesOf 39 = 8 := by kernel_rfl
theorem tk39 : tkOf Tryz.prog 39 = some ⟨false, 1, [.v (.nilFunc)]⟩ := by kernel_rfl
theorem by40 : Tryz.prog.bytesOf 40 = 8 := by kernel_rfl
theorem tk40 : tkOf Tryz.prog 40 = some ⟨false, 1, [.v (.nilFunc)]⟩ := by kernel_rfl
theorem by41 : Tryz.prog.bytesOf 41 = 8 := by kernel_rfl
theorem tk41 : tkOf Tryz.prog 41 = some ⟨false, 1, [.v (.nilFunc)]⟩ := by kernel_rfl
theorem by42 : Tryz.prog.bytesOf 42 = 8 := by kernel_rfl
theorem tk42 : tkOf Tryz.prog 42 = some ⟨false, 1, [.v (.nilFunc)]⟩ := by kernel_rfl
theorem by43 : Tryz.prog.bytesOf 43 = 8 := by kernel_rfl
theorem tk43 : tkOf Tryz.prog 43 = some ⟨false, 1, [.v (.nilFunc)]⟩ := by kernel_rfl
theorem by44 : Tryz.prog.bytesOf 44 = 8 := by kernel_rfl
theorem tk44 : tkOf Tryz.prog 44 = some ⟨false, 1, [.v (.nilFunc)]⟩ := by kernel_rfl
theorem by45 : Tryz.prog.bytesOf 45 = 24 := by kernel_rfl
theorem tk45 : tkOf Tryz.prog 45 = some ⟨false, 1, [.v (.slice none 0 0)]⟩ := by kernel_rfl
theorem el45 : elemOf Tryz.prog 45 = some (none, 97) := by kernel_rfl
theorem us45 : Tryz.prog.underlying 45 = some (.slice 97) := by kernel_rfl
theorem by46 : Tryz.prog.bytesOf 46 = 24 := by kernel_rfl
theorem tk46 : tkOf Tryz.prog 46 = some ⟨false, 1, [.v (.slice none 0 0)]⟩ := by kernel_rfl
theorem el46 : elemOf Tryz.prog 46 = some (none, 3) := by kernel_rfl
theorem us46 : Tryz.prog.underlying 46 = some (.slice 3) := by kernel_rfl
theorem by48 : Tryz.prog.bytesOf 48 = 8 := by kernel_rfl
theorem tk48 : tkOf Tryz.prog 48 = some ⟨false, 1, [.v (.nilFunc)]⟩ := by kernel_rfl
theorem by49 : Tryz.prog.bytesOf 49 = 24 := by kernel_rfl
theorem tk49 : tkOf Tryz.prog 49 = some ⟨false, 1, [.v (.slice none 0 0)]⟩ := by kernel_rfl
theorem el49 : elemOf Tryz.prog 49 = some (none, 91) := by kernel_rfl
theorem us49 : Tryz.prog.underlying 49 = some (.slice 91) := by kernel_rfl
theorem by50 : Tryz.prog.bytesOf 50 = 8 := by kernel_rfl
theorem tk50 : tkOf Tryz.prog 50 = some ⟨false, 1, [.v (.nilFunc)]⟩ := by kernel_rfl
theorem by51 : Tryz.prog.bytesOf 51 = 8 := by kernel_rfl
theorem tk51 : tkOf Tryz.prog 51 = some ⟨false, 1, [.v (.nilFunc)]⟩ := by kernel_rfl
theorem by52 : Tryz.prog.bytesOf 52 = 8 := by kernel_rfl
theorem tk52 : tkOf Tryz.prog 52 = some ⟨false, 1, [.v (.nilFunc)]⟩ := by kernel_rfl
theorem by53 : Tryz.prog.bytesOf 53 = 8 := by kernel_rfl
theorem tk53 : tkOf Tryz.prog 53 = some ⟨false, 1, [.v (.nilFunc)]⟩ := by kernel_rfl
theorem by55 : Tryz.prog.bytesOf 55 = 8 := by kernel_rfl
theorem tk55 : tkOf Tryz.prog 55 = some ⟨false, 1, [.v (.nilFunc)]⟩ := by kernel_rfl
theorem by56 : Tryz.prog.bytesOf 56 = 8 := by kernel_rfl
theorem tk56 : tkOf Tryz.prog 56 = some ⟨false, 1, [.v (.nilFunc)]⟩ := by kernel_rfl
theorem by57 : Tryz.prog.bytesOf 57 = 8 := by kernel_rfl
theorem tk57 : tkOf Tryz.prog 57 = some ⟨false, 1, [.v (.nilFunc)]⟩ := by kernel_rfl
theorem by58 : Tryz.prog.bytesOf 58 = 24 := by kernel_rfl
theorem tk58 : tkOf Tryz.prog 58 = some ⟨false, 1, [.v (.slice none 0 0)]⟩ := by kernel_rfl
theorem el58 : elemOf Tryz.prog 58 = some (none, 138) := by kernel_rfl
theorem us58 : Tryz.prog.underlying 58 = some (.slice 138) := by kernel_rfl
theorem by59 : Tryz.prog.bytesOf 59 = 32 := by kernel_rfl
theorem tk59 : tkOf Tryz.prog 59 = some ⟨true, 2, [.v (.int .i64 0), .v (.slice none 0 0)]⟩ := by kernel_rfl
theorem fs59 : fieldsOf Tryz.prog 59 = some [⟨ "Vars", 3, 0, false, "", "", 0⟩, ⟨ "Nodes", 58, 1, false, "", "", 8⟩] := by kernel_rfl
theorem pl59 : places Tryz.prog 59 = some (fun i => ([(0, 1), (1, 1)] : List (Nat × Nat))[i]?) := by kernel_rfl
theorem by60 : Tryz.prog.bytesOf 60 = 32 := by kernel_rfl
theorem tk60 : tkOf Tryz.prog 60 = some ⟨true, 2, [.v (.int .i64 0), .v (.slice none 0 0)]⟩ := by kernel_rfl
theorem fs60 : fieldsOf Tryz.prog 60 = some [⟨ "Vars", 3, 0, false, "", "", 0⟩, ⟨ "Nodes", 58, 1, false, "", "", 8⟩] := by kernel_rfl
theorem pl60 : places Tryz.prog 60 = some (fun i => ([(0, 1), (1, 1)] : List (Nat × Nat))[i]?) := by kernel_rfl
theorem by61 : Tryz.prog.bytesOf 61 = 8 := by kernel_rfl
theorem tk61 : tkOf Tryz.prog 61 = some ⟨false, 1, [.v (.nilFunc)]⟩ := by kernel_rfl
theorem by63 : Tryz.prog.bytesOf 63 = 8 := by kernel_rfl
theorem tk63 : tkOf Tryz.prog 63 = some ⟨false, 1, [.v (.nilFunc)]⟩ := by kernel_rfl
theorem by64 : Tryz.prog.bytesOf 64 = 24 := by kernel_rfl
theorem tk64 : tkOf Tryz.prog 64 = some ⟨false, 1, [.v (.slice none 0 0)]⟩ := by kernel_rfl
theorem el64 : elemOf Tryz.prog 64 = some (none, 216) := by kernel_rfl
theorem us64 : Tryz.prog.underlying 64 = some (.slice 216) := by kernel_rfl
theorem by65 : Tryz.prog.bytesOf 65 = 32 := by kernel_rfl
theorem tk65 : tkOf Tryz.prog 65 = some ⟨true, 2, [.v (.int .i64 0), .v (.slice none 0 0)]⟩ := by kernel_rfl
theorem fs65 : fieldsOf Tryz.prog 65 = some [⟨ "Vars", 3, 0, false, "", "", 0⟩, ⟨ "Nodes", 64, 1, false, "", "", 8⟩] := by kernel_rfl
theorem pl65 : places Tryz.prog 65 = some (fun i => ([(0, 1), (1, 1)] : List (Nat × Nat))[i]?) := by kernel_rfl
theorem by66 : Tryz.prog.bytesOf 66 = 32 := by kernel_rfl
theorem tk66 : tkOf Tryz.prog 66 = some ⟨true, 2, [.v (.int .i64 0), .v (.slice none 0 0)]⟩ := by kernel_rfl
theorem fs66 : fieldsOf Tryz.prog 66 = some [⟨ "Vars", 3, 0, false, "", "", 0⟩, ⟨ "Nodes", 64, 1, false, "", "", 8⟩] := by kernel_rfl
theorem pl66 : places Tryz.prog 66 = some (fun i => ([(0, 1), (1, 1)] : List (Nat × Nat))[i]?) := by kernel_rfl
theorem by67 : Tryz.prog.bytesOf 67 = 8 := by kernel_rfl
theorem tk67 : tkOf Tryz.prog 67 = some ⟨false, 1, [.v (.nilFunc)]⟩ := by kernel_rfl
theorem by68 : Tryz.prog.bytesOf 68 = 8 := by kernel_rfl
theorem tk68 : tkOf Tryz.prog 68 = some ⟨false, 1, [.v (.nilFunc)]⟩ := by kernel_rfl
theorem by69 : Tryz.prog.bytesOf 69 = 8 := by kernel_rfl
theorem tk69 : tkOf Tryz.prog 69 = some ⟨false, 1, [.v (.nilFunc)]⟩ := by kernel_rfl
theorem by70 : Tryz.prog.bytesOf 70 = 8 := by kernel_rfl
theorem tk70 : tkOf Tryz.prog 70 = some ⟨false, 1, [.v (.nilFunc)]⟩ := by kernel_rfl
theorem by71 : Tryz.prog.bytesOf 71 = 8 := by kernel_rfl
theorem tk71 : tkOf Tryz.prog 71 = some ⟨false, 1, [.v (.nilFunc)]⟩ := by kernel_rfl
theorem by72 : Tryz.prog.bytesOf 72 = 8 := by kernel_rfl
theorem tk72 : tkOf Tryz.prog 72 = some ⟨false, 1, [.v (.nilFunc)]⟩ := by kernel_rfl
theorem by73 : Tryz.prog.bytesOf 73 = 24 := by kernel_rfl
theorem tk73 : tkOf Tryz.prog 73 = some ⟨false, 1, [.v (.slice none 0 0)]⟩ := by kernel_rfl
theorem el73 : elemOf Tryz.prog 73 = some (none, 32) := by kernel_rfl
theorem us73 : Tryz.prog.underlying 73 = some (.slice 32) := by kernel_rfl
theorem by75 : Tryz.prog.bytesOf 75 = 8 := by kernel_rfl
theorem tk75 : tkOf Tryz.prog 75 = some ⟨false, 1, [.v (.nilFunc)]⟩ := by kernel_rfl
theorem by76 : Tryz.prog.bytesOf 76 = 24 := by kernel_rfl
theorem tk76 : tkOf Tryz.prog 76 = some ⟨false, 1, [.v (.slice none 0 0)]⟩ := by kernel_rfl
theorem el76 : elemOf Tryz.prog 76 = some (none, 22) := by kernel_rfl
theorem us76 : Tryz.prog.underlying 76 = some (.slice 22) := by kernel_rfl
theorem by78 : Tryz.prog.bytesOf 78 = 8 := by kernel_rfl
theorem tk78 : tkOf Tryz.prog 78 = some ⟨false, 1, [.v (.nilFunc)]⟩ := by kernel_rfl
theorem by79 : Tryz.prog.bytesOf 79 = 8 := by kernel_rfl
theorem tk79 : tkOf Tryz.prog 79 = some ⟨false, 1, [.v (.nilFunc)]⟩ := by kernel_rfl
theorem by81 : Tryz.prog.bytesOf 81 = 8 := by kernel_rfl
theorem tk81 : tkOf Tryz.prog 81 = some ⟨false, 1, [.v (.nilFunc)]⟩ := by kernel_rfl
theorem by82 : Tryz.prog.bytesOf 82 = 8 := by kernel_rfl
theorem tk82 : tkOf Tryz.prog 82 = some ⟨false, 1, [.v (.nilFunc)]⟩ := by kernel_rfl
theorem by84 : Tryz.prog.bytesOf 84 = 8 := by kernel_rfl
theorem tk84 : tkOf Tryz.prog 84 = some ⟨false, 1, [.v (.nilFunc)]⟩ := by kernel_rfl
theorem by85 : Tryz.prog.bytesOf 85 = 8 := by kernel_rfl
theorem tk85 : tkOf Tryz.prog 85 = some ⟨false, 1, [.v (.nilFunc)]⟩ := by kernel_rfl
theorem by86 : Tryz.prog.bytesOf 86 = 8 := by kernel_rfl
theorem tk86 : tkOf Tryz.prog 86 = some ⟨false, 1, [.v (.nilFunc)]⟩ := by kernel_rfl
theorem by87 : Tryz.prog.bytesOf 87 = 32 := by kernel_rfl
theorem tk87 : tkOf Tryz.prog 87 = some ⟨true, 2, [.v (.slice none 0 0), .v (.int .i64 0)]⟩ := by kernel_rfl
theorem fs87 : fieldsOf Tryz.prog 87 = some [⟨ "Coeffs", 46, 0, false, "", "", 0⟩, ⟨ "Const", 3, 1, false, "", "", 24⟩] := by kernel_rfl
theorem pl87 : places Tryz.prog 87 = some (fun i => ([(0, 1), (1, 1)] : List (Nat × Nat))[i]?) := by kernel_rfl
theorem by88 : Tryz.prog.bytesOf 88 = 32 := by kernel_rfl
theorem tk88 : tkOf Tryz.prog 88 = some ⟨true, 2, [.v (.slice none 0 0), .v (.int .i64 0)]⟩ := by kernel_rfl
theorem fs88 : fieldsOf Tryz.prog 88 = some [⟨ "Coeffs", 46, 0, false, "", "", 0⟩, ⟨ "Const", 3, 1, false, "", "", 24⟩] := by kernel_rfl
theorem pl88 : places Tryz.prog 88 = some (fun i => ([(0, 1), (1, 1)] : List (Nat × Nat))[i]?) := by kernel_rfl
theorem by89 : Tryz.prog.bytesOf 89 = 8 := by kernel_rfl
theorem tk89 : tkOf Tryz.prog 89 = some ⟨false, 1, [.v (.nilFunc)]⟩ := by kernel_rfl
theorem by90 : Tryz.prog.bytesOf 90 = 16 := by kernel_rfl
theorem tk90 : tkOf Tryz.prog 90 = some ⟨true, 2, [.v (.int .i64 0), .v (.int .i64 0)]⟩ := by kernel_rfl
theorem fs90 : fieldsOf Tryz.prog 90 = some [⟨ "Low", 3, 0, false, "", "", 0⟩, ⟨ "High", 3, 1, false, "", "", 8⟩] := by kernel_rfl
theorem pl90 : places Tryz.prog 90 = some (fun i => ([(0, 1), (1, 1)] : List (Nat × Nat))[i]?) := by kernel_rfl
theorem by91 : Tryz.prog.bytesOf 91 = 16 := by kernel_rfl
theorem tk91 : tkOf Tryz.prog 91 = some ⟨true, 2, [.v (.int .i64 0), .v (.int .i64 0)]⟩ := by kernel_rfl
theorem fs91 : fieldsOf Tryz.prog 91 = some [⟨ "Low", 3, 0, false, "", "", 0⟩, ⟨ "High", 3, 1, false, "", "", 8⟩] := by kernel_rfl
theorem pl91 : places Tryz.prog 91 = some (fun i => ([(0, 1), (1, 1)] : List (Nat × Nat))[i]?) := by kernel_rfl
theorem by93 : Tryz.prog.bytesOf 93 = 8 := by kernel_rfl
theorem tk93 : tkOf Tryz.prog 93 = some ⟨false, 1, [.v (.nilFunc)]⟩ := by kernel_rfl
theorem by94 : Tryz.prog.bytesOf 94 = 32 := by kernel_rfl
theorem tk94 : tkOf Tryz.prog 94 = some ⟨true, 2, [.v (.slice none 0 0), .v (.int .i64 0)]⟩ := by kernel_rfl
theorem fs94 : fieldsOf Tryz.prog 94 = some [⟨ "Coeffs", 46, 0, false, "", "", 0⟩, ⟨ "Const", 3, 1, false, "", "", 24⟩] := by kernel_rfl
theorem pl94 : places Tryz.prog 94 = some (fun i => ([(0, 1), (1, 1)] : List (Nat × Nat))[i]?) := by kernel_rfl
theorem by95 : Tryz.prog.bytesOf 95 = 8 := by kernel_rfl
theorem tk95 : tkOf Tryz.prog 95 = some ⟨false, 1, [.v (.nilFunc)]⟩ := by kernel_rfl
theorem by96 : Tryz.prog.bytesOf 96 = 8 := by kernel_rfl
theorem tk96 : tkOf Tryz.prog 96 = some ⟨false, 1, [.v (.nilFunc)]⟩ := by kernel_rfl
theorem by97 : Tryz.prog.bytesOf 97 = 16 := by kernel_rfl
theorem tk97 : tkOf Tryz.prog 97 = some ⟨true, 2, [.v (.int .i64 0), .v (.int .i64 0)]⟩ := by kernel_rfl
theorem fs97 : fieldsOf Tryz.prog 97 = some [⟨ "Low", 3, 0, false, "", "", 0⟩, ⟨ "High", 3, 1, false, "", "", 8⟩] := by kernel_rfl
theorem pl97 : places Tryz.prog 97 = some (fun i => ([(0, 1), (1, 1)] : List (Nat × Nat))[i]?) := by kernel_rfl
theorem by98 : Tryz.prog.bytesOf 98 = 8 := by kernel_rfl
theorem tk98 : tkOf Tryz.prog 98 = some ⟨false, 1, [.v (.nilFunc)]⟩ := by kernel_rfl
theorem by99 : Tryz.prog.bytesOf 99 = 8 := by kernel_rfl
theorem tk99 : tkOf Tryz.prog 99 = some ⟨false, 1, [.v (.nilFunc)]⟩ := by kernel_rfl
theorem by100 : Tryz.prog.bytesOf 100 = 8 := by kernel_rfl
theorem tk100 : tkOf Tryz.prog 100 = some ⟨false, 1, [.v (.nilFunc)]⟩ := by kernel_rfl
theorem by101 : Tryz.prog.bytesOf 101 = 8 := by kernel_rfl
theorem tk101 : tkOf Tryz.prog 101 = some ⟨false, 1, [.v (.nilFunc)]⟩ := by kernel_rfl
theorem by102 : Tryz.prog.bytesOf 102 = 8 := by kernel_rfl
theorem tk102 : tkOf Tryz.prog 102 = some ⟨false, 1, [.v (.nilFunc)]⟩ := by kernel_rfl
theorem by103 : Tryz.prog.bytesOf 103 = 8 := by kernel_rfl
theorem tk103 : tkOf Tryz.prog 103 = some ⟨false, 1, [.v (.nilFunc)]⟩ := by kernel_rfl
theorem by104 : Tryz.prog.bytesOf 104 = 8 := by kernel_rfl
theorem tk104 : tkOf Tryz.prog 104 = some ⟨false, 1, [.v (.nilFunc)]⟩ := by kernel_rfl
theorem by105 : Tryz.prog.bytesOf 105 = 8 := by kernel_rfl
theorem tk105 : tkOf Tryz.prog 105 = some ⟨false, 1, [.v (.nilFunc)]⟩ := by kernel_rfl
theorem by106 : Tryz.prog.bytesOf 106 = 8 := by kernel_rfl
theorem tk106 : tkOf Tryz.prog 106 = some ⟨false, 1, [.v (.nilFunc)]⟩ := by kernel_rfl
theorem by107 : Tryz.prog.bytesOf 107 = 8 := by kernel_rfl
theorem tk107 : tkOf Tryz.prog 107 = some ⟨false, 1, [.v (.nilFunc)]⟩ := by kernel_rfl
theorem by108 : Tryz.prog.bytesOf 108 = 40 := by kernel_rfl
theorem tk108 : tkOf Tryz.prog 108 = some ⟨true, 3, [.v (.int .i64 0), .v (.slice none 0 0), .v (.int .i64 0)]⟩ := by kernel_rfl
theorem fs108 : fieldsOf Tryz.prog 108 = some [⟨ "Vars", 3, 0, false, "", "", 0⟩, ⟨ "Values", 46, 1, false, "", "", 8⟩, ⟨ "Factor", 3, 2, false, "", "", 32⟩] := by kernel_rfl
theorem pl108 : places Tryz.prog 108 = some (fun i => ([(0, 1), (1, 1), (2, 1)] : List (Nat × Nat))[i]?) := by kernel_rfl
theorem by109 : Tryz.prog.bytesOf 109 = 40 := by kernel_rfl
theorem tk109 : tkOf Tryz.prog 109 = some ⟨true, 3, [.v (.int .i64 0), .v (.slice none 0 0), .v (.int .i64 0)]⟩ := by kernel_rfl
theorem fs109 : fieldsOf Tryz.prog 109 = some [⟨ "Vars", 3, 0, false, "", "", 0⟩, ⟨ "Values", 46, 1, false, "", "", 8⟩, ⟨ "Factor", 3, 2, false, "", "", 32⟩] := by kernel_rfl
theorem pl109 : places Tryz.prog 109 = some (fun i => ([(0, 1), (1, 1), (2, 1)] : List (Nat × Nat))[i]?) := by kernel_rfl
theorem by110 : Tryz.prog.bytesOf 110 = 8 := by kernel_rfl
theorem tk110 : tkOf Tryz.prog 110 = some ⟨false, 1, [.v (.nilFunc)]⟩ := by kernel_rfl
theorem by112 : Tryz.prog.bytesOf 112 = 8 := by kernel_rfl
theorem tk112 : tkOf Tryz.prog 112 = some ⟨false, 1, [.v (.nilFunc)]⟩ := by kernel_rfl
theorem by113 : Tryz.prog.bytesOf 113 = 8 := by kernel_rfl
theorem tk113 : tkOf Tryz.prog 113 = some ⟨false, 1, [.v (.nilFunc)]⟩ := by kernel_rfl
theorem by115 : Tryz.prog.bytesOf 115 = 8 := by kernel_rfl
theorem tk115 : tkOf Tryz.prog 115 = some ⟨false, 1, [.v (.nilFunc)]⟩ := by kernel_rfl
theorem by116 : Tryz.prog.bytesOf 116 = 8 := by kernel_rfl
theorem tk116 : tkOf Tryz.prog 116 = some ⟨false, 1, [.v (.nilFunc)]⟩ := by kernel_rfl
theorem by117 : Tryz.prog.bytesOf 117 = 8 := by kernel_rfl
theorem tk117 : tkOf Tryz.prog 117 = some ⟨false, 1, [.v (.nilFunc)]⟩ := by kernel_rfl
theorem by118 : Tryz.prog.bytesOf 118 = 8 := by kernel_rfl
theorem tk118 : tkOf Tryz.prog 118 = some ⟨false, 1, [.v (.nilFunc)]⟩ := by kernel_rfl
theorem by119 : Tryz.prog.bytesOf 119 = 8 := by kernel_rfl
theorem tk119 : tkOf Tryz.prog 119 = some ⟨false, 1, [.v (.nilFunc)]⟩ := by kernel_rfl
theorem by120 : Tryz.prog.bytesOf 120 = 8 := by kernel_rfl
theorem tk120 : tkOf Tryz.prog 120 = some ⟨false, 1, [.v (.nilFunc)]⟩ := by kernel_rfl
theorem by121 : Tryz.prog.bytesOf 121 = 8 := by kernel_rfl
theorem tk121 : tkOf Tryz.prog 121 = some ⟨false, 1, [.v (.nilFunc)]⟩ := by kernel_rfl
theorem by122 : Tryz.prog.bytesOf 122 = 8 := by kernel_rfl
theorem tk122 : tkOf Tryz.prog 122 = some ⟨false, 1, [.v (.nilFunc)]⟩ := by kernel_rfl
theorem by123 : Tryz.prog.bytesOf 123 = 8 := by kernel_rfl
theorem tk123 : tkOf Tryz.prog 123 = some ⟨false, 1, [.v (.nilFunc)]⟩ := by kernel_rfl
theorem by125 : Tryz.prog.bytesOf 125 = 8 := by kernel_rfl
theorem tk125 : tkOf Tryz.prog 125 = some ⟨false, 1, [.v (.nilFunc)]⟩ := by kernel_rfl
theorem by127 : Tryz.prog.bytesOf 127 = 8 := by kernel_rfl
theorem tk127 : tkOf Tryz.prog 127 = some ⟨false, 1, [.v (.nilFunc)]⟩ := by kernel_rfl
theorem by129 : Tryz.prog.bytesOf 129 = 8 := by kernel_rfl
theorem tk129 : tkOf Tryz.prog 129 = some ⟨false, 1, [.v (.nilFunc)]⟩ := by kernel_rfl
theorem by131 : Tryz.prog.bytesOf 131 = 8 := by kernel_rfl
theorem tk131 : tkOf Tryz.prog 131 = some ⟨false, 1, [.v (.nilFunc)]⟩ := by kernel_rfl
theorem by132 : Tryz.prog.bytesOf 132 = 8 := by kernel_rfl
theorem tk132 : tkOf Tryz.prog 132 = some ⟨false, 1, [.v (.nilFunc)]⟩ := by kernel_rfl
theorem by133 : Tryz.prog.bytesOf 133 = 8 := by kernel_rfl
theorem tk133 : tkOf Tryz.prog 133 = some ⟨false, 1, [.v (.nilFunc)]⟩ := by kernel_rfl
theorem by134 : Tryz.prog.bytesOf 134 = 8 := by kernel_rfl
theorem tk134 : tkOf Tryz.prog 134 = some ⟨false, 1, [.v (.nilFunc)]⟩ := by kernel_rfl
theorem by135 : Tryz.prog.bytesOf 135 = 8 := by kernel_rfl
theorem tk135 : tkOf Tryz.prog 135 = some ⟨false, 1, [.v (.nilFunc)]⟩ := by kernel_rfl
theorem by136 : Tryz.prog.bytesOf 136 = 8 := by kernel_rfl
theorem tk136 : tkOf Tryz.prog 136 = some ⟨false, 1, [.v (.nilFunc)]⟩ := by kernel_rfl
theorem by137 : Tryz.prog.bytesOf 137 = 64 := by kernel_rfl
theorem tk137 : tkOf Tryz.prog 137 = some ⟨true, 4, [.v (.int .i64 0), .v (.slice none 0 0), .v (.int .i64 0), .v (.slice none 0 0)]⟩ := by kernel_rfl
theorem fs137 : fieldsOf Tryz.prog 137 = some [⟨ "Kind", 3, 0, false, "", "", 0⟩, ⟨ "Term", 88, 1, false, "", "", 8⟩, ⟨ "Kids", 46, 3, false, "", "", 40⟩] := by kernel_rfl
theorem pl137 : places Tryz.prog 137 = some (fun i => ([(0, 1), (1, 2), (3, 1)] : List (Nat × Nat))[i]?) := by kernel_rfl
theorem by138 : Tryz.prog.bytesOf 138 = 64 := by kernel_rfl
theorem tk138 : tkOf Tryz.prog 138 = some ⟨true, 4, [.v (.int .i64 0), .v (.slice none 0 0), .v (.int .i64 0), .v (.slice none 0 0)]⟩ := by kernel_rfl
theorem fs138 : fieldsOf Tryz.prog 138 = some [⟨ "Kind", 3, 0, false, "", "", 0⟩, ⟨ "Term", 88, 1, false, "", "", 8⟩, ⟨ "Kids", 46, 3, false, "", "", 40⟩] := by kernel_rfl
theorem pl138 : places Tryz.prog 138 = some (fun i => ([(0, 1), (1, 2), (3, 1)] : List (Nat × Nat))[i]?) := by kernel_rfl
theorem by139 : Tryz.prog.bytesOf 139 = 8 := by kernel_rfl
theorem tk139 : tkOf Tryz.prog 139 = some ⟨false, 1, [.v (.nilFunc)]⟩ := by kernel_rfl
theorem by140 : Tryz.prog.bytesOf 140 = 8 := by kernel_rfl
theorem tk140 : tkOf Tryz.prog 140 = some ⟨false, 1, [.v (.nilFunc)]⟩ := by kernel_rfl
theorem by141 : Tryz.prog.bytesOf 141 = 8 := by kernel_rfl
theorem tk141 : tkOf Tryz.prog 141 = some ⟨false, 1, [.v (.nilFunc)]⟩ := by kernel_rfl
theorem by142 : Tryz.prog.bytesOf 142 = 8 := by kernel_rfl
theorem tk142 : tkOf Tryz.prog 142 = some ⟨false, 1, [.v (.nilFunc)]⟩ := by kernel_rfl
theorem by144 : Tryz.prog.bytesOf 144 = 8 := by kernel_rfl
theorem tk144 : tkOf Tryz.prog 144 = some ⟨false, 1, [.v (.nilFunc)]⟩ := by kernel_rfl
theorem by146 : Tryz.prog.bytesOf 146 = 8 := by kernel_rfl
theorem tk146 : tkOf Tryz.prog 146 = some ⟨false, 1, [.v (.nilFunc)]⟩ := by kernel_rfl
theorem by147 : Tryz.prog.bytesOf 147 = 24 := by kernel_rfl
theorem tk147 : tkOf Tryz.prog 147 = some ⟨false, 1, [.v (.slice none 0 0)]⟩ := by kernel_rfl
theorem el147 : elemOf Tryz.prog 147 = some (none, 36) := by kernel_rfl
theorem us147 : Tryz.prog.underlying 147 = some (.slice 36) := by kernel_rfl
theorem by149 : Tryz.prog.bytesOf 149 = 8 := by kernel_rfl
theorem tk149 : tkOf Tryz.prog 149 = some ⟨false, 1, [.v (.nilFunc)]⟩ := by kernel_rfl
theorem by150 : Tryz.prog.bytesOf 150 = 8 := by kernel_rfl
theorem tk150 : tkOf Tryz.prog 150 = some ⟨false, 1, [.v (.nilFunc)]⟩ := by kernel_rfl
theorem by151 : Tryz.prog.bytesOf 151 = 8 := by kernel_rfl
theorem tk151 : tkOf Tryz.prog 151 = some ⟨false, 1, [.v (.nilFunc)]⟩ := by kernel_rfl
theorem by152 : Tryz.prog.bytesOf 152 = 24 := by kernel_rfl
theorem tk152 : tkOf Tryz.prog 152 = some ⟨false, 1, [.v (.slice none 0 0)]⟩ := by kernel_rfl
theorem el152 : elemOf Tryz.prog 152 = some (none, 25) := by kernel_rfl
theorem us152 : Tryz.prog.underlying 152 = some (.slice 25) := by kernel_rfl
theorem by153 : Tryz.prog.bytesOf 153 = 8 := by kernel_rfl
theorem tk153 : tkOf Tryz.prog 153 = some ⟨false, 1, [.v (.nilFunc)]⟩ := by kernel_rfl
theorem by154 : Tryz.prog.bytesOf 154 = 8 := by kernel_rfl
theorem tk154 : tkOf Tryz.prog 154 = some ⟨false, 1, [.v (.nilFunc)]⟩ := by kernel_rfl
theorem by156 : Tryz.prog.bytesOf 156 = 8 := by kernel_rfl
theorem tk156 : tkOf Tryz.prog 156 = some ⟨false, 1, [.v (.nilFunc)]⟩ := by kernel_rfl
theorem by157 : Tryz.prog.bytesOf 157 = 8 := by kernel_rfl
theorem tk157 : tkOf Tryz.prog 157 = some ⟨false, 1, [.v (.nilFunc)]⟩ := by kernel_rfl
theorem by158 : Tryz.prog.bytesOf 158 = 8 := by kernel_rfl
theorem tk158 : tkOf Tryz.prog 158 = some ⟨false, 1, [.v (.nilFunc)]⟩ := by kernel_rfl
theorem by159 : Tryz.prog.bytesOf 159 = 8 := by kernel_rfl
theorem tk159 : tkOf Tryz.prog 159 = some ⟨false, 1, [.v (.nilFunc)]⟩ := by kernel_rfl
theorem by160 : Tryz.prog.bytesOf 160 = 8 := by kernel_rfl
theorem tk160 : tkOf Tryz.prog 160 = some ⟨false, 1, [.v (.nilFunc)]⟩ := by kernel_rfl
theorem by162 : Tryz.prog.bytesOf 162 = 8 := by kernel_rfl
theorem tk162 : tkOf Tryz.prog 162 = some ⟨false, 1, [.v (.nilFunc)]⟩ := by kernel_rfl
theorem by163 : Tryz.prog.bytesOf 163 = 8 := by kernel_rfl
theorem tk163 : tkOf Tryz.prog 163 = some ⟨false, 1, [.v (.nilFunc)]⟩ := by kernel_rfl
theorem by164 : Tryz.prog.bytesOf 164 = 8 := by kernel_rfl
theorem tk164 : tkOf Tryz.prog 164 = some ⟨false, 1, [.v (.nilFunc)]⟩ := by kernel_rfl
theorem by166 : Tryz.prog.bytesOf 166 = 8 := by kernel_rfl
theorem tk166 : tkOf Tryz.prog 166 = some ⟨false, 1, [.v (.nilFunc)]⟩ := by kernel_rfl
theorem by167 : Tryz.prog.bytesOf 167 = 8 := by kernel_rfl
theorem tk167 : tkOf Tryz.prog 167 = some ⟨false, 1, [.v (.nilFunc)]⟩ := by kernel_rfl
theorem by169 : Tryz.prog.bytesOf 169 = 8 := by kernel_rfl
theorem tk169 : tkOf Tryz.prog 169 = some ⟨false, 1, [.v (.nilFunc)]⟩ := by kernel_rfl
theorem by170 : Tryz.prog.bytesOf 170 = 8 := by kernel_rfl
theorem tk170 : tkOf Tryz.prog 170 = some ⟨false, 1, [.v (.nilFunc)]⟩ := by kernel_rfl
theorem by171 : Tryz.prog.bytesOf 171 = 8 := by kernel_rfl
theorem tk171 : tkOf Tryz.prog 171 = some ⟨false, 1, [.v (.nilFunc)]⟩ := by kernel_rfl
theorem by172 : Tryz.prog.bytesOf 172 = 8 := by kernel_rfl
theorem tk172 : tkOf Tryz.prog 172 = some ⟨false, 1, [.v (.nilFunc)]⟩ := by kernel_rfl
theorem by173 : Tryz.prog.bytesOf 173 = 8 := by kernel_rfl
theorem tk173 : tkOf Tryz.prog 173 = some ⟨false, 1, [.v (.nilFunc)]⟩ := by kernel_rfl
theorem by174 : Tryz.prog.bytesOf 174 = 16 := by kernel_rfl
theorem tk174 : tkOf Tryz.prog 174 = some ⟨true, 2, [.v (.int .i64 0), .v (.int .i64 0)]⟩ := by kernel_rfl
theorem el174 : elemOf Tryz.prog 174 = some (some 2, 3) := by kernel_rfl
theorem fs174 : fieldsOf Tryz.prog 174 = none := by kernel_rfl
theorem pl174 : places Tryz.prog 174 = some (fun i => some (i * 1, 1)) := by kernel_rfl
theorem by175 : Tryz.prog.bytesOf 175 = 64 := by kernel_rfl
theorem tk175 : tkOf Tryz.prog 175 = some ⟨true, 6, [.v (.bool false), .v (.slice none 0 0), .v (.int .i64 0), .v (.int .i64 0), .v (.int .i64 0), .v (.int .i64 0)]⟩ := by kernel_rfl
theorem fs175 : fieldsOf Tryz.prog 175 = some [⟨ "Leaf", 4, 0, false, "", "", 0⟩, ⟨ "Factors", 46, 1, false, "", "", 8⟩, ⟨ "Variable", 3, 2, false, "", "", 32⟩, ⟨ "Bound", 3, 3, false, "", "", 40⟩, ⟨ "Kids", 174, 4, false, "", "", 48⟩] := by kernel_rfl
theorem pl175 : places Tryz.prog 175 = some (fun i => ([(0, 1), (1, 1), (2, 1), (3, 1), (4, 2)] : List (Nat × Nat))[i]?) := by kernel_rfl
theorem by176 : Tryz.prog.bytesOf 176 = 64 := by kernel_rfl
theorem tk176 : tkOf Tryz.prog 176 = some ⟨true, 6, [.v (.bool false), .v (.slice none 0 0), .v (.int .i64 0), .v (.int .i64 0), .v (.int .i64 0), .v (.int .i64 0)]⟩ := by kernel_rfl
theorem fs176 : fieldsOf Tryz.prog 176 = some [⟨ "Leaf", 4, 0, false, "", "", 0⟩, ⟨ "Factors", 46, 1, false, "", "", 8⟩, ⟨ "Variable", 3, 2, false, "", "", 32⟩, ⟨ "Bound", 3, 3, false, "", "", 40⟩, ⟨ "Kids", 174, 4, false, "", "", 48⟩] := by kernel_rfl
theorem pl176 : places Tryz.prog 176 = some (fun i => ([(0, 1), (1, 1), (2, 1), (3, 1), (4, 2)] : List (Nat × Nat))[i]?) := by kernel_rfl
theorem by177 : Tryz.prog.bytesOf 177 = 8 := by kernel_rfl
theorem tk177 : tkOf Tryz.prog 177 = some ⟨false, 1, [.v (.nilFunc)]⟩ := by kernel_rfl
theorem by178 : Tryz.prog.bytesOf 178 = 8 := by kernel_rfl
theorem tk178 : tkOf Tryz.prog 178 = some ⟨false, 1, [.v (.nilFunc)]⟩ := by kernel_rfl
theorem by179 : Tryz.prog.bytesOf 179 = 64 := by kernel_rfl
theorem tk179 : tkOf Tryz.prog 179 = some ⟨true, 6, [.v (.bool false), .v (.slice none 0 0), .v (.int .i64 0), .v (.int .i64 0), .v (.int .i64 0), .v (.int .i64 0)]⟩ := by kernel_rfl
theorem fs179 : fieldsOf Tryz.prog 179 = some [⟨ "Leaf", 4, 0, false, "", "", 0⟩, ⟨ "Factors", 46, 1, false, "", "", 8⟩, ⟨ "Variable", 3, 2, false, "", "", 32⟩, ⟨ "Bound", 3, 3, false, "", "", 40⟩, ⟨ "Kids", 174, 4, false, "", "", 48⟩] := by kernel_rfl
theorem pl179 : places Tryz.prog 179 = some (fun i => ([(0, 1), (1, 1), (2, 1), (3, 1), (4, 2)] : List (Nat × Nat))[i]?) := by kernel_rfl
theorem by180 : Tryz.prog.bytesOf 180 = 8 := by kernel_rfl
theorem tk180 : tkOf Tryz.prog 180 = some ⟨false, 1, [.v (.pointer none)]⟩ := by kernel_rfl
theorem by181 : Tryz.prog.bytesOf 181 = 32 := by kernel_rfl
theorem tk181 : tkOf Tryz.prog 181 = some ⟨true, 2, [.v (.slice none 0 0), .v (.int .i64 0)]⟩ := by kernel_rfl
theorem fs181 : fieldsOf Tryz.prog 181 = some [⟨ "p", 36, 0, false, "", "bailment/prove", 0⟩, ⟨ "count", 3, 1, false, "", "bailment/prove", 24⟩] := by kernel_rfl
theorem pl181 : places Tryz.prog 181 = some (fun i => ([(0, 1), (1, 1)] : List (Nat × Nat))[i]?) := by kernel_rfl
theorem by182 : Tryz.prog.bytesOf 182 = 32 := by kernel_rfl
theorem tk182 : tkOf Tryz.prog 182 = some ⟨true, 2, [.v (.slice none 0 0), .v (.int .i64 0)]⟩ := by kernel_rfl
theorem fs182 : fieldsOf Tryz.prog 182 = some [⟨ "p", 36, 0, false, "", "bailment/prove", 0⟩, ⟨ "count", 3, 1, false, "", "bailment/prove", 24⟩] := by kernel_rfl
theorem pl182 : places Tryz.prog 182 = some (fun i => ([(0, 1), (1, 1)] : List (Nat × Nat))[i]?) := by kernel_rfl
theorem by183 : Tryz.prog.bytesOf 183 = 8 := by kernel_rfl
theorem tk183 : tkOf Tryz.prog 183 = some ⟨false, 1, [.v (.nilFunc)]⟩ := by kernel_rfl
theorem by184 : Tryz.prog.bytesOf 184 = 8 := by kernel_rfl
theorem tk184 : tkOf Tryz.prog 184 = some ⟨false, 1, [.v (.nilFunc)]⟩ := by kernel_rfl
theorem by185 : Tryz.prog.bytesOf 185 = 8 := by kernel_rfl
theorem tk185 : tkOf Tryz.prog 185 = some ⟨false, 1, [.v (.nilFunc)]⟩ := by kernel_rfl
theorem by186 : Tryz.prog.bytesOf 186 = 24 := by kernel_rfl
theorem tk186 : tkOf Tryz.prog 186 = some ⟨true, 3, [.v (.int .i64 0), .v (.int .i64 0), .v (.int .i64 0)]⟩ := by kernel_rfl
theorem fs186 : fieldsOf Tryz.prog 186 = some [⟨ "many", 3, 0, false, "", "bailment/bailmentref29", 0⟩, ⟨ "at", 3, 1, false, "", "bailment/bailmentref29", 8⟩, ⟨ "error", 3, 2, false, "", "bailment/bailmentref29", 16⟩] := by kernel_rfl
theorem pl186 : places Tryz.prog 186 = some (fun i => ([(0, 1), (1, 1), (2, 1)] : List (Nat × Nat))[i]?) := by kernel_rfl
theorem by187 : Tryz.prog.bytesOf 187 = 24 := by kernel_rfl
theorem tk187 : tkOf Tryz.prog 187 = some ⟨true, 3, [.v (.int .i64 0), .v (.int .i64 0), .v (.int .i64 0)]⟩ := by kernel_rfl
theorem fs187 : fieldsOf Tryz.prog 187 = some [⟨ "many", 3, 0, false, "", "bailment/bailmentref29", 0⟩, ⟨ "at", 3, 1, false, "", "bailment/bailmentref29", 8⟩, ⟨ "error", 3, 2, false, "", "bailment/bailmentref29", 16⟩] := by kernel_rfl
theorem pl187 : places Tryz.prog 187 = some (fun i => ([(0, 1), (1, 1), (2, 1)] : List (Nat × Nat))[i]?) := by kernel_rfl
theorem by188 : Tryz.prog.bytesOf 188 = 8 := by kernel_rfl
theorem tk188 : tkOf Tryz.prog 188 = some ⟨false, 1, [.v (.nilFunc)]⟩ := by kernel_rfl
theorem by189 : Tryz.prog.bytesOf 189 = 8 := by kernel_rfl
theorem tk189 : tkOf Tryz.prog 189 = some ⟨false, 1, [.v (.nilFunc)]⟩ := by kernel_rfl
theorem by190 : Tryz.prog.bytesOf 190 = 8 := by kernel_rfl
theorem tk190 : tkOf Tryz.prog 190 = some ⟨false, 1, [.v (.nilFunc)]⟩ := by kernel_rfl
theorem by191 : Tryz.prog.bytesOf 191 = 24 := by kernel_rfl
theorem tk191 : tkOf Tryz.prog 191 = some ⟨false, 1, [.v (.slice none 0 0)]⟩ := by kernel_rfl
theorem el191 : elemOf Tryz.prog 191 = some (none, 29) := by kernel_rfl
theorem us191 : Tryz.prog.underlying 191 = some (.slice 29) := by kernel_rfl
theorem by192 : Tryz.prog.bytesOf 192 = 8 := by kernel_rfl
theorem tk192 : tkOf Tryz.prog 192 = some ⟨false, 1, [.v (.nilFunc)]⟩ := by kernel_rfl
theorem by193 : Tryz.prog.bytesOf 193 = 8 := by kernel_rfl
theorem tk193 : tkOf Tryz.prog 193 = some ⟨false, 1, [.v (.nilFunc)]⟩ := by kernel_rfl
theorem by194 : Tryz.prog.bytesOf 194 = 8 := by kernel_rfl
theorem tk194 : tkOf Tryz.prog 194 = some ⟨false, 1, [.v (.nilFunc)]⟩ := by kernel_rfl
theorem by195 : Tryz.prog.bytesOf 195 = 8 := by kernel_rfl
theorem tk195 : tkOf Tryz.prog 195 = some ⟨false, 1, [.v (.nilFunc)]⟩ := by kernel_rfl
theorem by196 : Tryz.prog.bytesOf 196 = 8 := by kernel_rfl
theorem tk196 : tkOf Tryz.prog 196 = some ⟨false, 1, [.v (.nilFunc)]⟩ := by kernel_rfl
theorem by197 : Tryz.prog.bytesOf 197 = 8 := by kernel_rfl
theorem tk197 : tkOf Tryz.prog 197 = some ⟨false, 1, [.v (.nilFunc)]⟩ := by kernel_rfl
theorem by198 : Tryz.prog.bytesOf 198 = 8 := by kernel_rfl
theorem tk198 : tkOf Tryz.prog 198 = some ⟨false, 1, [.v (.pointer none)]⟩ := by kernel_rfl
theorem by199 : Tryz.prog.bytesOf 199 = 32 := by kernel_rfl
theorem tk199 : tkOf Tryz.prog 199 = some ⟨true, 2, [.v (.slice none 0 0), .v (.int .i64 0)]⟩ := by kernel_rfl
theorem fs199 : fieldsOf Tryz.prog 199 = some [⟨ "terms", 32, 0, false, "", "bailment/prove", 0⟩, ⟨ "left", 3, 1, false, "", "bailment/prove", 24⟩] := by kernel_rfl
theorem pl199 : places Tryz.prog 199 = some (fun i => ([(0, 1), (1, 1)] : List (Nat × Nat))[i]?) := by kernel_rfl
theorem by200 : Tryz.prog.bytesOf 200 = 32 := by kernel_rfl
theorem tk200 : tkOf Tryz.prog 200 = some ⟨true, 2, [.v (.slice none 0 0), .v (.int .i64 0)]⟩ := by kernel_rfl
theorem fs200 : fieldsOf Tryz.prog 200 = some [⟨ "terms", 32, 0, false, "", "bailment/prove", 0⟩, ⟨ "left", 3, 1, false, "", "bailment/prove", 24⟩] := by kernel_rfl
theorem pl200 : places Tryz.prog 200 = some (fun i => ([(0, 1), (1, 1)] : List (Nat × Nat))[i]?) := by kernel_rfl
theorem by201 : Tryz.prog.bytesOf 201 = 8 := by kernel_rfl
theorem tk201 : tkOf Tryz.prog 201 = some ⟨false, 1, [.v (.nilFunc)]⟩ := by kernel_rfl
theorem by202 : Tryz.prog.bytesOf 202 = 8 := by kernel_rfl
theorem tk202 : tkOf Tryz.prog 202 = some ⟨false, 1, [.v (.nilFunc)]⟩ := by kernel_rfl
theorem by203 : Tryz.prog.bytesOf 203 = 48 := by kernel_rfl
theorem tk203 : tkOf Tryz.prog 203 = some ⟨true, 4, [.v (.slice none 0 0), .v (.bool false), .v (.int .i64 0), .v (.int .i64 0)]⟩ := by kernel_rfl
theorem fs203 : fieldsOf Tryz.prog 203 = some [⟨ "values", 46, 0, false, "", "bailment/bailmentref29", 0⟩, ⟨ "is", 4, 1, false, "", "bailment/bailmentref29", 24⟩, ⟨ "left", 3, 2, false, "", "bailment/bailmentref29", 32⟩, ⟨ "error", 3, 3, false, "", "bailment/bailmentref29", 40⟩] := by kernel_rfl
theorem pl203 : places Tryz.prog 203 = some (fun i => ([(0, 1), (1, 1), (2, 1), (3, 1)] : List (Nat × Nat))[i]?) := by kernel_rfl
theorem by204 : Tryz.prog.bytesOf 204 = 48 := by kernel_rfl
theorem tk204 : tkOf Tryz.prog 204 = some ⟨true, 4, [.v (.slice none 0 0), .v (.bool false), .v (.int .i64 0), .v (.int .i64 0)]⟩ := by kernel_rfl
theorem fs204 : fieldsOf Tryz.prog 204 = some [⟨ "values", 46, 0, false, "", "bailment/bailmentref29", 0⟩, ⟨ "is", 4, 1, false, "", "bailment/bailmentref29", 24⟩, ⟨ "left", 3, 2, false, "", "bailment/bailmentref29", 32⟩, ⟨ "error", 3, 3, false, "", "bailment/bailmentref29", 40⟩] := by kernel_rfl
theorem pl204 : places Tryz.prog 204 = some (fun i => ([(0, 1), (1, 1), (2, 1), (3, 1)] : List (Nat × Nat))[i]?) := by kernel_rfl
theorem by205 : Tryz.prog.bytesOf 205 = 8 := by kernel_rfl
theorem tk205 : tkOf Tryz.prog 205 = some ⟨false, 1, [.v (.nilFunc)]⟩ := by kernel_rfl
theorem by206 : Tryz.prog.bytesOf 206 = 8 := by kernel_rfl
theorem tk206 : tkOf Tryz.prog 206 = some ⟨false, 1, [.v (.nilFunc)]⟩ := by kernel_rfl
theorem by207 : Tryz.prog.bytesOf 207 = 8 := by kernel_rfl
theorem tk207 : tkOf Tryz.prog 207 = some ⟨false, 1, [.v (.nilFunc)]⟩ := by kernel_rfl
theorem by208 : Tryz.prog.bytesOf 208 = 8 := by kernel_rfl
theorem tk208 : tkOf Tryz.prog 208 = some ⟨false, 1, [.v (.nilFunc)]⟩ := by kernel_rfl
theorem by209 : Tryz.prog.bytesOf 209 = 8 := by kernel_rfl
theorem tk209 : tkOf Tryz.prog 209 = some ⟨false, 1, [.v (.nilFunc)]⟩ := by kernel_rfl
theorem by210 : Tryz.prog.bytesOf 210 = 8 := by kernel_rfl
theorem tk210 : tkOf Tryz.prog 210 = some ⟨false, 1, [.v (.nilFunc)]⟩ := by kernel_rfl
theorem by211 : Tryz.prog.bytesOf 211 = 24 := by kernel_rfl
theorem tk211 : tkOf Tryz.prog 211 = some ⟨false, 1, [.v (.slice none 0 0)]⟩ := by kernel_rfl
theorem el211 : elemOf Tryz.prog 211 = some (none, 4) := by kernel_rfl
theorem us211 : Tryz.prog.underlying 211 = some (.slice 4) := by kernel_rfl
theorem by212 : Tryz.prog.bytesOf 212 = 8 := by kernel_rfl
theorem tk212 : tkOf Tryz.prog 212 = some ⟨false, 1, [.v (.nilFunc)]⟩ := by kernel_rfl
theorem by213 : Tryz.prog.bytesOf 213 = 8 := by kernel_rfl
theorem tk213 : tkOf Tryz.prog 213 = some ⟨false, 1, [.v (.nilFunc)]⟩ := by kernel_rfl
theorem by214 : Tryz.prog.bytesOf 214 = 8 := by kernel_rfl
theorem tk214 : tkOf Tryz.prog 214 = some ⟨false, 1, [.v (.nilFunc)]⟩ := by kernel_rfl
theorem by215 : Tryz.prog.bytesOf 215 = 64 := by kernel_rfl
theorem tk215 : tkOf Tryz.prog 215 = some ⟨true, 4, [.v (.int .i64 0), .v (.slice none 0 0), .v (.int .i64 0), .v (.slice none 0 0)]⟩ := by kernel_rfl
theorem fs215 : fieldsOf Tryz.prog 215 = some [⟨ "Kind", 3, 0, false, "", "", 0⟩, ⟨ "Term", 94, 1, false, "", "", 8⟩, ⟨ "Kids", 46, 3, false, "", "", 40⟩] := by kernel_rfl
theorem pl215 : places Tryz.prog 215 = some (fun i => ([(0, 1), (1, 2), (3, 1)] : List (Nat × Nat))[i]?) := by kernel_rfl
theorem by216 : Tryz.prog.bytesOf 216 = 64 := by kernel_rfl
theorem tk216 : tkOf Tryz.prog 216 = some ⟨true, 4, [.v (.int .i64 0), .v (.slice none 0 0), .v (.int .i64 0), .v (.slice none 0 0)]⟩ := by kernel_rfl
theorem fs216 : fieldsOf Tryz.prog 216 = some [⟨ "Kind", 3, 0, false, "", "", 0⟩, ⟨ "Term", 94, 1, false, "", "", 8⟩, ⟨ "Kids", 46, 3, false, "", "", 40⟩] := by kernel_rfl
theorem pl216 : places Tryz.prog 216 = some (fun i => ([(0, 1), (1, 2), (3, 1)] : List (Nat × Nat))[i]?) := by kernel_rfl
theorem by217 : Tryz.prog.bytesOf 217 = 72 := by kernel_rfl
theorem tk217 : tkOf Tryz.prog 217 = some ⟨true, 5, [.v (.int .i64 0), .v (.slice none 0 0), .v (.int .i64 0), .v (.slice none 0 0), .v (.int .i64 0)]⟩ := by kernel_rfl
theorem fs217 : fieldsOf Tryz.prog 217 = some [⟨ "Node", 216, 0, true, "", "", 0⟩, ⟨ "at", 3, 4, false, "", "bailment/formula", 64⟩] := by kernel_rfl
theorem pl217 : places Tryz.prog 217 = some (fun i => ([(0, 4), (4, 1)] : List (Nat × Nat))[i]?) := by kernel_rfl
theorem by218 : Tryz.prog.bytesOf 218 = 72 := by kernel_rfl
theorem tk218 : tkOf Tryz.prog 218 = some ⟨true, 5, [.v (.int .i64 0), .v (.slice none 0 0), .v (.int .i64 0), .v (.slice none 0 0), .v (.int .i64 0)]⟩ := by kernel_rfl
theorem fs218 : fieldsOf Tryz.prog 218 = some [⟨ "Node", 216, 0, true, "", "", 0⟩, ⟨ "at", 3, 4, false, "", "bailment/formula", 64⟩] := by kernel_rfl
theorem pl218 : places Tryz.prog 218 = some (fun i => ([(0, 4), (4, 1)] : List (Nat × Nat))[i]?) := by kernel_rfl
theorem by219 : Tryz.prog.bytesOf 219 = 8 := by kernel_rfl
theorem tk219 : tkOf Tryz.prog 219 = some ⟨false, 1, [.v (.nilFunc)]⟩ := by kernel_rfl
theorem by220 : Tryz.prog.bytesOf 220 = 32 := by kernel_rfl
theorem tk220 : tkOf Tryz.prog 220 = some ⟨true, 3, [.v (.string ByteArray.empty), .v (.bool false), .v (.nilFunc)]⟩ := by kernel_rfl
theorem fs220 : fieldsOf Tryz.prog 220 = some [⟨ "word", 9, 0, false, "", "bailment/formula", 0⟩, ⟨ "term", 4, 1, false, "", "bailment/formula", 16⟩, ⟨ "holds", 219, 2, false, "", "bailment/formula", 24⟩] := by kernel_rfl
theorem pl220 : places Tryz.prog 220 = some (fun i => ([(0, 1), (1, 1), (2, 1)] : List (Nat × Nat))[i]?) := by kernel_rfl
theorem by221 : Tryz.prog.bytesOf 221 = 32 := by kernel_rfl
theorem tk221 : tkOf Tryz.prog 221 = some ⟨true, 3, [.v (.string ByteArray.empty), .v (.bool false), .v (.nilFunc)]⟩ := by kernel_rfl
theorem fs221 : fieldsOf Tryz.prog 221 = some [⟨ "word", 9, 0, false, "", "bailment/formula", 0⟩, ⟨ "term", 4, 1, false, "", "bailment/formula", 16⟩, ⟨ "holds", 219, 2, false, "", "bailment/formula", 24⟩] := by kernel_rfl
theorem pl221 : places Tryz.prog 221 = some (fun i => ([(0, 1), (1, 1), (2, 1)] : List (Nat × Nat))[i]?) := by kernel_rfl
theorem by222 : Tryz.prog.bytesOf 222 = 160 := by kernel_rfl
theorem tk222 : tkOf Tryz.prog 222 = some ⟨true, 15, [.v (.string ByteArray.empty), .v (.bool false), .v (.nilFunc), .v (.string ByteArray.empty), .v (.bool false), .v (.nilFunc), .v (.string ByteArray.empty), .v (.bool false), .v (.nilFunc), .v (.string ByteArray.empty), .v (.bool false), .v (.nilFunc), .v (.string ByteArray.empty), .v (.bool false), .v (.nilFunc)]⟩ := by kernel_rfl
theorem el222 : elemOf Tryz.prog 222 = some (some 5, 221) := by kernel_rfl
theorem fs222 : fieldsOf Tryz.prog 222 = none := by kernel_rfl
theorem pl222 : places Tryz.prog 222 = some (fun i => some (i * 3, 3)) := by kernel_rfl
theorem by223 : Tryz.prog.bytesOf 223 = 8 := by kernel_rfl
theorem tk223 : tkOf Tryz.prog 223 = some ⟨false, 1, [.v (.nilFunc)]⟩ := by kernel_rfl
theorem by224 : Tryz.prog.bytesOf 224 = 8 := by kernel_rfl
theorem tk224 : tkOf Tryz.prog 224 = some ⟨false, 1, [.v (.nilFunc)]⟩ := by kernel_rfl
theorem by225 : Tryz.prog.bytesOf 225 = 8 := by kernel_rfl
theorem tk225 : tkOf Tryz.prog 225 = some ⟨false, 1, [.v (.nilFunc)]⟩ := by kernel_rfl
theorem by226 : Tryz.prog.bytesOf 226 = 8 := by kernel_rfl
theorem tk226 : tkOf Tryz.prog 226 = some ⟨false, 1, [.v (.nilFunc)]⟩ := by kernel_rfl
theorem by227 : Tryz.prog.bytesOf 227 = 8 := by kernel_rfl
theorem tk227 : tkOf Tryz.prog 227 = some ⟨false, 1, [.v (.nilFunc)]⟩ := by kernel_rfl
theorem by228 : Tryz.prog.bytesOf 228 = 16 := by kernel_rfl
theorem tk228 : tkOf Tryz.prog 228 = some ⟨true, 2, [.v (.int .i64 0), .v (.bool false)]⟩ := by kernel_rfl
theorem fs228 : fieldsOf Tryz.prog 228 = some [⟨ "at", 3, 0, false, "", "bailment/formula", 0⟩, ⟨ "opposite", 4, 1, false, "", "bailment/formula", 8⟩] := by kernel_rfl
theorem pl228 : places Tryz.prog 228 = some (fun i => ([(0, 1), (1, 1)] : List (Nat × Nat))[i]?) := by kernel_rfl
theorem by229 : Tryz.prog.bytesOf 229 = 16 := by kernel_rfl
theorem tk229 : tkOf Tryz.prog 229 = some ⟨true, 2, [.v (.int .i64 0), .v (.bool false)]⟩ := by kernel_rfl
theorem fs229 : fieldsOf Tryz.prog 229 = some [⟨ "at", 3, 0, false, "", "bailment/formula", 0⟩, ⟨ "opposite", 4, 1, false, "", "bailment/formula", 8⟩] := by kernel_rfl
theorem pl229 : places Tryz.prog 229 = some (fun i => ([(0, 1), (1, 1)] : List (Nat × Nat))[i]?) := by kernel_rfl
theorem by230 : Tryz.prog.bytesOf 230 = 8 := by kernel_rfl
theorem tk230 : tkOf Tryz.prog 230 = some ⟨false, 1, [.v (.pointer none)]⟩ := by kernel_rfl
theorem by231 : Tryz.prog.bytesOf 231 = 8 := by kernel_rfl
theorem tk231 : tkOf Tryz.prog 231 = some ⟨false, 1, [.v (.map none)]⟩ := by kernel_rfl
theorem by232 : Tryz.prog.bytesOf 232 = 48 := by kernel_rfl
theorem tk232 : tkOf Tryz.prog 232 = some ⟨true, 4, [.v (.int .i64 0), .v (.slice none 0 0), .v (.map none), .v (.bool false)]⟩ := by kernel_rfl
theorem fs232 : fieldsOf Tryz.prog 232 = some [⟨ "f", 66, 0, false, "", "bailment/formula", 0⟩, ⟨ "seen", 231, 2, false, "", "bailment/formula", 32⟩, ⟨ "bad", 4, 3, false, "", "bailment/formula", 40⟩] := by kernel_rfl
theorem pl232 : places Tryz.prog 232 = some (fun i => ([(0, 2), (2, 1), (3, 1)] : List (Nat × Nat))[i]?) := by kernel_rfl
theorem by233 : Tryz.prog.bytesOf 233 = 48 := by kernel_rfl
theorem tk233 : tkOf Tryz.prog 233 = some ⟨true, 4, [.v (.int .i64 0), .v (.slice none 0 0), .v (.map none), .v (.bool false)]⟩ := by kernel_rfl
theorem fs233 : fieldsOf Tryz.prog 233 = some [⟨ "f", 66, 0, false, "", "bailment/formula", 0⟩, ⟨ "seen", 231, 2, false, "", "bailment/formula", 32⟩, ⟨ "bad", 4, 3, false, "", "bailment/formula", 40⟩] := by kernel_rfl
theorem pl233 : places Tryz.prog 233 = some (fun i => ([(0, 2), (2, 1), (3, 1)] : List (Nat × Nat))[i]?) := by kernel_rfl
theorem by234 : Tryz.prog.bytesOf 234 = 16 := by kernel_rfl
theorem tk234 : tkOf Tryz.prog 234 = some ⟨true, 2, [.v (.int .i64 0), .v (.int .i64 0)]⟩ := by kernel_rfl
theorem el234 : elemOf Tryz.prog 234 = some (some 2, 3) := by kernel_rfl
theorem fs234 : fieldsOf Tryz.prog 234 = none := by kernel_rfl
theorem pl234 : places Tryz.prog 234 = some (fun i => some (i * 1, 1)) := by kernel_rfl
theorem by235 : Tryz.prog.bytesOf 235 = 8 := by kernel_rfl
theorem tk235 : tkOf Tryz.prog 235 = some ⟨false, 1, [.v (.nilFunc)]⟩ := by kernel_rfl
theorem by236 : Tryz.prog.bytesOf 236 = 8 := by kernel_rfl
theorem tk236 : tkOf Tryz.prog 236 = some ⟨false, 1, [.v (.pointer none)]⟩ := by kernel_rfl
theorem by237 : Tryz.prog.bytesOf 237 = 8 := by kernel_rfl
theorem tk237 : tkOf Tryz.prog 237 = some ⟨false, 1, [.v (.map none)]⟩ := by kernel_rfl
theorem by238 : Tryz.prog.bytesOf 238 = 48 := by kernel_rfl
theorem tk238 : tkOf Tryz.prog 238 = some ⟨true, 4, [.v (.int .i64 0), .v (.slice none 0 0), .v (.map none), .v (.bool false)]⟩ := by kernel_rfl
theorem fs238 : fieldsOf Tryz.prog 238 = some [⟨ "f", 66, 0, false, "", "bailment/formula", 0⟩, ⟨ "seen", 237, 2, false, "", "bailment/formula", 32⟩, ⟨ "large", 4, 3, false, "", "bailment/formula", 40⟩] := by kernel_rfl
theorem pl238 : places Tryz.prog 238 = some (fun i => ([(0, 2), (2, 1), (3, 1)] : List (Nat × Nat))[i]?) := by kernel_rfl
theorem by239 : Tryz.prog.bytesOf 239 = 48 := by kernel_rfl
theorem tk239 : tkOf Tryz.prog 239 = some ⟨true, 4, [.v (.int .i64 0), .v (.slice none 0 0), .v (.map none), .v (.bool false)]⟩ := by kernel_rfl
theorem fs239 : fieldsOf Tryz.prog 239 = some [⟨ "f", 66, 0, false, "", "bailment/formula", 0⟩, ⟨ "seen", 237, 2, false, "", "bailment/formula", 32⟩, ⟨ "large", 4, 3, false, "", "bailment/formula", 40⟩] := by kernel_rfl
theorem pl239 : places Tryz.prog 239 = some (fun i => ([(0, 2), (2, 1), (3, 1)] : List (Nat × Nat))[i]?) := by kernel_rfl
theorem by240 : Tryz.prog.bytesOf 240 = 8 := by kernel_rfl
theorem tk240 : tkOf Tryz.prog 240 = some ⟨false, 1, [.v (.nilFunc)]⟩ := by kernel_rfl
theorem by241 : Tryz.prog.bytesOf 241 = 8 := by kernel_rfl
theorem tk241 : tkOf Tryz.prog 241 = some ⟨false, 1, [.v (.nilFunc)]⟩ := by kernel_rfl
theorem by242 : Tryz.prog.bytesOf 242 = 8 := by kernel_rfl
theorem tk242 : tkOf Tryz.prog 242 = some ⟨false, 1, [.v (.nilFunc)]⟩ := by kernel_rfl
theorem by243 : Tryz.prog.bytesOf 243 = 8 := by kernel_rfl
theorem tk243 : tkOf Tryz.prog 243 = some ⟨false, 1, [.v (.nilFunc)]⟩ := by kernel_rfl
theorem by244 : Tryz.prog.bytesOf 244 = 8 := by kernel_rfl
theorem tk244 : tkOf Tryz.prog 244 = some ⟨false, 1, [.v (.nilFunc)]⟩ := by kernel_rfl
theorem by245 : Tryz.prog.bytesOf 245 = 8 := by kernel_rfl
theorem tk245 : tkOf Tryz.prog 245 = some ⟨false, 1, [.v (.nilFunc)]⟩ := by kernel_rfl
theorem by246 : Tryz.prog.bytesOf 246 = 8 := by kernel_rfl
theorem tk246 : tkOf Tryz.prog 246 = some ⟨false, 1, [.v (.nilFunc)]⟩ := by kernel_rfl
theorem by247 : Tryz.prog.bytesOf 247 = 8 := by kernel_rfl
theorem tk247 : tkOf Tryz.prog 247 = some ⟨false, 1, [.v (.nilFunc)]⟩ := by kernel_rfl
theorem by248 : Tryz.prog.bytesOf 248 = 8 := by kernel_rfl
theorem tk248 : tkOf Tryz.prog 248 = some ⟨false, 1, [.v (.nilFunc)]⟩ := by kernel_rfl
theorem by249 : Tryz.prog.bytesOf 249 = 8 := by kernel_rfl
theorem tk249 : tkOf Tryz.prog 249 = some ⟨false, 1, [.v (.nilFunc)]⟩ := by kernel_rfl
theorem by250 : Tryz.prog.bytesOf 250 = 8 := by kernel_rfl
theorem tk250 : tkOf Tryz.prog 250 = some ⟨false, 1, [.v (.nilFunc)]⟩ := by kernel_rfl
theorem by251 : Tryz.prog.bytesOf 251 = 8 := by kernel_rfl
theorem tk251 : tkOf Tryz.prog 251 = some ⟨false, 1, [.v (.nilFunc)]⟩ := by kernel_rfl
theorem by252 : Tryz.prog.bytesOf 252 = 8 := by kernel_rfl
theorem tk252 : tkOf Tryz.prog 252 = some ⟨false, 1, [.v (.nilFunc)]⟩ := by kernel_rfl
theorem by253 : Tryz.prog.bytesOf 253 = 8 := by kernel_rfl
theorem tk253 : tkOf Tryz.prog 253 = some ⟨false, 1, [.v (.nilFunc)]⟩ := by kernel_rfl
theorem by254 : Tryz.prog.bytesOf 254 = 8 := by kernel_rfl
theorem tk254 : tkOf Tryz.prog 254 = some ⟨false, 1, [.v (.nilFunc)]⟩ := by kernel_rfl
theorem by255 : Tryz.prog.bytesOf 255 = 8 := by kernel_rfl
theorem tk255 : tkOf Tryz.prog 255 = some ⟨false, 1, [.v (.nilFunc)]⟩ := by kernel_rfl
theorem by256 : Tryz.prog.bytesOf 256 = 8 := by kernel_rfl
theorem tk256 : tkOf Tryz.prog 256 = some ⟨false, 1, [.v (.nilFunc)]⟩ := by kernel_rfl
theorem by257 : Tryz.prog.bytesOf 257 = 8 := by kernel_rfl
theorem tk257 : tkOf Tryz.prog 257 = some ⟨false, 1, [.v (.nilFunc)]⟩ := by kernel_rfl
theorem by258 : Tryz.prog.bytesOf 258 = 8 := by kernel_rfl
theorem tk258 : tkOf Tryz.prog 258 = some ⟨false, 1, [.v (.nilFunc)]⟩ := by kernel_rfl
theorem by260 : Tryz.prog.bytesOf 260 = 8 := by kernel_rfl
theorem tk260 : tkOf Tryz.prog 260 = some ⟨false, 1, [.v (.nilFunc)]⟩ := by kernel_rfl
theorem by262 : Tryz.prog.bytesOf 262 = 8 := by kernel_rfl
theorem tk262 : tkOf Tryz.prog 262 = some ⟨false, 1, [.v (.nilFunc)]⟩ := by kernel_rfl
theorem by263 : Tryz.prog.bytesOf 263 = 8 := by kernel_rfl
theorem tk263 : tkOf Tryz.prog 263 = some ⟨false, 1, [.v (.nilFunc)]⟩ := by kernel_rfl
theorem by264 : Tryz.prog.bytesOf 264 = 8 := by kernel_rfl
theorem tk264 : tkOf Tryz.prog 264 = some ⟨false, 1, [.v (.nilFunc)]⟩ := by kernel_rfl
theorem by265 : Tryz.prog.bytesOf 265 = 8 := by kernel_rfl
theorem tk265 : tkOf Tryz.prog 265 = some ⟨false, 1, [.v (.nilFunc)]⟩ := by kernel_rfl
theorem by266 : Tryz.prog.bytesOf 266 = 8 := by kernel_rfl
theorem tk266 : tkOf Tryz.prog 266 = some ⟨false, 1, [.v (.nilFunc)]⟩ := by kernel_rfl
theorem by267 : Tryz.prog.bytesOf 267 = 24 := by kernel_rfl
theorem tk267 : tkOf Tryz.prog 267 = some ⟨false, 1, [.v (.slice none 0 0)]⟩ := by kernel_rfl
theorem el267 : elemOf Tryz.prog 267 = some (none, 9) := by kernel_rfl
theorem us267 : Tryz.prog.underlying 267 = some (.slice 9) := by kernel_rfl
theorem by268 : Tryz.prog.bytesOf 268 = 8 := by kernel_rfl
theorem tk268 : tkOf Tryz.prog 268 = some ⟨false, 1, [.v (.nilFunc)]⟩ := by kernel_rfl
theorem by269 : Tryz.prog.bytesOf 269 = 8 := by kernel_rfl
theorem tk269 : tkOf Tryz.prog 269 = some ⟨false, 1, [.v (.nilFunc)]⟩ := by kernel_rfl
theorem by270 : Tryz.prog.bytesOf 270 = 8 := by kernel_rfl
theorem tk270 : tkOf Tryz.prog 270 = some ⟨false, 1, [.v (.nilFunc)]⟩ := by kernel_rfl
theorem by271 : Tryz.prog.bytesOf 271 = 8 := by kernel_rfl
theorem tk271 : tkOf Tryz.prog 271 = some ⟨false, 1, [.v (.nilFunc)]⟩ := by kernel_rfl
theorem by272 : Tryz.prog.bytesOf 272 = 8 := by kernel_rfl
theorem tk272 : tkOf Tryz.prog 272 = some ⟨false, 1, [.v (.nilFunc)]⟩ := by kernel_rfl
theorem by273 : Tryz.prog.bytesOf 273 = 8 := by kernel_rfl
theorem tk273 : tkOf Tryz.prog 273 = some ⟨false, 1, [.v (.nilFunc)]⟩ := by kernel_rfl
theorem by275 : Tryz.prog.bytesOf 275 = 8 := by kernel_rfl
theorem tk275 : tkOf Tryz.prog 275 = some ⟨false, 1, [.v (.nilFunc)]⟩ := by kernel_rfl
theorem by276 : Tryz.prog.bytesOf 276 = 8 := by kernel_rfl
theorem tk276 : tkOf Tryz.prog 276 = some ⟨false, 1, [.v (.nilFunc)]⟩ := by kernel_rfl
theorem by277 : Tryz.prog.bytesOf 277 = 8 := by kernel_rfl
theorem tk277 : tkOf Tryz.prog 277 = some ⟨false, 1, [.v (.nilFunc)]⟩ := by kernel_rfl
theorem by278 : Tryz.prog.bytesOf 278 = 8 := by kernel_rfl
theorem tk278 : tkOf Tryz.prog 278 = some ⟨false, 1, [.v (.nilFunc)]⟩ := by kernel_rfl
theorem by279 : Tryz.prog.bytesOf 279 = 8 := by kernel_rfl
theorem tk279 : tkOf Tryz.prog 279 = some ⟨false, 1, [.v (.nilFunc)]⟩ := by kernel_rfl
theorem by280 : Tryz.prog.bytesOf 280 = 8 := by kernel_rfl
theorem tk280 : tkOf Tryz.prog 280 = some ⟨false, 1, [.v (.nilFunc)]⟩ := by kernel_rfl
theorem by282 : Tryz.prog.bytesOf 282 = 8 := by kernel_rfl
theorem tk282 : tkOf Tryz.prog 282 = some ⟨false, 1, [.v (.nilFunc)]⟩ := by kernel_rfl
theorem by283 : Tryz.prog.bytesOf 283 = 8 := by kernel_rfl
theorem tk283 : tkOf Tryz.prog 283 = some ⟨false, 1, [.v (.pointer none)]⟩ := by kernel_rfl
theorem by284 : Tryz.prog.bytesOf 284 = 24 := by kernel_rfl
theorem tk284 : tkOf Tryz.prog 284 = some ⟨false, 1, [.v (.slice none 0 0)]⟩ := by kernel_rfl
theorem el284 : elemOf Tryz.prog 284 = some (none, 5) := by kernel_rfl
theorem us284 : Tryz.prog.underlying 284 = some (.slice 5) := by kernel_rfl
theorem by285 : Tryz.prog.bytesOf 285 = 32 := by kernel_rfl
theorem tk285 : tkOf Tryz.prog 285 = some ⟨true, 2, [.v (.pointer none), .v (.slice none 0 0)]⟩ := by kernel_rfl
theorem fs285 : fieldsOf Tryz.prog 285 = some [⟨ "addr", 283, 0, false, "", "strings", 0⟩, ⟨ "buf", 284, 1, false, "", "strings", 8⟩] := by kernel_rfl
theorem pl285 : places Tryz.prog 285 = some (fun i => ([(0, 1), (1, 1)] : List (Nat × Nat))[i]?) := by kernel_rfl
theorem by286 : Tryz.prog.bytesOf 286 = 32 := by kernel_rfl
theorem tk286 : tkOf Tryz.prog 286 = some ⟨true, 2, [.v (.pointer none), .v (.slice none 0 0)]⟩ := by kernel_rfl
theorem fs286 : fieldsOf Tryz.prog 286 = some [⟨ "addr", 283, 0, false, "", "strings", 0⟩, ⟨ "buf", 284, 1, false, "", "strings", 8⟩] := by kernel_rfl
theorem pl286 : places Tryz.prog 286 = some (fun i => ([(0, 1), (1, 1)] : List (Nat × Nat))[i]?) := by kernel_rfl
theorem by287 : Tryz.prog.bytesOf 287 = 8 := by kernel_rfl
theorem tk287 : tkOf Tryz.prog 287 = some ⟨false, 1, [.v (.nilFunc)]⟩ := by kernel_rfl
theorem by288 : Tryz.prog.bytesOf 288 = 16 := by kernel_rfl
theorem tk288 : tkOf Tryz.prog 288 = some ⟨false, 1, [.v (.nilIface)]⟩ := by kernel_rfl
theorem by289 : Tryz.prog.bytesOf 289 = 16 := by kernel_rfl
theorem tk289 : tkOf Tryz.prog 289 = some ⟨false, 1, [.v (.nilIface)]⟩ := by kernel_rfl
theorem by291 : Tryz.prog.bytesOf 291 = 8 := by kernel_rfl
theorem tk291 : tkOf Tryz.prog 291 = some ⟨false, 1, [.v (.nilFunc)]⟩ := by kernel_rfl
theorem by293 : Tryz.prog.bytesOf 293 = 8 := by kernel_rfl
theorem tk293 : tkOf Tryz.prog 293 = some ⟨false, 1, [.v (.nilFunc)]⟩ := by kernel_rfl
theorem by294 : Tryz.prog.bytesOf 294 = 8 := by kernel_rfl
theorem tk294 : tkOf Tryz.prog 294 = some ⟨false, 1, [.v (.nilFunc)]⟩ := by kernel_rfl
theorem by296 : Tryz.prog.bytesOf 296 = 8 := by kernel_rfl
theorem tk296 : tkOf Tryz.prog 296 = some ⟨false, 1, [.v (.nilFunc)]⟩ := by kernel_rfl
theorem by298 : Tryz.prog.bytesOf 298 = 8 := by kernel_rfl
theorem tk298 : tkOf Tryz.prog 298 = some ⟨false, 1, [.v (.nilFunc)]⟩ := by kernel_rfl
theorem by299 : Tryz.prog.bytesOf 299 = 8 := by kernel_rfl
theorem tk299 : tkOf Tryz.prog 299 = some ⟨false, 1, [.v (.nilFunc)]⟩ := by kernel_rfl
theorem by300 : Tryz.prog.bytesOf 300 = 96 := by kernel_rfl
theorem tk300 : tkOf Tryz.prog 300 = some ⟨true, 8, [.v (.bool false), .v (.slice none 0 0), .v (.int .i64 0), .v (.int .i64 0), .v (.int .i64 0), .v (.int .i64 0), .v (.int .i64 0), .v (.slice none 0 0)]⟩ := by kernel_rfl
theorem fs300 : fieldsOf Tryz.prog 300 = some [⟨ "Step", 179, 0, true, "", "", 0⟩, ⟨ "at", 3, 6, false, "", "bailment/prove", 64⟩, ⟨ "terms", 32, 7, false, "", "bailment/prove", 72⟩] := by kernel_rfl
theorem pl300 : places Tryz.prog 300 = some (fun i => ([(0, 6), (6, 1), (7, 1)] : List (Nat × Nat))[i]?) := by kernel_rfl
theorem by301 : Tryz.prog.bytesOf 301 = 96 := by kernel_rfl
theorem tk301 : tkOf Tryz.prog 301 = some ⟨true, 8, [.v (.bool false), .v (.slice none 0 0), .v (.int .i64 0), .v (.int .i64 0), .v (.int .i64 0), .v (.int .i64 0), .v (.int .i64 0), .v (.slice none 0 0)]⟩ := by kernel_rfl
theorem fs301 : fieldsOf Tryz.prog 301 = some [⟨ "Step", 179, 0, true, "", "", 0⟩, ⟨ "at", 3, 6, false, "", "bailment/prove", 64⟩, ⟨ "terms", 32, 7, false, "", "bailment/prove", 72⟩] := by kernel_rfl
theorem pl301 : places Tryz.prog 301 = some (fun i => ([(0, 6), (6, 1), (7, 1)] : List (Nat × Nat))[i]?) := by kernel_rfl
theorem by302 : Tryz.prog.bytesOf 302 = 8 := by kernel_rfl
theorem tk302 : tkOf Tryz.prog 302 = some ⟨false, 1, [.v (.nilFunc)]⟩ := by kernel_rfl
theorem by303 : Tryz.prog.bytesOf 303 = 64 := by kernel_rfl
theorem tk303 : tkOf Tryz.prog 303 = some ⟨true, 4, [.v (.slice none 0 0), .v (.int .i64 0), .v (.slice none 0 0), .v (.int .i64 0)]⟩ := by kernel_rfl
theorem el303 : elemOf Tryz.prog 303 = some (some 2, 94) := by kernel_rfl
theorem fs303 : fieldsOf Tryz.prog 303 = none := by kernel_rfl
theorem pl303 : places Tryz.prog 303 = some (fun i => some (i * 2, 2)) := by kernel_rfl
theorem by304 : Tryz.prog.bytesOf 304 = 8 := by kernel_rfl
theorem tk304 : tkOf Tryz.prog 304 = some ⟨false, 1, [.v (.nilFunc)]⟩ := by kernel_rfl
theorem by305 : Tryz.prog.bytesOf 305 = 8 := by kernel_rfl
theorem tk305 : tkOf Tryz.prog 305 = some ⟨false, 1, [.v (.nilFunc)]⟩ := by kernel_rfl
theorem by306 : Tryz.prog.bytesOf 306 = 8 := by kernel_rfl
theorem tk306 : tkOf Tryz.prog 306 = some ⟨false, 1, [.v (.nilFunc)]⟩ := by kernel_rfl
theorem by307 : Tryz.prog.bytesOf 307 = 16 := by kernel_rfl
theorem tk307 : tkOf Tryz.prog 307 = some ⟨true, 2, [.v (.int .i64 0), .v (.int .i64 0)]⟩ := by kernel_rfl
theorem el307 : elemOf Tryz.prog 307 = some (some 2, 3) := by kernel_rfl
theorem fs307 : fieldsOf Tryz.prog 307 = none := by kernel_rfl
theorem pl307 : places Tryz.prog 307 = some (fun i => some (i * 1, 1)) := by kernel_rfl
theorem by308 : Tryz.prog.bytesOf 308 = 8 := by kernel_rfl
theorem tk308 : tkOf Tryz.prog 308 = some ⟨false, 1, [.v (.nilFunc)]⟩ := by kernel_rfl
theorem by309 : Tryz.prog.bytesOf 309 = 32 := by kernel_rfl
theorem tk309 : tkOf Tryz.prog 309 = some ⟨true, 4, [.v (.int .i64 0), .v (.int .i64 0), .v (.int .i64 0), .v (.int .i64 0)]⟩ := by kernel_rfl
theorem el309 : elemOf Tryz.prog 309 = some (some 2, 91) := by kernel_rfl
theorem fs309 : fieldsOf Tryz.prog 309 = none := by kernel_rfl
theorem pl309 : places Tryz.prog 309 = some (fun i => some (i * 2, 2)) := by kernel_rfl
theorem by310 : Tryz.prog.bytesOf 310 = 8 := by kernel_rfl
theorem tk310 : tkOf Tryz.prog 310 = some ⟨false, 1, [.v (.nilFunc)]⟩ := by kernel_rfl
theorem by311 : Tryz.prog.bytesOf 311 = 8 := by kernel_rfl
theorem tk311 : tkOf Tryz.prog 311 = some ⟨false, 1, [.v (.nilFunc)]⟩ := by kernel_rfl
theorem by312 : Tryz.prog.bytesOf 312 = 8 := by kernel_rfl
theorem tk312 : tkOf Tryz.prog 312 = some ⟨false, 1, [.v (.nilFunc)]⟩ := by kernel_rfl
theorem by314 : Tryz.prog.bytesOf 314 = 8 := by kernel_rfl
theorem tk314 : tkOf Tryz.prog 314 = some ⟨false, 1, [.v (.nilFunc)]⟩ := by kernel_rfl
theorem by315 : Tryz.prog.bytesOf 315 = 8 := by kernel_rfl
theorem tk315 : tkOf Tryz.prog 315 = some ⟨false, 1, [.v (.nilFunc)]⟩ := by kernel_rfl
theorem by316 : Tryz.prog.bytesOf 316 = 8 := by kernel_rfl
theorem tk316 : tkOf Tryz.prog 316 = some ⟨false, 1, [.v (.nilFunc)]⟩ := by kernel_rfl
theorem by317 : Tryz.prog.bytesOf 317 = 8 := by kernel_rfl
theorem tk317 : tkOf Tryz.prog 317 = some ⟨false, 1, [.v (.nilFunc)]⟩ := by kernel_rfl
theorem by319 : Tryz.prog.bytesOf 319 = 8 := by kernel_rfl
theorem tk319 : tkOf Tryz.prog 319 = some ⟨false, 1, [.v (.nilFunc)]⟩ := by kernel_rfl
theorem by320 : Tryz.prog.bytesOf 320 = 8 := by kernel_rfl
theorem tk320 : tkOf Tryz.prog 320 = some ⟨false, 1, [.v (.nilFunc)]⟩ := by kernel_rfl
theorem by322 : Tryz.prog.bytesOf 322 = 8 := by kernel_rfl
theorem tk322 : tkOf Tryz.prog 322 = some ⟨false, 1, [.v (.nilFunc)]⟩ := by kernel_rfl
theorem by323 : Tryz.prog.bytesOf 323 = 8 := by kernel_rfl
theorem tk323 : tkOf Tryz.prog 323 = some ⟨false, 1, [.v (.nilFunc)]⟩ := by kernel_rfl
theorem by324 : Tryz.prog.bytesOf 324 = 8 := by kernel_rfl
theorem tk324 : tkOf Tryz.prog 324 = some ⟨false, 1, [.v (.nilFunc)]⟩ := by kernel_rfl
theorem by325 : Tryz.prog.bytesOf 325 = 8 := by kernel_rfl
theorem tk325 : tkOf Tryz.prog 325 = some ⟨false, 1, [.v (.nilFunc)]⟩ := by kernel_rfl
theorem by326 : Tryz.prog.bytesOf 326 = 8 := by kernel_rfl
theorem tk326 : tkOf Tryz.prog 326 = some ⟨false, 1, [.v (.nilFunc)]⟩ := by kernel_rfl
theorem by327 : Tryz.prog.bytesOf 327 = 8 := by kernel_rfl
theorem tk327 : tkOf Tryz.prog 327 = some ⟨false, 1, [.v (.nilFunc)]⟩ := by kernel_rfl
theorem by328 : Tryz.prog.bytesOf 328 = 8 := by kernel_rfl
theorem tk328 : tkOf Tryz.prog 328 = some ⟨false, 1, [.v (.nilFunc)]⟩ := by kernel_rfl
theorem by329 : Tryz.prog.bytesOf 329 = 8 := by kernel_rfl
theorem tk329 : tkOf Tryz.prog 329 = some ⟨false, 1, [.v (.nilFunc)]⟩ := by kernel_rfl
theorem by330 : Tryz.prog.bytesOf 330 = 32 := by kernel_rfl
theorem tk330 : tkOf Tryz.prog 330 = some ⟨true, 3, [.v (.string ByteArray.empty), .v (.nilFunc), .v (.nilFunc)]⟩ := by kernel_rfl
theorem fs330 : fieldsOf Tryz.prog 330 = some [⟨ "word", 9, 0, false, "", "bailment/prove", 0⟩, ⟨ "fits", 224, 1, false, "", "bailment/prove", 16⟩, ⟨ "made", 329, 2, false, "", "bailment/prove", 24⟩] := by kernel_rfl
theorem pl330 : places Tryz.prog 330 = some (fun i => ([(0, 1), (1, 1), (2, 1)] : List (Nat × Nat))[i]?) := by kernel_rfl
theorem by331 : Tryz.prog.bytesOf 331 = 32 := by kernel_rfl
theorem tk331 : tkOf Tryz.prog 331 = some ⟨true, 3, [.v (.string ByteArray.empty), .v (.nilFunc), .v (.nilFunc)]⟩ := by kernel_rfl
theorem fs331 : fieldsOf Tryz.prog 331 = some [⟨ "word", 9, 0, false, "", "bailment/prove", 0⟩, ⟨ "fits", 224, 1, false, "", "bailment/prove", 16⟩, ⟨ "made", 329, 2, false, "", "bailment/prove", 24⟩] := by kernel_rfl
theorem pl331 : places Tryz.prog 331 = some (fun i => ([(0, 1), (1, 1), (2, 1)] : List (Nat × Nat))[i]?) := by kernel_rfl
theorem by332 : Tryz.prog.bytesOf 332 = 64 := by kernel_rfl
theorem tk332 : tkOf Tryz.prog 332 = some ⟨true, 6, [.v (.string ByteArray.empty), .v (.nilFunc), .v (.nilFunc), .v (.string ByteArray.empty), .v (.nilFunc), .v (.nilFunc)]⟩ := by kernel_rfl
theorem el332 : elemOf Tryz.prog 332 = some (some 2, 331) := by kernel_rfl
theorem fs332 : fieldsOf Tryz.prog 332 = none := by kernel_rfl
theorem pl332 : places Tryz.prog 332 = some (fun i => some (i * 3, 3)) := by kernel_rfl
theorem by333 : Tryz.prog.bytesOf 333 = 8 := by kernel_rfl
theorem tk333 : tkOf Tryz.prog 333 = some ⟨false, 1, [.v (.nilFunc)]⟩ := by kernel_rfl
theorem by334 : Tryz.prog.bytesOf 334 = 8 := by kernel_rfl
theorem tk334 : tkOf Tryz.prog 334 = some ⟨false, 1, [.v (.nilFunc)]⟩ := by kernel_rfl
theorem by335 : Tryz.prog.bytesOf 335 = 8 := by kernel_rfl
theorem tk335 : tkOf Tryz.prog 335 = some ⟨false, 1, [.v (.nilFunc)]⟩ := by kernel_rfl
theorem by336 : Tryz.prog.bytesOf 336 = 8 := by kernel_rfl
theorem tk336 : tkOf Tryz.prog 336 = some ⟨false, 1, [.v (.nilFunc)]⟩ := by kernel_rfl
theorem by337 : Tryz.prog.bytesOf 337 = 8 := by kernel_rfl
theorem tk337 : tkOf Tryz.prog 337 = some ⟨false, 1, [.v (.map none)]⟩ := by kernel_rfl
theorem by338 : Tryz.prog.bytesOf 338 = 8 := by kernel_rfl
theorem tk338 : tkOf Tryz.prog 338 = some ⟨false, 1, [.v (.pointer none)]⟩ := by kernel_rfl
theorem by339 : Tryz.prog.bytesOf 339 = 8 := by kernel_rfl
theorem tk339 : tkOf Tryz.prog 339 = some ⟨false, 1, [.v (.nilFunc)]⟩ := by kernel_rfl
theorem by340 : Tryz.prog.bytesOf 340 = 8 := by kernel_rfl
theorem tk340 : tkOf Tryz.prog 340 = some ⟨false, 1, [.v (.map none)]⟩ := by kernel_rfl
theorem by341 : Tryz.prog.bytesOf 341 = 8 := by kernel_rfl
theorem tk341 : tkOf Tryz.prog 341 = some ⟨false, 1, [.v (.nilFunc)]⟩ := by kernel_rfl
theorem by342 : Tryz.prog.bytesOf 342 = 8 := by kernel_rfl
theorem tk342 : tkOf Tryz.prog 342 = some ⟨false, 1, [.v (.nilFunc)]⟩ := by kernel_rfl
theorem by343 : Tryz.prog.bytesOf 343 = 8 := by kernel_rfl
theorem tk343 : tkOf Tryz.prog 343 = some ⟨false, 1, [.v (.nilFunc)]⟩ := by kernel_rfl
theorem by344 : Tryz.prog.bytesOf 344 = 24 := by kernel_rfl
theorem tk344 : tkOf Tryz.prog 344 = some ⟨false, 1, [.v (.slice none 0 0)]⟩ := by kernel_rfl
theorem el344 : elemOf Tryz.prog 344 = some (none, 73) := by kernel_rfl
theorem us344 : Tryz.prog.underlying 344 = some (.slice 73) := by kernel_rfl
theorem by345 : Tryz.prog.bytesOf 345 = 8 := by kernel_rfl
theorem tk345 : tkOf Tryz.prog 345 = some ⟨false, 1, [.v (.nilFunc)]⟩ := by kernel_rfl
theorem by346 : Tryz.prog.bytesOf 346 = 8 := by kernel_rfl
theorem tk346 : tkOf Tryz.prog 346 = some ⟨false, 1, [.v (.nilFunc)]⟩ := by kernel_rfl
theorem by347 : Tryz.prog.bytesOf 347 = 8 := by kernel_rfl
theorem tk347 : tkOf Tryz.prog 347 = some ⟨false, 1, [.v (.nilFunc)]⟩ := by kernel_rfl
theorem by348 : Tryz.prog.bytesOf 348 = 8 := by kernel_rfl
theorem tk348 : tkOf Tryz.prog 348 = some ⟨false, 1, [.v (.nilFunc)]⟩ := by kernel_rfl
theorem by349 : Tryz.prog.bytesOf 349 = 8 := by kernel_rfl
theorem tk349 : tkOf Tryz.prog 349 = some ⟨false, 1, [.v (.nilFunc)]⟩ := by kernel_rfl
theorem by350 : Tryz.prog.bytesOf 350 = 24 := by kernel_rfl
theorem tk350 : tkOf Tryz.prog 350 = some ⟨false, 1, [.v (.slice none 0 0)]⟩ := by kernel_rfl
theorem el350 : elemOf Tryz.prog 350 = some (none, 76) := by kernel_rfl
theorem us350 : Tryz.prog.underlying 350 = some (.slice 76) := by kernel_rfl
theorem by351 : Tryz.prog.bytesOf 351 = 8 := by kernel_rfl
theorem tk351 : tkOf Tryz.prog 351 = some ⟨false, 1, [.v (.nilFunc)]⟩ := by kernel_rfl
theorem by352 : Tryz.prog.bytesOf 352 = 8 := by kernel_rfl
theorem tk352 : tkOf Tryz.prog 352 = some ⟨false, 1, [.v (.nilFunc)]⟩ := by kernel_rfl
theorem by353 : Tryz.prog.bytesOf 353 = 8 := by kernel_rfl
theorem tk353 : tkOf Tryz.prog 353 = some ⟨false, 1, [.v (.pointer none)]⟩ := by kernel_rfl
theorem by354 : Tryz.prog.bytesOf 354 = 8 := by kernel_rfl
theorem tk354 : tkOf Tryz.prog 354 = some ⟨false, 1, [.v (.nilFunc)]⟩ := by kernel_rfl
theorem by355 : Tryz.prog.bytesOf 355 = 8 := by kernel_rfl
theorem tk355 : tkOf Tryz.prog 355 = some ⟨false, 1, [.v (.nilFunc)]⟩ := by kernel_rfl
theorem by356 : Tryz.prog.bytesOf 356 = 8 := by kernel_rfl
theorem tk356 : tkOf Tryz.prog 356 = some ⟨false, 1, [.v (.nilFunc)]⟩ := by kernel_rfl
theorem by357 : Tryz.prog.bytesOf 357 = 8 := by kernel_rfl
theorem tk357 : tkOf Tryz.prog 357 = some ⟨false, 1, [.v (.nilFunc)]⟩ := by kernel_rfl
theorem by358 : Tryz.prog.bytesOf 358 = 8 := by kernel_rfl
theorem tk358 : tkOf Tryz.prog 358 = some ⟨false, 1, [.v (.nilFunc)]⟩ := by kernel_rfl
theorem by359 : Tryz.prog.bytesOf 359 = 8 := by kernel_rfl
theorem tk359 : tkOf Tryz.prog 359 = some ⟨false, 1, [.v (.nilFunc)]⟩ := by kernel_rfl
theorem by360 : Tryz.prog.bytesOf 360 = 8 := by kernel_rfl
theorem tk360 : tkOf Tryz.prog 360 = some ⟨false, 1, [.v (.nilFunc)]⟩ := by kernel_rfl
theorem by361 : Tryz.prog.bytesOf 361 = 8 := by kernel_rfl
theorem tk361 : tkOf Tryz.prog 361 = some ⟨false, 1, [.v (.nilFunc)]⟩ := by kernel_rfl
theorem by362 : Tryz.prog.bytesOf 362 = 8 := by kernel_rfl
theorem tk362 : tkOf Tryz.prog 362 = some ⟨false, 1, [.v (.nilFunc)]⟩ := by kernel_rfl
theorem by363 : Tryz.prog.bytesOf 363 = 8 := by kernel_rfl
theorem tk363 : tkOf Tryz.prog 363 = some ⟨false, 1, [.v (.nilFunc)]⟩ := by kernel_rfl
theorem by364 : Tryz.prog.bytesOf 364 = 8 := by kernel_rfl
theorem tk364 : tkOf Tryz.prog 364 = some ⟨false, 1, [.v (.nilFunc)]⟩ := by kernel_rfl
theorem by366 : Tryz.prog.bytesOf 366 = 8 := by kernel_rfl
theorem tk366 : tkOf Tryz.prog 366 = some ⟨false, 1, [.v (.nilFunc)]⟩ := by kernel_rfl
theorem by367 : Tryz.prog.bytesOf 367 = 24 := by kernel_rfl
theorem tk367 : tkOf Tryz.prog 367 = some ⟨true, 24, [.v (.int .u8 0), .v (.int .u8 0), .v (.int .u8 0), .v (.int .u8 0), .v (.int .u8 0), .v (.int .u8 0), .v (.int .u8 0), .v (.int .u8 0), .v (.int .u8 0), .v (.int .u8 0), .v (.int .u8 0), .v (.int .u8 0), .v (.int .u8 0), .v (.int .u8 0), .v (.int .u8 0), .v (.int .u8 0), .v (.int .u8 0), .v (.int .u8 0), .v (.int .u8 0), .v (.int .u8 0), .v (.int .u8 0), .v (.int .u8 0), .v (.int .u8 0), .v (.int .u8 0)]⟩ := by kernel_rfl
theorem el367 : elemOf Tryz.prog 367 = some (some 24, 5) := by kernel_rfl
theorem fs367 : fieldsOf Tryz.prog 367 = none := by kernel_rfl
theorem pl367 : places Tryz.prog 367 = some (fun i => some (i * 1, 1)) := by kernel_rfl
theorem by368 : Tryz.prog.bytesOf 368 = 8 := by kernel_rfl
theorem tk368 : tkOf Tryz.prog 368 = some ⟨false, 1, [.v (.int .u64 0)]⟩ := by kernel_rfl
theorem us368 : Tryz.prog.underlying 368 = some (.int .u64) := by kernel_rfl
theorem by369 : Tryz.prog.bytesOf 369 = 8 := by kernel_rfl
theorem tk369 : tkOf Tryz.prog 369 = some ⟨false, 1, [.v (.nilFunc)]⟩ := by kernel_rfl
theorem by370 : Tryz.prog.bytesOf 370 = 8 := by kernel_rfl
theorem tk370 : tkOf Tryz.prog 370 = some ⟨false, 1, [.v (.nilFunc)]⟩ := by kernel_rfl
theorem by372 : Tryz.prog.bytesOf 372 = 8 := by kernel_rfl
theorem tk372 : tkOf Tryz.prog 372 = some ⟨false, 1, [.v (.nilFunc)]⟩ := by kernel_rfl
theorem by373 : Tryz.prog.bytesOf 373 = 8 := by kernel_rfl
theorem tk373 : tkOf Tryz.prog 373 = some ⟨false, 1, [.v (.int .u64 0)]⟩ := by kernel_rfl
theorem us373 : Tryz.prog.underlying 373 = some (.int .u64) := by kernel_rfl
theorem by374 : Tryz.prog.bytesOf 374 = 8 := by kernel_rfl
theorem tk374 : tkOf Tryz.prog 374 = some ⟨false, 1, [.v (.nilFunc)]⟩ := by kernel_rfl
theorem by375 : Tryz.prog.bytesOf 375 = 160 := by kernel_rfl
theorem tk375 : tkOf Tryz.prog 375 = some ⟨true, 20, [.v (.int .u64 0), .v (.int .u64 0), .v (.int .u64 0), .v (.int .u64 0), .v (.int .u64 0), .v (.int .u64 0), .v (.int .u64 0), .v (.int .u64 0), .v (.int .u64 0), .v (.int .u64 0), .v (.int .u64 0), .v (.int .u64 0), .v (.int .u64 0), .v (.int .u64 0), .v (.int .u64 0), .v (.int .u64 0), .v (.int .u64 0), .v (.int .u64 0), .v (.int .u64 0), .v (.int .u64 0)]⟩ := by kernel_rfl
theorem el375 : elemOf Tryz.prog 375 = some (some 20, 368) := by kernel_rfl
theorem fs375 : fieldsOf Tryz.prog 375 = none := by kernel_rfl
theorem pl375 : places Tryz.prog 375 = some (fun i => some (i * 1, 1)) := by kernel_rfl
theorem by376 : Tryz.prog.bytesOf 376 = 4 := by kernel_rfl
theorem tk376 : tkOf Tryz.prog 376 = some ⟨false, 1, [.v (.int .u32 0)]⟩ := by kernel_rfl
theorem us376 : Tryz.prog.underlying 376 = some (.int .u32) := by kernel_rfl
theorem el377 : elemOf Tryz.prog 377 = some (some 65, 5) := by kernel_rfl
theorem fs377 : fieldsOf Tryz.prog 377 = none := by kernel_rfl
theorem pl377 : places Tryz.prog 377 = some (fun i => some (i * 1, 1)) := by kernel_rfl
theorem by378 : Tryz.prog.bytesOf 378 = 8 := by kernel_rfl
theorem tk378 : tkOf Tryz.prog 378 = some ⟨false, 1, [.v (.nilFunc)]⟩ := by kernel_rfl
theorem el379 : elemOf Tryz.prog 379 = some (some 256, 5) := by kernel_rfl
theorem fs379 : fieldsOf Tryz.prog 379 = none := by kernel_rfl
theorem pl379 : places Tryz.prog 379 = some (fun i => some (i * 1, 1)) := by kernel_rfl
theorem by380 : Tryz.prog.bytesOf 380 = 2 := by kernel_rfl
theorem tk380 : tkOf Tryz.prog 380 = some ⟨true, 2, [.v (.int .u8 0), .v (.int .u8 0)]⟩ := by kernel_rfl
theorem fs380 : fieldsOf Tryz.prog 380 = some [⟨ "lo", 5, 0, false, "", "unicode/utf8", 0⟩, ⟨ "hi", 5, 1, false, "", "unicode/utf8", 1⟩] := by kernel_rfl
theorem pl380 : places Tryz.prog 380 = some (fun i => ([(0, 1), (1, 1)] : List (Nat × Nat))[i]?) := by kernel_rfl
theorem by381 : Tryz.prog.bytesOf 381 = 2 := by kernel_rfl
theorem tk381 : tkOf Tryz.prog 381 = some ⟨true, 2, [.v (.int .u8 0), .v (.int .u8 0)]⟩ := by kernel_rfl
theorem fs381 : fieldsOf Tryz.prog 381 = some [⟨ "lo", 5, 0, false, "", "unicode/utf8", 0⟩, ⟨ "hi", 5, 1, false, "", "unicode/utf8", 1⟩] := by kernel_rfl
theorem pl381 : places Tryz.prog 381 = some (fun i => ([(0, 1), (1, 1)] : List (Nat × Nat))[i]?) := by kernel_rfl
theorem by382 : Tryz.prog.bytesOf 382 = 32 := by kernel_rfl
theorem tk382 : tkOf Tryz.prog 382 = some ⟨true, 32, [.v (.int .u8 0), .v (.int .u8 0), .v (.int .u8 0), .v (.int .u8 0), .v (.int .u8 0), .v (.int .u8 0), .v (.int .u8 0), .v (.int .u8 0), .v (.int .u8 0), .v (.int .u8 0), .v (.int .u8 0), .v (.int .u8 0), .v (.int .u8 0), .v (.int .u8 0), .v (.int .u8 0), .v (.int .u8 0), .v (.int .u8 0), .v (.int .u8 0), .v (.int .u8 0), .v (.int .u8 0), .v (.int .u8 0), .v (.int .u8 0), .v (.int .u8 0), .v (.int .u8 0), .v (.int .u8 0), .v (.int .u8 0), .v (.int .u8 0), .v (.int .u8 0), .v (.int .u8 0), .v (.int .u8 0), .v (.int .u8 0), .v (.int .u8 0)]⟩ := by kernel_rfl
theorem el382 : elemOf Tryz.prog 382 = some (some 16, 381) := by kernel_rfl
theorem fs382 : fieldsOf Tryz.prog 382 = none := by kernel_rfl
theorem pl382 : places Tryz.prog 382 = some (fun i => some (i * 2, 2)) := by kernel_rfl
theorem by384 : Tryz.prog.bytesOf 384 = 8 := by kernel_rfl
theorem tk384 : tkOf Tryz.prog 384 = some ⟨false, 1, [.v (.nilFunc)]⟩ := by kernel_rfl
theorem by385 : Tryz.prog.bytesOf 385 = 8 := by kernel_rfl
theorem tk385 : tkOf Tryz.prog 385 = some ⟨false, 1, [.v (.nilFunc)]⟩ := by kernel_rfl
theorem by386 : Tryz.prog.bytesOf 386 = 32 := by kernel_rfl
theorem tk386 : tkOf Tryz.prog 386 = some ⟨true, 32, [.v (.int .u8 0), .v (.int .u8 0), .v (.int .u8 0), .v (.int .u8 0), .v (.int .u8 0), .v (.int .u8 0), .v (.int .u8 0), .v (.int .u8 0), .v (.int .u8 0), .v (.int .u8 0), .v (.int .u8 0), .v (.int .u8 0), .v (.int .u8 0), .v (.int .u8 0), .v (.int .u8 0), .v (.int .u8 0), .v (.int .u8 0), .v (.int .u8 0), .v (.int .u8 0), .v (.int .u8 0), .v (.int .u8 0), .v (.int .u8 0), .v (.int .u8 0), .v (.int .u8 0), .v (.int .u8 0), .v (.int .u8 0), .v (.int .u8 0), .v (.int .u8 0), .v (.int .u8 0), .v (.int .u8 0), .v (.int .u8 0), .v (.int .u8 0)]⟩ := by kernel_rfl
theorem el386 : elemOf Tryz.prog 386 = some (some 32, 5) := by kernel_rfl
theorem fs386 : fieldsOf Tryz.prog 386 = none := by kernel_rfl
theorem pl386 : places Tryz.prog 386 = some (fun i => some (i * 1, 1)) := by kernel_rfl
theorem by387 : Tryz.prog.bytesOf 387 = 64 := by kernel_rfl
theorem tk387 : tkOf Tryz.prog 387 = some ⟨true, 64, [.v (.int .u8 0), .v (.int .u8 0), .v (.int .u8 0), .v (.int .u8 0), .v (.int .u8 0), .v (.int .u8 0), .v (.int .u8 0), .v (.int .u8 0), .v (.int .u8 0), .v (.int .u8 0), .v (.int .u8 0), .v (.int .u8 0), .v (.int .u8 0), .v (.int .u8 0), .v (.int .u8 0), .v (.int .u8 0), .v (.int .u8 0), .v (.int .u8 0), .v (.int .u8 0), .v (.int .u8 0), .v (.int .u8 0), .v (.int .u8 0), .v (.int .u8 0), .v (.int .u8 0), .v (.int .u8 0), .v (.int .u8 0), .v (.int .u8 0), .v (.int .u8 0), .v (.int .u8 0), .v (.int .u8 0), .v (.int .u8 0), .v (.int .u8 0), .v (.int .u8 0), .v (.int .u8 0), .v (.int .u8 0), .v (.int .u8 0), .v (.int .u8 0), .v (.int .u8 0), .v (.int .u8 0), .v (.int .u8 0), .v (.int .u8 0), .v (.int .u8 0), .v (.int .u8 0), .v (.int .u8 0), .v (.int .u8 0), .v (.int .u8 0), .v (.int .u8 0), .v (.int .u8 0), .v (.int .u8 0), .v (.int .u8 0), .v (.int .u8 0), .v (.int .u8 0), .v (.int .u8 0), .v (.int .u8 0), .v (.int .u8 0), .v (.int .u8 0), .v (.int .u8 0), .v (.int .u8 0), .v (.int .u8 0), .v (.int .u8 0), .v (.int .u8 0), .v (.int .u8 0), .v (.int .u8 0), .v (.int .u8 0)]⟩ := by kernel_rfl
theorem el387 : elemOf Tryz.prog 387 = some (some 64, 5) := by kernel_rfl
theorem fs387 : fieldsOf Tryz.prog 387 = none := by kernel_rfl
theorem pl387 : places Tryz.prog 387 = some (fun i => some (i * 1, 1)) := by kernel_rfl
theorem by388 : Tryz.prog.bytesOf 388 = 40 := by kernel_rfl
theorem tk388 : tkOf Tryz.prog 388 = some ⟨true, 4, [.v (.pointer none), .v (.pointer none), .v (.pointer none), .v (.string ByteArray.empty)]⟩ := by kernel_rfl
theorem fs388 : fieldsOf Tryz.prog 388 = some [⟨ "_interface", 17, 0, false, "", "runtime", 0⟩, ⟨ "concrete", 17, 1, false, "", "runtime", 8⟩, ⟨ "asserted", 17, 2, false, "", "runtime", 16⟩, ⟨ "missingMethod", 9, 3, false, "", "runtime", 24⟩] := by kernel_rfl
theorem pl388 : places Tryz.prog 388 = some (fun i => ([(0, 1), (1, 1), (2, 1), (3, 1)] : List (Nat × Nat))[i]?) := by kernel_rfl
theorem by389 : Tryz.prog.bytesOf 389 = 40 := by kernel_rfl
theorem tk389 : tkOf Tryz.prog 389 = some ⟨true, 4, [.v (.pointer none), .v (.pointer none), .v (.pointer none), .v (.string ByteArray.empty)]⟩ := by kernel_rfl
theorem fs389 : fieldsOf Tryz.prog 389 = some [⟨ "_interface", 17, 0, false, "", "runtime", 0⟩, ⟨ "concrete", 17, 1, false, "", "runtime", 8⟩, ⟨ "asserted", 17, 2, false, "", "runtime", 16⟩, ⟨ "missingMethod", 9, 3, false, "", "runtime", 24⟩] := by kernel_rfl
theorem pl389 : places Tryz.prog 389 = some (fun i => ([(0, 1), (1, 1), (2, 1), (3, 1)] : List (Nat × Nat))[i]?) := by kernel_rfl
theorem by390 : Tryz.prog.bytesOf 390 = 0 := by kernel_rfl
theorem tk390 : tkOf Tryz.prog 390 = some ⟨true, 0, []⟩ := by kernel_rfl
theorem el390 : elemOf Tryz.prog 390 = some (some 0, 16) := by kernel_rfl
theorem fs390 : fieldsOf Tryz.prog 390 = none := by kernel_rfl
theorem pl390 : places Tryz.prog 390 = some (fun i => some (i * 1, 1)) := by kernel_rfl
theorem by391 : Tryz.prog.bytesOf 391 = 0 := by kernel_rfl
theorem tk391 : tkOf Tryz.prog 391 = some ⟨true, 0, []⟩ := by kernel_rfl
theorem fs391 : fieldsOf Tryz.prog 391 = some [⟨ "_", 390, 0, false, "", "runtime", 0⟩] := by kernel_rfl
theorem pl391 : places Tryz.prog 391 = some (fun i => ([(0, 0)] : List (Nat × Nat))[i]?) := by kernel_rfl
theorem by392 : Tryz.prog.bytesOf 392 = 0 := by kernel_rfl
theorem tk392 : tkOf Tryz.prog 392 = some ⟨true, 0, []⟩ := by kernel_rfl
theorem fs392 : fieldsOf Tryz.prog 392 = some [⟨ "_", 390, 0, false, "", "runtime", 0⟩] := by kernel_rfl
theorem pl392 : places Tryz.prog 392 = some (fun i => ([(0, 0)] : List (Nat × Nat))[i]?) := by kernel_rfl
theorem by393 : Tryz.prog.bytesOf 393 = 8 := by kernel_rfl
theorem tk393 : tkOf Tryz.prog 393 = some ⟨false, 1, [.v (.nilFunc)]⟩ := by kernel_rfl
theorem by394 : Tryz.prog.bytesOf 394 = 1 := by kernel_rfl
theorem tk394 : tkOf Tryz.prog 394 = some ⟨false, 1, [.v (.int .u8 0)]⟩ := by kernel_rfl
theorem us394 : Tryz.prog.underlying 394 = some (.int .u8) := by kernel_rfl
theorem by395 : Tryz.prog.bytesOf 395 = 1 := by kernel_rfl
theorem tk395 : tkOf Tryz.prog 395 = some ⟨false, 1, [.v (.int .u8 0)]⟩ := by kernel_rfl
theorem us395 : Tryz.prog.underlying 395 = some (.int .u8) := by kernel_rfl
theorem by396 : Tryz.prog.bytesOf 396 = 8 := by kernel_rfl
theorem tk396 : tkOf Tryz.prog 396 = some ⟨false, 1, [.v (.nilFunc)]⟩ := by kernel_rfl
theorem by397 : Tryz.prog.bytesOf 397 = 4 := by kernel_rfl
theorem tk397 : tkOf Tryz.prog 397 = some ⟨false, 1, [.v (.int .i32 0)]⟩ := by kernel_rfl
theorem us397 : Tryz.prog.underlying 397 = some (.int .i32) := by kernel_rfl
theorem by398 : Tryz.prog.bytesOf 398 = 4 := by kernel_rfl
theorem tk398 : tkOf Tryz.prog 398 = some ⟨false, 1, [.v (.int .i32 0)]⟩ := by kernel_rfl
theorem us398 : Tryz.prog.underlying 398 = some (.int .i32) := by kernel_rfl
theorem by399 : Tryz.prog.bytesOf 399 = 48 := by kernel_rfl
theorem tk399 : tkOf Tryz.prog 399 = some ⟨true, 11, [.v (.int .u64 0), .v (.int .u64 0), .v (.int .u32 0), .v (.int .u8 0), .v (.int .u8 0), .v (.int .u8 0), .v (.int .u8 0), .v (.nilFunc), .v (.pointer none), .v (.int .i32 0), .v (.int .i32 0)]⟩ := by kernel_rfl
theorem fs399 : fieldsOf Tryz.prog 399 = some [⟨ "Size_", 12, 0, false, "", "", 0⟩, ⟨ "PtrBytes", 12, 1, false, "", "", 8⟩, ⟨ "Hash", 376, 2, false, "", "", 16⟩, ⟨ "TFlag", 394, 3, false, "", "", 20⟩, ⟨ "Align_", 5, 4, false, "", "", 21⟩, ⟨ "FieldAlign_", 5, 5, false, "", "", 22⟩, ⟨ "Kind_", 395, 6, false, "", "", 23⟩, ⟨ "Equal", 396, 7, false, "", "", 24⟩, ⟨ "GCData", 338, 8, false, "", "", 32⟩, ⟨ "Str", 397, 9, false, "", "", 40⟩, ⟨ "PtrToThis", 398, 10, false, "", "", 44⟩] := by kernel_rfl
theorem pl399 : places Tryz.prog 399 = some (fun i => ([(0, 1), (1, 1), (2, 1), (3, 1), (4, 1), (5, 1), (6, 1), (7, 1), (8, 1), (9, 1), (10, 1)] : List (Nat × Nat))[i]?) := by kernel_rfl
theorem by400 : Tryz.prog.bytesOf 400 = 48 := by kernel_rfl
theorem tk400 : tkOf Tryz.prog 400 = some ⟨true, 11, [.v (.int .u64 0), .v (.int .u64 0), .v (.int .u32 0), .v (.int .u8 0), .v (.int .u8 0), .v (.int .u8 0), .v (.int .u8 0), .v (.nilFunc), .v (.pointer none), .v (.int .i32 0), .v (.int .i32 0)]⟩ := by kernel_rfl
theorem fs400 : fieldsOf Tryz.prog 400 = some [⟨ "Size_", 12, 0, false, "", "", 0⟩, ⟨ "PtrBytes", 12, 1, false, "", "", 8⟩, ⟨ "Hash", 376, 2, false, "", "", 16⟩, ⟨ "TFlag", 394, 3, false, "", "", 20⟩, ⟨ "Align_", 5, 4, false, "", "", 21⟩, ⟨ "FieldAlign_", 5, 5, false, "", "", 22⟩, ⟨ "Kind_", 395, 6, false, "", "", 23⟩, ⟨ "Equal", 396, 7, false, "", "", 24⟩, ⟨ "GCData", 338, 8, false, "", "", 32⟩, ⟨ "Str", 397, 9, false, "", "", 40⟩, ⟨ "PtrToThis", 398, 10, false, "", "", 44⟩] := by kernel_rfl
theorem pl400 : places Tryz.prog 400 = some (fun i => ([(0, 1), (1, 1), (2, 1), (3, 1), (4, 1), (5, 1), (6, 1), (7, 1), (8, 1), (9, 1), (10, 1)] : List (Nat × Nat))[i]?) := by kernel_rfl
theorem by401 : Tryz.prog.bytesOf 401 = 8 := by kernel_rfl
theorem tk401 : tkOf Tryz.prog 401 = some ⟨false, 1, [.v (.nilFunc)]⟩ := by kernel_rfl
theorem by402 : Tryz.prog.bytesOf 402 = 8 := by kernel_rfl
theorem tk402 : tkOf Tryz.prog 402 = some ⟨false, 1, [.v (.nilFunc)]⟩ := by kernel_rfl
attribute [go_sem] by1 tk1 by2 tk2 us2 by3 tk3 us3 by4 tk4 us4 by5 tk5 us5 by6 tk6 us6 by7 tk7 fs7
attribute [go_sem] pl7 by8 tk8 fs8 pl8 by9 tk9 us9 by10 tk10 us10 by11 tk11 us11 by12 tk12 us12 by13 tk13 fs13
attribute [go_sem] pl13 by14 tk14 fs14 pl14 by15 tk15 by16 tk16 by17 tk17 by18 tk18 fs18 pl18 by19 tk19 fs19 pl19 by20
attribute [go_sem] tk20 by21 tk21 us21 by22 tk22 el22 us22 by23 tk23 el23 us23 by24 tk24 fs24 pl24 by25 tk25 fs25 pl25
attribute [go_sem] by26 tk26 by27 tk27 by28 tk28 by29 tk29 us29 by31 tk31 by32 tk32 el32 us32 by33 tk33 by34 tk34 el34
attribute [go_sem] us34 by35 tk35 fs35 pl35 by36 tk36 fs36 pl36 by37 tk37 by39 tk39 by40 tk40 by41 tk41 by42 tk42 by43
attribute [go_sem] tk43 by44 tk44 by45 tk45 el45 us45 by46 tk46 el46 us46 by48 tk48 by49 tk49 el49 us49 by50 tk50 by51
attribute [go_sem] tk51 by52 tk52 by53 tk53 by55 tk55 by56 tk56 by57 tk57 by58 tk58 el58 us58 by59 tk59 fs59 pl59 by60
attribute [go_sem] tk60 fs60 pl60 by61 tk61 by63 tk63 by64 tk64 el64 us64 by65 tk65 fs65 pl65 by66 tk66 fs66 pl66 by67
attribute [go_sem] tk67 by68 tk68 by69 tk69 by70 tk70 by71 tk71 by72 tk72 by73 tk73 el73 us73 by75 tk75 by76 tk76 el76
attribute [go_sem] us76 by78 tk78 by79 tk79 by81 tk81 by82 tk82 by84 tk84 by85 tk85 by86 tk86 by87 tk87 fs87 pl87 by88
attribute [go_sem] tk88 fs88 pl88 by89 tk89 by90 tk90 fs90 pl90 by91 tk91 fs91 pl91 by93 tk93 by94 tk94 fs94 pl94 by95
attribute [go_sem] tk95 by96 tk96 by97 tk97 fs97 pl97 by98 tk98 by99 tk99 by100 tk100 by101 tk101 by102 tk102 by103 tk103 by104
attribute [go_sem] tk104 by105 tk105 by106 tk106 by107 tk107 by108 tk108 fs108 pl108 by109 tk109 fs109 pl109 by110 tk110 by112 tk112 by113
attribute [go_sem] tk113 by115 tk115 by116 tk116 by117 tk117 by118 tk118 by119 tk119 by120 tk120 by121 tk121 by122 tk122 by123 tk123 by125
attribute [go_sem] tk125 by127 tk127 by129 tk129 by131 tk131 by132 tk132 by133 tk133 by134 tk134 by135 tk135 by136 tk136 by137 tk137 fs137
attribute [go_sem] pl137 by138 tk138 fs138 pl138 by139 tk139 by140 tk140 by141 tk141 by142 tk142 by144 tk144 by146 tk146 by147 tk147 el147
attribute [go_sem] us147 by149 tk149 by150 tk150 by151 tk151 by152 tk152 el152 us152 by153 tk153 by154 tk154 by156 tk156 by157 tk157 by158
attribute [go_sem] tk158 by159 tk159 by160 tk160 by162 tk162 by163 tk163 by164 tk164 by166 tk166 by167 tk167 by169 tk169 by170 tk170 by171
attribute [go_sem] tk171 by172 tk172 by173 tk173 by174 tk174 el174 fs174 pl174 by175 tk175 fs175 pl175 by176 tk176 fs176 pl176 by177 tk177
attribute [go_sem] by178 tk178 by179 tk179 fs179 pl179 by180 tk180 by181 tk181 fs181 pl181 by182 tk182 fs182 pl182 by183 tk183 by184 tk184
attribute [go_sem] by185 tk185 by186 tk186 fs186 pl186 by187 tk187 fs187 pl187 by188 tk188 by189 tk189 by190 tk190 by191 tk191 el191 us191
attribute [go_sem] by192 tk192 by193 tk193 by194 tk194 by195 tk195 by196 tk196 by197 tk197 by198 tk198 by199 tk199 fs199 pl199 by200 tk200
attribute [go_sem] fs200 pl200 by201 tk201 by202 tk202 by203 tk203 fs203 pl203 by204 tk204 fs204 pl204 by205 tk205 by206 tk206 by207 tk207
attribute [go_sem] by208 tk208 by209 tk209 by210 tk210 by211 tk211 el211 us211 by212 tk212 by213 tk213 by214 tk214 by215 tk215 fs215 pl215
attribute [go_sem] by216 tk216 fs216 pl216 by217 tk217 fs217 pl217 by218 tk218 fs218 pl218 by219 tk219 by220 tk220 fs220 pl220 by221 tk221
attribute [go_sem] fs221 pl221 by222 tk222 el222 fs222 pl222 by223 tk223 by224 tk224 by225 tk225 by226 tk226 by227 tk227 by228 tk228 fs228
attribute [go_sem] pl228 by229 tk229 fs229 pl229 by230 tk230 by231 tk231 by232 tk232 fs232 pl232 by233 tk233 fs233 pl233 by234 tk234 el234
attribute [go_sem] fs234 pl234 by235 tk235 by236 tk236 by237 tk237 by238 tk238 fs238 pl238 by239 tk239 fs239 pl239 by240 tk240 by241 tk241
attribute [go_sem] by242 tk242 by243 tk243 by244 tk244 by245 tk245 by246 tk246 by247 tk247 by248 tk248 by249 tk249 by250 tk250 by251 tk251
attribute [go_sem] by252 tk252 by253 tk253 by254 tk254 by255 tk255 by256 tk256 by257 tk257 by258 tk258 by260 tk260 by262 tk262 by263 tk263
attribute [go_sem] by264 tk264 by265 tk265 by266 tk266 by267 tk267 el267 us267 by268 tk268 by269 tk269 by270 tk270 by271 tk271 by272 tk272
attribute [go_sem] by273 tk273 by275 tk275 by276 tk276 by277 tk277 by278 tk278 by279 tk279 by280 tk280 by282 tk282 by283 tk283 by284 tk284
attribute [go_sem] el284 us284 by285 tk285 fs285 pl285 by286 tk286 fs286 pl286 by287 tk287 by288 tk288 by289 tk289 by291 tk291 by293 tk293
attribute [go_sem] by294 tk294 by296 tk296 by298 tk298 by299 tk299 by300 tk300 fs300 pl300 by301 tk301 fs301 pl301 by302 tk302 by303 tk303
attribute [go_sem] el303 fs303 pl303 by304 tk304 by305 tk305 by306 tk306 by307 tk307 el307 fs307 pl307 by308 tk308 by309 tk309 el309 fs309
attribute [go_sem] pl309 by310 tk310 by311 tk311 by312 tk312 by314 tk314 by315 tk315 by316 tk316 by317 tk317 by319 tk319 by320 tk320 by322
attribute [go_sem] tk322 by323 tk323 by324 tk324 by325 tk325 by326 tk326 by327 tk327 by328 tk328 by329 tk329 by330 tk330 fs330 pl330 by331
attribute [go_sem] tk331 fs331 pl331 by332 tk332 el332 fs332 pl332 by333 tk333 by334 tk334 by335 tk335 by336 tk336 by337 tk337 by338 tk338
attribute [go_sem] by339 tk339 by340 tk340 by341 tk341 by342 tk342 by343 tk343 by344 tk344 el344 us344 by345 tk345 by346 tk346 by347 tk347
attribute [go_sem] by348 tk348 by349 tk349 by350 tk350 el350 us350 by351 tk351 by352 tk352 by353 tk353 by354 tk354 by355 tk355 by356 tk356
attribute [go_sem] by357 tk357 by358 tk358 by359 tk359 by360 tk360 by361 tk361 by362 tk362 by363 tk363 by364 tk364 by366 tk366 by367 tk367
attribute [go_sem] el367 fs367 pl367 by368 tk368 us368 by369 tk369 by370 tk370 by372 tk372 by373 tk373 us373 by374 tk374 by375 tk375 el375
attribute [go_sem] fs375 pl375 by376 tk376 us376 el377 fs377 pl377 by378 tk378 el379 fs379 pl379 by380 tk380 fs380 pl380 by381 tk381 fs381
attribute [go_sem] pl381 by382 tk382 el382 fs382 pl382 by384 tk384 by385 tk385 by386 tk386 el386 fs386 pl386 by387 tk387 el387 fs387 pl387
attribute [go_sem] by388 tk388 fs388 pl388 by389 tk389 fs389 pl389 by390 tk390 el390 fs390 pl390 by391 tk391 fs391 pl391 by392 tk392 fs392
attribute [go_sem] pl392 by393 tk393 by394 tk394 us394 by395 tk395 us395 by396 tk396 by397 tk397 us397 by398 tk398 us398 by399 tk399 fs399
attribute [go_sem] pl399 by400 tk400 fs400 pl400 by401 tk401 by402 tk402
end Go.AL
