/- What is known of this seat's types: closed facts, printed by my own facts.py. -/
import Derived.Test.YtonbgcehgmpnkaaH
import Derived.Test.YtonbgcehgmpnkaaProg
import Derived.KernelRfl
namespace Go.Proofs.Ytonbgcehgmpnkaa
open Go HL
set_option maxRecDepth 100000
theorem ty2 : TyIs Try.prog 2 false 1 (.int .i64 0) 8 := ⟨by kernel_rfl, by kernel_rfl⟩
theorem ty3 : TyIs Try.prog 3 false 1 (.int .i64 0) 8 := ⟨by kernel_rfl, by kernel_rfl⟩
theorem ty4 : TyIs Try.prog 4 false 1 (.bool false) 1 := ⟨by kernel_rfl, by kernel_rfl⟩
theorem ty5 : TyIs Try.prog 5 false 1 (.int .u8 0) 1 := ⟨by kernel_rfl, by kernel_rfl⟩
theorem ty6 : TyIs Try.prog 6 false 1 (.int .u8 0) 1 := ⟨by kernel_rfl, by kernel_rfl⟩
theorem ty7 : TyIs Try.prog 7 true 4 (mkS [.int .i64 0, .int .i64 0, .bool false, .int .u8 0]) 24 := ⟨by kernel_rfl, by kernel_rfl⟩
theorem pl7 : structPlaces Try.prog 7 = some (placesOf [.int .i64 0, .int .i64 0, .bool false, .int .u8 0] 0) := by kernel_rfl
theorem fa7_0 : fieldFact Try.prog 7 0 = some 0 := by kernel_rfl
theorem ft7_0 : fieldTy Try.prog 7 0 = some (2, 0) := by kernel_rfl
theorem fa7_1 : fieldFact Try.prog 7 1 = some 1 := by kernel_rfl
theorem ft7_1 : fieldTy Try.prog 7 1 = some (3, 1) := by kernel_rfl
theorem fa7_2 : fieldFact Try.prog 7 2 = some 2 := by kernel_rfl
theorem ft7_2 : fieldTy Try.prog 7 2 = some (4, 2) := by kernel_rfl
theorem fa7_3 : fieldFact Try.prog 7 3 = some 3 := by kernel_rfl
theorem ft7_3 : fieldTy Try.prog 7 3 = some (6, 3) := by kernel_rfl
theorem eg7 : Try.prog.eqGuardType Try.prog.depth 7 = false := by kernel_rfl
theorem ty8 : TyIs Try.prog 8 true 4 (mkS [.int .i64 0, .int .i64 0, .bool false, .int .u8 0]) 24 := ⟨by kernel_rfl, by kernel_rfl⟩
theorem pl8 : structPlaces Try.prog 8 = some (placesOf [.int .i64 0, .int .i64 0, .bool false, .int .u8 0] 0) := by kernel_rfl
theorem fa8_0 : fieldFact Try.prog 8 0 = some 0 := by kernel_rfl
theorem ft8_0 : fieldTy Try.prog 8 0 = some (2, 0) := by kernel_rfl
theorem fa8_1 : fieldFact Try.prog 8 1 = some 1 := by kernel_rfl
theorem ft8_1 : fieldTy Try.prog 8 1 = some (3, 1) := by kernel_rfl
theorem fa8_2 : fieldFact Try.prog 8 2 = some 2 := by kernel_rfl
theorem ft8_2 : fieldTy Try.prog 8 2 = some (4, 2) := by kernel_rfl
theorem fa8_3 : fieldFact Try.prog 8 3 = some 3 := by kernel_rfl
theorem ft8_3 : fieldTy Try.prog 8 3 = some (6, 3) := by kernel_rfl
theorem eg8 : Try.prog.eqGuardType Try.prog.depth 8 = false := by kernel_rfl
theorem ty9 : TyIs Try.prog 9 false 1 (.string ⟨#[]⟩) 16 := ⟨by kernel_rfl, by kernel_rfl⟩
theorem ty10 : TyIs Try.prog 10 false 1 (.string ⟨#[]⟩) 16 := ⟨by kernel_rfl, by kernel_rfl⟩
theorem ty11 : TyIs Try.prog 11 false 1 (.string ⟨#[]⟩) 16 := ⟨by kernel_rfl, by kernel_rfl⟩
theorem ty12 : TyIs Try.prog 12 false 1 (.int .u64 0) 8 := ⟨by kernel_rfl, by kernel_rfl⟩
theorem ty13 : TyIs Try.prog 13 true 2 (mkS [.string ⟨#[]⟩, .int .u64 0]) 24 := ⟨by kernel_rfl, by kernel_rfl⟩
theorem pl13 : structPlaces Try.prog 13 = some (placesOf [.string ⟨#[]⟩, .int .u64 0] 0) := by kernel_rfl
theorem fa13_0 : fieldFact Try.prog 13 0 = some 0 := by kernel_rfl
theorem ft13_0 : fieldTy Try.prog 13 0 = some (9, 0) := by kernel_rfl
theorem fa13_1 : fieldFact Try.prog 13 1 = some 1 := by kernel_rfl
theorem ft13_1 : fieldTy Try.prog 13 1 = some (12, 1) := by kernel_rfl
theorem eg13 : Try.prog.eqGuardType Try.prog.depth 13 = false := by kernel_rfl
theorem ty14 : TyIs Try.prog 14 true 2 (mkS [.string ⟨#[]⟩, .int .u64 0]) 24 := ⟨by kernel_rfl, by kernel_rfl⟩
theorem pl14 : structPlaces Try.prog 14 = some (placesOf [.string ⟨#[]⟩, .int .u64 0] 0) := by kernel_rfl
theorem fa14_0 : fieldFact Try.prog 14 0 = some 0 := by kernel_rfl
theorem ft14_0 : fieldTy Try.prog 14 0 = some (9, 0) := by kernel_rfl
theorem fa14_1 : fieldFact Try.prog 14 1 = some 1 := by kernel_rfl
theorem ft14_1 : fieldTy Try.prog 14 1 = some (12, 1) := by kernel_rfl
theorem eg14 : Try.prog.eqGuardType Try.prog.depth 14 = false := by kernel_rfl
theorem ty15 : TyIs Try.prog 15 false 1 (.pointer none) 8 := ⟨by kernel_rfl, by kernel_rfl⟩
theorem ty16 : TyIs Try.prog 16 false 1 (.pointer none) 8 := ⟨by kernel_rfl, by kernel_rfl⟩
theorem ty17 : TyIs Try.prog 17 false 1 (.pointer none) 8 := ⟨by kernel_rfl, by kernel_rfl⟩
theorem ty18 : TyIs Try.prog 18 true 1 (mkS [.pointer none]) 8 := ⟨by kernel_rfl, by kernel_rfl⟩
theorem pl18 : structPlaces Try.prog 18 = some (placesOf [.pointer none] 0) := by kernel_rfl
theorem fa18_0 : fieldFact Try.prog 18 0 = some 0 := by kernel_rfl
theorem ft18_0 : fieldTy Try.prog 18 0 = some (17, 0) := by kernel_rfl
theorem eg18 : Try.prog.eqGuardType Try.prog.depth 18 = false := by kernel_rfl
theorem ty19 : TyIs Try.prog 19 true 1 (mkS [.pointer none]) 8 := ⟨by kernel_rfl, by kernel_rfl⟩
theorem pl19 : structPlaces Try.prog 19 = some (placesOf [.pointer none] 0) := by kernel_rfl
theorem fa19_0 : fieldFact Try.prog 19 0 = some 0 := by kernel_rfl
theorem ft19_0 : fieldTy Try.prog 19 0 = some (17, 0) := by kernel_rfl
theorem eg19 : Try.prog.eqGuardType Try.prog.depth 19 = false := by kernel_rfl
theorem ty20 : TyIs Try.prog 20 false 1 (.nilIface) 16 := ⟨by kernel_rfl, by kernel_rfl⟩
theorem ty21 : TyIs Try.prog 21 false 1 (.int .i32 0) 4 := ⟨by kernel_rfl, by kernel_rfl⟩
theorem ty22 : TyIs Try.prog 22 true 32 (hval hz) 32 := ⟨by kernel_rfl, by kernel_rfl⟩
theorem ek22 : KeyTy Try.prog 22 hval 2 := keyTy_hash Try.underlying22 Try.underlying5 ty5
theorem eg22 : Try.prog.eqGuardType Try.prog.depth 22 = false := by kernel_rfl
theorem ty23 : TyIs Try.prog 23 true 32 (hval hz) 32 := ⟨by kernel_rfl, by kernel_rfl⟩
theorem ek23 : KeyTy Try.prog 23 hval 2 := keyTy_hash Try.underlying23 Try.underlying5 ty5
theorem eg23 : Try.prog.eqGuardType Try.prog.depth 23 = false := by kernel_rfl
theorem ty24 : TyIs Try.prog 24 false 1 (.slice none 0 0) 24 := ⟨by kernel_rfl, by kernel_rfl⟩
theorem ty25 : TyIs Try.prog 25 false 1 (.int .i64 0) 8 := ⟨by kernel_rfl, by kernel_rfl⟩
theorem ty26 : TyIs Try.prog 26 true 66 (mkS [hval hz, hval hz, .int .i64 0, .int .i64 0]) 80 := ⟨by kernel_rfl, by kernel_rfl⟩
theorem pl26 : structPlaces Try.prog 26 = some (placesOf [hval hz, hval hz, .int .i64 0, .int .i64 0] 0) := by kernel_rfl
theorem fa26_0 : fieldFact Try.prog 26 0 = some 0 := by kernel_rfl
theorem ft26_0 : fieldTy Try.prog 26 0 = some (23, 0) := by kernel_rfl
theorem fa26_1 : fieldFact Try.prog 26 1 = some 32 := by kernel_rfl
theorem ft26_1 : fieldTy Try.prog 26 1 = some (23, 32) := by kernel_rfl
theorem fa26_2 : fieldFact Try.prog 26 2 = some 64 := by kernel_rfl
theorem ft26_2 : fieldTy Try.prog 26 2 = some (3, 64) := by kernel_rfl
theorem fa26_3 : fieldFact Try.prog 26 3 = some 65 := by kernel_rfl
theorem ft26_3 : fieldTy Try.prog 26 3 = some (25, 65) := by kernel_rfl
theorem eg26 : Try.prog.eqGuardType Try.prog.depth 26 = false := by kernel_rfl
theorem ty27 : TyIs Try.prog 27 true 66 (mkS [hval hz, hval hz, .int .i64 0, .int .i64 0]) 80 := ⟨by kernel_rfl, by kernel_rfl⟩
theorem pl27 : structPlaces Try.prog 27 = some (placesOf [hval hz, hval hz, .int .i64 0, .int .i64 0] 0) := by kernel_rfl
theorem fa27_0 : fieldFact Try.prog 27 0 = some 0 := by kernel_rfl
theorem ft27_0 : fieldTy Try.prog 27 0 = some (23, 0) := by kernel_rfl
theorem fa27_1 : fieldFact Try.prog 27 1 = some 32 := by kernel_rfl
theorem ft27_1 : fieldTy Try.prog 27 1 = some (23, 32) := by kernel_rfl
theorem fa27_2 : fieldFact Try.prog 27 2 = some 64 := by kernel_rfl
theorem ft27_2 : fieldTy Try.prog 27 2 = some (3, 64) := by kernel_rfl
theorem fa27_3 : fieldFact Try.prog 27 3 = some 65 := by kernel_rfl
theorem ft27_3 : fieldTy Try.prog 27 3 = some (25, 65) := by kernel_rfl
theorem eg27 : Try.prog.eqGuardType Try.prog.depth 27 = false := by kernel_rfl
theorem ty29 : TyIs Try.prog 29 false 1 (.pointer none) 8 := ⟨by kernel_rfl, by kernel_rfl⟩
theorem ty30 : TyIs Try.prog 30 false 1 (.int .i64 0) 8 := ⟨by kernel_rfl, by kernel_rfl⟩
theorem ty36 : TyIs Try.prog 36 false 1 (.slice none 0 0) 24 := ⟨by kernel_rfl, by kernel_rfl⟩
theorem ty39 : TyIs Try.prog 39 false 1 (.slice none 0 0) 24 := ⟨by kernel_rfl, by kernel_rfl⟩
theorem ty49 : TyIs Try.prog 49 false 1 (.map none) 8 := ⟨by kernel_rfl, by kernel_rfl⟩
theorem ty50 : TyIs Try.prog 50 false 1 (.map none) 8 := ⟨by kernel_rfl, by kernel_rfl⟩
theorem ty51 : TyIs Try.prog 51 true 2 (mkS [.map none, .map none]) 16 := ⟨by kernel_rfl, by kernel_rfl⟩
theorem pl51 : structPlaces Try.prog 51 = some (placesOf [.map none, .map none] 0) := by kernel_rfl
theorem fa51_0 : fieldFact Try.prog 51 0 = some 0 := by kernel_rfl
theorem ft51_0 : fieldTy Try.prog 51 0 = some (49, 0) := by kernel_rfl
theorem fa51_1 : fieldFact Try.prog 51 1 = some 1 := by kernel_rfl
theorem ft51_1 : fieldTy Try.prog 51 1 = some (50, 1) := by kernel_rfl
theorem eg51 : Try.prog.eqGuardType Try.prog.depth 51 = false := by kernel_rfl
theorem ty52 : TyIs Try.prog 52 true 2 (mkS [.map none, .map none]) 16 := ⟨by kernel_rfl, by kernel_rfl⟩
theorem pl52 : structPlaces Try.prog 52 = some (placesOf [.map none, .map none] 0) := by kernel_rfl
theorem fa52_0 : fieldFact Try.prog 52 0 = some 0 := by kernel_rfl
theorem ft52_0 : fieldTy Try.prog 52 0 = some (49, 0) := by kernel_rfl
theorem fa52_1 : fieldFact Try.prog 52 1 = some 1 := by kernel_rfl
theorem ft52_1 : fieldTy Try.prog 52 1 = some (50, 1) := by kernel_rfl
theorem eg52 : Try.prog.eqGuardType Try.prog.depth 52 = false := by kernel_rfl
theorem ty53 : TyIs Try.prog 53 true 35 (mkS [mkS [.map none, .map none], hval hz, .int .i64 0]) 56 := ⟨by kernel_rfl, by kernel_rfl⟩
theorem pl53 : structPlaces Try.prog 53 = some (placesOf [mkS [.map none, .map none], hval hz, .int .i64 0] 0) := by kernel_rfl
theorem fa53_0 : fieldFact Try.prog 53 0 = some 0 := by kernel_rfl
theorem ft53_0 : fieldTy Try.prog 53 0 = some (52, 0) := by kernel_rfl
theorem fa53_1 : fieldFact Try.prog 53 1 = some 2 := by kernel_rfl
theorem ft53_1 : fieldTy Try.prog 53 1 = some (23, 2) := by kernel_rfl
theorem fa53_2 : fieldFact Try.prog 53 2 = some 34 := by kernel_rfl
theorem ft53_2 : fieldTy Try.prog 53 2 = some (3, 34) := by kernel_rfl
theorem eg53 : Try.prog.eqGuardType Try.prog.depth 53 = false := by kernel_rfl
theorem ty54 : TyIs Try.prog 54 true 35 (mkS [mkS [.map none, .map none], hval hz, .int .i64 0]) 56 := ⟨by kernel_rfl, by kernel_rfl⟩
theorem pl54 : structPlaces Try.prog 54 = some (placesOf [mkS [.map none, .map none], hval hz, .int .i64 0] 0) := by kernel_rfl
theorem fa54_0 : fieldFact Try.prog 54 0 = some 0 := by kernel_rfl
theorem ft54_0 : fieldTy Try.prog 54 0 = some (52, 0) := by kernel_rfl
theorem fa54_1 : fieldFact Try.prog 54 1 = some 2 := by kernel_rfl
theorem ft54_1 : fieldTy Try.prog 54 1 = some (23, 2) := by kernel_rfl
theorem fa54_2 : fieldFact Try.prog 54 2 = some 34 := by kernel_rfl
theorem ft54_2 : fieldTy Try.prog 54 2 = some (3, 34) := by kernel_rfl
theorem eg54 : Try.prog.eqGuardType Try.prog.depth 54 = false := by kernel_rfl
theorem ty55 : TyIs Try.prog 55 false 1 (.slice none 0 0) 24 := ⟨by kernel_rfl, by kernel_rfl⟩
theorem ty65 : TyIs Try.prog 65 false 1 (.map none) 8 := ⟨by kernel_rfl, by kernel_rfl⟩
theorem ty70 : TyIs Try.prog 70 true 0 (mkS []) 0 := ⟨by kernel_rfl, by kernel_rfl⟩
theorem pl70 : structPlaces Try.prog 70 = some (placesOf [] 0) := by kernel_rfl
theorem eg70 : Try.prog.eqGuardType Try.prog.depth 70 = false := by kernel_rfl
theorem ty71 : TyIs Try.prog 71 true 0 (mkS []) 0 := ⟨by kernel_rfl, by kernel_rfl⟩
theorem pl71 : structPlaces Try.prog 71 = some (placesOf [] 0) := by kernel_rfl
theorem eg71 : Try.prog.eqGuardType Try.prog.depth 71 = false := by kernel_rfl
theorem ty76 : TyIs Try.prog 76 false 1 (.nilFunc) 8 := ⟨by kernel_rfl, by kernel_rfl⟩
theorem ty83 : TyIs Try.prog 83 false 1 (.int .u64 0) 8 := ⟨by kernel_rfl, by kernel_rfl⟩
theorem ty85 : TyIs Try.prog 85 false 1 (.int .i64 0) 8 := ⟨by kernel_rfl, by kernel_rfl⟩
theorem ty93 : TyIs Try.prog 93 false 1 (.int .u32 0) 4 := ⟨by kernel_rfl, by kernel_rfl⟩
theorem ty95 : TyIs Try.prog 95 false 1 (.int .u64 0) 8 := ⟨by kernel_rfl, by kernel_rfl⟩
theorem ty96 : TyIs Try.prog 96 false 1 (.int .u64 0) 8 := ⟨by kernel_rfl, by kernel_rfl⟩
theorem ty100 : TyIs Try.prog 100 false 1 (.pointer none) 8 := ⟨by kernel_rfl, by kernel_rfl⟩
theorem ty102 : TyIs Try.prog 102 false 1 (.pointer none) 8 := ⟨by kernel_rfl, by kernel_rfl⟩
theorem ty106 : TyIs Try.prog 106 true 4 (mkS [.pointer none, .pointer none, .pointer none, .string ⟨#[]⟩]) 40 := ⟨by kernel_rfl, by kernel_rfl⟩
theorem pl106 : structPlaces Try.prog 106 = some (placesOf [.pointer none, .pointer none, .pointer none, .string ⟨#[]⟩] 0) := by kernel_rfl
theorem fa106_0 : fieldFact Try.prog 106 0 = some 0 := by kernel_rfl
theorem ft106_0 : fieldTy Try.prog 106 0 = some (17, 0) := by kernel_rfl
theorem fa106_1 : fieldFact Try.prog 106 1 = some 1 := by kernel_rfl
theorem ft106_1 : fieldTy Try.prog 106 1 = some (17, 1) := by kernel_rfl
theorem fa106_2 : fieldFact Try.prog 106 2 = some 2 := by kernel_rfl
theorem ft106_2 : fieldTy Try.prog 106 2 = some (17, 2) := by kernel_rfl
theorem fa106_3 : fieldFact Try.prog 106 3 = some 3 := by kernel_rfl
theorem ft106_3 : fieldTy Try.prog 106 3 = some (9, 3) := by kernel_rfl
theorem eg106 : Try.prog.eqGuardType Try.prog.depth 106 = false := by kernel_rfl
theorem ty107 : TyIs Try.prog 107 true 4 (mkS [.pointer none, .pointer none, .pointer none, .string ⟨#[]⟩]) 40 := ⟨by kernel_rfl, by kernel_rfl⟩
theorem pl107 : structPlaces Try.prog 107 = some (placesOf [.pointer none, .pointer none, .pointer none, .string ⟨#[]⟩] 0) := by kernel_rfl
theorem fa107_0 : fieldFact Try.prog 107 0 = some 0 := by kernel_rfl
theorem ft107_0 : fieldTy Try.prog 107 0 = some (17, 0) := by kernel_rfl
theorem fa107_1 : fieldFact Try.prog 107 1 = some 1 := by kernel_rfl
theorem ft107_1 : fieldTy Try.prog 107 1 = some (17, 1) := by kernel_rfl
theorem fa107_2 : fieldFact Try.prog 107 2 = some 2 := by kernel_rfl
theorem ft107_2 : fieldTy Try.prog 107 2 = some (17, 2) := by kernel_rfl
theorem fa107_3 : fieldFact Try.prog 107 3 = some 3 := by kernel_rfl
theorem ft107_3 : fieldTy Try.prog 107 3 = some (9, 3) := by kernel_rfl
theorem eg107 : Try.prog.eqGuardType Try.prog.depth 107 = false := by kernel_rfl
theorem ty109 : TyIs Try.prog 109 true 0 (mkS [(mkS [])]) 0 := ⟨by kernel_rfl, by kernel_rfl⟩
theorem pl109 : structPlaces Try.prog 109 = some (placesOf [(mkS [])] 0) := by kernel_rfl
theorem eg109 : Try.prog.eqGuardType Try.prog.depth 109 = false := by kernel_rfl
theorem ty110 : TyIs Try.prog 110 true 0 (mkS [(mkS [])]) 0 := ⟨by kernel_rfl, by kernel_rfl⟩
theorem pl110 : structPlaces Try.prog 110 = some (placesOf [(mkS [])] 0) := by kernel_rfl
theorem eg110 : Try.prog.eqGuardType Try.prog.depth 110 = false := by kernel_rfl
theorem ty112 : TyIs Try.prog 112 false 1 (.int .u8 0) 1 := ⟨by kernel_rfl, by kernel_rfl⟩
theorem ty113 : TyIs Try.prog 113 false 1 (.int .u8 0) 1 := ⟨by kernel_rfl, by kernel_rfl⟩
theorem ty115 : TyIs Try.prog 115 false 1 (.pointer none) 8 := ⟨by kernel_rfl, by kernel_rfl⟩
theorem ty116 : TyIs Try.prog 116 false 1 (.int .i32 0) 4 := ⟨by kernel_rfl, by kernel_rfl⟩
theorem ty117 : TyIs Try.prog 117 false 1 (.int .i32 0) 4 := ⟨by kernel_rfl, by kernel_rfl⟩
theorem ty118 : TyIs Try.prog 118 true 11 (mkS [.int .u64 0, .int .u64 0, .int .u32 0, .int .u8 0, .int .u8 0, .int .u8 0, .int .u8 0, .nilFunc, .pointer none, .int .i32 0, .int .i32 0]) 48 := ⟨by kernel_rfl, by kernel_rfl⟩
theorem pl118 : structPlaces Try.prog 118 = some (placesOf [.int .u64 0, .int .u64 0, .int .u32 0, .int .u8 0, .int .u8 0, .int .u8 0, .int .u8 0, .nilFunc, .pointer none, .int .i32 0, .int .i32 0] 0) := by kernel_rfl
theorem fa118_0 : fieldFact Try.prog 118 0 = some 0 := by kernel_rfl
theorem ft118_0 : fieldTy Try.prog 118 0 = some (12, 0) := by kernel_rfl
theorem fa118_1 : fieldFact Try.prog 118 1 = some 1 := by kernel_rfl
theorem ft118_1 : fieldTy Try.prog 118 1 = some (12, 1) := by kernel_rfl
theorem fa118_2 : fieldFact Try.prog 118 2 = some 2 := by kernel_rfl
theorem ft118_2 : fieldTy Try.prog 118 2 = some (93, 2) := by kernel_rfl
theorem fa118_3 : fieldFact Try.prog 118 3 = some 3 := by kernel_rfl
theorem ft118_3 : fieldTy Try.prog 118 3 = some (112, 3) := by kernel_rfl
theorem fa118_4 : fieldFact Try.prog 118 4 = some 4 := by kernel_rfl
theorem ft118_4 : fieldTy Try.prog 118 4 = some (5, 4) := by kernel_rfl
theorem fa118_5 : fieldFact Try.prog 118 5 = some 5 := by kernel_rfl
theorem ft118_5 : fieldTy Try.prog 118 5 = some (5, 5) := by kernel_rfl
theorem fa118_6 : fieldFact Try.prog 118 6 = some 6 := by kernel_rfl
theorem ft118_6 : fieldTy Try.prog 118 6 = some (113, 6) := by kernel_rfl
theorem fa118_7 : fieldFact Try.prog 118 7 = some 7 := by kernel_rfl
theorem ft118_7 : fieldTy Try.prog 118 7 = some (114, 7) := by kernel_rfl
theorem fa118_8 : fieldFact Try.prog 118 8 = some 8 := by kernel_rfl
theorem ft118_8 : fieldTy Try.prog 118 8 = some (115, 8) := by kernel_rfl
theorem fa118_9 : fieldFact Try.prog 118 9 = some 9 := by kernel_rfl
theorem ft118_9 : fieldTy Try.prog 118 9 = some (116, 9) := by kernel_rfl
theorem fa118_10 : fieldFact Try.prog 118 10 = some 10 := by kernel_rfl
theorem ft118_10 : fieldTy Try.prog 118 10 = some (117, 10) := by kernel_rfl
theorem eg118 : Try.prog.eqGuardType Try.prog.depth 118 = false := by kernel_rfl
theorem ty119 : TyIs Try.prog 119 true 11 (mkS [.int .u64 0, .int .u64 0, .int .u32 0, .int .u8 0, .int .u8 0, .int .u8 0, .int .u8 0, .nilFunc, .pointer none, .int .i32 0, .int .i32 0]) 48 := ⟨by kernel_rfl, by kernel_rfl⟩
theorem pl119 : structPlaces Try.prog 119 = some (placesOf [.int .u64 0, .int .u64 0, .int .u32 0, .int .u8 0, .int .u8 0, .int .u8 0, .int .u8 0, .nilFunc, .pointer none, .int .i32 0, .int .i32 0] 0) := by kernel_rfl
theorem fa119_0 : fieldFact Try.prog 119 0 = some 0 := by kernel_rfl
theorem ft119_0 : fieldTy Try.prog 119 0 = some (12, 0) := by kernel_rfl
theorem fa119_1 : fieldFact Try.prog 119 1 = some 1 := by kernel_rfl
theorem ft119_1 : fieldTy Try.prog 119 1 = some (12, 1) := by kernel_rfl
theorem fa119_2 : fieldFact Try.prog 119 2 = some 2 := by kernel_rfl
theorem ft119_2 : fieldTy Try.prog 119 2 = some (93, 2) := by kernel_rfl
theorem fa119_3 : fieldFact Try.prog 119 3 = some 3 := by kernel_rfl
theorem ft119_3 : fieldTy Try.prog 119 3 = some (112, 3) := by kernel_rfl
theorem fa119_4 : fieldFact Try.prog 119 4 = some 4 := by kernel_rfl
theorem ft119_4 : fieldTy Try.prog 119 4 = some (5, 4) := by kernel_rfl
theorem fa119_5 : fieldFact Try.prog 119 5 = some 5 := by kernel_rfl
theorem ft119_5 : fieldTy Try.prog 119 5 = some (5, 5) := by kernel_rfl
theorem fa119_6 : fieldFact Try.prog 119 6 = some 6 := by kernel_rfl
theorem ft119_6 : fieldTy Try.prog 119 6 = some (113, 6) := by kernel_rfl
theorem fa119_7 : fieldFact Try.prog 119 7 = some 7 := by kernel_rfl
theorem ft119_7 : fieldTy Try.prog 119 7 = some (114, 7) := by kernel_rfl
theorem fa119_8 : fieldFact Try.prog 119 8 = some 8 := by kernel_rfl
theorem ft119_8 : fieldTy Try.prog 119 8 = some (115, 8) := by kernel_rfl
theorem fa119_9 : fieldFact Try.prog 119 9 = some 9 := by kernel_rfl
theorem ft119_9 : fieldTy Try.prog 119 9 = some (116, 9) := by kernel_rfl
theorem fa119_10 : fieldFact Try.prog 119 10 = some 10 := by kernel_rfl
theorem ft119_10 : fieldTy Try.prog 119 10 = some (117, 10) := by kernel_rfl
theorem eg119 : Try.prog.eqGuardType Try.prog.depth 119 = false := by kernel_rfl
end Go.Proofs.Ytonbgcehgmpnkaa
