/- Lemmas and walks: Kt, Ty, Ta, Tb, Tc. -/
import Derived.Test.YtonbgcehgmpnkaaGreatMT2
import Derived.Test.YtonbgcehgmpnkaaGreatProg
import Derived.KernelRfl
import Derived.Test.YtonbgcehgmpnkaaGreatMT1
import Derived.Deep.DeepMust
/- What is known of this seat's types: closed facts, printed by my own facts2.py. -/



namespace Go.Proofs.YtonbgcehgmpnkaaGreat
open Go HL
set_option maxRecDepth 100000
instance : TyA Tryz.prog 1 false 1 (.one (.fnn)) 8 := ⟨⟨by kernel_rfl, by kernel_rfl⟩, rfl, rfl⟩
instance : TyA Tryz.prog 2 false 1 (.one (.i .i64 0)) 8 := ⟨⟨by kernel_rfl, by kernel_rfl⟩, rfl, rfl⟩
instance : UD Tryz.prog 2 (.int .i64) := ⟨by kernel_rfl⟩
instance : TyA Tryz.prog 3 false 1 (.one (.i .i64 0)) 8 := ⟨⟨by kernel_rfl, by kernel_rfl⟩, rfl, rfl⟩
instance : UD Tryz.prog 3 (.int .i64) := ⟨by kernel_rfl⟩
instance : TyA Tryz.prog 4 false 1 (.one (.b false)) 1 := ⟨⟨by kernel_rfl, by kernel_rfl⟩, rfl, rfl⟩
instance : UD Tryz.prog 4 (.bool) := ⟨by kernel_rfl⟩
instance : TyA Tryz.prog 5 false 1 (.one (.i .u8 0)) 1 := ⟨⟨by kernel_rfl, by kernel_rfl⟩, rfl, rfl⟩
instance : UD Tryz.prog 5 (.int .u8) := ⟨by kernel_rfl⟩
instance : TyA Tryz.prog 6 false 1 (.one (.i .u8 0)) 1 := ⟨⟨by kernel_rfl, by kernel_rfl⟩, rfl, rfl⟩
instance : UD Tryz.prog 6 (.int .u8) := ⟨by kernel_rfl⟩
instance : TyA Tryz.prog 7 true 4 (.agg [.one (.i .i64 0), .one (.i .i64 0), .one (.b false), .one (.i .u8 0)]) 24 := ⟨⟨by kernel_rfl, by kernel_rfl⟩, rfl, rfl⟩
instance : FA Tryz.prog 7 0 0 := ⟨by kernel_rfl⟩
instance : FT Tryz.prog 7 0 2 0 := ⟨by kernel_rfl⟩
instance : FA Tryz.prog 7 1 1 := ⟨by kernel_rfl⟩
instance : FT Tryz.prog 7 1 3 1 := ⟨by kernel_rfl⟩
instance : FA Tryz.prog 7 2 2 := ⟨by kernel_rfl⟩
instance : FT Tryz.prog 7 2 4 2 := ⟨by kernel_rfl⟩
instance : FA Tryz.prog 7 3 3 := ⟨by kernel_rfl⟩
instance : FT Tryz.prog 7 3 6 3 := ⟨by kernel_rfl⟩
instance : PLS Tryz.prog 7 [.one (.i .i64 0), .one (.i .i64 0), .one (.b false), .one (.i .u8 0)] := ⟨by kernel_rfl⟩
instance : TyA Tryz.prog 8 true 4 (.agg [.one (.i .i64 0), .one (.i .i64 0), .one (.b false), .one (.i .u8 0)]) 24 := ⟨⟨by kernel_rfl, by kernel_rfl⟩, rfl, rfl⟩
instance : FA Tryz.prog 8 0 0 := ⟨by kernel_rfl⟩
instance : FT Tryz.prog 8 0 2 0 := ⟨by kernel_rfl⟩
instance : FA Tryz.prog 8 1 1 := ⟨by kernel_rfl⟩
instance : FT Tryz.prog 8 1 3 1 := ⟨by kernel_rfl⟩
instance : FA Tryz.prog 8 2 2 := ⟨by kernel_rfl⟩
instance : FT Tryz.prog 8 2 4 2 := ⟨by kernel_rfl⟩
instance : FA Tryz.prog 8 3 3 := ⟨by kernel_rfl⟩
instance : FT Tryz.prog 8 3 6 3 := ⟨by kernel_rfl⟩
instance : PLS Tryz.prog 8 [.one (.i .i64 0), .one (.i .i64 0), .one (.b false), .one (.i .u8 0)] := ⟨by kernel_rfl⟩
instance : TyA Tryz.prog 9 false 1 (.one (.s ⟨#[]⟩)) 16 := ⟨⟨by kernel_rfl, by kernel_rfl⟩, rfl, rfl⟩
instance : UD Tryz.prog 9 (.string) := ⟨by kernel_rfl⟩
instance : TyA Tryz.prog 10 false 1 (.one (.s ⟨#[]⟩)) 16 := ⟨⟨by kernel_rfl, by kernel_rfl⟩, rfl, rfl⟩
instance : UD Tryz.prog 10 (.string) := ⟨by kernel_rfl⟩
instance : TyA Tryz.prog 11 false 1 (.one (.s ⟨#[]⟩)) 16 := ⟨⟨by kernel_rfl, by kernel_rfl⟩, rfl, rfl⟩
instance : UD Tryz.prog 11 (.string) := ⟨by kernel_rfl⟩
instance : TyA Tryz.prog 12 false 1 (.one (.i .u64 0)) 8 := ⟨⟨by kernel_rfl, by kernel_rfl⟩, rfl, rfl⟩
instance : UD Tryz.prog 12 (.int .u64) := ⟨by kernel_rfl⟩
instance : TyA Tryz.prog 13 true 2 (.agg [.one (.s ⟨#[]⟩), .one (.i .u64 0)]) 24 := ⟨⟨by kernel_rfl, by kernel_rfl⟩, rfl, rfl⟩
instance : FA Tryz.prog 13 0 0 := ⟨by kernel_rfl⟩
instance : FT Tryz.prog 13 0 9 0 := ⟨by kernel_rfl⟩
instance : FA Tryz.prog 13 1 1 := ⟨by kernel_rfl⟩
instance : FT Tryz.prog 13 1 12 1 := ⟨by kernel_rfl⟩
instance : PLS Tryz.prog 13 [.one (.s ⟨#[]⟩), .one (.i .u64 0)] := ⟨by kernel_rfl⟩
instance : TyA Tryz.prog 14 true 2 (.agg [.one (.s ⟨#[]⟩), .one (.i .u64 0)]) 24 := ⟨⟨by kernel_rfl, by kernel_rfl⟩, rfl, rfl⟩
instance : FA Tryz.prog 14 0 0 := ⟨by kernel_rfl⟩
instance : FT Tryz.prog 14 0 9 0 := ⟨by kernel_rfl⟩
instance : FA Tryz.prog 14 1 1 := ⟨by kernel_rfl⟩
instance : FT Tryz.prog 14 1 12 1 := ⟨by kernel_rfl⟩
instance : PLS Tryz.prog 14 [.one (.s ⟨#[]⟩), .one (.i .u64 0)] := ⟨by kernel_rfl⟩
instance : TyA Tryz.prog 15 false 1 (.one (.pn)) 8 := ⟨⟨by kernel_rfl, by kernel_rfl⟩, rfl, rfl⟩
instance : UD Tryz.prog 15 (.pointer 315) := ⟨by kernel_rfl⟩
instance : TyA Tryz.prog 16 false 1 (.one (.pn)) 8 := ⟨⟨by kernel_rfl, by kernel_rfl⟩, rfl, rfl⟩
instance : UD Tryz.prog 16 (.pointer 318) := ⟨by kernel_rfl⟩
instance : TyA Tryz.prog 17 false 1 (.one (.pn)) 8 := ⟨⟨by kernel_rfl, by kernel_rfl⟩, rfl, rfl⟩
instance : UD Tryz.prog 17 (.pointer 327) := ⟨by kernel_rfl⟩
instance : TyA Tryz.prog 18 true 1 (.agg [.one (.pn)]) 8 := ⟨⟨by kernel_rfl, by kernel_rfl⟩, rfl, rfl⟩
instance : FA Tryz.prog 18 0 0 := ⟨by kernel_rfl⟩
instance : FT Tryz.prog 18 0 17 0 := ⟨by kernel_rfl⟩
instance : PLS Tryz.prog 18 [.one (.pn)] := ⟨by kernel_rfl⟩
instance : TyA Tryz.prog 19 true 1 (.agg [.one (.pn)]) 8 := ⟨⟨by kernel_rfl, by kernel_rfl⟩, rfl, rfl⟩
instance : FA Tryz.prog 19 0 0 := ⟨by kernel_rfl⟩
instance : FT Tryz.prog 19 0 17 0 := ⟨by kernel_rfl⟩
instance : PLS Tryz.prog 19 [.one (.pn)] := ⟨by kernel_rfl⟩
instance : TyA Tryz.prog 20 false 1 (.one (.ifn)) 16 := ⟨⟨by kernel_rfl, by kernel_rfl⟩, rfl, rfl⟩
instance : TyA Tryz.prog 21 false 1 (.one (.i .i32 0)) 4 := ⟨⟨by kernel_rfl, by kernel_rfl⟩, rfl, rfl⟩
instance : UD Tryz.prog 21 (.int .i32) := ⟨by kernel_rfl⟩
instance : TyA Tryz.prog 22 true 32 (.agg [.hash hz]) 32 := ⟨⟨by kernel_rfl, by kernel_rfl⟩, rfl, rfl⟩
instance : UD Tryz.prog 22 (.array 32 5) := ⟨by kernel_rfl⟩
instance : HashT Tryz.prog 22 := ⟨keyTy_hash (UD.is (P := Tryz.prog) (T := 22)) (UD.is (P := Tryz.prog) (T := 5)) (TyA.is (P := Tryz.prog) (T := 5)), by kernel_rfl⟩
instance : TyA Tryz.prog 23 true 32 (.agg [.hash hz]) 32 := ⟨⟨by kernel_rfl, by kernel_rfl⟩, rfl, rfl⟩
instance : UD Tryz.prog 23 (.array 32 5) := ⟨by kernel_rfl⟩
instance : HashT Tryz.prog 23 := ⟨keyTy_hash (UD.is (P := Tryz.prog) (T := 23)) (UD.is (P := Tryz.prog) (T := 5)) (TyA.is (P := Tryz.prog) (T := 5)), by kernel_rfl⟩
instance : TyA Tryz.prog 24 false 1 (.one (.sl 0 none 0 0)) 24 := ⟨⟨by kernel_rfl, by kernel_rfl⟩, rfl, rfl⟩
instance : UD Tryz.prog 24 (.slice 37) := ⟨by kernel_rfl⟩
instance : TyA Tryz.prog 25 false 1 (.one (.fnn)) 8 := ⟨⟨by kernel_rfl, by kernel_rfl⟩, rfl, rfl⟩
instance : TyA Tryz.prog 26 false 1 (.one (.pn)) 8 := ⟨⟨by kernel_rfl, by kernel_rfl⟩, rfl, rfl⟩
instance : UD Tryz.prog 26 (.pointer 56) := ⟨by kernel_rfl⟩
instance : TyA Tryz.prog 27 false 1 (.one (.i .i64 0)) 8 := ⟨⟨by kernel_rfl, by kernel_rfl⟩, rfl, rfl⟩
instance : UD Tryz.prog 27 (.int .i64) := ⟨by kernel_rfl⟩
instance : TyA Tryz.prog 29 false 1 (.one (.fnn)) 8 := ⟨⟨by kernel_rfl, by kernel_rfl⟩, rfl, rfl⟩
instance : TyA Tryz.prog 30 false 1 (.one (.pn)) 8 := ⟨⟨by kernel_rfl, by kernel_rfl⟩, rfl, rfl⟩
instance : UD Tryz.prog 30 (.pointer 61) := ⟨by kernel_rfl⟩
instance : TyA Tryz.prog 32 false 1 (.one (.fnn)) 8 := ⟨⟨by kernel_rfl, by kernel_rfl⟩, rfl, rfl⟩
instance : TyA Tryz.prog 33 false 1 (.one (.sl 0 none 0 0)) 24 := ⟨⟨by kernel_rfl, by kernel_rfl⟩, rfl, rfl⟩
instance : UD Tryz.prog 33 (.slice 59) := ⟨by kernel_rfl⟩
instance : TyA Tryz.prog 34 false 1 (.one (.fnn)) 8 := ⟨⟨by kernel_rfl, by kernel_rfl⟩, rfl, rfl⟩
instance : TyA Tryz.prog 35 false 1 (.one (.i .i64 0)) 8 := ⟨⟨by kernel_rfl, by kernel_rfl⟩, rfl, rfl⟩
instance : UD Tryz.prog 35 (.int .i64) := ⟨by kernel_rfl⟩
instance : TyA Tryz.prog 36 true 66 (.agg [.hash hz, .hash hz, .one (.i .i64 0), .one (.i .i64 0)]) 80 := ⟨⟨by kernel_rfl, by kernel_rfl⟩, rfl, rfl⟩
instance : FA Tryz.prog 36 0 0 := ⟨by kernel_rfl⟩
instance : FT Tryz.prog 36 0 23 0 := ⟨by kernel_rfl⟩
instance : FA Tryz.prog 36 1 32 := ⟨by kernel_rfl⟩
instance : FT Tryz.prog 36 1 23 32 := ⟨by kernel_rfl⟩
instance : FA Tryz.prog 36 2 64 := ⟨by kernel_rfl⟩
instance : FT Tryz.prog 36 2 3 64 := ⟨by kernel_rfl⟩
instance : FA Tryz.prog 36 3 65 := ⟨by kernel_rfl⟩
instance : FT Tryz.prog 36 3 35 65 := ⟨by kernel_rfl⟩
instance : PLS Tryz.prog 36 [.agg [.hash hz], .agg [.hash hz], .one (.i .i64 0), .one (.i .i64 0)] := ⟨by kernel_rfl⟩
instance : TyA Tryz.prog 37 true 66 (.agg [.hash hz, .hash hz, .one (.i .i64 0), .one (.i .i64 0)]) 80 := ⟨⟨by kernel_rfl, by kernel_rfl⟩, rfl, rfl⟩
instance : FA Tryz.prog 37 0 0 := ⟨by kernel_rfl⟩
instance : FT Tryz.prog 37 0 23 0 := ⟨by kernel_rfl⟩
instance : FA Tryz.prog 37 1 32 := ⟨by kernel_rfl⟩
instance : FT Tryz.prog 37 1 23 32 := ⟨by kernel_rfl⟩
instance : FA Tryz.prog 37 2 64 := ⟨by kernel_rfl⟩
instance : FT Tryz.prog 37 2 3 64 := ⟨by kernel_rfl⟩
instance : FA Tryz.prog 37 3 65 := ⟨by kernel_rfl⟩
instance : FT Tryz.prog 37 3 35 65 := ⟨by kernel_rfl⟩
instance : PLS Tryz.prog 37 [.agg [.hash hz], .agg [.hash hz], .one (.i .i64 0), .one (.i .i64 0)] := ⟨by kernel_rfl⟩
instance : TyA Tryz.prog 38 false 1 (.one (.fnn)) 8 := ⟨⟨by kernel_rfl, by kernel_rfl⟩, rfl, rfl⟩
instance : TyA Tryz.prog 39 false 1 (.one (.fnn)) 8 := ⟨⟨by kernel_rfl, by kernel_rfl⟩, rfl, rfl⟩
instance : TyA Tryz.prog 40 false 1 (.one (.fnn)) 8 := ⟨⟨by kernel_rfl, by kernel_rfl⟩, rfl, rfl⟩
instance : TyA Tryz.prog 41 false 1 (.one (.fnn)) 8 := ⟨⟨by kernel_rfl, by kernel_rfl⟩, rfl, rfl⟩
instance : TyA Tryz.prog 42 false 1 (.one (.sl 0 none 0 0)) 24 := ⟨⟨by kernel_rfl, by kernel_rfl⟩, rfl, rfl⟩
instance : UD Tryz.prog 42 (.slice 3) := ⟨by kernel_rfl⟩
instance : TyA Tryz.prog 43 false 1 (.one (.fnn)) 8 := ⟨⟨by kernel_rfl, by kernel_rfl⟩, rfl, rfl⟩
instance : TyA Tryz.prog 44 false 1 (.one (.i .u64 0)) 8 := ⟨⟨by kernel_rfl, by kernel_rfl⟩, rfl, rfl⟩
instance : UD Tryz.prog 44 (.int .u64) := ⟨by kernel_rfl⟩
instance : TyA Tryz.prog 46 false 1 (.one (.fnn)) 8 := ⟨⟨by kernel_rfl, by kernel_rfl⟩, rfl, rfl⟩
instance : TyA Tryz.prog 47 false 1 (.one (.sl 0 none 0 0)) 24 := ⟨⟨by kernel_rfl, by kernel_rfl⟩, rfl, rfl⟩
instance : UD Tryz.prog 47 (.slice 23) := ⟨by kernel_rfl⟩
instance : TyA Tryz.prog 49 false 1 (.one (.fnn)) 8 := ⟨⟨by kernel_rfl, by kernel_rfl⟩, rfl, rfl⟩
instance : TyA Tryz.prog 50 false 1 (.one (.fnn)) 8 := ⟨⟨by kernel_rfl, by kernel_rfl⟩, rfl, rfl⟩
instance : TyA Tryz.prog 51 false 1 (.one (.mn)) 8 := ⟨⟨by kernel_rfl, by kernel_rfl⟩, rfl, rfl⟩
instance : UD Tryz.prog 51 (.map 23 37) := ⟨by kernel_rfl⟩
instance : TyA Tryz.prog 52 false 1 (.one (.mn)) 8 := ⟨⟨by kernel_rfl, by kernel_rfl⟩, rfl, rfl⟩
instance : UD Tryz.prog 52 (.map 23 47) := ⟨by kernel_rfl⟩
instance : TyA Tryz.prog 53 true 2 (.agg [.one (.mn), .one (.mn)]) 16 := ⟨⟨by kernel_rfl, by kernel_rfl⟩, rfl, rfl⟩
instance : FA Tryz.prog 53 0 0 := ⟨by kernel_rfl⟩
instance : FT Tryz.prog 53 0 51 0 := ⟨by kernel_rfl⟩
instance : FA Tryz.prog 53 1 1 := ⟨by kernel_rfl⟩
instance : FT Tryz.prog 53 1 52 1 := ⟨by kernel_rfl⟩
instance : PLS Tryz.prog 53 [.one (.mn), .one (.mn)] := ⟨by kernel_rfl⟩
instance : TyA Tryz.prog 54 true 2 (.agg [.one (.mn), .one (.mn)]) 16 := ⟨⟨by kernel_rfl, by kernel_rfl⟩, rfl, rfl⟩
instance : FA Tryz.prog 54 0 0 := ⟨by kernel_rfl⟩
instance : FT Tryz.prog 54 0 51 0 := ⟨by kernel_rfl⟩
instance : FA Tryz.prog 54 1 1 := ⟨by kernel_rfl⟩
instance : FT Tryz.prog 54 1 52 1 := ⟨by kernel_rfl⟩
instance : PLS Tryz.prog 54 [.one (.mn), .one (.mn)] := ⟨by kernel_rfl⟩
instance : TyA Tryz.prog 55 true 35 (.agg [.one (.mn), .one (.mn), .hash hz, .one (.i .i64 0)]) 56 := ⟨⟨by kernel_rfl, by kernel_rfl⟩, rfl, rfl⟩
instance : FA Tryz.prog 55 0 0 := ⟨by kernel_rfl⟩
instance : FT Tryz.prog 55 0 54 0 := ⟨by kernel_rfl⟩
instance : FA Tryz.prog 55 1 2 := ⟨by kernel_rfl⟩
instance : FT Tryz.prog 55 1 23 2 := ⟨by kernel_rfl⟩
instance : FA Tryz.prog 55 2 34 := ⟨by kernel_rfl⟩
instance : FT Tryz.prog 55 2 3 34 := ⟨by kernel_rfl⟩
instance : PLS Tryz.prog 55 [.agg [.one (.mn), .one (.mn)], .agg [.hash hz], .one (.i .i64 0)] := ⟨by kernel_rfl⟩
instance : TyA Tryz.prog 56 true 35 (.agg [.one (.mn), .one (.mn), .hash hz, .one (.i .i64 0)]) 56 := ⟨⟨by kernel_rfl, by kernel_rfl⟩, rfl, rfl⟩
instance : FA Tryz.prog 56 0 0 := ⟨by kernel_rfl⟩
instance : FT Tryz.prog 56 0 54 0 := ⟨by kernel_rfl⟩
instance : FA Tryz.prog 56 1 2 := ⟨by kernel_rfl⟩
instance : FT Tryz.prog 56 1 23 2 := ⟨by kernel_rfl⟩
instance : FA Tryz.prog 56 2 34 := ⟨by kernel_rfl⟩
instance : FT Tryz.prog 56 2 3 34 := ⟨by kernel_rfl⟩
instance : PLS Tryz.prog 56 [.agg [.one (.mn), .one (.mn)], .agg [.hash hz], .one (.i .i64 0)] := ⟨by kernel_rfl⟩
instance : TyA Tryz.prog 57 false 1 (.one (.fnn)) 8 := ⟨⟨by kernel_rfl, by kernel_rfl⟩, rfl, rfl⟩
instance : TyA Tryz.prog 59 true 66 (.agg [.hash hz, .hash hz, .one (.i .i64 0), .one (.i .i64 0)]) 80 := ⟨⟨by kernel_rfl, by kernel_rfl⟩, rfl, rfl⟩
instance : FA Tryz.prog 59 0 0 := ⟨by kernel_rfl⟩
instance : FT Tryz.prog 59 0 23 0 := ⟨by kernel_rfl⟩
instance : FA Tryz.prog 59 1 32 := ⟨by kernel_rfl⟩
instance : FT Tryz.prog 59 1 23 32 := ⟨by kernel_rfl⟩
instance : FA Tryz.prog 59 2 64 := ⟨by kernel_rfl⟩
instance : FT Tryz.prog 59 2 3 64 := ⟨by kernel_rfl⟩
instance : FA Tryz.prog 59 3 65 := ⟨by kernel_rfl⟩
instance : FT Tryz.prog 59 3 35 65 := ⟨by kernel_rfl⟩
instance : PLS Tryz.prog 59 [.agg [.hash hz], .agg [.hash hz], .one (.i .i64 0), .one (.i .i64 0)] := ⟨by kernel_rfl⟩
instance : TyA Tryz.prog 60 true 34 (.agg [.hash hz, .one (.i .i64 0), .one (.sl 0 none 0 0)]) 64 := ⟨⟨by kernel_rfl, by kernel_rfl⟩, rfl, rfl⟩
instance : FA Tryz.prog 60 0 0 := ⟨by kernel_rfl⟩
instance : FT Tryz.prog 60 0 23 0 := ⟨by kernel_rfl⟩
instance : FA Tryz.prog 60 1 32 := ⟨by kernel_rfl⟩
instance : FT Tryz.prog 60 1 3 32 := ⟨by kernel_rfl⟩
instance : FA Tryz.prog 60 2 33 := ⟨by kernel_rfl⟩
instance : FT Tryz.prog 60 2 33 33 := ⟨by kernel_rfl⟩
instance : PLS Tryz.prog 60 [.agg [.hash hz], .one (.i .i64 0), .one (.sl 0 none 0 0)] := ⟨by kernel_rfl⟩
instance : TyA Tryz.prog 61 true 34 (.agg [.hash hz, .one (.i .i64 0), .one (.sl 0 none 0 0)]) 64 := ⟨⟨by kernel_rfl, by kernel_rfl⟩, rfl, rfl⟩
instance : FA Tryz.prog 61 0 0 := ⟨by kernel_rfl⟩
instance : FT Tryz.prog 61 0 23 0 := ⟨by kernel_rfl⟩
instance : FA Tryz.prog 61 1 32 := ⟨by kernel_rfl⟩
instance : FT Tryz.prog 61 1 3 32 := ⟨by kernel_rfl⟩
instance : FA Tryz.prog 61 2 33 := ⟨by kernel_rfl⟩
instance : FT Tryz.prog 61 2 33 33 := ⟨by kernel_rfl⟩
instance : PLS Tryz.prog 61 [.agg [.hash hz], .one (.i .i64 0), .one (.sl 0 none 0 0)] := ⟨by kernel_rfl⟩
instance : TyA Tryz.prog 63 false 1 (.one (.fnn)) 8 := ⟨⟨by kernel_rfl, by kernel_rfl⟩, rfl, rfl⟩
instance : TyA Tryz.prog 64 false 1 (.one (.fnn)) 8 := ⟨⟨by kernel_rfl, by kernel_rfl⟩, rfl, rfl⟩
instance : TyA Tryz.prog 65 false 1 (.one (.fnn)) 8 := ⟨⟨by kernel_rfl, by kernel_rfl⟩, rfl, rfl⟩
instance : TyA Tryz.prog 66 false 1 (.one (.fnn)) 8 := ⟨⟨by kernel_rfl, by kernel_rfl⟩, rfl, rfl⟩
instance : TyA Tryz.prog 67 false 1 (.one (.sl 0 none 0 0)) 24 := ⟨⟨by kernel_rfl, by kernel_rfl⟩, rfl, rfl⟩
instance : UD Tryz.prog 67 (.slice 47) := ⟨by kernel_rfl⟩
instance : TyA Tryz.prog 68 false 1 (.one (.fnn)) 8 := ⟨⟨by kernel_rfl, by kernel_rfl⟩, rfl, rfl⟩
instance : TyA Tryz.prog 69 false 1 (.one (.fnn)) 8 := ⟨⟨by kernel_rfl, by kernel_rfl⟩, rfl, rfl⟩
instance : TyA Tryz.prog 70 false 1 (.one (.fnn)) 8 := ⟨⟨by kernel_rfl, by kernel_rfl⟩, rfl, rfl⟩
instance : TyA Tryz.prog 71 false 1 (.one (.fnn)) 8 := ⟨⟨by kernel_rfl, by kernel_rfl⟩, rfl, rfl⟩
instance : TyA Tryz.prog 72 false 1 (.one (.fnn)) 8 := ⟨⟨by kernel_rfl, by kernel_rfl⟩, rfl, rfl⟩
instance : TyA Tryz.prog 74 false 1 (.one (.fnn)) 8 := ⟨⟨by kernel_rfl, by kernel_rfl⟩, rfl, rfl⟩
instance : TyA Tryz.prog 75 false 1 (.one (.fnn)) 8 := ⟨⟨by kernel_rfl, by kernel_rfl⟩, rfl, rfl⟩
instance : TyA Tryz.prog 76 false 1 (.one (.mn)) 8 := ⟨⟨by kernel_rfl, by kernel_rfl⟩, rfl, rfl⟩
instance : UD Tryz.prog 76 (.map 23 4) := ⟨by kernel_rfl⟩
instance : TyA Tryz.prog 77 false 1 (.one (.fnn)) 8 := ⟨⟨by kernel_rfl, by kernel_rfl⟩, rfl, rfl⟩
instance : TyA Tryz.prog 78 false 1 (.one (.fnn)) 8 := ⟨⟨by kernel_rfl, by kernel_rfl⟩, rfl, rfl⟩
instance : TyA Tryz.prog 79 false 1 (.one (.pn)) 8 := ⟨⟨by kernel_rfl, by kernel_rfl⟩, rfl, rfl⟩
instance : UD Tryz.prog 79 (.pointer 109) := ⟨by kernel_rfl⟩
instance : TyA Tryz.prog 80 false 1 (.one (.sl 0 none 0 0)) 24 := ⟨⟨by kernel_rfl, by kernel_rfl⟩, rfl, rfl⟩
instance : UD Tryz.prog 80 (.slice 150) := ⟨by kernel_rfl⟩
instance : TyA Tryz.prog 81 false 1 (.one (.sl 0 none 0 0)) 24 := ⟨⟨by kernel_rfl, by kernel_rfl⟩, rfl, rfl⟩
instance : UD Tryz.prog 81 (.slice 153) := ⟨by kernel_rfl⟩
instance : TyA Tryz.prog 82 false 1 (.one (.sl 0 none 0 0)) 24 := ⟨⟨by kernel_rfl, by kernel_rfl⟩, rfl, rfl⟩
instance : UD Tryz.prog 82 (.slice 42) := ⟨by kernel_rfl⟩
instance : TyA Tryz.prog 83 false 1 (.one (.sl 0 none 0 0)) 24 := ⟨⟨by kernel_rfl, by kernel_rfl⟩, rfl, rfl⟩
instance : UD Tryz.prog 83 (.slice 155) := ⟨by kernel_rfl⟩
instance : TyA Tryz.prog 84 false 1 (.one (.sl 0 none 0 0)) 24 := ⟨⟨by kernel_rfl, by kernel_rfl⟩, rfl, rfl⟩
instance : UD Tryz.prog 84 (.slice 156) := ⟨by kernel_rfl⟩
instance : TyA Tryz.prog 85 false 1 (.one (.sl 0 none 0 0)) 24 := ⟨⟨by kernel_rfl, by kernel_rfl⟩, rfl, rfl⟩
instance : UD Tryz.prog 85 (.slice 111) := ⟨by kernel_rfl⟩
instance : TyA Tryz.prog 86 false 1 (.one (.sl 0 none 0 0)) 24 := ⟨⟨by kernel_rfl, by kernel_rfl⟩, rfl, rfl⟩
instance : UD Tryz.prog 86 (.slice 159) := ⟨by kernel_rfl⟩
instance : TyA Tryz.prog 87 false 1 (.one (.sl 0 none 0 0)) 24 := ⟨⟨by kernel_rfl, by kernel_rfl⟩, rfl, rfl⟩
instance : UD Tryz.prog 87 (.slice 161) := ⟨by kernel_rfl⟩
instance : TyA Tryz.prog 88 false 1 (.one (.sl 0 none 0 0)) 24 := ⟨⟨by kernel_rfl, by kernel_rfl⟩, rfl, rfl⟩
instance : UD Tryz.prog 88 (.slice 166) := ⟨by kernel_rfl⟩
instance : TyA Tryz.prog 89 false 1 (.one (.sl 0 none 0 0)) 24 := ⟨⟨by kernel_rfl, by kernel_rfl⟩, rfl, rfl⟩
instance : UD Tryz.prog 89 (.slice 171) := ⟨by kernel_rfl⟩
instance : TyA Tryz.prog 90 false 1 (.one (.sl 0 none 0 0)) 24 := ⟨⟨by kernel_rfl, by kernel_rfl⟩, rfl, rfl⟩
instance : UD Tryz.prog 90 (.slice 175) := ⟨by kernel_rfl⟩
instance : TyA Tryz.prog 91 false 1 (.one (.sl 0 none 0 0)) 24 := ⟨⟨by kernel_rfl, by kernel_rfl⟩, rfl, rfl⟩
instance : UD Tryz.prog 91 (.slice 180) := ⟨by kernel_rfl⟩
instance : TyA Tryz.prog 92 false 1 (.one (.sl 0 none 0 0)) 24 := ⟨⟨by kernel_rfl, by kernel_rfl⟩, rfl, rfl⟩
instance : UD Tryz.prog 92 (.slice 188) := ⟨by kernel_rfl⟩
instance : TyA Tryz.prog 93 false 1 (.one (.sl 0 none 0 0)) 24 := ⟨⟨by kernel_rfl, by kernel_rfl⟩, rfl, rfl⟩
instance : UD Tryz.prog 93 (.slice 192) := ⟨by kernel_rfl⟩
instance : TyA Tryz.prog 94 false 1 (.one (.sl 0 none 0 0)) 24 := ⟨⟨by kernel_rfl, by kernel_rfl⟩, rfl, rfl⟩
instance : UD Tryz.prog 94 (.slice 197) := ⟨by kernel_rfl⟩
instance : TyA Tryz.prog 95 false 1 (.one (.sl 0 none 0 0)) 24 := ⟨⟨by kernel_rfl, by kernel_rfl⟩, rfl, rfl⟩
instance : UD Tryz.prog 95 (.slice 203) := ⟨by kernel_rfl⟩
instance : TyA Tryz.prog 96 false 1 (.one (.sl 0 none 0 0)) 24 := ⟨⟨by kernel_rfl, by kernel_rfl⟩, rfl, rfl⟩
instance : UD Tryz.prog 96 (.slice 208) := ⟨by kernel_rfl⟩
instance : TyA Tryz.prog 97 false 1 (.one (.sl 0 none 0 0)) 24 := ⟨⟨by kernel_rfl, by kernel_rfl⟩, rfl, rfl⟩
instance : UD Tryz.prog 97 (.slice 216) := ⟨by kernel_rfl⟩
instance : TyA Tryz.prog 98 false 1 (.one (.sl 0 none 0 0)) 24 := ⟨⟨by kernel_rfl, by kernel_rfl⟩, rfl, rfl⟩
instance : UD Tryz.prog 98 (.slice 221) := ⟨by kernel_rfl⟩
instance : TyA Tryz.prog 99 false 1 (.one (.sl 0 none 0 0)) 24 := ⟨⟨by kernel_rfl, by kernel_rfl⟩, rfl, rfl⟩
instance : UD Tryz.prog 99 (.slice 226) := ⟨by kernel_rfl⟩
instance : TyA Tryz.prog 100 false 1 (.one (.sl 0 none 0 0)) 24 := ⟨⟨by kernel_rfl, by kernel_rfl⟩, rfl, rfl⟩
instance : UD Tryz.prog 100 (.slice 231) := ⟨by kernel_rfl⟩
instance : TyA Tryz.prog 101 false 1 (.one (.sl 0 none 0 0)) 24 := ⟨⟨by kernel_rfl, by kernel_rfl⟩, rfl, rfl⟩
instance : UD Tryz.prog 101 (.slice 238) := ⟨by kernel_rfl⟩
instance : TyA Tryz.prog 102 false 1 (.one (.sl 0 none 0 0)) 24 := ⟨⟨by kernel_rfl, by kernel_rfl⟩, rfl, rfl⟩
instance : UD Tryz.prog 102 (.slice 245) := ⟨by kernel_rfl⟩
instance : TyA Tryz.prog 103 false 1 (.one (.sl 0 none 0 0)) 24 := ⟨⟨by kernel_rfl, by kernel_rfl⟩, rfl, rfl⟩
instance : UD Tryz.prog 103 (.slice 251) := ⟨by kernel_rfl⟩
instance : TyA Tryz.prog 104 false 1 (.one (.sl 0 none 0 0)) 24 := ⟨⟨by kernel_rfl, by kernel_rfl⟩, rfl, rfl⟩
instance : UD Tryz.prog 104 (.slice 256) := ⟨by kernel_rfl⟩
instance : TyA Tryz.prog 105 false 1 (.one (.sl 0 none 0 0)) 24 := ⟨⟨by kernel_rfl, by kernel_rfl⟩, rfl, rfl⟩
instance : UD Tryz.prog 105 (.slice 261) := ⟨by kernel_rfl⟩
instance : TyA Tryz.prog 106 false 1 (.one (.sl 0 none 0 0)) 24 := ⟨⟨by kernel_rfl, by kernel_rfl⟩, rfl, rfl⟩
instance : UD Tryz.prog 106 (.slice 266) := ⟨by kernel_rfl⟩
instance : TyA Tryz.prog 107 false 1 (.one (.sl 0 none 0 0)) 24 := ⟨⟨by kernel_rfl, by kernel_rfl⟩, rfl, rfl⟩
instance : UD Tryz.prog 107 (.slice 272) := ⟨by kernel_rfl⟩
instance : TyA Tryz.prog 108 true 29 (.agg [.one (.sl 0 none 0 0), .one (.sl 0 none 0 0), .one (.sl 0 none 0 0), .one (.sl 0 none 0 0), .one (.sl 0 none 0 0), .one (.sl 0 none 0 0), .one (.sl 0 none 0 0), .one (.sl 0 none 0 0), .one (.sl 0 none 0 0), .one (.sl 0 none 0 0), .one (.sl 0 none 0 0), .one (.sl 0 none 0 0), .one (.sl 0 none 0 0), .one (.sl 0 none 0 0), .one (.sl 0 none 0 0), .one (.sl 0 none 0 0), .one (.sl 0 none 0 0), .one (.sl 0 none 0 0), .one (.sl 0 none 0 0), .one (.sl 0 none 0 0), .one (.sl 0 none 0 0), .one (.sl 0 none 0 0), .one (.sl 0 none 0 0), .one (.sl 0 none 0 0), .one (.sl 0 none 0 0), .one (.sl 0 none 0 0), .one (.sl 0 none 0 0), .one (.sl 0 none 0 0), .one (.sl 0 none 0 0)]) 696 := ⟨⟨by kernel_rfl, by kernel_rfl⟩, rfl, rfl⟩
instance : FA Tryz.prog 108 0 0 := ⟨by kernel_rfl⟩
instance : FT Tryz.prog 108 0 80 0 := ⟨by kernel_rfl⟩
instance : FA Tryz.prog 108 1 1 := ⟨by kernel_rfl⟩
instance : FT Tryz.prog 108 1 81 1 := ⟨by kernel_rfl⟩
instance : FA Tryz.prog 108 2 2 := ⟨by kernel_rfl⟩
instance : FT Tryz.prog 108 2 82 2 := ⟨by kernel_rfl⟩
instance : FA Tryz.prog 108 3 3 := ⟨by kernel_rfl⟩
instance : FT Tryz.prog 108 3 83 3 := ⟨by kernel_rfl⟩
instance : FA Tryz.prog 108 4 4 := ⟨by kernel_rfl⟩
instance : FT Tryz.prog 108 4 84 4 := ⟨by kernel_rfl⟩
instance : FA Tryz.prog 108 5 5 := ⟨by kernel_rfl⟩
instance : FT Tryz.prog 108 5 85 5 := ⟨by kernel_rfl⟩
instance : FA Tryz.prog 108 6 6 := ⟨by kernel_rfl⟩
instance : FT Tryz.prog 108 6 86 6 := ⟨by kernel_rfl⟩
instance : FA Tryz.prog 108 7 7 := ⟨by kernel_rfl⟩
instance : FT Tryz.prog 108 7 67 7 := ⟨by kernel_rfl⟩
instance : FA Tryz.prog 108 8 8 := ⟨by kernel_rfl⟩
instance : FT Tryz.prog 108 8 87 8 := ⟨by kernel_rfl⟩
instance : FA Tryz.prog 108 9 9 := ⟨by kernel_rfl⟩
instance : FT Tryz.prog 108 9 88 9 := ⟨by kernel_rfl⟩
instance : FA Tryz.prog 108 10 10 := ⟨by kernel_rfl⟩
instance : FT Tryz.prog 108 10 89 10 := ⟨by kernel_rfl⟩
instance : FA Tryz.prog 108 11 11 := ⟨by kernel_rfl⟩
instance : FT Tryz.prog 108 11 90 11 := ⟨by kernel_rfl⟩
instance : FA Tryz.prog 108 12 12 := ⟨by kernel_rfl⟩
instance : FT Tryz.prog 108 12 91 12 := ⟨by kernel_rfl⟩
instance : FA Tryz.prog 108 13 13 := ⟨by kernel_rfl⟩
instance : FT Tryz.prog 108 13 92 13 := ⟨by kernel_rfl⟩
instance : FA Tryz.prog 108 14 14 := ⟨by kernel_rfl⟩
instance : FT Tryz.prog 108 14 93 14 := ⟨by kernel_rfl⟩
instance : FA Tryz.prog 108 15 15 := ⟨by kernel_rfl⟩
instance : FT Tryz.prog 108 15 94 15 := ⟨by kernel_rfl⟩
instance : FA Tryz.prog 108 16 16 := ⟨by kernel_rfl⟩
instance : FT Tryz.prog 108 16 95 16 := ⟨by kernel_rfl⟩
instance : FA Tryz.prog 108 17 17 := ⟨by kernel_rfl⟩
instance : FT Tryz.prog 108 17 96 17 := ⟨by kernel_rfl⟩
instance : FA Tryz.prog 108 18 18 := ⟨by kernel_rfl⟩
instance : FT Tryz.prog 108 18 97 18 := ⟨by kernel_rfl⟩
instance : FA Tryz.prog 108 19 19 := ⟨by kernel_rfl⟩
instance : FT Tryz.prog 108 19 98 19 := ⟨by kernel_rfl⟩
instance : FA Tryz.prog 108 20 20 := ⟨by kernel_rfl⟩
instance : FT Tryz.prog 108 20 99 20 := ⟨by kernel_rfl⟩
instance : FA Tryz.prog 108 21 21 := ⟨by kernel_rfl⟩
instance : FT Tryz.prog 108 21 100 21 := ⟨by kernel_rfl⟩
instance : FA Tryz.prog 108 22 22 := ⟨by kernel_rfl⟩
instance : FT Tryz.prog 108 22 101 22 := ⟨by kernel_rfl⟩
instance : FA Tryz.prog 108 23 23 := ⟨by kernel_rfl⟩
instance : FT Tryz.prog 108 23 102 23 := ⟨by kernel_rfl⟩
instance : FA Tryz.prog 108 24 24 := ⟨by kernel_rfl⟩
instance : FT Tryz.prog 108 24 103 24 := ⟨by kernel_rfl⟩
instance : FA Tryz.prog 108 25 25 := ⟨by kernel_rfl⟩
instance : FT Tryz.prog 108 25 104 25 := ⟨by kernel_rfl⟩
instance : FA Tryz.prog 108 26 26 := ⟨by kernel_rfl⟩
instance : FT Tryz.prog 108 26 105 26 := ⟨by kernel_rfl⟩
instance : FA Tryz.prog 108 27 27 := ⟨by kernel_rfl⟩
instance : FT Tryz.prog 108 27 106 27 := ⟨by kernel_rfl⟩
instance : FA Tryz.prog 108 28 28 := ⟨by kernel_rfl⟩
instance : FT Tryz.prog 108 28 107 28 := ⟨by kernel_rfl⟩
instance : PLS Tryz.prog 108 [.one (.sl 0 none 0 0), .one (.sl 0 none 0 0), .one (.sl 0 none 0 0), .one (.sl 0 none 0 0), .one (.sl 0 none 0 0), .one (.sl 0 none 0 0), .one (.sl 0 none 0 0), .one (.sl 0 none 0 0), .one (.sl 0 none 0 0), .one (.sl 0 none 0 0), .one (.sl 0 none 0 0), .one (.sl 0 none 0 0), .one (.sl 0 none 0 0), .one (.sl 0 none 0 0), .one (.sl 0 none 0 0), .one (.sl 0 none 0 0), .one (.sl 0 none 0 0), .one (.sl 0 none 0 0), .one (.sl 0 none 0 0), .one (.sl 0 none 0 0), .one (.sl 0 none 0 0), .one (.sl 0 none 0 0), .one (.sl 0 none 0 0), .one (.sl 0 none 0 0), .one (.sl 0 none 0 0), .one (.sl 0 none 0 0), .one (.sl 0 none 0 0), .one (.sl 0 none 0 0), .one (.sl 0 none 0 0)] := ⟨by kernel_rfl⟩
instance : TyA Tryz.prog 109 true 29 (.agg [.one (.sl 0 none 0 0), .one (.sl 0 none 0 0), .one (.sl 0 none 0 0), .one (.sl 0 none 0 0), .one (.sl 0 none 0 0), .one (.sl 0 none 0 0), .one (.sl 0 none 0 0), .one (.sl 0 none 0 0), .one (.sl 0 none 0 0), .one (.sl 0 none 0 0), .one (.sl 0 none 0 0), .one (.sl 0 none 0 0), .one (.sl 0 none 0 0), .one (.sl 0 none 0 0), .one (.sl 0 none 0 0), .one (.sl 0 none 0 0), .one (.sl 0 none 0 0), .one (.sl 0 none 0 0), .one (.sl 0 none 0 0), .one (.sl 0 none 0 0), .one (.sl 0 none 0 0), .one (.sl 0 none 0 0), .one (.sl 0 none 0 0), .one (.sl 0 none 0 0), .one (.sl 0 none 0 0), .one (.sl 0 none 0 0), .one (.sl 0 none 0 0), .one (.sl 0 none 0 0), .one (.sl 0 none 0 0)]) 696 := ⟨⟨by kernel_rfl, by kernel_rfl⟩, rfl, rfl⟩
instance : FA Tryz.prog 109 0 0 := ⟨by kernel_rfl⟩
instance : FT Tryz.prog 109 0 80 0 := ⟨by kernel_rfl⟩
instance : FA Tryz.prog 109 1 1 := ⟨by kernel_rfl⟩
instance : FT Tryz.prog 109 1 81 1 := ⟨by kernel_rfl⟩
instance : FA Tryz.prog 109 2 2 := ⟨by kernel_rfl⟩
instance : FT Tryz.prog 109 2 82 2 := ⟨by kernel_rfl⟩
instance : FA Tryz.prog 109 3 3 := ⟨by kernel_rfl⟩
instance : FT Tryz.prog 109 3 83 3 := ⟨by kernel_rfl⟩
instance : FA Tryz.prog 109 4 4 := ⟨by kernel_rfl⟩
instance : FT Tryz.prog 109 4 84 4 := ⟨by kernel_rfl⟩
instance : FA Tryz.prog 109 5 5 := ⟨by kernel_rfl⟩
instance : FT Tryz.prog 109 5 85 5 := ⟨by kernel_rfl⟩
instance : FA Tryz.prog 109 6 6 := ⟨by kernel_rfl⟩
instance : FT Tryz.prog 109 6 86 6 := ⟨by kernel_rfl⟩
instance : FA Tryz.prog 109 7 7 := ⟨by kernel_rfl⟩
instance : FT Tryz.prog 109 7 67 7 := ⟨by kernel_rfl⟩
instance : FA Tryz.prog 109 8 8 := ⟨by kernel_rfl⟩
instance : FT Tryz.prog 109 8 87 8 := ⟨by kernel_rfl⟩
instance : FA Tryz.prog 109 9 9 := ⟨by kernel_rfl⟩
instance : FT Tryz.prog 109 9 88 9 := ⟨by kernel_rfl⟩
instance : FA Tryz.prog 109 10 10 := ⟨by kernel_rfl⟩
instance : FT Tryz.prog 109 10 89 10 := ⟨by kernel_rfl⟩
instance : FA Tryz.prog 109 11 11 := ⟨by kernel_rfl⟩
instance : FT Tryz.prog 109 11 90 11 := ⟨by kernel_rfl⟩
instance : FA Tryz.prog 109 12 12 := ⟨by kernel_rfl⟩
instance : FT Tryz.prog 109 12 91 12 := ⟨by kernel_rfl⟩
instance : FA Tryz.prog 109 13 13 := ⟨by kernel_rfl⟩
instance : FT Tryz.prog 109 13 92 13 := ⟨by kernel_rfl⟩
instance : FA Tryz.prog 109 14 14 := ⟨by kernel_rfl⟩
instance : FT Tryz.prog 109 14 93 14 := ⟨by kernel_rfl⟩
instance : FA Tryz.prog 109 15 15 := ⟨by kernel_rfl⟩
instance : FT Tryz.prog 109 15 94 15 := ⟨by kernel_rfl⟩
instance : FA Tryz.prog 109 16 16 := ⟨by kernel_rfl⟩
instance : FT Tryz.prog 109 16 95 16 := ⟨by kernel_rfl⟩
instance : FA Tryz.prog 109 17 17 := ⟨by kernel_rfl⟩
instance : FT Tryz.prog 109 17 96 17 := ⟨by kernel_rfl⟩
instance : FA Tryz.prog 109 18 18 := ⟨by kernel_rfl⟩
instance : FT Tryz.prog 109 18 97 18 := ⟨by kernel_rfl⟩
instance : FA Tryz.prog 109 19 19 := ⟨by kernel_rfl⟩
instance : FT Tryz.prog 109 19 98 19 := ⟨by kernel_rfl⟩
instance : FA Tryz.prog 109 20 20 := ⟨by kernel_rfl⟩
instance : FT Tryz.prog 109 20 99 20 := ⟨by kernel_rfl⟩
instance : FA Tryz.prog 109 21 21 := ⟨by kernel_rfl⟩
instance : FT Tryz.prog 109 21 100 21 := ⟨by kernel_rfl⟩
instance : FA Tryz.prog 109 22 22 := ⟨by kernel_rfl⟩
instance : FT Tryz.prog 109 22 101 22 := ⟨by kernel_rfl⟩
instance : FA Tryz.prog 109 23 23 := ⟨by kernel_rfl⟩
instance : FT Tryz.prog 109 23 102 23 := ⟨by kernel_rfl⟩
instance : FA Tryz.prog 109 24 24 := ⟨by kernel_rfl⟩
instance : FT Tryz.prog 109 24 103 24 := ⟨by kernel_rfl⟩
instance : FA Tryz.prog 109 25 25 := ⟨by kernel_rfl⟩
instance : FT Tryz.prog 109 25 104 25 := ⟨by kernel_rfl⟩
instance : FA Tryz.prog 109 26 26 := ⟨by kernel_rfl⟩
instance : FT Tryz.prog 109 26 105 26 := ⟨by kernel_rfl⟩
instance : FA Tryz.prog 109 27 27 := ⟨by kernel_rfl⟩
instance : FT Tryz.prog 109 27 106 27 := ⟨by kernel_rfl⟩
instance : FA Tryz.prog 109 28 28 := ⟨by kernel_rfl⟩
instance : FT Tryz.prog 109 28 107 28 := ⟨by kernel_rfl⟩
instance : PLS Tryz.prog 109 [.one (.sl 0 none 0 0), .one (.sl 0 none 0 0), .one (.sl 0 none 0 0), .one (.sl 0 none 0 0), .one (.sl 0 none 0 0), .one (.sl 0 none 0 0), .one (.sl 0 none 0 0), .one (.sl 0 none 0 0), .one (.sl 0 none 0 0), .one (.sl 0 none 0 0), .one (.sl 0 none 0 0), .one (.sl 0 none 0 0), .one (.sl 0 none 0 0), .one (.sl 0 none 0 0), .one (.sl 0 none 0 0), .one (.sl 0 none 0 0), .one (.sl 0 none 0 0), .one (.sl 0 none 0 0), .one (.sl 0 none 0 0), .one (.sl 0 none 0 0), .one (.sl 0 none 0 0), .one (.sl 0 none 0 0), .one (.sl 0 none 0 0), .one (.sl 0 none 0 0), .one (.sl 0 none 0 0), .one (.sl 0 none 0 0), .one (.sl 0 none 0 0), .one (.sl 0 none 0 0), .one (.sl 0 none 0 0)] := ⟨by kernel_rfl⟩
instance : TyA Tryz.prog 110 false 1 (.one (.fnn)) 8 := ⟨⟨by kernel_rfl, by kernel_rfl⟩, rfl, rfl⟩
instance : TyA Tryz.prog 111 false 1 (.one (.sl 0 none 0 0)) 24 := ⟨⟨by kernel_rfl, by kernel_rfl⟩, rfl, rfl⟩
instance : UD Tryz.prog 111 (.slice 5) := ⟨by kernel_rfl⟩
instance : TyA Tryz.prog 112 true 0 (.agg []) 0 := ⟨⟨by kernel_rfl, by kernel_rfl⟩, rfl, rfl⟩
instance : PLS Tryz.prog 112 [] := ⟨by kernel_rfl⟩
instance : TyA Tryz.prog 113 true 0 (.agg []) 0 := ⟨⟨by kernel_rfl, by kernel_rfl⟩, rfl, rfl⟩
instance : PLS Tryz.prog 113 [] := ⟨by kernel_rfl⟩
instance : TyA Tryz.prog 115 false 1 (.one (.fnn)) 8 := ⟨⟨by kernel_rfl, by kernel_rfl⟩, rfl, rfl⟩
instance : TyA Tryz.prog 116 false 1 (.one (.fnn)) 8 := ⟨⟨by kernel_rfl, by kernel_rfl⟩, rfl, rfl⟩
instance : TyA Tryz.prog 117 false 1 (.one (.fnn)) 8 := ⟨⟨by kernel_rfl, by kernel_rfl⟩, rfl, rfl⟩
instance : TyA Tryz.prog 118 false 1 (.one (.fnn)) 8 := ⟨⟨by kernel_rfl, by kernel_rfl⟩, rfl, rfl⟩
instance : TyA Tryz.prog 119 false 1 (.one (.fnn)) 8 := ⟨⟨by kernel_rfl, by kernel_rfl⟩, rfl, rfl⟩
instance : TyA Tryz.prog 120 false 1 (.one (.fnn)) 8 := ⟨⟨by kernel_rfl, by kernel_rfl⟩, rfl, rfl⟩
instance : TyA Tryz.prog 121 false 1 (.one (.fnn)) 8 := ⟨⟨by kernel_rfl, by kernel_rfl⟩, rfl, rfl⟩
instance : TyA Tryz.prog 122 false 1 (.one (.fnn)) 8 := ⟨⟨by kernel_rfl, by kernel_rfl⟩, rfl, rfl⟩
instance : TyA Tryz.prog 123 false 1 (.one (.fnn)) 8 := ⟨⟨by kernel_rfl, by kernel_rfl⟩, rfl, rfl⟩
instance : TyA Tryz.prog 124 false 1 (.one (.fnn)) 8 := ⟨⟨by kernel_rfl, by kernel_rfl⟩, rfl, rfl⟩
instance : TyA Tryz.prog 125 false 1 (.one (.fnn)) 8 := ⟨⟨by kernel_rfl, by kernel_rfl⟩, rfl, rfl⟩
instance : TyA Tryz.prog 126 false 1 (.one (.fnn)) 8 := ⟨⟨by kernel_rfl, by kernel_rfl⟩, rfl, rfl⟩
instance : TyA Tryz.prog 127 false 1 (.one (.fnn)) 8 := ⟨⟨by kernel_rfl, by kernel_rfl⟩, rfl, rfl⟩
instance : TyA Tryz.prog 128 false 1 (.one (.fnn)) 8 := ⟨⟨by kernel_rfl, by kernel_rfl⟩, rfl, rfl⟩
instance : TyA Tryz.prog 129 false 1 (.one (.fnn)) 8 := ⟨⟨by kernel_rfl, by kernel_rfl⟩, rfl, rfl⟩
instance : TyA Tryz.prog 130 false 1 (.one (.fnn)) 8 := ⟨⟨by kernel_rfl, by kernel_rfl⟩, rfl, rfl⟩
instance : TyA Tryz.prog 131 false 1 (.one (.fnn)) 8 := ⟨⟨by kernel_rfl, by kernel_rfl⟩, rfl, rfl⟩
instance : TyA Tryz.prog 132 false 1 (.one (.fnn)) 8 := ⟨⟨by kernel_rfl, by kernel_rfl⟩, rfl, rfl⟩
instance : TyA Tryz.prog 133 false 1 (.one (.fnn)) 8 := ⟨⟨by kernel_rfl, by kernel_rfl⟩, rfl, rfl⟩
instance : TyA Tryz.prog 134 false 1 (.one (.fnn)) 8 := ⟨⟨by kernel_rfl, by kernel_rfl⟩, rfl, rfl⟩
instance : TyA Tryz.prog 135 false 1 (.one (.fnn)) 8 := ⟨⟨by kernel_rfl, by kernel_rfl⟩, rfl, rfl⟩
instance : TyA Tryz.prog 136 false 1 (.one (.fnn)) 8 := ⟨⟨by kernel_rfl, by kernel_rfl⟩, rfl, rfl⟩
instance : TyA Tryz.prog 137 false 1 (.one (.fnn)) 8 := ⟨⟨by kernel_rfl, by kernel_rfl⟩, rfl, rfl⟩
instance : TyA Tryz.prog 138 false 1 (.one (.fnn)) 8 := ⟨⟨by kernel_rfl, by kernel_rfl⟩, rfl, rfl⟩
instance : TyA Tryz.prog 139 false 1 (.one (.fnn)) 8 := ⟨⟨by kernel_rfl, by kernel_rfl⟩, rfl, rfl⟩
instance : TyA Tryz.prog 140 false 1 (.one (.fnn)) 8 := ⟨⟨by kernel_rfl, by kernel_rfl⟩, rfl, rfl⟩
instance : TyA Tryz.prog 141 false 1 (.one (.fnn)) 8 := ⟨⟨by kernel_rfl, by kernel_rfl⟩, rfl, rfl⟩
instance : TyA Tryz.prog 142 false 1 (.one (.fnn)) 8 := ⟨⟨by kernel_rfl, by kernel_rfl⟩, rfl, rfl⟩
instance : TyA Tryz.prog 143 false 1 (.one (.fnn)) 8 := ⟨⟨by kernel_rfl, by kernel_rfl⟩, rfl, rfl⟩
instance : TyA Tryz.prog 144 false 1 (.one (.fnn)) 8 := ⟨⟨by kernel_rfl, by kernel_rfl⟩, rfl, rfl⟩
instance : TyA Tryz.prog 145 false 1 (.one (.fnn)) 8 := ⟨⟨by kernel_rfl, by kernel_rfl⟩, rfl, rfl⟩
instance : TyA Tryz.prog 146 false 1 (.one (.fnn)) 8 := ⟨⟨by kernel_rfl, by kernel_rfl⟩, rfl, rfl⟩
instance : TyA Tryz.prog 147 false 1 (.one (.fnn)) 8 := ⟨⟨by kernel_rfl, by kernel_rfl⟩, rfl, rfl⟩
instance : TyA Tryz.prog 148 false 1 (.one (.fnn)) 8 := ⟨⟨by kernel_rfl, by kernel_rfl⟩, rfl, rfl⟩
instance : TyA Tryz.prog 149 false 1 (.one (.fnn)) 8 := ⟨⟨by kernel_rfl, by kernel_rfl⟩, rfl, rfl⟩
instance : TyA Tryz.prog 150 false 1 (.one (.sl 0 none 0 0)) 24 := ⟨⟨by kernel_rfl, by kernel_rfl⟩, rfl, rfl⟩
instance : UD Tryz.prog 150 (.slice 151) := ⟨by kernel_rfl⟩
instance : TyA Tryz.prog 151 false 1 (.one (.i .u32 0)) 4 := ⟨⟨by kernel_rfl, by kernel_rfl⟩, rfl, rfl⟩
instance : UD Tryz.prog 151 (.int .u32) := ⟨by kernel_rfl⟩
instance : TyA Tryz.prog 152 false 1 (.one (.fnn)) 8 := ⟨⟨by kernel_rfl, by kernel_rfl⟩, rfl, rfl⟩
instance : TyA Tryz.prog 153 false 1 (.one (.sl 0 none 0 0)) 24 := ⟨⟨by kernel_rfl, by kernel_rfl⟩, rfl, rfl⟩
instance : UD Tryz.prog 153 (.slice 154) := ⟨by kernel_rfl⟩
instance : TyA Tryz.prog 154 false 1 (.one (.i .u64 0)) 8 := ⟨⟨by kernel_rfl, by kernel_rfl⟩, rfl, rfl⟩
instance : UD Tryz.prog 154 (.int .u64) := ⟨by kernel_rfl⟩
instance : TyA Tryz.prog 155 false 1 (.one (.sl 0 none 0 0)) 24 := ⟨⟨by kernel_rfl, by kernel_rfl⟩, rfl, rfl⟩
instance : UD Tryz.prog 155 (.slice 2) := ⟨by kernel_rfl⟩
instance : TyA Tryz.prog 156 false 1 (.one (.sl 0 none 0 0)) 24 := ⟨⟨by kernel_rfl, by kernel_rfl⟩, rfl, rfl⟩
instance : UD Tryz.prog 156 (.slice 9) := ⟨by kernel_rfl⟩
instance : TyA Tryz.prog 157 false 1 (.one (.fnn)) 8 := ⟨⟨by kernel_rfl, by kernel_rfl⟩, rfl, rfl⟩
instance : TyA Tryz.prog 158 false 1 (.one (.fnn)) 8 := ⟨⟨by kernel_rfl, by kernel_rfl⟩, rfl, rfl⟩
instance : TyA Tryz.prog 159 false 1 (.one (.sl 0 none 0 0)) 24 := ⟨⟨by kernel_rfl, by kernel_rfl⟩, rfl, rfl⟩
instance : UD Tryz.prog 159 (.slice 4) := ⟨by kernel_rfl⟩
instance : TyA Tryz.prog 160 false 1 (.one (.fnn)) 8 := ⟨⟨by kernel_rfl, by kernel_rfl⟩, rfl, rfl⟩
instance : TyA Tryz.prog 161 false 1 (.one (.sl 0 none 0 0)) 24 := ⟨⟨by kernel_rfl, by kernel_rfl⟩, rfl, rfl⟩
instance : UD Tryz.prog 161 (.slice 164) := ⟨by kernel_rfl⟩
instance : TyA Tryz.prog 162 false 1 (.one (.i .i64 0)) 8 := ⟨⟨by kernel_rfl, by kernel_rfl⟩, rfl, rfl⟩
instance : UD Tryz.prog 162 (.int .i64) := ⟨by kernel_rfl⟩
instance : TyA Tryz.prog 163 true 5 (.agg [.one (.i .i64 0), .one (.i .i64 0), .one (.i .u64 0), .one (.s ⟨#[]⟩), .one (.i .i64 0)]) 48 := ⟨⟨by kernel_rfl, by kernel_rfl⟩, rfl, rfl⟩
instance : FA Tryz.prog 163 0 0 := ⟨by kernel_rfl⟩
instance : FT Tryz.prog 163 0 162 0 := ⟨by kernel_rfl⟩
instance : FA Tryz.prog 163 1 1 := ⟨by kernel_rfl⟩
instance : FT Tryz.prog 163 1 2 1 := ⟨by kernel_rfl⟩
instance : FA Tryz.prog 163 2 2 := ⟨by kernel_rfl⟩
instance : FT Tryz.prog 163 2 154 2 := ⟨by kernel_rfl⟩
instance : FA Tryz.prog 163 3 3 := ⟨by kernel_rfl⟩
instance : FT Tryz.prog 163 3 9 3 := ⟨by kernel_rfl⟩
instance : FA Tryz.prog 163 4 4 := ⟨by kernel_rfl⟩
instance : FT Tryz.prog 163 4 3 4 := ⟨by kernel_rfl⟩
instance : PLS Tryz.prog 163 [.one (.i .i64 0), .one (.i .i64 0), .one (.i .u64 0), .one (.s ⟨#[]⟩), .one (.i .i64 0)] := ⟨by kernel_rfl⟩
instance : TyA Tryz.prog 164 true 5 (.agg [.one (.i .i64 0), .one (.i .i64 0), .one (.i .u64 0), .one (.s ⟨#[]⟩), .one (.i .i64 0)]) 48 := ⟨⟨by kernel_rfl, by kernel_rfl⟩, rfl, rfl⟩
instance : FA Tryz.prog 164 0 0 := ⟨by kernel_rfl⟩
instance : FT Tryz.prog 164 0 162 0 := ⟨by kernel_rfl⟩
instance : FA Tryz.prog 164 1 1 := ⟨by kernel_rfl⟩
instance : FT Tryz.prog 164 1 2 1 := ⟨by kernel_rfl⟩
instance : FA Tryz.prog 164 2 2 := ⟨by kernel_rfl⟩
instance : FT Tryz.prog 164 2 154 2 := ⟨by kernel_rfl⟩
instance : FA Tryz.prog 164 3 3 := ⟨by kernel_rfl⟩
instance : FT Tryz.prog 164 3 9 3 := ⟨by kernel_rfl⟩
instance : FA Tryz.prog 164 4 4 := ⟨by kernel_rfl⟩
instance : FT Tryz.prog 164 4 3 4 := ⟨by kernel_rfl⟩
instance : PLS Tryz.prog 164 [.one (.i .i64 0), .one (.i .i64 0), .one (.i .u64 0), .one (.s ⟨#[]⟩), .one (.i .i64 0)] := ⟨by kernel_rfl⟩
instance : TyA Tryz.prog 165 false 1 (.one (.fnn)) 8 := ⟨⟨by kernel_rfl, by kernel_rfl⟩, rfl, rfl⟩
instance : TyA Tryz.prog 166 false 1 (.one (.sl 0 none 0 0)) 24 := ⟨⟨by kernel_rfl, by kernel_rfl⟩, rfl, rfl⟩
instance : UD Tryz.prog 166 (.slice 168) := ⟨by kernel_rfl⟩
instance : TyA Tryz.prog 167 true 1 (.agg [.one (.sl 0 none 0 0)]) 24 := ⟨⟨by kernel_rfl, by kernel_rfl⟩, rfl, rfl⟩
instance : FA Tryz.prog 167 0 0 := ⟨by kernel_rfl⟩
instance : FT Tryz.prog 167 0 161 0 := ⟨by kernel_rfl⟩
instance : PLS Tryz.prog 167 [.one (.sl 0 none 0 0)] := ⟨by kernel_rfl⟩
instance : TyA Tryz.prog 168 true 1 (.agg [.one (.sl 0 none 0 0)]) 24 := ⟨⟨by kernel_rfl, by kernel_rfl⟩, rfl, rfl⟩
instance : FA Tryz.prog 168 0 0 := ⟨by kernel_rfl⟩
instance : FT Tryz.prog 168 0 161 0 := ⟨by kernel_rfl⟩
instance : PLS Tryz.prog 168 [.one (.sl 0 none 0 0)] := ⟨by kernel_rfl⟩
instance : TyA Tryz.prog 169 false 1 (.one (.fnn)) 8 := ⟨⟨by kernel_rfl, by kernel_rfl⟩, rfl, rfl⟩
instance : TyA Tryz.prog 170 false 1 (.one (.fnn)) 8 := ⟨⟨by kernel_rfl, by kernel_rfl⟩, rfl, rfl⟩
instance : TyA Tryz.prog 171 false 1 (.one (.sl 0 none 0 0)) 24 := ⟨⟨by kernel_rfl, by kernel_rfl⟩, rfl, rfl⟩
instance : UD Tryz.prog 171 (.slice 173) := ⟨by kernel_rfl⟩
instance : TyA Tryz.prog 172 true 34 (.agg [.hash hz, .one (.s ⟨#[]⟩), .one (.i .i64 0)]) 56 := ⟨⟨by kernel_rfl, by kernel_rfl⟩, rfl, rfl⟩
instance : FA Tryz.prog 172 0 0 := ⟨by kernel_rfl⟩
instance : FT Tryz.prog 172 0 23 0 := ⟨by kernel_rfl⟩
instance : FA Tryz.prog 172 1 32 := ⟨by kernel_rfl⟩
instance : FT Tryz.prog 172 1 9 32 := ⟨by kernel_rfl⟩
instance : FA Tryz.prog 172 2 33 := ⟨by kernel_rfl⟩
instance : FT Tryz.prog 172 2 2 33 := ⟨by kernel_rfl⟩
instance : PLS Tryz.prog 172 [.agg [.hash hz], .one (.s ⟨#[]⟩), .one (.i .i64 0)] := ⟨by kernel_rfl⟩
instance : TyA Tryz.prog 173 true 34 (.agg [.hash hz, .one (.s ⟨#[]⟩), .one (.i .i64 0)]) 56 := ⟨⟨by kernel_rfl, by kernel_rfl⟩, rfl, rfl⟩
instance : FA Tryz.prog 173 0 0 := ⟨by kernel_rfl⟩
instance : FT Tryz.prog 173 0 23 0 := ⟨by kernel_rfl⟩
instance : FA Tryz.prog 173 1 32 := ⟨by kernel_rfl⟩
instance : FT Tryz.prog 173 1 9 32 := ⟨by kernel_rfl⟩
instance : FA Tryz.prog 173 2 33 := ⟨by kernel_rfl⟩
instance : FT Tryz.prog 173 2 2 33 := ⟨by kernel_rfl⟩
instance : PLS Tryz.prog 173 [.agg [.hash hz], .one (.s ⟨#[]⟩), .one (.i .i64 0)] := ⟨by kernel_rfl⟩
instance : TyA Tryz.prog 174 false 1 (.one (.fnn)) 8 := ⟨⟨by kernel_rfl, by kernel_rfl⟩, rfl, rfl⟩
instance : TyA Tryz.prog 175 false 1 (.one (.sl 0 none 0 0)) 24 := ⟨⟨by kernel_rfl, by kernel_rfl⟩, rfl, rfl⟩
instance : UD Tryz.prog 175 (.slice 177) := ⟨by kernel_rfl⟩
instance : TyA Tryz.prog 176 true 2 (.agg [.one (.i .i64 0), .one (.sl 0 none 0 0)]) 32 := ⟨⟨by kernel_rfl, by kernel_rfl⟩, rfl, rfl⟩
instance : FA Tryz.prog 176 0 0 := ⟨by kernel_rfl⟩
instance : FT Tryz.prog 176 0 2 0 := ⟨by kernel_rfl⟩
instance : FA Tryz.prog 176 1 1 := ⟨by kernel_rfl⟩
instance : FT Tryz.prog 176 1 171 1 := ⟨by kernel_rfl⟩
instance : PLS Tryz.prog 176 [.one (.i .i64 0), .one (.sl 0 none 0 0)] := ⟨by kernel_rfl⟩
instance : TyA Tryz.prog 177 true 2 (.agg [.one (.i .i64 0), .one (.sl 0 none 0 0)]) 32 := ⟨⟨by kernel_rfl, by kernel_rfl⟩, rfl, rfl⟩
instance : FA Tryz.prog 177 0 0 := ⟨by kernel_rfl⟩
instance : FT Tryz.prog 177 0 2 0 := ⟨by kernel_rfl⟩
instance : FA Tryz.prog 177 1 1 := ⟨by kernel_rfl⟩
instance : FT Tryz.prog 177 1 171 1 := ⟨by kernel_rfl⟩
instance : PLS Tryz.prog 177 [.one (.i .i64 0), .one (.sl 0 none 0 0)] := ⟨by kernel_rfl⟩
instance : TyA Tryz.prog 178 false 1 (.one (.fnn)) 8 := ⟨⟨by kernel_rfl, by kernel_rfl⟩, rfl, rfl⟩
instance : TyA Tryz.prog 179 false 1 (.one (.fnn)) 8 := ⟨⟨by kernel_rfl, by kernel_rfl⟩, rfl, rfl⟩
instance : TyA Tryz.prog 180 false 1 (.one (.sl 0 none 0 0)) 24 := ⟨⟨by kernel_rfl, by kernel_rfl⟩, rfl, rfl⟩
instance : UD Tryz.prog 180 (.slice 185) := ⟨by kernel_rfl⟩
instance : TyA Tryz.prog 181 true 33 (.agg [.one (.b false), .hash hz]) 33 := ⟨⟨by kernel_rfl, by kernel_rfl⟩, rfl, rfl⟩
instance : FA Tryz.prog 181 0 0 := ⟨by kernel_rfl⟩
instance : FT Tryz.prog 181 0 4 0 := ⟨by kernel_rfl⟩
instance : FA Tryz.prog 181 1 1 := ⟨by kernel_rfl⟩
instance : FT Tryz.prog 181 1 23 1 := ⟨by kernel_rfl⟩
instance : PLS Tryz.prog 181 [.one (.b false), .agg [.hash hz]] := ⟨by kernel_rfl⟩
instance : TyA Tryz.prog 182 true 33 (.agg [.one (.b false), .hash hz]) 33 := ⟨⟨by kernel_rfl, by kernel_rfl⟩, rfl, rfl⟩
instance : FA Tryz.prog 182 0 0 := ⟨by kernel_rfl⟩
instance : FT Tryz.prog 182 0 4 0 := ⟨by kernel_rfl⟩
instance : FA Tryz.prog 182 1 1 := ⟨by kernel_rfl⟩
instance : FT Tryz.prog 182 1 23 1 := ⟨by kernel_rfl⟩
instance : PLS Tryz.prog 182 [.one (.b false), .agg [.hash hz]] := ⟨by kernel_rfl⟩
instance : TyA Tryz.prog 183 false 1 (.one (.i .i64 0)) 8 := ⟨⟨by kernel_rfl, by kernel_rfl⟩, rfl, rfl⟩
instance : UD Tryz.prog 183 (.int .i64) := ⟨by kernel_rfl⟩
instance : TyA Tryz.prog 184 true 69 (.agg [.one (.b false), .hash hz, .one (.i .i64 0), .one (.sl 0 none 0 0), .one (.i .i64 0), .hash hz, .one (.sl 0 none 0 0)]) 136 := ⟨⟨by kernel_rfl, by kernel_rfl⟩, rfl, rfl⟩
instance : FA Tryz.prog 184 0 0 := ⟨by kernel_rfl⟩
instance : FT Tryz.prog 184 0 182 0 := ⟨by kernel_rfl⟩
instance : FA Tryz.prog 184 1 33 := ⟨by kernel_rfl⟩
instance : FT Tryz.prog 184 1 177 33 := ⟨by kernel_rfl⟩
instance : FA Tryz.prog 184 2 35 := ⟨by kernel_rfl⟩
instance : FT Tryz.prog 184 2 183 35 := ⟨by kernel_rfl⟩
instance : FA Tryz.prog 184 3 36 := ⟨by kernel_rfl⟩
instance : FT Tryz.prog 184 3 23 36 := ⟨by kernel_rfl⟩
instance : FA Tryz.prog 184 4 68 := ⟨by kernel_rfl⟩
instance : FT Tryz.prog 184 4 168 68 := ⟨by kernel_rfl⟩
instance : PLS Tryz.prog 184 [.agg [.one (.b false), .hash hz], .agg [.one (.i .i64 0), .one (.sl 0 none 0 0)], .one (.i .i64 0), .agg [.hash hz], .agg [.one (.sl 0 none 0 0)]] := ⟨by kernel_rfl⟩
instance : TyA Tryz.prog 185 true 69 (.agg [.one (.b false), .hash hz, .one (.i .i64 0), .one (.sl 0 none 0 0), .one (.i .i64 0), .hash hz, .one (.sl 0 none 0 0)]) 136 := ⟨⟨by kernel_rfl, by kernel_rfl⟩, rfl, rfl⟩
instance : FA Tryz.prog 185 0 0 := ⟨by kernel_rfl⟩
instance : FT Tryz.prog 185 0 182 0 := ⟨by kernel_rfl⟩
instance : FA Tryz.prog 185 1 33 := ⟨by kernel_rfl⟩
instance : FT Tryz.prog 185 1 177 33 := ⟨by kernel_rfl⟩
instance : FA Tryz.prog 185 2 35 := ⟨by kernel_rfl⟩
instance : FT Tryz.prog 185 2 183 35 := ⟨by kernel_rfl⟩
instance : FA Tryz.prog 185 3 36 := ⟨by kernel_rfl⟩
instance : FT Tryz.prog 185 3 23 36 := ⟨by kernel_rfl⟩
instance : FA Tryz.prog 185 4 68 := ⟨by kernel_rfl⟩
instance : FT Tryz.prog 185 4 168 68 := ⟨by kernel_rfl⟩
instance : PLS Tryz.prog 185 [.agg [.one (.b false), .hash hz], .agg [.one (.i .i64 0), .one (.sl 0 none 0 0)], .one (.i .i64 0), .agg [.hash hz], .agg [.one (.sl 0 none 0 0)]] := ⟨by kernel_rfl⟩
instance : TyA Tryz.prog 186 false 1 (.one (.fnn)) 8 := ⟨⟨by kernel_rfl, by kernel_rfl⟩, rfl, rfl⟩
instance : TyA Tryz.prog 187 false 1 (.one (.fnn)) 8 := ⟨⟨by kernel_rfl, by kernel_rfl⟩, rfl, rfl⟩
instance : TyA Tryz.prog 188 false 1 (.one (.sl 0 none 0 0)) 24 := ⟨⟨by kernel_rfl, by kernel_rfl⟩, rfl, rfl⟩
instance : UD Tryz.prog 188 (.slice 190) := ⟨by kernel_rfl⟩
instance : TyA Tryz.prog 189 true 33 (.agg [.hash hz, .one (.i .i64 0)]) 40 := ⟨⟨by kernel_rfl, by kernel_rfl⟩, rfl, rfl⟩
instance : FA Tryz.prog 189 0 0 := ⟨by kernel_rfl⟩
instance : FT Tryz.prog 189 0 23 0 := ⟨by kernel_rfl⟩
instance : FA Tryz.prog 189 1 32 := ⟨by kernel_rfl⟩
instance : FT Tryz.prog 189 1 3 32 := ⟨by kernel_rfl⟩
instance : PLS Tryz.prog 189 [.agg [.hash hz], .one (.i .i64 0)] := ⟨by kernel_rfl⟩
instance : TyA Tryz.prog 190 true 33 (.agg [.hash hz, .one (.i .i64 0)]) 40 := ⟨⟨by kernel_rfl, by kernel_rfl⟩, rfl, rfl⟩
instance : FA Tryz.prog 190 0 0 := ⟨by kernel_rfl⟩
instance : FT Tryz.prog 190 0 23 0 := ⟨by kernel_rfl⟩
instance : FA Tryz.prog 190 1 32 := ⟨by kernel_rfl⟩
instance : FT Tryz.prog 190 1 3 32 := ⟨by kernel_rfl⟩
instance : PLS Tryz.prog 190 [.agg [.hash hz], .one (.i .i64 0)] := ⟨by kernel_rfl⟩
instance : TyA Tryz.prog 191 false 1 (.one (.fnn)) 8 := ⟨⟨by kernel_rfl, by kernel_rfl⟩, rfl, rfl⟩
instance : TyA Tryz.prog 192 false 1 (.one (.sl 0 none 0 0)) 24 := ⟨⟨by kernel_rfl, by kernel_rfl⟩, rfl, rfl⟩
instance : UD Tryz.prog 192 (.slice 194) := ⟨by kernel_rfl⟩
instance : TyA Tryz.prog 193 true 102 (.agg [.hash hz, .one (.i .i64 0), .one (.b false), .hash hz, .one (.i .i64 0), .one (.sl 0 none 0 0), .one (.i .i64 0), .hash hz, .one (.sl 0 none 0 0)]) 176 := ⟨⟨by kernel_rfl, by kernel_rfl⟩, rfl, rfl⟩
instance : FA Tryz.prog 193 0 0 := ⟨by kernel_rfl⟩
instance : FT Tryz.prog 193 0 190 0 := ⟨by kernel_rfl⟩
instance : FA Tryz.prog 193 1 33 := ⟨by kernel_rfl⟩
instance : FT Tryz.prog 193 1 185 33 := ⟨by kernel_rfl⟩
instance : PLS Tryz.prog 193 [.agg [.hash hz, .one (.i .i64 0)], .agg [.one (.b false), .hash hz, .one (.i .i64 0), .one (.sl 0 none 0 0), .one (.i .i64 0), .hash hz, .one (.sl 0 none 0 0)]] := ⟨by kernel_rfl⟩
instance : TyA Tryz.prog 194 true 102 (.agg [.hash hz, .one (.i .i64 0), .one (.b false), .hash hz, .one (.i .i64 0), .one (.sl 0 none 0 0), .one (.i .i64 0), .hash hz, .one (.sl 0 none 0 0)]) 176 := ⟨⟨by kernel_rfl, by kernel_rfl⟩, rfl, rfl⟩
instance : FA Tryz.prog 194 0 0 := ⟨by kernel_rfl⟩
instance : FT Tryz.prog 194 0 190 0 := ⟨by kernel_rfl⟩
instance : FA Tryz.prog 194 1 33 := ⟨by kernel_rfl⟩
instance : FT Tryz.prog 194 1 185 33 := ⟨by kernel_rfl⟩
instance : PLS Tryz.prog 194 [.agg [.hash hz, .one (.i .i64 0)], .agg [.one (.b false), .hash hz, .one (.i .i64 0), .one (.sl 0 none 0 0), .one (.i .i64 0), .hash hz, .one (.sl 0 none 0 0)]] := ⟨by kernel_rfl⟩
instance : TyA Tryz.prog 195 false 1 (.one (.fnn)) 8 := ⟨⟨by kernel_rfl, by kernel_rfl⟩, rfl, rfl⟩
instance : TyA Tryz.prog 196 false 1 (.one (.fnn)) 8 := ⟨⟨by kernel_rfl, by kernel_rfl⟩, rfl, rfl⟩
instance : TyA Tryz.prog 197 false 1 (.one (.sl 0 none 0 0)) 24 := ⟨⟨by kernel_rfl, by kernel_rfl⟩, rfl, rfl⟩
instance : UD Tryz.prog 197 (.slice 200) := ⟨by kernel_rfl⟩
instance : TyA Tryz.prog 198 false 1 (.one (.i .i64 0)) 8 := ⟨⟨by kernel_rfl, by kernel_rfl⟩, rfl, rfl⟩
instance : UD Tryz.prog 198 (.int .i64) := ⟨by kernel_rfl⟩
instance : TyA Tryz.prog 199 true 4 (.agg [.one (.i .i64 0), .one (.i .i64 0), .one (.i .u64 0), .one (.sl 0 none 0 0)]) 48 := ⟨⟨by kernel_rfl, by kernel_rfl⟩, rfl, rfl⟩
instance : FA Tryz.prog 199 0 0 := ⟨by kernel_rfl⟩
instance : FT Tryz.prog 199 0 198 0 := ⟨by kernel_rfl⟩
instance : FA Tryz.prog 199 1 1 := ⟨by kernel_rfl⟩
instance : FT Tryz.prog 199 1 2 1 := ⟨by kernel_rfl⟩
instance : FA Tryz.prog 199 2 2 := ⟨by kernel_rfl⟩
instance : FT Tryz.prog 199 2 154 2 := ⟨by kernel_rfl⟩
instance : FA Tryz.prog 199 3 3 := ⟨by kernel_rfl⟩
instance : FT Tryz.prog 199 3 168 3 := ⟨by kernel_rfl⟩
instance : PLS Tryz.prog 199 [.one (.i .i64 0), .one (.i .i64 0), .one (.i .u64 0), .agg [.one (.sl 0 none 0 0)]] := ⟨by kernel_rfl⟩
instance : TyA Tryz.prog 200 true 4 (.agg [.one (.i .i64 0), .one (.i .i64 0), .one (.i .u64 0), .one (.sl 0 none 0 0)]) 48 := ⟨⟨by kernel_rfl, by kernel_rfl⟩, rfl, rfl⟩
instance : FA Tryz.prog 200 0 0 := ⟨by kernel_rfl⟩
instance : FT Tryz.prog 200 0 198 0 := ⟨by kernel_rfl⟩
instance : FA Tryz.prog 200 1 1 := ⟨by kernel_rfl⟩
instance : FT Tryz.prog 200 1 2 1 := ⟨by kernel_rfl⟩
instance : FA Tryz.prog 200 2 2 := ⟨by kernel_rfl⟩
instance : FT Tryz.prog 200 2 154 2 := ⟨by kernel_rfl⟩
instance : FA Tryz.prog 200 3 3 := ⟨by kernel_rfl⟩
instance : FT Tryz.prog 200 3 168 3 := ⟨by kernel_rfl⟩
instance : PLS Tryz.prog 200 [.one (.i .i64 0), .one (.i .i64 0), .one (.i .u64 0), .agg [.one (.sl 0 none 0 0)]] := ⟨by kernel_rfl⟩
instance : TyA Tryz.prog 201 false 1 (.one (.fnn)) 8 := ⟨⟨by kernel_rfl, by kernel_rfl⟩, rfl, rfl⟩
instance : TyA Tryz.prog 202 false 1 (.one (.fnn)) 8 := ⟨⟨by kernel_rfl, by kernel_rfl⟩, rfl, rfl⟩
instance : TyA Tryz.prog 203 false 1 (.one (.sl 0 none 0 0)) 24 := ⟨⟨by kernel_rfl, by kernel_rfl⟩, rfl, rfl⟩
instance : UD Tryz.prog 203 (.slice 205) := ⟨by kernel_rfl⟩
instance : TyA Tryz.prog 204 true 2 (.agg [.one (.i .i64 0), .one (.sl 0 none 0 0)]) 32 := ⟨⟨by kernel_rfl, by kernel_rfl⟩, rfl, rfl⟩
instance : FA Tryz.prog 204 0 0 := ⟨by kernel_rfl⟩
instance : FT Tryz.prog 204 0 3 0 := ⟨by kernel_rfl⟩
instance : FA Tryz.prog 204 1 1 := ⟨by kernel_rfl⟩
instance : FT Tryz.prog 204 1 197 1 := ⟨by kernel_rfl⟩
instance : PLS Tryz.prog 204 [.one (.i .i64 0), .one (.sl 0 none 0 0)] := ⟨by kernel_rfl⟩
instance : TyA Tryz.prog 205 true 2 (.agg [.one (.i .i64 0), .one (.sl 0 none 0 0)]) 32 := ⟨⟨by kernel_rfl, by kernel_rfl⟩, rfl, rfl⟩
instance : FA Tryz.prog 205 0 0 := ⟨by kernel_rfl⟩
instance : FT Tryz.prog 205 0 3 0 := ⟨by kernel_rfl⟩
instance : FA Tryz.prog 205 1 1 := ⟨by kernel_rfl⟩
instance : FT Tryz.prog 205 1 197 1 := ⟨by kernel_rfl⟩
instance : PLS Tryz.prog 205 [.one (.i .i64 0), .one (.sl 0 none 0 0)] := ⟨by kernel_rfl⟩
instance : TyA Tryz.prog 206 false 1 (.one (.fnn)) 8 := ⟨⟨by kernel_rfl, by kernel_rfl⟩, rfl, rfl⟩
instance : TyA Tryz.prog 207 false 1 (.one (.fnn)) 8 := ⟨⟨by kernel_rfl, by kernel_rfl⟩, rfl, rfl⟩
instance : TyA Tryz.prog 208 false 1 (.one (.sl 0 none 0 0)) 24 := ⟨⟨by kernel_rfl, by kernel_rfl⟩, rfl, rfl⟩
instance : UD Tryz.prog 208 (.slice 213) := ⟨by kernel_rfl⟩
instance : TyA Tryz.prog 209 false 1 (.one (.i .i64 0)) 8 := ⟨⟨by kernel_rfl, by kernel_rfl⟩, rfl, rfl⟩
instance : UD Tryz.prog 209 (.int .i64) := ⟨by kernel_rfl⟩
instance : TyA Tryz.prog 210 true 2 (.agg [.one (.i .i64 0), .one (.i .i64 0)]) 16 := ⟨⟨by kernel_rfl, by kernel_rfl⟩, rfl, rfl⟩
instance : FA Tryz.prog 210 0 0 := ⟨by kernel_rfl⟩
instance : FT Tryz.prog 210 0 2 0 := ⟨by kernel_rfl⟩
instance : FA Tryz.prog 210 1 1 := ⟨by kernel_rfl⟩
instance : FT Tryz.prog 210 1 2 1 := ⟨by kernel_rfl⟩
instance : PLS Tryz.prog 210 [.one (.i .i64 0), .one (.i .i64 0)] := ⟨by kernel_rfl⟩
instance : TyA Tryz.prog 211 true 2 (.agg [.one (.i .i64 0), .one (.i .i64 0)]) 16 := ⟨⟨by kernel_rfl, by kernel_rfl⟩, rfl, rfl⟩
instance : FA Tryz.prog 211 0 0 := ⟨by kernel_rfl⟩
instance : FT Tryz.prog 211 0 2 0 := ⟨by kernel_rfl⟩
instance : FA Tryz.prog 211 1 1 := ⟨by kernel_rfl⟩
instance : FT Tryz.prog 211 1 2 1 := ⟨by kernel_rfl⟩
instance : PLS Tryz.prog 211 [.one (.i .i64 0), .one (.i .i64 0)] := ⟨by kernel_rfl⟩
instance : TyA Tryz.prog 212 true 5 (.agg [.one (.i .i64 0), .one (.i .i64 0), .one (.sl 0 none 0 0), .one (.i .i64 0), .one (.i .i64 0)]) 56 := ⟨⟨by kernel_rfl, by kernel_rfl⟩, rfl, rfl⟩
instance : FA Tryz.prog 212 0 0 := ⟨by kernel_rfl⟩
instance : FT Tryz.prog 212 0 209 0 := ⟨by kernel_rfl⟩
instance : FA Tryz.prog 212 1 1 := ⟨by kernel_rfl⟩
instance : FT Tryz.prog 212 1 3 1 := ⟨by kernel_rfl⟩
instance : FA Tryz.prog 212 2 2 := ⟨by kernel_rfl⟩
instance : FT Tryz.prog 212 2 168 2 := ⟨by kernel_rfl⟩
instance : FA Tryz.prog 212 3 3 := ⟨by kernel_rfl⟩
instance : FT Tryz.prog 212 3 211 3 := ⟨by kernel_rfl⟩
instance : PLS Tryz.prog 212 [.one (.i .i64 0), .one (.i .i64 0), .agg [.one (.sl 0 none 0 0)], .agg [.one (.i .i64 0), .one (.i .i64 0)]] := ⟨by kernel_rfl⟩
instance : TyA Tryz.prog 213 true 5 (.agg [.one (.i .i64 0), .one (.i .i64 0), .one (.sl 0 none 0 0), .one (.i .i64 0), .one (.i .i64 0)]) 56 := ⟨⟨by kernel_rfl, by kernel_rfl⟩, rfl, rfl⟩
instance : FA Tryz.prog 213 0 0 := ⟨by kernel_rfl⟩
instance : FT Tryz.prog 213 0 209 0 := ⟨by kernel_rfl⟩
instance : FA Tryz.prog 213 1 1 := ⟨by kernel_rfl⟩
instance : FT Tryz.prog 213 1 3 1 := ⟨by kernel_rfl⟩
instance : FA Tryz.prog 213 2 2 := ⟨by kernel_rfl⟩
instance : FT Tryz.prog 213 2 168 2 := ⟨by kernel_rfl⟩
instance : FA Tryz.prog 213 3 3 := ⟨by kernel_rfl⟩
instance : FT Tryz.prog 213 3 211 3 := ⟨by kernel_rfl⟩
instance : PLS Tryz.prog 213 [.one (.i .i64 0), .one (.i .i64 0), .agg [.one (.sl 0 none 0 0)], .agg [.one (.i .i64 0), .one (.i .i64 0)]] := ⟨by kernel_rfl⟩
instance : TyA Tryz.prog 214 false 1 (.one (.fnn)) 8 := ⟨⟨by kernel_rfl, by kernel_rfl⟩, rfl, rfl⟩
instance : TyA Tryz.prog 215 false 1 (.one (.fnn)) 8 := ⟨⟨by kernel_rfl, by kernel_rfl⟩, rfl, rfl⟩
instance : TyA Tryz.prog 216 false 1 (.one (.sl 0 none 0 0)) 24 := ⟨⟨by kernel_rfl, by kernel_rfl⟩, rfl, rfl⟩
instance : UD Tryz.prog 216 (.slice 218) := ⟨by kernel_rfl⟩
instance : TyA Tryz.prog 217 true 40 (.agg [.one (.sl 0 none 0 0), .one (.sl 0 none 0 0), .one (.sl 0 none 0 0), .one (.sl 0 none 0 0), .one (.i .i64 0), .one (.i .i64 0), .one (.i .i64 0), .one (.sl 0 none 0 0), .hash hz]) 176 := ⟨⟨by kernel_rfl, by kernel_rfl⟩, rfl, rfl⟩
instance : FA Tryz.prog 217 0 0 := ⟨by kernel_rfl⟩
instance : FT Tryz.prog 217 0 188 0 := ⟨by kernel_rfl⟩
instance : FA Tryz.prog 217 1 1 := ⟨by kernel_rfl⟩
instance : FT Tryz.prog 217 1 188 1 := ⟨by kernel_rfl⟩
instance : FA Tryz.prog 217 2 2 := ⟨by kernel_rfl⟩
instance : FT Tryz.prog 217 2 180 2 := ⟨by kernel_rfl⟩
instance : FA Tryz.prog 217 3 3 := ⟨by kernel_rfl⟩
instance : FT Tryz.prog 217 3 180 3 := ⟨by kernel_rfl⟩
instance : FA Tryz.prog 217 4 4 := ⟨by kernel_rfl⟩
instance : FT Tryz.prog 217 4 2 4 := ⟨by kernel_rfl⟩
instance : FA Tryz.prog 217 5 5 := ⟨by kernel_rfl⟩
instance : FT Tryz.prog 217 5 2 5 := ⟨by kernel_rfl⟩
instance : FA Tryz.prog 217 6 6 := ⟨by kernel_rfl⟩
instance : FT Tryz.prog 217 6 2 6 := ⟨by kernel_rfl⟩
instance : FA Tryz.prog 217 7 7 := ⟨by kernel_rfl⟩
instance : FT Tryz.prog 217 7 171 7 := ⟨by kernel_rfl⟩
instance : FA Tryz.prog 217 8 8 := ⟨by kernel_rfl⟩
instance : FT Tryz.prog 217 8 23 8 := ⟨by kernel_rfl⟩
instance : PLS Tryz.prog 217 [.one (.sl 0 none 0 0), .one (.sl 0 none 0 0), .one (.sl 0 none 0 0), .one (.sl 0 none 0 0), .one (.i .i64 0), .one (.i .i64 0), .one (.i .i64 0), .one (.sl 0 none 0 0), .agg [.hash hz]] := ⟨by kernel_rfl⟩
instance : TyA Tryz.prog 218 true 40 (.agg [.one (.sl 0 none 0 0), .one (.sl 0 none 0 0), .one (.sl 0 none 0 0), .one (.sl 0 none 0 0), .one (.i .i64 0), .one (.i .i64 0), .one (.i .i64 0), .one (.sl 0 none 0 0), .hash hz]) 176 := ⟨⟨by kernel_rfl, by kernel_rfl⟩, rfl, rfl⟩
instance : FA Tryz.prog 218 0 0 := ⟨by kernel_rfl⟩
instance : FT Tryz.prog 218 0 188 0 := ⟨by kernel_rfl⟩
instance : FA Tryz.prog 218 1 1 := ⟨by kernel_rfl⟩
instance : FT Tryz.prog 218 1 188 1 := ⟨by kernel_rfl⟩
instance : FA Tryz.prog 218 2 2 := ⟨by kernel_rfl⟩
instance : FT Tryz.prog 218 2 180 2 := ⟨by kernel_rfl⟩
instance : FA Tryz.prog 218 3 3 := ⟨by kernel_rfl⟩
instance : FT Tryz.prog 218 3 180 3 := ⟨by kernel_rfl⟩
instance : FA Tryz.prog 218 4 4 := ⟨by kernel_rfl⟩
instance : FT Tryz.prog 218 4 2 4 := ⟨by kernel_rfl⟩
instance : FA Tryz.prog 218 5 5 := ⟨by kernel_rfl⟩
instance : FT Tryz.prog 218 5 2 5 := ⟨by kernel_rfl⟩
instance : FA Tryz.prog 218 6 6 := ⟨by kernel_rfl⟩
instance : FT Tryz.prog 218 6 2 6 := ⟨by kernel_rfl⟩
instance : FA Tryz.prog 218 7 7 := ⟨by kernel_rfl⟩
instance : FT Tryz.prog 218 7 171 7 := ⟨by kernel_rfl⟩
instance : FA Tryz.prog 218 8 8 := ⟨by kernel_rfl⟩
instance : FT Tryz.prog 218 8 23 8 := ⟨by kernel_rfl⟩
instance : PLS Tryz.prog 218 [.one (.sl 0 none 0 0), .one (.sl 0 none 0 0), .one (.sl 0 none 0 0), .one (.sl 0 none 0 0), .one (.i .i64 0), .one (.i .i64 0), .one (.i .i64 0), .one (.sl 0 none 0 0), .agg [.hash hz]] := ⟨by kernel_rfl⟩
instance : TyA Tryz.prog 219 false 1 (.one (.fnn)) 8 := ⟨⟨by kernel_rfl, by kernel_rfl⟩, rfl, rfl⟩
instance : TyA Tryz.prog 220 false 1 (.one (.fnn)) 8 := ⟨⟨by kernel_rfl, by kernel_rfl⟩, rfl, rfl⟩
instance : TyA Tryz.prog 221 false 1 (.one (.sl 0 none 0 0)) 24 := ⟨⟨by kernel_rfl, by kernel_rfl⟩, rfl, rfl⟩
instance : UD Tryz.prog 221 (.slice 223) := ⟨by kernel_rfl⟩
instance : TyA Tryz.prog 222 true 1 (.agg [.one (.sl 0 none 0 0)]) 24 := ⟨⟨by kernel_rfl, by kernel_rfl⟩, rfl, rfl⟩
instance : FA Tryz.prog 222 0 0 := ⟨by kernel_rfl⟩
instance : FT Tryz.prog 222 0 47 0 := ⟨by kernel_rfl⟩
instance : PLS Tryz.prog 222 [.one (.sl 0 none 0 0)] := ⟨by kernel_rfl⟩
instance : TyA Tryz.prog 223 true 1 (.agg [.one (.sl 0 none 0 0)]) 24 := ⟨⟨by kernel_rfl, by kernel_rfl⟩, rfl, rfl⟩
instance : FA Tryz.prog 223 0 0 := ⟨by kernel_rfl⟩
instance : FT Tryz.prog 223 0 47 0 := ⟨by kernel_rfl⟩
instance : PLS Tryz.prog 223 [.one (.sl 0 none 0 0)] := ⟨by kernel_rfl⟩
instance : TyA Tryz.prog 224 false 1 (.one (.fnn)) 8 := ⟨⟨by kernel_rfl, by kernel_rfl⟩, rfl, rfl⟩
instance : TyA Tryz.prog 225 false 1 (.one (.fnn)) 8 := ⟨⟨by kernel_rfl, by kernel_rfl⟩, rfl, rfl⟩
instance : TyA Tryz.prog 226 false 1 (.one (.sl 0 none 0 0)) 24 := ⟨⟨by kernel_rfl, by kernel_rfl⟩, rfl, rfl⟩
instance : UD Tryz.prog 226 (.slice 228) := ⟨by kernel_rfl⟩
instance : TyA Tryz.prog 227 true 45 (.agg [.one (.sl 0 none 0 0), .one (.sl 0 none 0 0), .one (.sl 0 none 0 0), .one (.sl 0 none 0 0), .one (.i .i64 0), .one (.i .i64 0), .one (.i .i64 0), .one (.sl 0 none 0 0), .hash hz, .one (.sl 0 none 0 0), .one (.sl 0 none 0 0), .one (.sl 0 none 0 0), .one (.sl 0 none 0 0), .one (.b false)]) 280 := ⟨⟨by kernel_rfl, by kernel_rfl⟩, rfl, rfl⟩
instance : FA Tryz.prog 227 0 0 := ⟨by kernel_rfl⟩
instance : FT Tryz.prog 227 0 218 0 := ⟨by kernel_rfl⟩
instance : FA Tryz.prog 227 1 40 := ⟨by kernel_rfl⟩
instance : FT Tryz.prog 227 1 221 40 := ⟨by kernel_rfl⟩
instance : FA Tryz.prog 227 2 41 := ⟨by kernel_rfl⟩
instance : FT Tryz.prog 227 2 203 41 := ⟨by kernel_rfl⟩
instance : FA Tryz.prog 227 3 42 := ⟨by kernel_rfl⟩
instance : FT Tryz.prog 227 3 166 42 := ⟨by kernel_rfl⟩
instance : FA Tryz.prog 227 4 43 := ⟨by kernel_rfl⟩
instance : FT Tryz.prog 227 4 208 43 := ⟨by kernel_rfl⟩
instance : FA Tryz.prog 227 5 44 := ⟨by kernel_rfl⟩
instance : FT Tryz.prog 227 5 4 44 := ⟨by kernel_rfl⟩
instance : PLS Tryz.prog 227 [.agg [.one (.sl 0 none 0 0), .one (.sl 0 none 0 0), .one (.sl 0 none 0 0), .one (.sl 0 none 0 0), .one (.i .i64 0), .one (.i .i64 0), .one (.i .i64 0), .one (.sl 0 none 0 0), .hash hz], .one (.sl 0 none 0 0), .one (.sl 0 none 0 0), .one (.sl 0 none 0 0), .one (.sl 0 none 0 0), .one (.b false)] := ⟨by kernel_rfl⟩
instance : TyA Tryz.prog 228 true 45 (.agg [.one (.sl 0 none 0 0), .one (.sl 0 none 0 0), .one (.sl 0 none 0 0), .one (.sl 0 none 0 0), .one (.i .i64 0), .one (.i .i64 0), .one (.i .i64 0), .one (.sl 0 none 0 0), .hash hz, .one (.sl 0 none 0 0), .one (.sl 0 none 0 0), .one (.sl 0 none 0 0), .one (.sl 0 none 0 0), .one (.b false)]) 280 := ⟨⟨by kernel_rfl, by kernel_rfl⟩, rfl, rfl⟩
instance : FA Tryz.prog 228 0 0 := ⟨by kernel_rfl⟩
instance : FT Tryz.prog 228 0 218 0 := ⟨by kernel_rfl⟩
instance : FA Tryz.prog 228 1 40 := ⟨by kernel_rfl⟩
instance : FT Tryz.prog 228 1 221 40 := ⟨by kernel_rfl⟩
instance : FA Tryz.prog 228 2 41 := ⟨by kernel_rfl⟩
instance : FT Tryz.prog 228 2 203 41 := ⟨by kernel_rfl⟩
instance : FA Tryz.prog 228 3 42 := ⟨by kernel_rfl⟩
instance : FT Tryz.prog 228 3 166 42 := ⟨by kernel_rfl⟩
instance : FA Tryz.prog 228 4 43 := ⟨by kernel_rfl⟩
instance : FT Tryz.prog 228 4 208 43 := ⟨by kernel_rfl⟩
instance : FA Tryz.prog 228 5 44 := ⟨by kernel_rfl⟩
instance : FT Tryz.prog 228 5 4 44 := ⟨by kernel_rfl⟩
instance : PLS Tryz.prog 228 [.agg [.one (.sl 0 none 0 0), .one (.sl 0 none 0 0), .one (.sl 0 none 0 0), .one (.sl 0 none 0 0), .one (.i .i64 0), .one (.i .i64 0), .one (.i .i64 0), .one (.sl 0 none 0 0), .hash hz], .one (.sl 0 none 0 0), .one (.sl 0 none 0 0), .one (.sl 0 none 0 0), .one (.sl 0 none 0 0), .one (.b false)] := ⟨by kernel_rfl⟩
instance : TyA Tryz.prog 229 false 1 (.one (.fnn)) 8 := ⟨⟨by kernel_rfl, by kernel_rfl⟩, rfl, rfl⟩
instance : TyA Tryz.prog 230 false 1 (.one (.fnn)) 8 := ⟨⟨by kernel_rfl, by kernel_rfl⟩, rfl, rfl⟩
instance : TyA Tryz.prog 231 false 1 (.one (.sl 0 none 0 0)) 24 := ⟨⟨by kernel_rfl, by kernel_rfl⟩, rfl, rfl⟩
instance : UD Tryz.prog 231 (.slice 235) := ⟨by kernel_rfl⟩
instance : TyA Tryz.prog 232 true 67 (.agg [.hash hz, .one (.i .i64 0), .one (.i .i64 0), .hash hz, .one (.i .u64 0)]) 88 := ⟨⟨by kernel_rfl, by kernel_rfl⟩, rfl, rfl⟩
instance : FA Tryz.prog 232 0 0 := ⟨by kernel_rfl⟩
instance : FT Tryz.prog 232 0 23 0 := ⟨by kernel_rfl⟩
instance : FA Tryz.prog 232 1 32 := ⟨by kernel_rfl⟩
instance : FT Tryz.prog 232 1 3 32 := ⟨by kernel_rfl⟩
instance : FA Tryz.prog 232 2 33 := ⟨by kernel_rfl⟩
instance : FT Tryz.prog 232 2 2 33 := ⟨by kernel_rfl⟩
instance : FA Tryz.prog 232 3 34 := ⟨by kernel_rfl⟩
instance : FT Tryz.prog 232 3 23 34 := ⟨by kernel_rfl⟩
instance : FA Tryz.prog 232 4 66 := ⟨by kernel_rfl⟩
instance : FT Tryz.prog 232 4 154 66 := ⟨by kernel_rfl⟩
instance : PLS Tryz.prog 232 [.agg [.hash hz], .one (.i .i64 0), .one (.i .i64 0), .agg [.hash hz], .one (.i .u64 0)] := ⟨by kernel_rfl⟩
instance : TyA Tryz.prog 233 true 67 (.agg [.hash hz, .one (.i .i64 0), .one (.i .i64 0), .hash hz, .one (.i .u64 0)]) 88 := ⟨⟨by kernel_rfl, by kernel_rfl⟩, rfl, rfl⟩
instance : FA Tryz.prog 233 0 0 := ⟨by kernel_rfl⟩
instance : FT Tryz.prog 233 0 23 0 := ⟨by kernel_rfl⟩
instance : FA Tryz.prog 233 1 32 := ⟨by kernel_rfl⟩
instance : FT Tryz.prog 233 1 3 32 := ⟨by kernel_rfl⟩
instance : FA Tryz.prog 233 2 33 := ⟨by kernel_rfl⟩
instance : FT Tryz.prog 233 2 2 33 := ⟨by kernel_rfl⟩
instance : FA Tryz.prog 233 3 34 := ⟨by kernel_rfl⟩
instance : FT Tryz.prog 233 3 23 34 := ⟨by kernel_rfl⟩
instance : FA Tryz.prog 233 4 66 := ⟨by kernel_rfl⟩
instance : FT Tryz.prog 233 4 154 66 := ⟨by kernel_rfl⟩
instance : PLS Tryz.prog 233 [.agg [.hash hz], .one (.i .i64 0), .one (.i .i64 0), .agg [.hash hz], .one (.i .u64 0)] := ⟨by kernel_rfl⟩
instance : TyA Tryz.prog 234 true 68 (.agg [.hash hz, .one (.i .i64 0), .one (.i .i64 0), .hash hz, .one (.i .u64 0), .one (.sl 0 none 0 0)]) 112 := ⟨⟨by kernel_rfl, by kernel_rfl⟩, rfl, rfl⟩
instance : FA Tryz.prog 234 0 0 := ⟨by kernel_rfl⟩
instance : FT Tryz.prog 234 0 233 0 := ⟨by kernel_rfl⟩
instance : FA Tryz.prog 234 1 67 := ⟨by kernel_rfl⟩
instance : FT Tryz.prog 234 1 226 67 := ⟨by kernel_rfl⟩
instance : PLS Tryz.prog 234 [.agg [.hash hz, .one (.i .i64 0), .one (.i .i64 0), .hash hz, .one (.i .u64 0)], .one (.sl 0 none 0 0)] := ⟨by kernel_rfl⟩
instance : TyA Tryz.prog 235 true 68 (.agg [.hash hz, .one (.i .i64 0), .one (.i .i64 0), .hash hz, .one (.i .u64 0), .one (.sl 0 none 0 0)]) 112 := ⟨⟨by kernel_rfl, by kernel_rfl⟩, rfl, rfl⟩
instance : FA Tryz.prog 235 0 0 := ⟨by kernel_rfl⟩
instance : FT Tryz.prog 235 0 233 0 := ⟨by kernel_rfl⟩
instance : FA Tryz.prog 235 1 67 := ⟨by kernel_rfl⟩
instance : FT Tryz.prog 235 1 226 67 := ⟨by kernel_rfl⟩
instance : PLS Tryz.prog 235 [.agg [.hash hz, .one (.i .i64 0), .one (.i .i64 0), .hash hz, .one (.i .u64 0)], .one (.sl 0 none 0 0)] := ⟨by kernel_rfl⟩
instance : TyA Tryz.prog 236 false 1 (.one (.fnn)) 8 := ⟨⟨by kernel_rfl, by kernel_rfl⟩, rfl, rfl⟩
instance : TyA Tryz.prog 237 false 1 (.one (.fnn)) 8 := ⟨⟨by kernel_rfl, by kernel_rfl⟩, rfl, rfl⟩
instance : TyA Tryz.prog 238 false 1 (.one (.sl 0 none 0 0)) 24 := ⟨⟨by kernel_rfl, by kernel_rfl⟩, rfl, rfl⟩
instance : UD Tryz.prog 238 (.slice 242) := ⟨by kernel_rfl⟩
instance : TyA Tryz.prog 239 true 12 (.agg [.one (.i .i64 0), .one (.i .i64 0), .one (.i .i64 0), .one (.i .i64 0), .one (.i .i64 0), .one (.i .i64 0), .one (.i .i64 0), .one (.i .i64 0), .one (.i .i64 0), .one (.i .i64 0), .one (.i .i64 0), .one (.i .i64 0)]) 96 := ⟨⟨by kernel_rfl, by kernel_rfl⟩, rfl, rfl⟩
instance : FA Tryz.prog 239 0 0 := ⟨by kernel_rfl⟩
instance : FT Tryz.prog 239 0 2 0 := ⟨by kernel_rfl⟩
instance : FA Tryz.prog 239 1 1 := ⟨by kernel_rfl⟩
instance : FT Tryz.prog 239 1 2 1 := ⟨by kernel_rfl⟩
instance : FA Tryz.prog 239 2 2 := ⟨by kernel_rfl⟩
instance : FT Tryz.prog 239 2 2 2 := ⟨by kernel_rfl⟩
instance : FA Tryz.prog 239 3 3 := ⟨by kernel_rfl⟩
instance : FT Tryz.prog 239 3 2 3 := ⟨by kernel_rfl⟩
instance : FA Tryz.prog 239 4 4 := ⟨by kernel_rfl⟩
instance : FT Tryz.prog 239 4 2 4 := ⟨by kernel_rfl⟩
instance : FA Tryz.prog 239 5 5 := ⟨by kernel_rfl⟩
instance : FT Tryz.prog 239 5 2 5 := ⟨by kernel_rfl⟩
instance : FA Tryz.prog 239 6 6 := ⟨by kernel_rfl⟩
instance : FT Tryz.prog 239 6 3 6 := ⟨by kernel_rfl⟩
instance : FA Tryz.prog 239 7 7 := ⟨by kernel_rfl⟩
instance : FT Tryz.prog 239 7 3 7 := ⟨by kernel_rfl⟩
instance : FA Tryz.prog 239 8 8 := ⟨by kernel_rfl⟩
instance : FT Tryz.prog 239 8 211 8 := ⟨by kernel_rfl⟩
instance : FA Tryz.prog 239 9 10 := ⟨by kernel_rfl⟩
instance : FT Tryz.prog 239 9 3 10 := ⟨by kernel_rfl⟩
instance : FA Tryz.prog 239 10 11 := ⟨by kernel_rfl⟩
instance : FT Tryz.prog 239 10 3 11 := ⟨by kernel_rfl⟩
instance : PLS Tryz.prog 239 [.one (.i .i64 0), .one (.i .i64 0), .one (.i .i64 0), .one (.i .i64 0), .one (.i .i64 0), .one (.i .i64 0), .one (.i .i64 0), .one (.i .i64 0), .agg [.one (.i .i64 0), .one (.i .i64 0)], .one (.i .i64 0), .one (.i .i64 0)] := ⟨by kernel_rfl⟩
instance : TyA Tryz.prog 240 true 12 (.agg [.one (.i .i64 0), .one (.i .i64 0), .one (.i .i64 0), .one (.i .i64 0), .one (.i .i64 0), .one (.i .i64 0), .one (.i .i64 0), .one (.i .i64 0), .one (.i .i64 0), .one (.i .i64 0), .one (.i .i64 0), .one (.i .i64 0)]) 96 := ⟨⟨by kernel_rfl, by kernel_rfl⟩, rfl, rfl⟩
instance : FA Tryz.prog 240 0 0 := ⟨by kernel_rfl⟩
instance : FT Tryz.prog 240 0 2 0 := ⟨by kernel_rfl⟩
instance : FA Tryz.prog 240 1 1 := ⟨by kernel_rfl⟩
instance : FT Tryz.prog 240 1 2 1 := ⟨by kernel_rfl⟩
instance : FA Tryz.prog 240 2 2 := ⟨by kernel_rfl⟩
instance : FT Tryz.prog 240 2 2 2 := ⟨by kernel_rfl⟩
instance : FA Tryz.prog 240 3 3 := ⟨by kernel_rfl⟩
instance : FT Tryz.prog 240 3 2 3 := ⟨by kernel_rfl⟩
instance : FA Tryz.prog 240 4 4 := ⟨by kernel_rfl⟩
instance : FT Tryz.prog 240 4 2 4 := ⟨by kernel_rfl⟩
instance : FA Tryz.prog 240 5 5 := ⟨by kernel_rfl⟩
instance : FT Tryz.prog 240 5 2 5 := ⟨by kernel_rfl⟩
instance : FA Tryz.prog 240 6 6 := ⟨by kernel_rfl⟩
instance : FT Tryz.prog 240 6 3 6 := ⟨by kernel_rfl⟩
instance : FA Tryz.prog 240 7 7 := ⟨by kernel_rfl⟩
instance : FT Tryz.prog 240 7 3 7 := ⟨by kernel_rfl⟩
instance : FA Tryz.prog 240 8 8 := ⟨by kernel_rfl⟩
instance : FT Tryz.prog 240 8 211 8 := ⟨by kernel_rfl⟩
instance : FA Tryz.prog 240 9 10 := ⟨by kernel_rfl⟩
instance : FT Tryz.prog 240 9 3 10 := ⟨by kernel_rfl⟩
instance : FA Tryz.prog 240 10 11 := ⟨by kernel_rfl⟩
instance : FT Tryz.prog 240 10 3 11 := ⟨by kernel_rfl⟩
instance : PLS Tryz.prog 240 [.one (.i .i64 0), .one (.i .i64 0), .one (.i .i64 0), .one (.i .i64 0), .one (.i .i64 0), .one (.i .i64 0), .one (.i .i64 0), .one (.i .i64 0), .agg [.one (.i .i64 0), .one (.i .i64 0)], .one (.i .i64 0), .one (.i .i64 0)] := ⟨by kernel_rfl⟩
instance : TyA Tryz.prog 241 true 14 (.agg [.one (.i .i64 0), .one (.i .i64 0), .one (.i .i64 0), .one (.i .i64 0), .one (.i .i64 0), .one (.i .i64 0), .one (.i .i64 0), .one (.i .i64 0), .one (.i .i64 0), .one (.i .i64 0), .one (.i .i64 0), .one (.i .i64 0), .one (.i .i64 0), .one (.sl 0 none 0 0)]) 128 := ⟨⟨by kernel_rfl, by kernel_rfl⟩, rfl, rfl⟩
instance : FA Tryz.prog 241 0 0 := ⟨by kernel_rfl⟩
instance : FT Tryz.prog 241 0 240 0 := ⟨by kernel_rfl⟩
instance : FA Tryz.prog 241 1 12 := ⟨by kernel_rfl⟩
instance : FT Tryz.prog 241 1 2 12 := ⟨by kernel_rfl⟩
instance : FA Tryz.prog 241 2 13 := ⟨by kernel_rfl⟩
instance : FT Tryz.prog 241 2 180 13 := ⟨by kernel_rfl⟩
instance : PLS Tryz.prog 241 [.agg [.one (.i .i64 0), .one (.i .i64 0), .one (.i .i64 0), .one (.i .i64 0), .one (.i .i64 0), .one (.i .i64 0), .one (.i .i64 0), .one (.i .i64 0), .one (.i .i64 0), .one (.i .i64 0), .one (.i .i64 0), .one (.i .i64 0)], .one (.i .i64 0), .one (.sl 0 none 0 0)] := ⟨by kernel_rfl⟩
instance : TyA Tryz.prog 242 true 14 (.agg [.one (.i .i64 0), .one (.i .i64 0), .one (.i .i64 0), .one (.i .i64 0), .one (.i .i64 0), .one (.i .i64 0), .one (.i .i64 0), .one (.i .i64 0), .one (.i .i64 0), .one (.i .i64 0), .one (.i .i64 0), .one (.i .i64 0), .one (.i .i64 0), .one (.sl 0 none 0 0)]) 128 := ⟨⟨by kernel_rfl, by kernel_rfl⟩, rfl, rfl⟩
instance : FA Tryz.prog 242 0 0 := ⟨by kernel_rfl⟩
instance : FT Tryz.prog 242 0 240 0 := ⟨by kernel_rfl⟩
instance : FA Tryz.prog 242 1 12 := ⟨by kernel_rfl⟩
instance : FT Tryz.prog 242 1 2 12 := ⟨by kernel_rfl⟩
instance : FA Tryz.prog 242 2 13 := ⟨by kernel_rfl⟩
instance : FT Tryz.prog 242 2 180 13 := ⟨by kernel_rfl⟩
instance : PLS Tryz.prog 242 [.agg [.one (.i .i64 0), .one (.i .i64 0), .one (.i .i64 0), .one (.i .i64 0), .one (.i .i64 0), .one (.i .i64 0), .one (.i .i64 0), .one (.i .i64 0), .one (.i .i64 0), .one (.i .i64 0), .one (.i .i64 0), .one (.i .i64 0)], .one (.i .i64 0), .one (.sl 0 none 0 0)] := ⟨by kernel_rfl⟩
instance : TyA Tryz.prog 243 false 1 (.one (.fnn)) 8 := ⟨⟨by kernel_rfl, by kernel_rfl⟩, rfl, rfl⟩
instance : TyA Tryz.prog 244 false 1 (.one (.fnn)) 8 := ⟨⟨by kernel_rfl, by kernel_rfl⟩, rfl, rfl⟩
instance : TyA Tryz.prog 245 false 1 (.one (.sl 0 none 0 0)) 24 := ⟨⟨by kernel_rfl, by kernel_rfl⟩, rfl, rfl⟩
instance : UD Tryz.prog 245 (.slice 249) := ⟨by kernel_rfl⟩
instance : TyA Tryz.prog 246 true 2 (.agg [.one (.i .i64 0), .one (.i .u64 0)]) 16 := ⟨⟨by kernel_rfl, by kernel_rfl⟩, rfl, rfl⟩
instance : FA Tryz.prog 246 0 0 := ⟨by kernel_rfl⟩
instance : FT Tryz.prog 246 0 2 0 := ⟨by kernel_rfl⟩
instance : FA Tryz.prog 246 1 1 := ⟨by kernel_rfl⟩
instance : FT Tryz.prog 246 1 154 1 := ⟨by kernel_rfl⟩
instance : PLS Tryz.prog 246 [.one (.i .i64 0), .one (.i .u64 0)] := ⟨by kernel_rfl⟩
instance : TyA Tryz.prog 247 true 2 (.agg [.one (.i .i64 0), .one (.i .u64 0)]) 16 := ⟨⟨by kernel_rfl, by kernel_rfl⟩, rfl, rfl⟩
instance : FA Tryz.prog 247 0 0 := ⟨by kernel_rfl⟩
instance : FT Tryz.prog 247 0 2 0 := ⟨by kernel_rfl⟩
instance : FA Tryz.prog 247 1 1 := ⟨by kernel_rfl⟩
instance : FT Tryz.prog 247 1 154 1 := ⟨by kernel_rfl⟩
instance : PLS Tryz.prog 247 [.one (.i .i64 0), .one (.i .u64 0)] := ⟨by kernel_rfl⟩
instance : TyA Tryz.prog 248 true 35 (.agg [.hash hz, .one (.s ⟨#[]⟩), .one (.i .i64 0), .one (.i .u64 0)]) 64 := ⟨⟨by kernel_rfl, by kernel_rfl⟩, rfl, rfl⟩
instance : FA Tryz.prog 248 0 0 := ⟨by kernel_rfl⟩
instance : FT Tryz.prog 248 0 23 0 := ⟨by kernel_rfl⟩
instance : FA Tryz.prog 248 1 32 := ⟨by kernel_rfl⟩
instance : FT Tryz.prog 248 1 9 32 := ⟨by kernel_rfl⟩
instance : FA Tryz.prog 248 2 33 := ⟨by kernel_rfl⟩
instance : FT Tryz.prog 248 2 247 33 := ⟨by kernel_rfl⟩
instance : PLS Tryz.prog 248 [.agg [.hash hz], .one (.s ⟨#[]⟩), .agg [.one (.i .i64 0), .one (.i .u64 0)]] := ⟨by kernel_rfl⟩
instance : TyA Tryz.prog 249 true 35 (.agg [.hash hz, .one (.s ⟨#[]⟩), .one (.i .i64 0), .one (.i .u64 0)]) 64 := ⟨⟨by kernel_rfl, by kernel_rfl⟩, rfl, rfl⟩
instance : FA Tryz.prog 249 0 0 := ⟨by kernel_rfl⟩
instance : FT Tryz.prog 249 0 23 0 := ⟨by kernel_rfl⟩
instance : FA Tryz.prog 249 1 32 := ⟨by kernel_rfl⟩
instance : FT Tryz.prog 249 1 9 32 := ⟨by kernel_rfl⟩
instance : FA Tryz.prog 249 2 33 := ⟨by kernel_rfl⟩
instance : FT Tryz.prog 249 2 247 33 := ⟨by kernel_rfl⟩
instance : PLS Tryz.prog 249 [.agg [.hash hz], .one (.s ⟨#[]⟩), .agg [.one (.i .i64 0), .one (.i .u64 0)]] := ⟨by kernel_rfl⟩
instance : TyA Tryz.prog 250 false 1 (.one (.fnn)) 8 := ⟨⟨by kernel_rfl, by kernel_rfl⟩, rfl, rfl⟩
instance : TyA Tryz.prog 251 false 1 (.one (.sl 0 none 0 0)) 24 := ⟨⟨by kernel_rfl, by kernel_rfl⟩, rfl, rfl⟩
instance : UD Tryz.prog 251 (.slice 253) := ⟨by kernel_rfl⟩
instance : TyA Tryz.prog 252 true 5 (.agg [.one (.sl 0 none 0 0), .one (.sl 0 none 0 0), .one (.i .i64 0), .one (.i .i64 0), .one (.sl 0 none 0 0)]) 88 := ⟨⟨by kernel_rfl, by kernel_rfl⟩, rfl, rfl⟩
instance : FA Tryz.prog 252 0 0 := ⟨by kernel_rfl⟩
instance : FT Tryz.prog 252 0 192 0 := ⟨by kernel_rfl⟩
instance : FA Tryz.prog 252 1 1 := ⟨by kernel_rfl⟩
instance : FT Tryz.prog 252 1 192 1 := ⟨by kernel_rfl⟩
instance : FA Tryz.prog 252 2 2 := ⟨by kernel_rfl⟩
instance : FT Tryz.prog 252 2 2 2 := ⟨by kernel_rfl⟩
instance : FA Tryz.prog 252 3 3 := ⟨by kernel_rfl⟩
instance : FT Tryz.prog 252 3 2 3 := ⟨by kernel_rfl⟩
instance : FA Tryz.prog 252 4 4 := ⟨by kernel_rfl⟩
instance : FT Tryz.prog 252 4 245 4 := ⟨by kernel_rfl⟩
instance : PLS Tryz.prog 252 [.one (.sl 0 none 0 0), .one (.sl 0 none 0 0), .one (.i .i64 0), .one (.i .i64 0), .one (.sl 0 none 0 0)] := ⟨by kernel_rfl⟩
instance : TyA Tryz.prog 253 true 5 (.agg [.one (.sl 0 none 0 0), .one (.sl 0 none 0 0), .one (.i .i64 0), .one (.i .i64 0), .one (.sl 0 none 0 0)]) 88 := ⟨⟨by kernel_rfl, by kernel_rfl⟩, rfl, rfl⟩
instance : FA Tryz.prog 253 0 0 := ⟨by kernel_rfl⟩
instance : FT Tryz.prog 253 0 192 0 := ⟨by kernel_rfl⟩
instance : FA Tryz.prog 253 1 1 := ⟨by kernel_rfl⟩
instance : FT Tryz.prog 253 1 192 1 := ⟨by kernel_rfl⟩
instance : FA Tryz.prog 253 2 2 := ⟨by kernel_rfl⟩
instance : FT Tryz.prog 253 2 2 2 := ⟨by kernel_rfl⟩
instance : FA Tryz.prog 253 3 3 := ⟨by kernel_rfl⟩
instance : FT Tryz.prog 253 3 2 3 := ⟨by kernel_rfl⟩
instance : FA Tryz.prog 253 4 4 := ⟨by kernel_rfl⟩
instance : FT Tryz.prog 253 4 245 4 := ⟨by kernel_rfl⟩
instance : PLS Tryz.prog 253 [.one (.sl 0 none 0 0), .one (.sl 0 none 0 0), .one (.i .i64 0), .one (.i .i64 0), .one (.sl 0 none 0 0)] := ⟨by kernel_rfl⟩
instance : TyA Tryz.prog 254 false 1 (.one (.fnn)) 8 := ⟨⟨by kernel_rfl, by kernel_rfl⟩, rfl, rfl⟩
instance : TyA Tryz.prog 255 false 1 (.one (.fnn)) 8 := ⟨⟨by kernel_rfl, by kernel_rfl⟩, rfl, rfl⟩
instance : TyA Tryz.prog 256 false 1 (.one (.sl 0 none 0 0)) 24 := ⟨⟨by kernel_rfl, by kernel_rfl⟩, rfl, rfl⟩
instance : UD Tryz.prog 256 (.slice 258) := ⟨by kernel_rfl⟩
instance : TyA Tryz.prog 257 true 106 (.agg [.hash hz, .hash hz, .one (.i .i64 0), .one (.i .i64 0), .hash hz, .one (.i .u64 0), .one (.sl 0 none 0 0), .one (.i .i64 0), .one (.sl 0 none 0 0), .one (.sl 0 none 0 0), .one (.i .i64 0), .one (.i .i64 0), .one (.sl 0 none 0 0)]) 240 := ⟨⟨by kernel_rfl, by kernel_rfl⟩, rfl, rfl⟩
instance : FA Tryz.prog 257 0 0 := ⟨by kernel_rfl⟩
instance : FT Tryz.prog 257 0 23 0 := ⟨by kernel_rfl⟩
instance : FA Tryz.prog 257 1 32 := ⟨by kernel_rfl⟩
instance : FT Tryz.prog 257 1 235 32 := ⟨by kernel_rfl⟩
instance : FA Tryz.prog 257 2 100 := ⟨by kernel_rfl⟩
instance : FT Tryz.prog 257 2 35 100 := ⟨by kernel_rfl⟩
instance : FA Tryz.prog 257 3 101 := ⟨by kernel_rfl⟩
instance : FT Tryz.prog 257 3 253 101 := ⟨by kernel_rfl⟩
instance : PLS Tryz.prog 257 [.agg [.hash hz], .agg [.hash hz, .one (.i .i64 0), .one (.i .i64 0), .hash hz, .one (.i .u64 0), .one (.sl 0 none 0 0)], .one (.i .i64 0), .agg [.one (.sl 0 none 0 0), .one (.sl 0 none 0 0), .one (.i .i64 0), .one (.i .i64 0), .one (.sl 0 none 0 0)]] := ⟨by kernel_rfl⟩
instance : TyA Tryz.prog 258 true 106 (.agg [.hash hz, .hash hz, .one (.i .i64 0), .one (.i .i64 0), .hash hz, .one (.i .u64 0), .one (.sl 0 none 0 0), .one (.i .i64 0), .one (.sl 0 none 0 0), .one (.sl 0 none 0 0), .one (.i .i64 0), .one (.i .i64 0), .one (.sl 0 none 0 0)]) 240 := ⟨⟨by kernel_rfl, by kernel_rfl⟩, rfl, rfl⟩
instance : FA Tryz.prog 258 0 0 := ⟨by kernel_rfl⟩
instance : FT Tryz.prog 258 0 23 0 := ⟨by kernel_rfl⟩
instance : FA Tryz.prog 258 1 32 := ⟨by kernel_rfl⟩
instance : FT Tryz.prog 258 1 235 32 := ⟨by kernel_rfl⟩
instance : FA Tryz.prog 258 2 100 := ⟨by kernel_rfl⟩
instance : FT Tryz.prog 258 2 35 100 := ⟨by kernel_rfl⟩
instance : FA Tryz.prog 258 3 101 := ⟨by kernel_rfl⟩
instance : FT Tryz.prog 258 3 253 101 := ⟨by kernel_rfl⟩
instance : PLS Tryz.prog 258 [.agg [.hash hz], .agg [.hash hz, .one (.i .i64 0), .one (.i .i64 0), .hash hz, .one (.i .u64 0), .one (.sl 0 none 0 0)], .one (.i .i64 0), .agg [.one (.sl 0 none 0 0), .one (.sl 0 none 0 0), .one (.i .i64 0), .one (.i .i64 0), .one (.sl 0 none 0 0)]] := ⟨by kernel_rfl⟩
instance : TyA Tryz.prog 259 false 1 (.one (.fnn)) 8 := ⟨⟨by kernel_rfl, by kernel_rfl⟩, rfl, rfl⟩
instance : TyA Tryz.prog 260 false 1 (.one (.fnn)) 8 := ⟨⟨by kernel_rfl, by kernel_rfl⟩, rfl, rfl⟩
instance : TyA Tryz.prog 261 false 1 (.one (.sl 0 none 0 0)) 24 := ⟨⟨by kernel_rfl, by kernel_rfl⟩, rfl, rfl⟩
instance : UD Tryz.prog 261 (.slice 263) := ⟨by kernel_rfl⟩
instance : TyA Tryz.prog 262 true 182 (.agg [.one (.i .i64 0), .one (.i .i64 0), .one (.i .i64 0), .one (.i .i64 0), .one (.i .i64 0), .one (.i .i64 0), .one (.i .i64 0), .one (.i .i64 0), .one (.i .i64 0), .one (.i .i64 0), .one (.i .i64 0), .one (.i .i64 0), .hash hz, .one (.sl 0 none 0 0), .one (.sl 0 none 0 0), .hash hz, .one (.i .i64 0), .one (.i .i64 0), .hash hz, .one (.i .u64 0), .hash hz, .hash hz, .one (.i .i64 0), .one (.i .i64 0), .one (.sl 0 none 0 0), .one (.sl 0 none 0 0), .one (.i .i64 0)]) 400 := ⟨⟨by kernel_rfl, by kernel_rfl⟩, rfl, rfl⟩
instance : FA Tryz.prog 262 0 0 := ⟨by kernel_rfl⟩
instance : FT Tryz.prog 262 0 240 0 := ⟨by kernel_rfl⟩
instance : FA Tryz.prog 262 1 12 := ⟨by kernel_rfl⟩
instance : FT Tryz.prog 262 1 23 12 := ⟨by kernel_rfl⟩
instance : FA Tryz.prog 262 2 44 := ⟨by kernel_rfl⟩
instance : FT Tryz.prog 262 2 192 44 := ⟨by kernel_rfl⟩
instance : FA Tryz.prog 262 3 45 := ⟨by kernel_rfl⟩
instance : FT Tryz.prog 262 3 256 45 := ⟨by kernel_rfl⟩
instance : FA Tryz.prog 262 4 46 := ⟨by kernel_rfl⟩
instance : FT Tryz.prog 262 4 233 46 := ⟨by kernel_rfl⟩
instance : FA Tryz.prog 262 5 113 := ⟨by kernel_rfl⟩
instance : FT Tryz.prog 262 5 23 113 := ⟨by kernel_rfl⟩
instance : FA Tryz.prog 262 6 145 := ⟨by kernel_rfl⟩
instance : FT Tryz.prog 262 6 23 145 := ⟨by kernel_rfl⟩
instance : FA Tryz.prog 262 7 177 := ⟨by kernel_rfl⟩
instance : FT Tryz.prog 262 7 2 177 := ⟨by kernel_rfl⟩
instance : FA Tryz.prog 262 8 178 := ⟨by kernel_rfl⟩
instance : FT Tryz.prog 262 8 2 178 := ⟨by kernel_rfl⟩
instance : FA Tryz.prog 262 9 179 := ⟨by kernel_rfl⟩
instance : FT Tryz.prog 262 9 245 179 := ⟨by kernel_rfl⟩
instance : FA Tryz.prog 262 10 180 := ⟨by kernel_rfl⟩
instance : FT Tryz.prog 262 10 226 180 := ⟨by kernel_rfl⟩
instance : FA Tryz.prog 262 11 181 := ⟨by kernel_rfl⟩
instance : FT Tryz.prog 262 11 2 181 := ⟨by kernel_rfl⟩
instance : PLS Tryz.prog 262 [.agg [.one (.i .i64 0), .one (.i .i64 0), .one (.i .i64 0), .one (.i .i64 0), .one (.i .i64 0), .one (.i .i64 0), .one (.i .i64 0), .one (.i .i64 0), .one (.i .i64 0), .one (.i .i64 0), .one (.i .i64 0), .one (.i .i64 0)], .agg [.hash hz], .one (.sl 0 none 0 0), .one (.sl 0 none 0 0), .agg [.hash hz, .one (.i .i64 0), .one (.i .i64 0), .hash hz, .one (.i .u64 0)], .agg [.hash hz], .agg [.hash hz], .one (.i .i64 0), .one (.i .i64 0), .one (.sl 0 none 0 0), .one (.sl 0 none 0 0), .one (.i .i64 0)] := ⟨by kernel_rfl⟩
instance : TyA Tryz.prog 263 true 182 (.agg [.one (.i .i64 0), .one (.i .i64 0), .one (.i .i64 0), .one (.i .i64 0), .one (.i .i64 0), .one (.i .i64 0), .one (.i .i64 0), .one (.i .i64 0), .one (.i .i64 0), .one (.i .i64 0), .one (.i .i64 0), .one (.i .i64 0), .hash hz, .one (.sl 0 none 0 0), .one (.sl 0 none 0 0), .hash hz, .one (.i .i64 0), .one (.i .i64 0), .hash hz, .one (.i .u64 0), .hash hz, .hash hz, .one (.i .i64 0), .one (.i .i64 0), .one (.sl 0 none 0 0), .one (.sl 0 none 0 0), .one (.i .i64 0)]) 400 := ⟨⟨by kernel_rfl, by kernel_rfl⟩, rfl, rfl⟩
instance : FA Tryz.prog 263 0 0 := ⟨by kernel_rfl⟩
instance : FT Tryz.prog 263 0 240 0 := ⟨by kernel_rfl⟩
instance : FA Tryz.prog 263 1 12 := ⟨by kernel_rfl⟩
instance : FT Tryz.prog 263 1 23 12 := ⟨by kernel_rfl⟩
instance : FA Tryz.prog 263 2 44 := ⟨by kernel_rfl⟩
instance : FT Tryz.prog 263 2 192 44 := ⟨by kernel_rfl⟩
instance : FA Tryz.prog 263 3 45 := ⟨by kernel_rfl⟩
instance : FT Tryz.prog 263 3 256 45 := ⟨by kernel_rfl⟩
instance : FA Tryz.prog 263 4 46 := ⟨by kernel_rfl⟩
instance : FT Tryz.prog 263 4 233 46 := ⟨by kernel_rfl⟩
instance : FA Tryz.prog 263 5 113 := ⟨by kernel_rfl⟩
instance : FT Tryz.prog 263 5 23 113 := ⟨by kernel_rfl⟩
instance : FA Tryz.prog 263 6 145 := ⟨by kernel_rfl⟩
instance : FT Tryz.prog 263 6 23 145 := ⟨by kernel_rfl⟩
instance : FA Tryz.prog 263 7 177 := ⟨by kernel_rfl⟩
instance : FT Tryz.prog 263 7 2 177 := ⟨by kernel_rfl⟩
instance : FA Tryz.prog 263 8 178 := ⟨by kernel_rfl⟩
instance : FT Tryz.prog 263 8 2 178 := ⟨by kernel_rfl⟩
instance : FA Tryz.prog 263 9 179 := ⟨by kernel_rfl⟩
instance : FT Tryz.prog 263 9 245 179 := ⟨by kernel_rfl⟩
instance : FA Tryz.prog 263 10 180 := ⟨by kernel_rfl⟩
instance : FT Tryz.prog 263 10 226 180 := ⟨by kernel_rfl⟩
instance : FA Tryz.prog 263 11 181 := ⟨by kernel_rfl⟩
instance : FT Tryz.prog 263 11 2 181 := ⟨by kernel_rfl⟩
instance : PLS Tryz.prog 263 [.agg [.one (.i .i64 0), .one (.i .i64 0), .one (.i .i64 0), .one (.i .i64 0), .one (.i .i64 0), .one (.i .i64 0), .one (.i .i64 0), .one (.i .i64 0), .one (.i .i64 0), .one (.i .i64 0), .one (.i .i64 0), .one (.i .i64 0)], .agg [.hash hz], .one (.sl 0 none 0 0), .one (.sl 0 none 0 0), .agg [.hash hz, .one (.i .i64 0), .one (.i .i64 0), .hash hz, .one (.i .u64 0)], .agg [.hash hz], .agg [.hash hz], .one (.i .i64 0), .one (.i .i64 0), .one (.sl 0 none 0 0), .one (.sl 0 none 0 0), .one (.i .i64 0)] := ⟨by kernel_rfl⟩
instance : TyA Tryz.prog 264 false 1 (.one (.fnn)) 8 := ⟨⟨by kernel_rfl, by kernel_rfl⟩, rfl, rfl⟩
instance : TyA Tryz.prog 265 false 1 (.one (.fnn)) 8 := ⟨⟨by kernel_rfl, by kernel_rfl⟩, rfl, rfl⟩
instance : TyA Tryz.prog 266 false 1 (.one (.sl 0 none 0 0)) 24 := ⟨⟨by kernel_rfl, by kernel_rfl⟩, rfl, rfl⟩
instance : UD Tryz.prog 266 (.slice 269) := ⟨by kernel_rfl⟩
instance : TyA Tryz.prog 267 false 1 (.one (.i .i64 0)) 8 := ⟨⟨by kernel_rfl, by kernel_rfl⟩, rfl, rfl⟩
instance : UD Tryz.prog 267 (.int .i64) := ⟨by kernel_rfl⟩
instance : TyA Tryz.prog 268 true 3 (.agg [.one (.i .i64 0), .one (.sl 0 none 0 0), .one (.i .i64 0)]) 40 := ⟨⟨by kernel_rfl, by kernel_rfl⟩, rfl, rfl⟩
instance : FA Tryz.prog 268 0 0 := ⟨by kernel_rfl⟩
instance : FT Tryz.prog 268 0 267 0 := ⟨by kernel_rfl⟩
instance : FA Tryz.prog 268 1 1 := ⟨by kernel_rfl⟩
instance : FT Tryz.prog 268 1 111 1 := ⟨by kernel_rfl⟩
instance : FA Tryz.prog 268 2 2 := ⟨by kernel_rfl⟩
instance : FT Tryz.prog 268 2 2 2 := ⟨by kernel_rfl⟩
instance : PLS Tryz.prog 268 [.one (.i .i64 0), .one (.sl 0 none 0 0), .one (.i .i64 0)] := ⟨by kernel_rfl⟩
instance : TyA Tryz.prog 269 true 3 (.agg [.one (.i .i64 0), .one (.sl 0 none 0 0), .one (.i .i64 0)]) 40 := ⟨⟨by kernel_rfl, by kernel_rfl⟩, rfl, rfl⟩
instance : FA Tryz.prog 269 0 0 := ⟨by kernel_rfl⟩
instance : FT Tryz.prog 269 0 267 0 := ⟨by kernel_rfl⟩
instance : FA Tryz.prog 269 1 1 := ⟨by kernel_rfl⟩
instance : FT Tryz.prog 269 1 111 1 := ⟨by kernel_rfl⟩
instance : FA Tryz.prog 269 2 2 := ⟨by kernel_rfl⟩
instance : FT Tryz.prog 269 2 2 2 := ⟨by kernel_rfl⟩
instance : PLS Tryz.prog 269 [.one (.i .i64 0), .one (.sl 0 none 0 0), .one (.i .i64 0)] := ⟨by kernel_rfl⟩
instance : TyA Tryz.prog 270 false 1 (.one (.fnn)) 8 := ⟨⟨by kernel_rfl, by kernel_rfl⟩, rfl, rfl⟩
instance : TyA Tryz.prog 271 false 1 (.one (.fnn)) 8 := ⟨⟨by kernel_rfl, by kernel_rfl⟩, rfl, rfl⟩
instance : TyA Tryz.prog 272 false 1 (.one (.sl 0 none 0 0)) 24 := ⟨⟨by kernel_rfl, by kernel_rfl⟩, rfl, rfl⟩
instance : UD Tryz.prog 272 (.slice 275) := ⟨by kernel_rfl⟩
instance : TyA Tryz.prog 273 false 1 (.one (.i .i64 0)) 8 := ⟨⟨by kernel_rfl, by kernel_rfl⟩, rfl, rfl⟩
instance : UD Tryz.prog 273 (.int .i64) := ⟨by kernel_rfl⟩
instance : TyA Tryz.prog 274 true 3 (.agg [.one (.i .i64 0), .one (.i .i64 0), .one (.i .i64 0)]) 24 := ⟨⟨by kernel_rfl, by kernel_rfl⟩, rfl, rfl⟩
instance : FA Tryz.prog 274 0 0 := ⟨by kernel_rfl⟩
instance : FT Tryz.prog 274 0 27 0 := ⟨by kernel_rfl⟩
instance : FA Tryz.prog 274 1 1 := ⟨by kernel_rfl⟩
instance : FT Tryz.prog 274 1 273 1 := ⟨by kernel_rfl⟩
instance : FA Tryz.prog 274 2 2 := ⟨by kernel_rfl⟩
instance : FT Tryz.prog 274 2 35 2 := ⟨by kernel_rfl⟩
instance : PLS Tryz.prog 274 [.one (.i .i64 0), .one (.i .i64 0), .one (.i .i64 0)] := ⟨by kernel_rfl⟩
instance : TyA Tryz.prog 275 true 3 (.agg [.one (.i .i64 0), .one (.i .i64 0), .one (.i .i64 0)]) 24 := ⟨⟨by kernel_rfl, by kernel_rfl⟩, rfl, rfl⟩
instance : FA Tryz.prog 275 0 0 := ⟨by kernel_rfl⟩
instance : FT Tryz.prog 275 0 27 0 := ⟨by kernel_rfl⟩
instance : FA Tryz.prog 275 1 1 := ⟨by kernel_rfl⟩
instance : FT Tryz.prog 275 1 273 1 := ⟨by kernel_rfl⟩
instance : FA Tryz.prog 275 2 2 := ⟨by kernel_rfl⟩
instance : FT Tryz.prog 275 2 35 2 := ⟨by kernel_rfl⟩
instance : PLS Tryz.prog 275 [.one (.i .i64 0), .one (.i .i64 0), .one (.i .i64 0)] := ⟨by kernel_rfl⟩
instance : TyA Tryz.prog 276 false 1 (.one (.fnn)) 8 := ⟨⟨by kernel_rfl, by kernel_rfl⟩, rfl, rfl⟩
instance : TyA Tryz.prog 277 false 1 (.one (.fnn)) 8 := ⟨⟨by kernel_rfl, by kernel_rfl⟩, rfl, rfl⟩
instance : TyA Tryz.prog 278 false 1 (.one (.fnn)) 8 := ⟨⟨by kernel_rfl, by kernel_rfl⟩, rfl, rfl⟩
instance : TyA Tryz.prog 279 false 1 (.one (.fnn)) 8 := ⟨⟨by kernel_rfl, by kernel_rfl⟩, rfl, rfl⟩
instance : TyA Tryz.prog 280 false 1 (.one (.fnn)) 8 := ⟨⟨by kernel_rfl, by kernel_rfl⟩, rfl, rfl⟩
instance : TyA Tryz.prog 281 false 1 (.one (.fnn)) 8 := ⟨⟨by kernel_rfl, by kernel_rfl⟩, rfl, rfl⟩
instance : TyA Tryz.prog 282 false 1 (.one (.fnn)) 8 := ⟨⟨by kernel_rfl, by kernel_rfl⟩, rfl, rfl⟩
instance : TyA Tryz.prog 283 false 1 (.one (.fnn)) 8 := ⟨⟨by kernel_rfl, by kernel_rfl⟩, rfl, rfl⟩
instance : TyA Tryz.prog 284 false 1 (.one (.fnn)) 8 := ⟨⟨by kernel_rfl, by kernel_rfl⟩, rfl, rfl⟩
instance : TyA Tryz.prog 285 false 1 (.one (.fnn)) 8 := ⟨⟨by kernel_rfl, by kernel_rfl⟩, rfl, rfl⟩
instance : TyA Tryz.prog 286 false 1 (.one (.fnn)) 8 := ⟨⟨by kernel_rfl, by kernel_rfl⟩, rfl, rfl⟩
instance : TyA Tryz.prog 287 false 1 (.one (.fnn)) 8 := ⟨⟨by kernel_rfl, by kernel_rfl⟩, rfl, rfl⟩
instance : TyA Tryz.prog 288 false 1 (.one (.fnn)) 8 := ⟨⟨by kernel_rfl, by kernel_rfl⟩, rfl, rfl⟩
instance : TyA Tryz.prog 289 false 1 (.one (.fnn)) 8 := ⟨⟨by kernel_rfl, by kernel_rfl⟩, rfl, rfl⟩
instance : TyA Tryz.prog 290 false 1 (.one (.fnn)) 8 := ⟨⟨by kernel_rfl, by kernel_rfl⟩, rfl, rfl⟩
instance : TyA Tryz.prog 291 false 1 (.one (.fnn)) 8 := ⟨⟨by kernel_rfl, by kernel_rfl⟩, rfl, rfl⟩
instance : TyA Tryz.prog 292 false 1 (.one (.fnn)) 8 := ⟨⟨by kernel_rfl, by kernel_rfl⟩, rfl, rfl⟩
instance : TyA Tryz.prog 293 false 1 (.one (.fnn)) 8 := ⟨⟨by kernel_rfl, by kernel_rfl⟩, rfl, rfl⟩
instance : TyA Tryz.prog 294 false 1 (.one (.fnn)) 8 := ⟨⟨by kernel_rfl, by kernel_rfl⟩, rfl, rfl⟩
instance : TyA Tryz.prog 295 false 1 (.one (.i .i64 0)) 8 := ⟨⟨by kernel_rfl, by kernel_rfl⟩, rfl, rfl⟩
instance : UD Tryz.prog 295 (.int .i64) := ⟨by kernel_rfl⟩
instance : TyA Tryz.prog 297 false 1 (.one (.fnn)) 8 := ⟨⟨by kernel_rfl, by kernel_rfl⟩, rfl, rfl⟩
instance : TyA Tryz.prog 298 false 1 (.one (.fnn)) 8 := ⟨⟨by kernel_rfl, by kernel_rfl⟩, rfl, rfl⟩
instance : TyA Tryz.prog 299 false 1 (.one (.fnn)) 8 := ⟨⟨by kernel_rfl, by kernel_rfl⟩, rfl, rfl⟩
instance : TyA Tryz.prog 301 false 1 (.one (.fnn)) 8 := ⟨⟨by kernel_rfl, by kernel_rfl⟩, rfl, rfl⟩
instance : TyA Tryz.prog 302 false 1 (.one (.fnn)) 8 := ⟨⟨by kernel_rfl, by kernel_rfl⟩, rfl, rfl⟩
instance : TyA Tryz.prog 303 false 1 (.one (.fnn)) 8 := ⟨⟨by kernel_rfl, by kernel_rfl⟩, rfl, rfl⟩
instance : TyA Tryz.prog 304 false 1 (.one (.i .u64 0)) 8 := ⟨⟨by kernel_rfl, by kernel_rfl⟩, rfl, rfl⟩
instance : UD Tryz.prog 304 (.int .u64) := ⟨by kernel_rfl⟩
instance : TyA Tryz.prog 305 false 1 (.one (.fnn)) 8 := ⟨⟨by kernel_rfl, by kernel_rfl⟩, rfl, rfl⟩
instance : TyA Tryz.prog 306 false 1 (.one (.fnn)) 8 := ⟨⟨by kernel_rfl, by kernel_rfl⟩, rfl, rfl⟩
instance : TyA Tryz.prog 307 false 1 (.one (.fnn)) 8 := ⟨⟨by kernel_rfl, by kernel_rfl⟩, rfl, rfl⟩
instance : TyA Tryz.prog 308 false 1 (.one (.pn)) 8 := ⟨⟨by kernel_rfl, by kernel_rfl⟩, rfl, rfl⟩
instance : UD Tryz.prog 308 (.pointer 3) := ⟨by kernel_rfl⟩
instance : TyA Tryz.prog 309 false 1 (.one (.fnn)) 8 := ⟨⟨by kernel_rfl, by kernel_rfl⟩, rfl, rfl⟩
instance : TyA Tryz.prog 310 false 1 (.one (.pn)) 8 := ⟨⟨by kernel_rfl, by kernel_rfl⟩, rfl, rfl⟩
instance : UD Tryz.prog 310 (.pointer 304) := ⟨by kernel_rfl⟩
instance : TyA Tryz.prog 312 false 1 (.one (.fnn)) 8 := ⟨⟨by kernel_rfl, by kernel_rfl⟩, rfl, rfl⟩
instance : TyA Tryz.prog 313 false 1 (.one (.fnn)) 8 := ⟨⟨by kernel_rfl, by kernel_rfl⟩, rfl, rfl⟩
instance : TyA Tryz.prog 314 true 4 (.agg [.one (.pn), .one (.pn), .one (.pn), .one (.s ⟨#[]⟩)]) 40 := ⟨⟨by kernel_rfl, by kernel_rfl⟩, rfl, rfl⟩
instance : FA Tryz.prog 314 0 0 := ⟨by kernel_rfl⟩
instance : FT Tryz.prog 314 0 17 0 := ⟨by kernel_rfl⟩
instance : FA Tryz.prog 314 1 1 := ⟨by kernel_rfl⟩
instance : FT Tryz.prog 314 1 17 1 := ⟨by kernel_rfl⟩
instance : FA Tryz.prog 314 2 2 := ⟨by kernel_rfl⟩
instance : FT Tryz.prog 314 2 17 2 := ⟨by kernel_rfl⟩
instance : FA Tryz.prog 314 3 3 := ⟨by kernel_rfl⟩
instance : FT Tryz.prog 314 3 9 3 := ⟨by kernel_rfl⟩
instance : PLS Tryz.prog 314 [.one (.pn), .one (.pn), .one (.pn), .one (.s ⟨#[]⟩)] := ⟨by kernel_rfl⟩
instance : TyA Tryz.prog 315 true 4 (.agg [.one (.pn), .one (.pn), .one (.pn), .one (.s ⟨#[]⟩)]) 40 := ⟨⟨by kernel_rfl, by kernel_rfl⟩, rfl, rfl⟩
instance : FA Tryz.prog 315 0 0 := ⟨by kernel_rfl⟩
instance : FT Tryz.prog 315 0 17 0 := ⟨by kernel_rfl⟩
instance : FA Tryz.prog 315 1 1 := ⟨by kernel_rfl⟩
instance : FT Tryz.prog 315 1 17 1 := ⟨by kernel_rfl⟩
instance : FA Tryz.prog 315 2 2 := ⟨by kernel_rfl⟩
instance : FT Tryz.prog 315 2 17 2 := ⟨by kernel_rfl⟩
instance : FA Tryz.prog 315 3 3 := ⟨by kernel_rfl⟩
instance : FT Tryz.prog 315 3 9 3 := ⟨by kernel_rfl⟩
instance : PLS Tryz.prog 315 [.one (.pn), .one (.pn), .one (.pn), .one (.s ⟨#[]⟩)] := ⟨by kernel_rfl⟩
instance : UD Tryz.prog 316 (.array 0 16) := ⟨by kernel_rfl⟩
instance : TyA Tryz.prog 317 true 0 (.agg []) 0 := ⟨⟨by kernel_rfl, by kernel_rfl⟩, rfl, rfl⟩
instance : PLS Tryz.prog 317 [.agg []] := ⟨by kernel_rfl⟩
instance : TyA Tryz.prog 318 true 0 (.agg []) 0 := ⟨⟨by kernel_rfl, by kernel_rfl⟩, rfl, rfl⟩
instance : PLS Tryz.prog 318 [.agg []] := ⟨by kernel_rfl⟩
instance : TyA Tryz.prog 319 false 1 (.one (.fnn)) 8 := ⟨⟨by kernel_rfl, by kernel_rfl⟩, rfl, rfl⟩
instance : TyA Tryz.prog 320 false 1 (.one (.i .u8 0)) 1 := ⟨⟨by kernel_rfl, by kernel_rfl⟩, rfl, rfl⟩
instance : UD Tryz.prog 320 (.int .u8) := ⟨by kernel_rfl⟩
instance : TyA Tryz.prog 321 false 1 (.one (.i .u8 0)) 1 := ⟨⟨by kernel_rfl, by kernel_rfl⟩, rfl, rfl⟩
instance : UD Tryz.prog 321 (.int .u8) := ⟨by kernel_rfl⟩
instance : TyA Tryz.prog 322 false 1 (.one (.fnn)) 8 := ⟨⟨by kernel_rfl, by kernel_rfl⟩, rfl, rfl⟩
instance : TyA Tryz.prog 323 false 1 (.one (.pn)) 8 := ⟨⟨by kernel_rfl, by kernel_rfl⟩, rfl, rfl⟩
instance : UD Tryz.prog 323 (.pointer 5) := ⟨by kernel_rfl⟩
instance : TyA Tryz.prog 324 false 1 (.one (.i .i32 0)) 4 := ⟨⟨by kernel_rfl, by kernel_rfl⟩, rfl, rfl⟩
instance : UD Tryz.prog 324 (.int .i32) := ⟨by kernel_rfl⟩
instance : TyA Tryz.prog 325 false 1 (.one (.i .i32 0)) 4 := ⟨⟨by kernel_rfl, by kernel_rfl⟩, rfl, rfl⟩
instance : UD Tryz.prog 325 (.int .i32) := ⟨by kernel_rfl⟩
instance : TyA Tryz.prog 326 true 11 (.agg [.one (.i .u64 0), .one (.i .u64 0), .one (.i .u32 0), .one (.i .u8 0), .one (.i .u8 0), .one (.i .u8 0), .one (.i .u8 0), .one (.fnn), .one (.pn), .one (.i .i32 0), .one (.i .i32 0)]) 48 := ⟨⟨by kernel_rfl, by kernel_rfl⟩, rfl, rfl⟩
instance : FA Tryz.prog 326 0 0 := ⟨by kernel_rfl⟩
instance : FT Tryz.prog 326 0 12 0 := ⟨by kernel_rfl⟩
instance : FA Tryz.prog 326 1 1 := ⟨by kernel_rfl⟩
instance : FT Tryz.prog 326 1 12 1 := ⟨by kernel_rfl⟩
instance : FA Tryz.prog 326 2 2 := ⟨by kernel_rfl⟩
instance : FT Tryz.prog 326 2 151 2 := ⟨by kernel_rfl⟩
instance : FA Tryz.prog 326 3 3 := ⟨by kernel_rfl⟩
instance : FT Tryz.prog 326 3 320 3 := ⟨by kernel_rfl⟩
instance : FA Tryz.prog 326 4 4 := ⟨by kernel_rfl⟩
instance : FT Tryz.prog 326 4 5 4 := ⟨by kernel_rfl⟩
instance : FA Tryz.prog 326 5 5 := ⟨by kernel_rfl⟩
instance : FT Tryz.prog 326 5 5 5 := ⟨by kernel_rfl⟩
instance : FA Tryz.prog 326 6 6 := ⟨by kernel_rfl⟩
instance : FT Tryz.prog 326 6 321 6 := ⟨by kernel_rfl⟩
instance : FA Tryz.prog 326 7 7 := ⟨by kernel_rfl⟩
instance : FT Tryz.prog 326 7 322 7 := ⟨by kernel_rfl⟩
instance : FA Tryz.prog 326 8 8 := ⟨by kernel_rfl⟩
instance : FT Tryz.prog 326 8 323 8 := ⟨by kernel_rfl⟩
instance : FA Tryz.prog 326 9 9 := ⟨by kernel_rfl⟩
instance : FT Tryz.prog 326 9 324 9 := ⟨by kernel_rfl⟩
instance : FA Tryz.prog 326 10 10 := ⟨by kernel_rfl⟩
instance : FT Tryz.prog 326 10 325 10 := ⟨by kernel_rfl⟩
instance : PLS Tryz.prog 326 [.one (.i .u64 0), .one (.i .u64 0), .one (.i .u32 0), .one (.i .u8 0), .one (.i .u8 0), .one (.i .u8 0), .one (.i .u8 0), .one (.fnn), .one (.pn), .one (.i .i32 0), .one (.i .i32 0)] := ⟨by kernel_rfl⟩
instance : TyA Tryz.prog 327 true 11 (.agg [.one (.i .u64 0), .one (.i .u64 0), .one (.i .u32 0), .one (.i .u8 0), .one (.i .u8 0), .one (.i .u8 0), .one (.i .u8 0), .one (.fnn), .one (.pn), .one (.i .i32 0), .one (.i .i32 0)]) 48 := ⟨⟨by kernel_rfl, by kernel_rfl⟩, rfl, rfl⟩
instance : FA Tryz.prog 327 0 0 := ⟨by kernel_rfl⟩
instance : FT Tryz.prog 327 0 12 0 := ⟨by kernel_rfl⟩
instance : FA Tryz.prog 327 1 1 := ⟨by kernel_rfl⟩
instance : FT Tryz.prog 327 1 12 1 := ⟨by kernel_rfl⟩
instance : FA Tryz.prog 327 2 2 := ⟨by kernel_rfl⟩
instance : FT Tryz.prog 327 2 151 2 := ⟨by kernel_rfl⟩
instance : FA Tryz.prog 327 3 3 := ⟨by kernel_rfl⟩
instance : FT Tryz.prog 327 3 320 3 := ⟨by kernel_rfl⟩
instance : FA Tryz.prog 327 4 4 := ⟨by kernel_rfl⟩
instance : FT Tryz.prog 327 4 5 4 := ⟨by kernel_rfl⟩
instance : FA Tryz.prog 327 5 5 := ⟨by kernel_rfl⟩
instance : FT Tryz.prog 327 5 5 5 := ⟨by kernel_rfl⟩
instance : FA Tryz.prog 327 6 6 := ⟨by kernel_rfl⟩
instance : FT Tryz.prog 327 6 321 6 := ⟨by kernel_rfl⟩
instance : FA Tryz.prog 327 7 7 := ⟨by kernel_rfl⟩
instance : FT Tryz.prog 327 7 322 7 := ⟨by kernel_rfl⟩
instance : FA Tryz.prog 327 8 8 := ⟨by kernel_rfl⟩
instance : FT Tryz.prog 327 8 323 8 := ⟨by kernel_rfl⟩
instance : FA Tryz.prog 327 9 9 := ⟨by kernel_rfl⟩
instance : FT Tryz.prog 327 9 324 9 := ⟨by kernel_rfl⟩
instance : FA Tryz.prog 327 10 10 := ⟨by kernel_rfl⟩
instance : FT Tryz.prog 327 10 325 10 := ⟨by kernel_rfl⟩
instance : PLS Tryz.prog 327 [.one (.i .u64 0), .one (.i .u64 0), .one (.i .u32 0), .one (.i .u8 0), .one (.i .u8 0), .one (.i .u8 0), .one (.i .u8 0), .one (.fnn), .one (.pn), .one (.i .i32 0), .one (.i .i32 0)] := ⟨by kernel_rfl⟩
end Go.Proofs.YtonbgcehgmpnkaaGreat
/- What is known of this seat's types: closed facts, printed by my own facts.py. -/



namespace Go.Proofs.YtonbgcehgmpnkaaGreat
open Go HL
set_option maxRecDepth 100000
theorem ty2 : TyIs Tryz.prog 2 false 1 (.int .i64 0) 8 := ⟨by kernel_rfl, by kernel_rfl⟩
theorem ty3 : TyIs Tryz.prog 3 false 1 (.int .i64 0) 8 := ⟨by kernel_rfl, by kernel_rfl⟩
theorem ty4 : TyIs Tryz.prog 4 false 1 (.bool false) 1 := ⟨by kernel_rfl, by kernel_rfl⟩
theorem ty5 : TyIs Tryz.prog 5 false 1 (.int .u8 0) 1 := ⟨by kernel_rfl, by kernel_rfl⟩
theorem ty6 : TyIs Tryz.prog 6 false 1 (.int .u8 0) 1 := ⟨by kernel_rfl, by kernel_rfl⟩
theorem ty7 : TyIs Tryz.prog 7 true 4 (mkS [.int .i64 0, .int .i64 0, .bool false, .int .u8 0]) 24 := ⟨by kernel_rfl, by kernel_rfl⟩
theorem pl7 : structPlaces Tryz.prog 7 = some (placesOf [.int .i64 0, .int .i64 0, .bool false, .int .u8 0] 0) := by kernel_rfl
theorem fa7_0 : fieldFact Tryz.prog 7 0 = some 0 := by kernel_rfl
theorem ft7_0 : fieldTy Tryz.prog 7 0 = some (2, 0) := by kernel_rfl
theorem fa7_1 : fieldFact Tryz.prog 7 1 = some 1 := by kernel_rfl
theorem ft7_1 : fieldTy Tryz.prog 7 1 = some (3, 1) := by kernel_rfl
theorem fa7_2 : fieldFact Tryz.prog 7 2 = some 2 := by kernel_rfl
theorem ft7_2 : fieldTy Tryz.prog 7 2 = some (4, 2) := by kernel_rfl
theorem fa7_3 : fieldFact Tryz.prog 7 3 = some 3 := by kernel_rfl
theorem ft7_3 : fieldTy Tryz.prog 7 3 = some (6, 3) := by kernel_rfl
theorem eg7 : Tryz.prog.eqGuardType Tryz.prog.depth 7 = false := by kernel_rfl
theorem ty8 : TyIs Tryz.prog 8 true 4 (mkS [.int .i64 0, .int .i64 0, .bool false, .int .u8 0]) 24 := ⟨by kernel_rfl, by kernel_rfl⟩
theorem pl8 : structPlaces Tryz.prog 8 = some (placesOf [.int .i64 0, .int .i64 0, .bool false, .int .u8 0] 0) := by kernel_rfl
theorem fa8_0 : fieldFact Tryz.prog 8 0 = some 0 := by kernel_rfl
theorem ft8_0 : fieldTy Tryz.prog 8 0 = some (2, 0) := by kernel_rfl
theorem fa8_1 : fieldFact Tryz.prog 8 1 = some 1 := by kernel_rfl
theorem ft8_1 : fieldTy Tryz.prog 8 1 = some (3, 1) := by kernel_rfl
theorem fa8_2 : fieldFact Tryz.prog 8 2 = some 2 := by kernel_rfl
theorem ft8_2 : fieldTy Tryz.prog 8 2 = some (4, 2) := by kernel_rfl
theorem fa8_3 : fieldFact Tryz.prog 8 3 = some 3 := by kernel_rfl
theorem ft8_3 : fieldTy Tryz.prog 8 3 = some (6, 3) := by kernel_rfl
theorem eg8 : Tryz.prog.eqGuardType Tryz.prog.depth 8 = false := by kernel_rfl
theorem ty9 : TyIs Tryz.prog 9 false 1 (.string ⟨#[]⟩) 16 := ⟨by kernel_rfl, by kernel_rfl⟩
theorem ty10 : TyIs Tryz.prog 10 false 1 (.string ⟨#[]⟩) 16 := ⟨by kernel_rfl, by kernel_rfl⟩
theorem ty11 : TyIs Tryz.prog 11 false 1 (.string ⟨#[]⟩) 16 := ⟨by kernel_rfl, by kernel_rfl⟩
theorem ty12 : TyIs Tryz.prog 12 false 1 (.int .u64 0) 8 := ⟨by kernel_rfl, by kernel_rfl⟩
theorem ty13 : TyIs Tryz.prog 13 true 2 (mkS [.string ⟨#[]⟩, .int .u64 0]) 24 := ⟨by kernel_rfl, by kernel_rfl⟩
theorem pl13 : structPlaces Tryz.prog 13 = some (placesOf [.string ⟨#[]⟩, .int .u64 0] 0) := by kernel_rfl
theorem fa13_0 : fieldFact Tryz.prog 13 0 = some 0 := by kernel_rfl
theorem ft13_0 : fieldTy Tryz.prog 13 0 = some (9, 0) := by kernel_rfl
theorem fa13_1 : fieldFact Tryz.prog 13 1 = some 1 := by kernel_rfl
theorem ft13_1 : fieldTy Tryz.prog 13 1 = some (12, 1) := by kernel_rfl
theorem eg13 : Tryz.prog.eqGuardType Tryz.prog.depth 13 = false := by kernel_rfl
theorem ty14 : TyIs Tryz.prog 14 true 2 (mkS [.string ⟨#[]⟩, .int .u64 0]) 24 := ⟨by kernel_rfl, by kernel_rfl⟩
theorem pl14 : structPlaces Tryz.prog 14 = some (placesOf [.string ⟨#[]⟩, .int .u64 0] 0) := by kernel_rfl
theorem fa14_0 : fieldFact Tryz.prog 14 0 = some 0 := by kernel_rfl
theorem ft14_0 : fieldTy Tryz.prog 14 0 = some (9, 0) := by kernel_rfl
theorem fa14_1 : fieldFact Tryz.prog 14 1 = some 1 := by kernel_rfl
theorem ft14_1 : fieldTy Tryz.prog 14 1 = some (12, 1) := by kernel_rfl
theorem eg14 : Tryz.prog.eqGuardType Tryz.prog.depth 14 = false := by kernel_rfl
theorem ty15 : TyIs Tryz.prog 15 false 1 (.pointer none) 8 := ⟨by kernel_rfl, by kernel_rfl⟩
theorem ty16 : TyIs Tryz.prog 16 false 1 (.pointer none) 8 := ⟨by kernel_rfl, by kernel_rfl⟩
theorem ty17 : TyIs Tryz.prog 17 false 1 (.pointer none) 8 := ⟨by kernel_rfl, by kernel_rfl⟩
theorem ty18 : TyIs Tryz.prog 18 true 1 (mkS [.pointer none]) 8 := ⟨by kernel_rfl, by kernel_rfl⟩
theorem pl18 : structPlaces Tryz.prog 18 = some (placesOf [.pointer none] 0) := by kernel_rfl
theorem fa18_0 : fieldFact Tryz.prog 18 0 = some 0 := by kernel_rfl
theorem ft18_0 : fieldTy Tryz.prog 18 0 = some (17, 0) := by kernel_rfl
theorem eg18 : Tryz.prog.eqGuardType Tryz.prog.depth 18 = false := by kernel_rfl
theorem ty19 : TyIs Tryz.prog 19 true 1 (mkS [.pointer none]) 8 := ⟨by kernel_rfl, by kernel_rfl⟩
theorem pl19 : structPlaces Tryz.prog 19 = some (placesOf [.pointer none] 0) := by kernel_rfl
theorem fa19_0 : fieldFact Tryz.prog 19 0 = some 0 := by kernel_rfl
theorem ft19_0 : fieldTy Tryz.prog 19 0 = some (17, 0) := by kernel_rfl
theorem eg19 : Tryz.prog.eqGuardType Tryz.prog.depth 19 = false := by kernel_rfl
theorem ty20 : TyIs Tryz.prog 20 false 1 (.nilIface) 16 := ⟨by kernel_rfl, by kernel_rfl⟩
theorem ty21 : TyIs Tryz.prog 21 false 1 (.int .i32 0) 4 := ⟨by kernel_rfl, by kernel_rfl⟩
theorem ty22 : TyIs Tryz.prog 22 true 32 (hval hz) 32 := ⟨by kernel_rfl, by kernel_rfl⟩
theorem ek22 : KeyTy Tryz.prog 22 hval 2 := keyTy_hash Tryz.underlying22 Tryz.underlying5 ty5
theorem eg22 : Tryz.prog.eqGuardType Tryz.prog.depth 22 = false := by kernel_rfl
theorem ty23 : TyIs Tryz.prog 23 true 32 (hval hz) 32 := ⟨by kernel_rfl, by kernel_rfl⟩
theorem ek23 : KeyTy Tryz.prog 23 hval 2 := keyTy_hash Tryz.underlying23 Tryz.underlying5 ty5
theorem eg23 : Tryz.prog.eqGuardType Tryz.prog.depth 23 = false := by kernel_rfl
theorem ty24 : TyIs Tryz.prog 24 false 1 (.slice none 0 0) 24 := ⟨by kernel_rfl, by kernel_rfl⟩
theorem ty26 : TyIs Tryz.prog 26 false 1 (.pointer none) 8 := ⟨by kernel_rfl, by kernel_rfl⟩
theorem ty27 : TyIs Tryz.prog 27 false 1 (.int .i64 0) 8 := ⟨by kernel_rfl, by kernel_rfl⟩
theorem ty30 : TyIs Tryz.prog 30 false 1 (.pointer none) 8 := ⟨by kernel_rfl, by kernel_rfl⟩
theorem ty33 : TyIs Tryz.prog 33 false 1 (.slice none 0 0) 24 := ⟨by kernel_rfl, by kernel_rfl⟩
theorem ty35 : TyIs Tryz.prog 35 false 1 (.int .i64 0) 8 := ⟨by kernel_rfl, by kernel_rfl⟩
theorem ty36 : TyIs Tryz.prog 36 true 66 (mkS [hval hz, hval hz, .int .i64 0, .int .i64 0]) 80 := ⟨by kernel_rfl, by kernel_rfl⟩
theorem pl36 : structPlaces Tryz.prog 36 = some (placesOf [hval hz, hval hz, .int .i64 0, .int .i64 0] 0) := by kernel_rfl
theorem fa36_0 : fieldFact Tryz.prog 36 0 = some 0 := by kernel_rfl
theorem ft36_0 : fieldTy Tryz.prog 36 0 = some (23, 0) := by kernel_rfl
theorem fa36_1 : fieldFact Tryz.prog 36 1 = some 32 := by kernel_rfl
theorem ft36_1 : fieldTy Tryz.prog 36 1 = some (23, 32) := by kernel_rfl
theorem fa36_2 : fieldFact Tryz.prog 36 2 = some 64 := by kernel_rfl
theorem ft36_2 : fieldTy Tryz.prog 36 2 = some (3, 64) := by kernel_rfl
theorem fa36_3 : fieldFact Tryz.prog 36 3 = some 65 := by kernel_rfl
theorem ft36_3 : fieldTy Tryz.prog 36 3 = some (35, 65) := by kernel_rfl
theorem eg36 : Tryz.prog.eqGuardType Tryz.prog.depth 36 = false := by kernel_rfl
theorem ty37 : TyIs Tryz.prog 37 true 66 (mkS [hval hz, hval hz, .int .i64 0, .int .i64 0]) 80 := ⟨by kernel_rfl, by kernel_rfl⟩
theorem pl37 : structPlaces Tryz.prog 37 = some (placesOf [hval hz, hval hz, .int .i64 0, .int .i64 0] 0) := by kernel_rfl
theorem fa37_0 : fieldFact Tryz.prog 37 0 = some 0 := by kernel_rfl
theorem ft37_0 : fieldTy Tryz.prog 37 0 = some (23, 0) := by kernel_rfl
theorem fa37_1 : fieldFact Tryz.prog 37 1 = some 32 := by kernel_rfl
theorem ft37_1 : fieldTy Tryz.prog 37 1 = some (23, 32) := by kernel_rfl
theorem fa37_2 : fieldFact Tryz.prog 37 2 = some 64 := by kernel_rfl
theorem ft37_2 : fieldTy Tryz.prog 37 2 = some (3, 64) := by kernel_rfl
theorem fa37_3 : fieldFact Tryz.prog 37 3 = some 65 := by kernel_rfl
theorem ft37_3 : fieldTy Tryz.prog 37 3 = some (35, 65) := by kernel_rfl
theorem eg37 : Tryz.prog.eqGuardType Tryz.prog.depth 37 = false := by kernel_rfl
theorem ty42 : TyIs Tryz.prog 42 false 1 (.slice none 0 0) 24 := ⟨by kernel_rfl, by kernel_rfl⟩
theorem ty44 : TyIs Tryz.prog 44 false 1 (.int .u64 0) 8 := ⟨by kernel_rfl, by kernel_rfl⟩
theorem ty47 : TyIs Tryz.prog 47 false 1 (.slice none 0 0) 24 := ⟨by kernel_rfl, by kernel_rfl⟩
theorem ty51 : TyIs Tryz.prog 51 false 1 (.map none) 8 := ⟨by kernel_rfl, by kernel_rfl⟩
theorem ty52 : TyIs Tryz.prog 52 false 1 (.map none) 8 := ⟨by kernel_rfl, by kernel_rfl⟩
theorem ty53 : TyIs Tryz.prog 53 true 2 (mkS [.map none, .map none]) 16 := ⟨by kernel_rfl, by kernel_rfl⟩
theorem pl53 : structPlaces Tryz.prog 53 = some (placesOf [.map none, .map none] 0) := by kernel_rfl
theorem fa53_0 : fieldFact Tryz.prog 53 0 = some 0 := by kernel_rfl
theorem ft53_0 : fieldTy Tryz.prog 53 0 = some (51, 0) := by kernel_rfl
theorem fa53_1 : fieldFact Tryz.prog 53 1 = some 1 := by kernel_rfl
theorem ft53_1 : fieldTy Tryz.prog 53 1 = some (52, 1) := by kernel_rfl
theorem eg53 : Tryz.prog.eqGuardType Tryz.prog.depth 53 = false := by kernel_rfl
theorem ty54 : TyIs Tryz.prog 54 true 2 (mkS [.map none, .map none]) 16 := ⟨by kernel_rfl, by kernel_rfl⟩
theorem pl54 : structPlaces Tryz.prog 54 = some (placesOf [.map none, .map none] 0) := by kernel_rfl
theorem fa54_0 : fieldFact Tryz.prog 54 0 = some 0 := by kernel_rfl
theorem ft54_0 : fieldTy Tryz.prog 54 0 = some (51, 0) := by kernel_rfl
theorem fa54_1 : fieldFact Tryz.prog 54 1 = some 1 := by kernel_rfl
theorem ft54_1 : fieldTy Tryz.prog 54 1 = some (52, 1) := by kernel_rfl
theorem eg54 : Tryz.prog.eqGuardType Tryz.prog.depth 54 = false := by kernel_rfl
theorem ty55 : TyIs Tryz.prog 55 true 35 (mkS [mkS [.map none, .map none], hval hz, .int .i64 0]) 56 := ⟨by kernel_rfl, by kernel_rfl⟩
theorem pl55 : structPlaces Tryz.prog 55 = some (placesOf [mkS [.map none, .map none], hval hz, .int .i64 0] 0) := by kernel_rfl
theorem fa55_0 : fieldFact Tryz.prog 55 0 = some 0 := by kernel_rfl
theorem ft55_0 : fieldTy Tryz.prog 55 0 = some (54, 0) := by kernel_rfl
theorem fa55_1 : fieldFact Tryz.prog 55 1 = some 2 := by kernel_rfl
theorem ft55_1 : fieldTy Tryz.prog 55 1 = some (23, 2) := by kernel_rfl
theorem fa55_2 : fieldFact Tryz.prog 55 2 = some 34 := by kernel_rfl
theorem ft55_2 : fieldTy Tryz.prog 55 2 = some (3, 34) := by kernel_rfl
theorem eg55 : Tryz.prog.eqGuardType Tryz.prog.depth 55 = false := by kernel_rfl
theorem ty56 : TyIs Tryz.prog 56 true 35 (mkS [mkS [.map none, .map none], hval hz, .int .i64 0]) 56 := ⟨by kernel_rfl, by kernel_rfl⟩
theorem pl56 : structPlaces Tryz.prog 56 = some (placesOf [mkS [.map none, .map none], hval hz, .int .i64 0] 0) := by kernel_rfl
theorem fa56_0 : fieldFact Tryz.prog 56 0 = some 0 := by kernel_rfl
theorem ft56_0 : fieldTy Tryz.prog 56 0 = some (54, 0) := by kernel_rfl
theorem fa56_1 : fieldFact Tryz.prog 56 1 = some 2 := by kernel_rfl
theorem ft56_1 : fieldTy Tryz.prog 56 1 = some (23, 2) := by kernel_rfl
theorem fa56_2 : fieldFact Tryz.prog 56 2 = some 34 := by kernel_rfl
theorem ft56_2 : fieldTy Tryz.prog 56 2 = some (3, 34) := by kernel_rfl
theorem eg56 : Tryz.prog.eqGuardType Tryz.prog.depth 56 = false := by kernel_rfl
theorem ty59 : TyIs Tryz.prog 59 true 66 (mkS [hval hz, hval hz, .int .i64 0, .int .i64 0]) 80 := ⟨by kernel_rfl, by kernel_rfl⟩
theorem pl59 : structPlaces Tryz.prog 59 = some (placesOf [hval hz, hval hz, .int .i64 0, .int .i64 0] 0) := by kernel_rfl
theorem fa59_0 : fieldFact Tryz.prog 59 0 = some 0 := by kernel_rfl
theorem ft59_0 : fieldTy Tryz.prog 59 0 = some (23, 0) := by kernel_rfl
theorem fa59_1 : fieldFact Tryz.prog 59 1 = some 32 := by kernel_rfl
theorem ft59_1 : fieldTy Tryz.prog 59 1 = some (23, 32) := by kernel_rfl
theorem fa59_2 : fieldFact Tryz.prog 59 2 = some 64 := by kernel_rfl
theorem ft59_2 : fieldTy Tryz.prog 59 2 = some (3, 64) := by kernel_rfl
theorem fa59_3 : fieldFact Tryz.prog 59 3 = some 65 := by kernel_rfl
theorem ft59_3 : fieldTy Tryz.prog 59 3 = some (35, 65) := by kernel_rfl
theorem eg59 : Tryz.prog.eqGuardType Tryz.prog.depth 59 = false := by kernel_rfl
theorem ty60 : TyIs Tryz.prog 60 true 34 (mkS [hval hz, .int .i64 0, .slice none 0 0]) 64 := ⟨by kernel_rfl, by kernel_rfl⟩
theorem pl60 : structPlaces Tryz.prog 60 = some (placesOf [hval hz, .int .i64 0, .slice none 0 0] 0) := by kernel_rfl
theorem fa60_0 : fieldFact Tryz.prog 60 0 = some 0 := by kernel_rfl
theorem ft60_0 : fieldTy Tryz.prog 60 0 = some (23, 0) := by kernel_rfl
theorem fa60_1 : fieldFact Tryz.prog 60 1 = some 32 := by kernel_rfl
theorem ft60_1 : fieldTy Tryz.prog 60 1 = some (3, 32) := by kernel_rfl
theorem fa60_2 : fieldFact Tryz.prog 60 2 = some 33 := by kernel_rfl
theorem ft60_2 : fieldTy Tryz.prog 60 2 = some (33, 33) := by kernel_rfl
theorem eg60 : Tryz.prog.eqGuardType Tryz.prog.depth 60 = false := by kernel_rfl
theorem ty61 : TyIs Tryz.prog 61 true 34 (mkS [hval hz, .int .i64 0, .slice none 0 0]) 64 := ⟨by kernel_rfl, by kernel_rfl⟩
theorem pl61 : structPlaces Tryz.prog 61 = some (placesOf [hval hz, .int .i64 0, .slice none 0 0] 0) := by kernel_rfl
theorem fa61_0 : fieldFact Tryz.prog 61 0 = some 0 := by kernel_rfl
theorem ft61_0 : fieldTy Tryz.prog 61 0 = some (23, 0) := by kernel_rfl
theorem fa61_1 : fieldFact Tryz.prog 61 1 = some 32 := by kernel_rfl
theorem ft61_1 : fieldTy Tryz.prog 61 1 = some (3, 32) := by kernel_rfl
theorem fa61_2 : fieldFact Tryz.prog 61 2 = some 33 := by kernel_rfl
theorem ft61_2 : fieldTy Tryz.prog 61 2 = some (33, 33) := by kernel_rfl
theorem eg61 : Tryz.prog.eqGuardType Tryz.prog.depth 61 = false := by kernel_rfl
theorem ty67 : TyIs Tryz.prog 67 false 1 (.slice none 0 0) 24 := ⟨by kernel_rfl, by kernel_rfl⟩
theorem ty76 : TyIs Tryz.prog 76 false 1 (.map none) 8 := ⟨by kernel_rfl, by kernel_rfl⟩
theorem ty79 : TyIs Tryz.prog 79 false 1 (.pointer none) 8 := ⟨by kernel_rfl, by kernel_rfl⟩
theorem ty80 : TyIs Tryz.prog 80 false 1 (.slice none 0 0) 24 := ⟨by kernel_rfl, by kernel_rfl⟩
theorem ty81 : TyIs Tryz.prog 81 false 1 (.slice none 0 0) 24 := ⟨by kernel_rfl, by kernel_rfl⟩
theorem ty82 : TyIs Tryz.prog 82 false 1 (.slice none 0 0) 24 := ⟨by kernel_rfl, by kernel_rfl⟩
theorem ty83 : TyIs Tryz.prog 83 false 1 (.slice none 0 0) 24 := ⟨by kernel_rfl, by kernel_rfl⟩
theorem ty84 : TyIs Tryz.prog 84 false 1 (.slice none 0 0) 24 := ⟨by kernel_rfl, by kernel_rfl⟩
theorem ty85 : TyIs Tryz.prog 85 false 1 (.slice none 0 0) 24 := ⟨by kernel_rfl, by kernel_rfl⟩
theorem ty86 : TyIs Tryz.prog 86 false 1 (.slice none 0 0) 24 := ⟨by kernel_rfl, by kernel_rfl⟩
theorem ty87 : TyIs Tryz.prog 87 false 1 (.slice none 0 0) 24 := ⟨by kernel_rfl, by kernel_rfl⟩
theorem ty88 : TyIs Tryz.prog 88 false 1 (.slice none 0 0) 24 := ⟨by kernel_rfl, by kernel_rfl⟩
theorem ty89 : TyIs Tryz.prog 89 false 1 (.slice none 0 0) 24 := ⟨by kernel_rfl, by kernel_rfl⟩
theorem ty90 : TyIs Tryz.prog 90 false 1 (.slice none 0 0) 24 := ⟨by kernel_rfl, by kernel_rfl⟩
theorem ty91 : TyIs Tryz.prog 91 false 1 (.slice none 0 0) 24 := ⟨by kernel_rfl, by kernel_rfl⟩
theorem ty92 : TyIs Tryz.prog 92 false 1 (.slice none 0 0) 24 := ⟨by kernel_rfl, by kernel_rfl⟩
theorem ty93 : TyIs Tryz.prog 93 false 1 (.slice none 0 0) 24 := ⟨by kernel_rfl, by kernel_rfl⟩
theorem ty94 : TyIs Tryz.prog 94 false 1 (.slice none 0 0) 24 := ⟨by kernel_rfl, by kernel_rfl⟩
theorem ty95 : TyIs Tryz.prog 95 false 1 (.slice none 0 0) 24 := ⟨by kernel_rfl, by kernel_rfl⟩
theorem ty96 : TyIs Tryz.prog 96 false 1 (.slice none 0 0) 24 := ⟨by kernel_rfl, by kernel_rfl⟩
theorem ty97 : TyIs Tryz.prog 97 false 1 (.slice none 0 0) 24 := ⟨by kernel_rfl, by kernel_rfl⟩
theorem ty98 : TyIs Tryz.prog 98 false 1 (.slice none 0 0) 24 := ⟨by kernel_rfl, by kernel_rfl⟩
theorem ty99 : TyIs Tryz.prog 99 false 1 (.slice none 0 0) 24 := ⟨by kernel_rfl, by kernel_rfl⟩
theorem ty100 : TyIs Tryz.prog 100 false 1 (.slice none 0 0) 24 := ⟨by kernel_rfl, by kernel_rfl⟩
theorem ty101 : TyIs Tryz.prog 101 false 1 (.slice none 0 0) 24 := ⟨by kernel_rfl, by kernel_rfl⟩
theorem ty102 : TyIs Tryz.prog 102 false 1 (.slice none 0 0) 24 := ⟨by kernel_rfl, by kernel_rfl⟩
theorem ty103 : TyIs Tryz.prog 103 false 1 (.slice none 0 0) 24 := ⟨by kernel_rfl, by kernel_rfl⟩
theorem ty104 : TyIs Tryz.prog 104 false 1 (.slice none 0 0) 24 := ⟨by kernel_rfl, by kernel_rfl⟩
theorem ty105 : TyIs Tryz.prog 105 false 1 (.slice none 0 0) 24 := ⟨by kernel_rfl, by kernel_rfl⟩
theorem ty106 : TyIs Tryz.prog 106 false 1 (.slice none 0 0) 24 := ⟨by kernel_rfl, by kernel_rfl⟩
theorem ty107 : TyIs Tryz.prog 107 false 1 (.slice none 0 0) 24 := ⟨by kernel_rfl, by kernel_rfl⟩
theorem ty108 : TyIs Tryz.prog 108 true 29 (mkS [.slice none 0 0, .slice none 0 0, .slice none 0 0, .slice none 0 0, .slice none 0 0, .slice none 0 0, .slice none 0 0, .slice none 0 0, .slice none 0 0, .slice none 0 0, .slice none 0 0, .slice none 0 0, .slice none 0 0, .slice none 0 0, .slice none 0 0, .slice none 0 0, .slice none 0 0, .slice none 0 0, .slice none 0 0, .slice none 0 0, .slice none 0 0, .slice none 0 0, .slice none 0 0, .slice none 0 0, .slice none 0 0, .slice none 0 0, .slice none 0 0, .slice none 0 0, .slice none 0 0]) 696 := ⟨by kernel_rfl, by kernel_rfl⟩
theorem pl108 : structPlaces Tryz.prog 108 = some (placesOf [.slice none 0 0, .slice none 0 0, .slice none 0 0, .slice none 0 0, .slice none 0 0, .slice none 0 0, .slice none 0 0, .slice none 0 0, .slice none 0 0, .slice none 0 0, .slice none 0 0, .slice none 0 0, .slice none 0 0, .slice none 0 0, .slice none 0 0, .slice none 0 0, .slice none 0 0, .slice none 0 0, .slice none 0 0, .slice none 0 0, .slice none 0 0, .slice none 0 0, .slice none 0 0, .slice none 0 0, .slice none 0 0, .slice none 0 0, .slice none 0 0, .slice none 0 0, .slice none 0 0] 0) := by kernel_rfl
theorem fa108_0 : fieldFact Tryz.prog 108 0 = some 0 := by kernel_rfl
theorem ft108_0 : fieldTy Tryz.prog 108 0 = some (80, 0) := by kernel_rfl
theorem fa108_1 : fieldFact Tryz.prog 108 1 = some 1 := by kernel_rfl
theorem ft108_1 : fieldTy Tryz.prog 108 1 = some (81, 1) := by kernel_rfl
theorem fa108_2 : fieldFact Tryz.prog 108 2 = some 2 := by kernel_rfl
theorem ft108_2 : fieldTy Tryz.prog 108 2 = some (82, 2) := by kernel_rfl
theorem fa108_3 : fieldFact Tryz.prog 108 3 = some 3 := by kernel_rfl
theorem ft108_3 : fieldTy Tryz.prog 108 3 = some (83, 3) := by kernel_rfl
theorem fa108_4 : fieldFact Tryz.prog 108 4 = some 4 := by kernel_rfl
theorem ft108_4 : fieldTy Tryz.prog 108 4 = some (84, 4) := by kernel_rfl
theorem fa108_5 : fieldFact Tryz.prog 108 5 = some 5 := by kernel_rfl
theorem ft108_5 : fieldTy Tryz.prog 108 5 = some (85, 5) := by kernel_rfl
theorem fa108_6 : fieldFact Tryz.prog 108 6 = some 6 := by kernel_rfl
theorem ft108_6 : fieldTy Tryz.prog 108 6 = some (86, 6) := by kernel_rfl
theorem fa108_7 : fieldFact Tryz.prog 108 7 = some 7 := by kernel_rfl
theorem ft108_7 : fieldTy Tryz.prog 108 7 = some (67, 7) := by kernel_rfl
theorem fa108_8 : fieldFact Tryz.prog 108 8 = some 8 := by kernel_rfl
theorem ft108_8 : fieldTy Tryz.prog 108 8 = some (87, 8) := by kernel_rfl
theorem fa108_9 : fieldFact Tryz.prog 108 9 = some 9 := by kernel_rfl
theorem ft108_9 : fieldTy Tryz.prog 108 9 = some (88, 9) := by kernel_rfl
theorem fa108_10 : fieldFact Tryz.prog 108 10 = some 10 := by kernel_rfl
theorem ft108_10 : fieldTy Tryz.prog 108 10 = some (89, 10) := by kernel_rfl
theorem fa108_11 : fieldFact Tryz.prog 108 11 = some 11 := by kernel_rfl
theorem ft108_11 : fieldTy Tryz.prog 108 11 = some (90, 11) := by kernel_rfl
theorem fa108_12 : fieldFact Tryz.prog 108 12 = some 12 := by kernel_rfl
theorem ft108_12 : fieldTy Tryz.prog 108 12 = some (91, 12) := by kernel_rfl
theorem fa108_13 : fieldFact Tryz.prog 108 13 = some 13 := by kernel_rfl
theorem ft108_13 : fieldTy Tryz.prog 108 13 = some (92, 13) := by kernel_rfl
theorem fa108_14 : fieldFact Tryz.prog 108 14 = some 14 := by kernel_rfl
theorem ft108_14 : fieldTy Tryz.prog 108 14 = some (93, 14) := by kernel_rfl
theorem fa108_15 : fieldFact Tryz.prog 108 15 = some 15 := by kernel_rfl
theorem ft108_15 : fieldTy Tryz.prog 108 15 = some (94, 15) := by kernel_rfl
theorem fa108_16 : fieldFact Tryz.prog 108 16 = some 16 := by kernel_rfl
theorem ft108_16 : fieldTy Tryz.prog 108 16 = some (95, 16) := by kernel_rfl
theorem fa108_17 : fieldFact Tryz.prog 108 17 = some 17 := by kernel_rfl
theorem ft108_17 : fieldTy Tryz.prog 108 17 = some (96, 17) := by kernel_rfl
theorem fa108_18 : fieldFact Tryz.prog 108 18 = some 18 := by kernel_rfl
theorem ft108_18 : fieldTy Tryz.prog 108 18 = some (97, 18) := by kernel_rfl
theorem fa108_19 : fieldFact Tryz.prog 108 19 = some 19 := by kernel_rfl
theorem ft108_19 : fieldTy Tryz.prog 108 19 = some (98, 19) := by kernel_rfl
theorem fa108_20 : fieldFact Tryz.prog 108 20 = some 20 := by kernel_rfl
theorem ft108_20 : fieldTy Tryz.prog 108 20 = some (99, 20) := by kernel_rfl
theorem fa108_21 : fieldFact Tryz.prog 108 21 = some 21 := by kernel_rfl
theorem ft108_21 : fieldTy Tryz.prog 108 21 = some (100, 21) := by kernel_rfl
theorem fa108_22 : fieldFact Tryz.prog 108 22 = some 22 := by kernel_rfl
theorem ft108_22 : fieldTy Tryz.prog 108 22 = some (101, 22) := by kernel_rfl
theorem fa108_23 : fieldFact Tryz.prog 108 23 = some 23 := by kernel_rfl
theorem ft108_23 : fieldTy Tryz.prog 108 23 = some (102, 23) := by kernel_rfl
theorem fa108_24 : fieldFact Tryz.prog 108 24 = some 24 := by kernel_rfl
theorem ft108_24 : fieldTy Tryz.prog 108 24 = some (103, 24) := by kernel_rfl
theorem fa108_25 : fieldFact Tryz.prog 108 25 = some 25 := by kernel_rfl
theorem ft108_25 : fieldTy Tryz.prog 108 25 = some (104, 25) := by kernel_rfl
theorem fa108_26 : fieldFact Tryz.prog 108 26 = some 26 := by kernel_rfl
theorem ft108_26 : fieldTy Tryz.prog 108 26 = some (105, 26) := by kernel_rfl
theorem fa108_27 : fieldFact Tryz.prog 108 27 = some 27 := by kernel_rfl
theorem ft108_27 : fieldTy Tryz.prog 108 27 = some (106, 27) := by kernel_rfl
theorem fa108_28 : fieldFact Tryz.prog 108 28 = some 28 := by kernel_rfl
theorem ft108_28 : fieldTy Tryz.prog 108 28 = some (107, 28) := by kernel_rfl
theorem eg108 : Tryz.prog.eqGuardType Tryz.prog.depth 108 = false := by kernel_rfl
theorem ty109 : TyIs Tryz.prog 109 true 29 (mkS [.slice none 0 0, .slice none 0 0, .slice none 0 0, .slice none 0 0, .slice none 0 0, .slice none 0 0, .slice none 0 0, .slice none 0 0, .slice none 0 0, .slice none 0 0, .slice none 0 0, .slice none 0 0, .slice none 0 0, .slice none 0 0, .slice none 0 0, .slice none 0 0, .slice none 0 0, .slice none 0 0, .slice none 0 0, .slice none 0 0, .slice none 0 0, .slice none 0 0, .slice none 0 0, .slice none 0 0, .slice none 0 0, .slice none 0 0, .slice none 0 0, .slice none 0 0, .slice none 0 0]) 696 := ⟨by kernel_rfl, by kernel_rfl⟩
theorem pl109 : structPlaces Tryz.prog 109 = some (placesOf [.slice none 0 0, .slice none 0 0, .slice none 0 0, .slice none 0 0, .slice none 0 0, .slice none 0 0, .slice none 0 0, .slice none 0 0, .slice none 0 0, .slice none 0 0, .slice none 0 0, .slice none 0 0, .slice none 0 0, .slice none 0 0, .slice none 0 0, .slice none 0 0, .slice none 0 0, .slice none 0 0, .slice none 0 0, .slice none 0 0, .slice none 0 0, .slice none 0 0, .slice none 0 0, .slice none 0 0, .slice none 0 0, .slice none 0 0, .slice none 0 0, .slice none 0 0, .slice none 0 0] 0) := by kernel_rfl
theorem fa109_0 : fieldFact Tryz.prog 109 0 = some 0 := by kernel_rfl
theorem ft109_0 : fieldTy Tryz.prog 109 0 = some (80, 0) := by kernel_rfl
theorem fa109_1 : fieldFact Tryz.prog 109 1 = some 1 := by kernel_rfl
theorem ft109_1 : fieldTy Tryz.prog 109 1 = some (81, 1) := by kernel_rfl
theorem fa109_2 : fieldFact Tryz.prog 109 2 = some 2 := by kernel_rfl
theorem ft109_2 : fieldTy Tryz.prog 109 2 = some (82, 2) := by kernel_rfl
theorem fa109_3 : fieldFact Tryz.prog 109 3 = some 3 := by kernel_rfl
theorem ft109_3 : fieldTy Tryz.prog 109 3 = some (83, 3) := by kernel_rfl
theorem fa109_4 : fieldFact Tryz.prog 109 4 = some 4 := by kernel_rfl
theorem ft109_4 : fieldTy Tryz.prog 109 4 = some (84, 4) := by kernel_rfl
theorem fa109_5 : fieldFact Tryz.prog 109 5 = some 5 := by kernel_rfl
theorem ft109_5 : fieldTy Tryz.prog 109 5 = some (85, 5) := by kernel_rfl
theorem fa109_6 : fieldFact Tryz.prog 109 6 = some 6 := by kernel_rfl
theorem ft109_6 : fieldTy Tryz.prog 109 6 = some (86, 6) := by kernel_rfl
theorem fa109_7 : fieldFact Tryz.prog 109 7 = some 7 := by kernel_rfl
theorem ft109_7 : fieldTy Tryz.prog 109 7 = some (67, 7) := by kernel_rfl
theorem fa109_8 : fieldFact Tryz.prog 109 8 = some 8 := by kernel_rfl
theorem ft109_8 : fieldTy Tryz.prog 109 8 = some (87, 8) := by kernel_rfl
theorem fa109_9 : fieldFact Tryz.prog 109 9 = some 9 := by kernel_rfl
theorem ft109_9 : fieldTy Tryz.prog 109 9 = some (88, 9) := by kernel_rfl
theorem fa109_10 : fieldFact Tryz.prog 109 10 = some 10 := by kernel_rfl
theorem ft109_10 : fieldTy Tryz.prog 109 10 = some (89, 10) := by kernel_rfl
theorem fa109_11 : fieldFact Tryz.prog 109 11 = some 11 := by kernel_rfl
theorem ft109_11 : fieldTy Tryz.prog 109 11 = some (90, 11) := by kernel_rfl
theorem fa109_12 : fieldFact Tryz.prog 109 12 = some 12 := by kernel_rfl
theorem ft109_12 : fieldTy Tryz.prog 109 12 = some (91, 12) := by kernel_rfl
theorem fa109_13 : fieldFact Tryz.prog 109 13 = some 13 := by kernel_rfl
theorem ft109_13 : fieldTy Tryz.prog 109 13 = some (92, 13) := by kernel_rfl
theorem fa109_14 : fieldFact Tryz.prog 109 14 = some 14 := by kernel_rfl
theorem ft109_14 : fieldTy Tryz.prog 109 14 = some (93, 14) := by kernel_rfl
theorem fa109_15 : fieldFact Tryz.prog 109 15 = some 15 := by kernel_rfl
theorem ft109_15 : fieldTy Tryz.prog 109 15 = some (94, 15) := by kernel_rfl
theorem fa109_16 : fieldFact Tryz.prog 109 16 = some 16 := by kernel_rfl
theorem ft109_16 : fieldTy Tryz.prog 109 16 = some (95, 16) := by kernel_rfl
theorem fa109_17 : fieldFact Tryz.prog 109 17 = some 17 := by kernel_rfl
theorem ft109_17 : fieldTy Tryz.prog 109 17 = some (96, 17) := by kernel_rfl
theorem fa109_18 : fieldFact Tryz.prog 109 18 = some 18 := by kernel_rfl
theorem ft109_18 : fieldTy Tryz.prog 109 18 = some (97, 18) := by kernel_rfl
theorem fa109_19 : fieldFact Tryz.prog 109 19 = some 19 := by kernel_rfl
theorem ft109_19 : fieldTy Tryz.prog 109 19 = some (98, 19) := by kernel_rfl
theorem fa109_20 : fieldFact Tryz.prog 109 20 = some 20 := by kernel_rfl
theorem ft109_20 : fieldTy Tryz.prog 109 20 = some (99, 20) := by kernel_rfl
theorem fa109_21 : fieldFact Tryz.prog 109 21 = some 21 := by kernel_rfl
theorem ft109_21 : fieldTy Tryz.prog 109 21 = some (100, 21) := by kernel_rfl
theorem fa109_22 : fieldFact Tryz.prog 109 22 = some 22 := by kernel_rfl
theorem ft109_22 : fieldTy Tryz.prog 109 22 = some (101, 22) := by kernel_rfl
theorem fa109_23 : fieldFact Tryz.prog 109 23 = some 23 := by kernel_rfl
theorem ft109_23 : fieldTy Tryz.prog 109 23 = some (102, 23) := by kernel_rfl
theorem fa109_24 : fieldFact Tryz.prog 109 24 = some 24 := by kernel_rfl
theorem ft109_24 : fieldTy Tryz.prog 109 24 = some (103, 24) := by kernel_rfl
theorem fa109_25 : fieldFact Tryz.prog 109 25 = some 25 := by kernel_rfl
theorem ft109_25 : fieldTy Tryz.prog 109 25 = some (104, 25) := by kernel_rfl
theorem fa109_26 : fieldFact Tryz.prog 109 26 = some 26 := by kernel_rfl
theorem ft109_26 : fieldTy Tryz.prog 109 26 = some (105, 26) := by kernel_rfl
theorem fa109_27 : fieldFact Tryz.prog 109 27 = some 27 := by kernel_rfl
theorem ft109_27 : fieldTy Tryz.prog 109 27 = some (106, 27) := by kernel_rfl
theorem fa109_28 : fieldFact Tryz.prog 109 28 = some 28 := by kernel_rfl
theorem ft109_28 : fieldTy Tryz.prog 109 28 = some (107, 28) := by kernel_rfl
theorem eg109 : Tryz.prog.eqGuardType Tryz.prog.depth 109 = false := by kernel_rfl
theorem ty111 : TyIs Tryz.prog 111 false 1 (.slice none 0 0) 24 := ⟨by kernel_rfl, by kernel_rfl⟩
theorem ty112 : TyIs Tryz.prog 112 true 0 (mkS []) 0 := ⟨by kernel_rfl, by kernel_rfl⟩
theorem pl112 : structPlaces Tryz.prog 112 = some (placesOf [] 0) := by kernel_rfl
theorem eg112 : Tryz.prog.eqGuardType Tryz.prog.depth 112 = false := by kernel_rfl
theorem ty113 : TyIs Tryz.prog 113 true 0 (mkS []) 0 := ⟨by kernel_rfl, by kernel_rfl⟩
theorem pl113 : structPlaces Tryz.prog 113 = some (placesOf [] 0) := by kernel_rfl
theorem eg113 : Tryz.prog.eqGuardType Tryz.prog.depth 113 = false := by kernel_rfl
theorem ty118 : TyIs Tryz.prog 118 false 1 (.nilFunc) 8 := ⟨by kernel_rfl, by kernel_rfl⟩
theorem ty150 : TyIs Tryz.prog 150 false 1 (.slice none 0 0) 24 := ⟨by kernel_rfl, by kernel_rfl⟩
theorem ty151 : TyIs Tryz.prog 151 false 1 (.int .u32 0) 4 := ⟨by kernel_rfl, by kernel_rfl⟩
theorem ty153 : TyIs Tryz.prog 153 false 1 (.slice none 0 0) 24 := ⟨by kernel_rfl, by kernel_rfl⟩
theorem ty154 : TyIs Tryz.prog 154 false 1 (.int .u64 0) 8 := ⟨by kernel_rfl, by kernel_rfl⟩
theorem ty155 : TyIs Tryz.prog 155 false 1 (.slice none 0 0) 24 := ⟨by kernel_rfl, by kernel_rfl⟩
theorem ty156 : TyIs Tryz.prog 156 false 1 (.slice none 0 0) 24 := ⟨by kernel_rfl, by kernel_rfl⟩
theorem ty159 : TyIs Tryz.prog 159 false 1 (.slice none 0 0) 24 := ⟨by kernel_rfl, by kernel_rfl⟩
theorem ty161 : TyIs Tryz.prog 161 false 1 (.slice none 0 0) 24 := ⟨by kernel_rfl, by kernel_rfl⟩
theorem ty162 : TyIs Tryz.prog 162 false 1 (.int .i64 0) 8 := ⟨by kernel_rfl, by kernel_rfl⟩
theorem ty163 : TyIs Tryz.prog 163 true 5 (mkS [.int .i64 0, .int .i64 0, .int .u64 0, .string ⟨#[]⟩, .int .i64 0]) 48 := ⟨by kernel_rfl, by kernel_rfl⟩
theorem pl163 : structPlaces Tryz.prog 163 = some (placesOf [.int .i64 0, .int .i64 0, .int .u64 0, .string ⟨#[]⟩, .int .i64 0] 0) := by kernel_rfl
theorem fa163_0 : fieldFact Tryz.prog 163 0 = some 0 := by kernel_rfl
theorem ft163_0 : fieldTy Tryz.prog 163 0 = some (162, 0) := by kernel_rfl
theorem fa163_1 : fieldFact Tryz.prog 163 1 = some 1 := by kernel_rfl
theorem ft163_1 : fieldTy Tryz.prog 163 1 = some (2, 1) := by kernel_rfl
theorem fa163_2 : fieldFact Tryz.prog 163 2 = some 2 := by kernel_rfl
theorem ft163_2 : fieldTy Tryz.prog 163 2 = some (154, 2) := by kernel_rfl
theorem fa163_3 : fieldFact Tryz.prog 163 3 = some 3 := by kernel_rfl
theorem ft163_3 : fieldTy Tryz.prog 163 3 = some (9, 3) := by kernel_rfl
theorem fa163_4 : fieldFact Tryz.prog 163 4 = some 4 := by kernel_rfl
theorem ft163_4 : fieldTy Tryz.prog 163 4 = some (3, 4) := by kernel_rfl
theorem eg163 : Tryz.prog.eqGuardType Tryz.prog.depth 163 = false := by kernel_rfl
theorem ty164 : TyIs Tryz.prog 164 true 5 (mkS [.int .i64 0, .int .i64 0, .int .u64 0, .string ⟨#[]⟩, .int .i64 0]) 48 := ⟨by kernel_rfl, by kernel_rfl⟩
theorem pl164 : structPlaces Tryz.prog 164 = some (placesOf [.int .i64 0, .int .i64 0, .int .u64 0, .string ⟨#[]⟩, .int .i64 0] 0) := by kernel_rfl
theorem fa164_0 : fieldFact Tryz.prog 164 0 = some 0 := by kernel_rfl
theorem ft164_0 : fieldTy Tryz.prog 164 0 = some (162, 0) := by kernel_rfl
theorem fa164_1 : fieldFact Tryz.prog 164 1 = some 1 := by kernel_rfl
theorem ft164_1 : fieldTy Tryz.prog 164 1 = some (2, 1) := by kernel_rfl
theorem fa164_2 : fieldFact Tryz.prog 164 2 = some 2 := by kernel_rfl
theorem ft164_2 : fieldTy Tryz.prog 164 2 = some (154, 2) := by kernel_rfl
theorem fa164_3 : fieldFact Tryz.prog 164 3 = some 3 := by kernel_rfl
theorem ft164_3 : fieldTy Tryz.prog 164 3 = some (9, 3) := by kernel_rfl
theorem fa164_4 : fieldFact Tryz.prog 164 4 = some 4 := by kernel_rfl
theorem ft164_4 : fieldTy Tryz.prog 164 4 = some (3, 4) := by kernel_rfl
theorem eg164 : Tryz.prog.eqGuardType Tryz.prog.depth 164 = false := by kernel_rfl
theorem ty166 : TyIs Tryz.prog 166 false 1 (.slice none 0 0) 24 := ⟨by kernel_rfl, by kernel_rfl⟩
theorem ty167 : TyIs Tryz.prog 167 true 1 (mkS [.slice none 0 0]) 24 := ⟨by kernel_rfl, by kernel_rfl⟩
theorem pl167 : structPlaces Tryz.prog 167 = some (placesOf [.slice none 0 0] 0) := by kernel_rfl
theorem fa167_0 : fieldFact Tryz.prog 167 0 = some 0 := by kernel_rfl
theorem ft167_0 : fieldTy Tryz.prog 167 0 = some (161, 0) := by kernel_rfl
theorem eg167 : Tryz.prog.eqGuardType Tryz.prog.depth 167 = false := by kernel_rfl
theorem ty168 : TyIs Tryz.prog 168 true 1 (mkS [.slice none 0 0]) 24 := ⟨by kernel_rfl, by kernel_rfl⟩
theorem pl168 : structPlaces Tryz.prog 168 = some (placesOf [.slice none 0 0] 0) := by kernel_rfl
theorem fa168_0 : fieldFact Tryz.prog 168 0 = some 0 := by kernel_rfl
theorem ft168_0 : fieldTy Tryz.prog 168 0 = some (161, 0) := by kernel_rfl
theorem eg168 : Tryz.prog.eqGuardType Tryz.prog.depth 168 = false := by kernel_rfl
theorem ty171 : TyIs Tryz.prog 171 false 1 (.slice none 0 0) 24 := ⟨by kernel_rfl, by kernel_rfl⟩
theorem ty172 : TyIs Tryz.prog 172 true 34 (mkS [hval hz, .string ⟨#[]⟩, .int .i64 0]) 56 := ⟨by kernel_rfl, by kernel_rfl⟩
theorem pl172 : structPlaces Tryz.prog 172 = some (placesOf [hval hz, .string ⟨#[]⟩, .int .i64 0] 0) := by kernel_rfl
theorem fa172_0 : fieldFact Tryz.prog 172 0 = some 0 := by kernel_rfl
theorem ft172_0 : fieldTy Tryz.prog 172 0 = some (23, 0) := by kernel_rfl
theorem fa172_1 : fieldFact Tryz.prog 172 1 = some 32 := by kernel_rfl
theorem ft172_1 : fieldTy Tryz.prog 172 1 = some (9, 32) := by kernel_rfl
theorem fa172_2 : fieldFact Tryz.prog 172 2 = some 33 := by kernel_rfl
theorem ft172_2 : fieldTy Tryz.prog 172 2 = some (2, 33) := by kernel_rfl
theorem eg172 : Tryz.prog.eqGuardType Tryz.prog.depth 172 = false := by kernel_rfl
theorem ty173 : TyIs Tryz.prog 173 true 34 (mkS [hval hz, .string ⟨#[]⟩, .int .i64 0]) 56 := ⟨by kernel_rfl, by kernel_rfl⟩
theorem pl173 : structPlaces Tryz.prog 173 = some (placesOf [hval hz, .string ⟨#[]⟩, .int .i64 0] 0) := by kernel_rfl
theorem fa173_0 : fieldFact Tryz.prog 173 0 = some 0 := by kernel_rfl
theorem ft173_0 : fieldTy Tryz.prog 173 0 = some (23, 0) := by kernel_rfl
theorem fa173_1 : fieldFact Tryz.prog 173 1 = some 32 := by kernel_rfl
theorem ft173_1 : fieldTy Tryz.prog 173 1 = some (9, 32) := by kernel_rfl
theorem fa173_2 : fieldFact Tryz.prog 173 2 = some 33 := by kernel_rfl
theorem ft173_2 : fieldTy Tryz.prog 173 2 = some (2, 33) := by kernel_rfl
theorem eg173 : Tryz.prog.eqGuardType Tryz.prog.depth 173 = false := by kernel_rfl
theorem ty175 : TyIs Tryz.prog 175 false 1 (.slice none 0 0) 24 := ⟨by kernel_rfl, by kernel_rfl⟩
theorem ty176 : TyIs Tryz.prog 176 true 2 (mkS [.int .i64 0, .slice none 0 0]) 32 := ⟨by kernel_rfl, by kernel_rfl⟩
theorem pl176 : structPlaces Tryz.prog 176 = some (placesOf [.int .i64 0, .slice none 0 0] 0) := by kernel_rfl
theorem fa176_0 : fieldFact Tryz.prog 176 0 = some 0 := by kernel_rfl
theorem ft176_0 : fieldTy Tryz.prog 176 0 = some (2, 0) := by kernel_rfl
theorem fa176_1 : fieldFact Tryz.prog 176 1 = some 1 := by kernel_rfl
theorem ft176_1 : fieldTy Tryz.prog 176 1 = some (171, 1) := by kernel_rfl
theorem eg176 : Tryz.prog.eqGuardType Tryz.prog.depth 176 = false := by kernel_rfl
theorem ty177 : TyIs Tryz.prog 177 true 2 (mkS [.int .i64 0, .slice none 0 0]) 32 := ⟨by kernel_rfl, by kernel_rfl⟩
theorem pl177 : structPlaces Tryz.prog 177 = some (placesOf [.int .i64 0, .slice none 0 0] 0) := by kernel_rfl
theorem fa177_0 : fieldFact Tryz.prog 177 0 = some 0 := by kernel_rfl
theorem ft177_0 : fieldTy Tryz.prog 177 0 = some (2, 0) := by kernel_rfl
theorem fa177_1 : fieldFact Tryz.prog 177 1 = some 1 := by kernel_rfl
theorem ft177_1 : fieldTy Tryz.prog 177 1 = some (171, 1) := by kernel_rfl
theorem eg177 : Tryz.prog.eqGuardType Tryz.prog.depth 177 = false := by kernel_rfl
theorem ty180 : TyIs Tryz.prog 180 false 1 (.slice none 0 0) 24 := ⟨by kernel_rfl, by kernel_rfl⟩
theorem ty181 : TyIs Tryz.prog 181 true 33 (mkS [.bool false, hval hz]) 33 := ⟨by kernel_rfl, by kernel_rfl⟩
theorem pl181 : structPlaces Tryz.prog 181 = some (placesOf [.bool false, hval hz] 0) := by kernel_rfl
theorem fa181_0 : fieldFact Tryz.prog 181 0 = some 0 := by kernel_rfl
theorem ft181_0 : fieldTy Tryz.prog 181 0 = some (4, 0) := by kernel_rfl
theorem fa181_1 : fieldFact Tryz.prog 181 1 = some 1 := by kernel_rfl
theorem ft181_1 : fieldTy Tryz.prog 181 1 = some (23, 1) := by kernel_rfl
theorem eg181 : Tryz.prog.eqGuardType Tryz.prog.depth 181 = false := by kernel_rfl
theorem ty182 : TyIs Tryz.prog 182 true 33 (mkS [.bool false, hval hz]) 33 := ⟨by kernel_rfl, by kernel_rfl⟩
theorem pl182 : structPlaces Tryz.prog 182 = some (placesOf [.bool false, hval hz] 0) := by kernel_rfl
theorem fa182_0 : fieldFact Tryz.prog 182 0 = some 0 := by kernel_rfl
theorem ft182_0 : fieldTy Tryz.prog 182 0 = some (4, 0) := by kernel_rfl
theorem fa182_1 : fieldFact Tryz.prog 182 1 = some 1 := by kernel_rfl
theorem ft182_1 : fieldTy Tryz.prog 182 1 = some (23, 1) := by kernel_rfl
theorem eg182 : Tryz.prog.eqGuardType Tryz.prog.depth 182 = false := by kernel_rfl
theorem ty183 : TyIs Tryz.prog 183 false 1 (.int .i64 0) 8 := ⟨by kernel_rfl, by kernel_rfl⟩
theorem ty184 : TyIs Tryz.prog 184 true 69 (mkS [mkS [.bool false, hval hz], mkS [.int .i64 0, .slice none 0 0], .int .i64 0, hval hz, mkS [.slice none 0 0]]) 136 := ⟨by kernel_rfl, by kernel_rfl⟩
theorem pl184 : structPlaces Tryz.prog 184 = some (placesOf [mkS [.bool false, hval hz], mkS [.int .i64 0, .slice none 0 0], .int .i64 0, hval hz, mkS [.slice none 0 0]] 0) := by kernel_rfl
theorem fa184_0 : fieldFact Tryz.prog 184 0 = some 0 := by kernel_rfl
theorem ft184_0 : fieldTy Tryz.prog 184 0 = some (182, 0) := by kernel_rfl
theorem fa184_1 : fieldFact Tryz.prog 184 1 = some 33 := by kernel_rfl
theorem ft184_1 : fieldTy Tryz.prog 184 1 = some (177, 33) := by kernel_rfl
theorem fa184_2 : fieldFact Tryz.prog 184 2 = some 35 := by kernel_rfl
theorem ft184_2 : fieldTy Tryz.prog 184 2 = some (183, 35) := by kernel_rfl
theorem fa184_3 : fieldFact Tryz.prog 184 3 = some 36 := by kernel_rfl
theorem ft184_3 : fieldTy Tryz.prog 184 3 = some (23, 36) := by kernel_rfl
theorem fa184_4 : fieldFact Tryz.prog 184 4 = some 68 := by kernel_rfl
theorem ft184_4 : fieldTy Tryz.prog 184 4 = some (168, 68) := by kernel_rfl
theorem eg184 : Tryz.prog.eqGuardType Tryz.prog.depth 184 = false := by kernel_rfl
theorem ty185 : TyIs Tryz.prog 185 true 69 (mkS [mkS [.bool false, hval hz], mkS [.int .i64 0, .slice none 0 0], .int .i64 0, hval hz, mkS [.slice none 0 0]]) 136 := ⟨by kernel_rfl, by kernel_rfl⟩
theorem pl185 : structPlaces Tryz.prog 185 = some (placesOf [mkS [.bool false, hval hz], mkS [.int .i64 0, .slice none 0 0], .int .i64 0, hval hz, mkS [.slice none 0 0]] 0) := by kernel_rfl
theorem fa185_0 : fieldFact Tryz.prog 185 0 = some 0 := by kernel_rfl
theorem ft185_0 : fieldTy Tryz.prog 185 0 = some (182, 0) := by kernel_rfl
theorem fa185_1 : fieldFact Tryz.prog 185 1 = some 33 := by kernel_rfl
theorem ft185_1 : fieldTy Tryz.prog 185 1 = some (177, 33) := by kernel_rfl
theorem fa185_2 : fieldFact Tryz.prog 185 2 = some 35 := by kernel_rfl
theorem ft185_2 : fieldTy Tryz.prog 185 2 = some (183, 35) := by kernel_rfl
theorem fa185_3 : fieldFact Tryz.prog 185 3 = some 36 := by kernel_rfl
theorem ft185_3 : fieldTy Tryz.prog 185 3 = some (23, 36) := by kernel_rfl
theorem fa185_4 : fieldFact Tryz.prog 185 4 = some 68 := by kernel_rfl
theorem ft185_4 : fieldTy Tryz.prog 185 4 = some (168, 68) := by kernel_rfl
theorem eg185 : Tryz.prog.eqGuardType Tryz.prog.depth 185 = false := by kernel_rfl
theorem ty188 : TyIs Tryz.prog 188 false 1 (.slice none 0 0) 24 := ⟨by kernel_rfl, by kernel_rfl⟩
theorem ty189 : TyIs Tryz.prog 189 true 33 (mkS [hval hz, .int .i64 0]) 40 := ⟨by kernel_rfl, by kernel_rfl⟩
theorem pl189 : structPlaces Tryz.prog 189 = some (placesOf [hval hz, .int .i64 0] 0) := by kernel_rfl
theorem fa189_0 : fieldFact Tryz.prog 189 0 = some 0 := by kernel_rfl
theorem ft189_0 : fieldTy Tryz.prog 189 0 = some (23, 0) := by kernel_rfl
theorem fa189_1 : fieldFact Tryz.prog 189 1 = some 32 := by kernel_rfl
theorem ft189_1 : fieldTy Tryz.prog 189 1 = some (3, 32) := by kernel_rfl
theorem eg189 : Tryz.prog.eqGuardType Tryz.prog.depth 189 = false := by kernel_rfl
theorem ty190 : TyIs Tryz.prog 190 true 33 (mkS [hval hz, .int .i64 0]) 40 := ⟨by kernel_rfl, by kernel_rfl⟩
theorem pl190 : structPlaces Tryz.prog 190 = some (placesOf [hval hz, .int .i64 0] 0) := by kernel_rfl
theorem fa190_0 : fieldFact Tryz.prog 190 0 = some 0 := by kernel_rfl
theorem ft190_0 : fieldTy Tryz.prog 190 0 = some (23, 0) := by kernel_rfl
theorem fa190_1 : fieldFact Tryz.prog 190 1 = some 32 := by kernel_rfl
theorem ft190_1 : fieldTy Tryz.prog 190 1 = some (3, 32) := by kernel_rfl
theorem eg190 : Tryz.prog.eqGuardType Tryz.prog.depth 190 = false := by kernel_rfl
theorem ty192 : TyIs Tryz.prog 192 false 1 (.slice none 0 0) 24 := ⟨by kernel_rfl, by kernel_rfl⟩
theorem ty193 : TyIs Tryz.prog 193 true 102 (mkS [mkS [hval hz, .int .i64 0], mkS [mkS [.bool false, hval hz], mkS [.int .i64 0, .slice none 0 0], .int .i64 0, hval hz, mkS [.slice none 0 0]]]) 176 := ⟨by kernel_rfl, by kernel_rfl⟩
theorem pl193 : structPlaces Tryz.prog 193 = some (placesOf [mkS [hval hz, .int .i64 0], mkS [mkS [.bool false, hval hz], mkS [.int .i64 0, .slice none 0 0], .int .i64 0, hval hz, mkS [.slice none 0 0]]] 0) := by kernel_rfl
theorem fa193_0 : fieldFact Tryz.prog 193 0 = some 0 := by kernel_rfl
theorem ft193_0 : fieldTy Tryz.prog 193 0 = some (190, 0) := by kernel_rfl
theorem fa193_1 : fieldFact Tryz.prog 193 1 = some 33 := by kernel_rfl
theorem ft193_1 : fieldTy Tryz.prog 193 1 = some (185, 33) := by kernel_rfl
theorem eg193 : Tryz.prog.eqGuardType Tryz.prog.depth 193 = false := by kernel_rfl
theorem ty194 : TyIs Tryz.prog 194 true 102 (mkS [mkS [hval hz, .int .i64 0], mkS [mkS [.bool false, hval hz], mkS [.int .i64 0, .slice none 0 0], .int .i64 0, hval hz, mkS [.slice none 0 0]]]) 176 := ⟨by kernel_rfl, by kernel_rfl⟩
theorem pl194 : structPlaces Tryz.prog 194 = some (placesOf [mkS [hval hz, .int .i64 0], mkS [mkS [.bool false, hval hz], mkS [.int .i64 0, .slice none 0 0], .int .i64 0, hval hz, mkS [.slice none 0 0]]] 0) := by kernel_rfl
theorem fa194_0 : fieldFact Tryz.prog 194 0 = some 0 := by kernel_rfl
theorem ft194_0 : fieldTy Tryz.prog 194 0 = some (190, 0) := by kernel_rfl
theorem fa194_1 : fieldFact Tryz.prog 194 1 = some 33 := by kernel_rfl
theorem ft194_1 : fieldTy Tryz.prog 194 1 = some (185, 33) := by kernel_rfl
theorem eg194 : Tryz.prog.eqGuardType Tryz.prog.depth 194 = false := by kernel_rfl
theorem ty197 : TyIs Tryz.prog 197 false 1 (.slice none 0 0) 24 := ⟨by kernel_rfl, by kernel_rfl⟩
theorem ty198 : TyIs Tryz.prog 198 false 1 (.int .i64 0) 8 := ⟨by kernel_rfl, by kernel_rfl⟩
theorem ty199 : TyIs Tryz.prog 199 true 4 (mkS [.int .i64 0, .int .i64 0, .int .u64 0, mkS [.slice none 0 0]]) 48 := ⟨by kernel_rfl, by kernel_rfl⟩
theorem pl199 : structPlaces Tryz.prog 199 = some (placesOf [.int .i64 0, .int .i64 0, .int .u64 0, mkS [.slice none 0 0]] 0) := by kernel_rfl
theorem fa199_0 : fieldFact Tryz.prog 199 0 = some 0 := by kernel_rfl
theorem ft199_0 : fieldTy Tryz.prog 199 0 = some (198, 0) := by kernel_rfl
theorem fa199_1 : fieldFact Tryz.prog 199 1 = some 1 := by kernel_rfl
theorem ft199_1 : fieldTy Tryz.prog 199 1 = some (2, 1) := by kernel_rfl
theorem fa199_2 : fieldFact Tryz.prog 199 2 = some 2 := by kernel_rfl
theorem ft199_2 : fieldTy Tryz.prog 199 2 = some (154, 2) := by kernel_rfl
theorem fa199_3 : fieldFact Tryz.prog 199 3 = some 3 := by kernel_rfl
theorem ft199_3 : fieldTy Tryz.prog 199 3 = some (168, 3) := by kernel_rfl
theorem eg199 : Tryz.prog.eqGuardType Tryz.prog.depth 199 = false := by kernel_rfl
theorem ty200 : TyIs Tryz.prog 200 true 4 (mkS [.int .i64 0, .int .i64 0, .int .u64 0, mkS [.slice none 0 0]]) 48 := ⟨by kernel_rfl, by kernel_rfl⟩
theorem pl200 : structPlaces Tryz.prog 200 = some (placesOf [.int .i64 0, .int .i64 0, .int .u64 0, mkS [.slice none 0 0]] 0) := by kernel_rfl
theorem fa200_0 : fieldFact Tryz.prog 200 0 = some 0 := by kernel_rfl
theorem ft200_0 : fieldTy Tryz.prog 200 0 = some (198, 0) := by kernel_rfl
theorem fa200_1 : fieldFact Tryz.prog 200 1 = some 1 := by kernel_rfl
theorem ft200_1 : fieldTy Tryz.prog 200 1 = some (2, 1) := by kernel_rfl
theorem fa200_2 : fieldFact Tryz.prog 200 2 = some 2 := by kernel_rfl
theorem ft200_2 : fieldTy Tryz.prog 200 2 = some (154, 2) := by kernel_rfl
theorem fa200_3 : fieldFact Tryz.prog 200 3 = some 3 := by kernel_rfl
theorem ft200_3 : fieldTy Tryz.prog 200 3 = some (168, 3) := by kernel_rfl
theorem eg200 : Tryz.prog.eqGuardType Tryz.prog.depth 200 = false := by kernel_rfl
theorem ty203 : TyIs Tryz.prog 203 false 1 (.slice none 0 0) 24 := ⟨by kernel_rfl, by kernel_rfl⟩
theorem ty204 : TyIs Tryz.prog 204 true 2 (mkS [.int .i64 0, .slice none 0 0]) 32 := ⟨by kernel_rfl, by kernel_rfl⟩
theorem pl204 : structPlaces Tryz.prog 204 = some (placesOf [.int .i64 0, .slice none 0 0] 0) := by kernel_rfl
theorem fa204_0 : fieldFact Tryz.prog 204 0 = some 0 := by kernel_rfl
theorem ft204_0 : fieldTy Tryz.prog 204 0 = some (3, 0) := by kernel_rfl
theorem fa204_1 : fieldFact Tryz.prog 204 1 = some 1 := by kernel_rfl
theorem ft204_1 : fieldTy Tryz.prog 204 1 = some (197, 1) := by kernel_rfl
theorem eg204 : Tryz.prog.eqGuardType Tryz.prog.depth 204 = false := by kernel_rfl
theorem ty205 : TyIs Tryz.prog 205 true 2 (mkS [.int .i64 0, .slice none 0 0]) 32 := ⟨by kernel_rfl, by kernel_rfl⟩
theorem pl205 : structPlaces Tryz.prog 205 = some (placesOf [.int .i64 0, .slice none 0 0] 0) := by kernel_rfl
theorem fa205_0 : fieldFact Tryz.prog 205 0 = some 0 := by kernel_rfl
theorem ft205_0 : fieldTy Tryz.prog 205 0 = some (3, 0) := by kernel_rfl
theorem fa205_1 : fieldFact Tryz.prog 205 1 = some 1 := by kernel_rfl
theorem ft205_1 : fieldTy Tryz.prog 205 1 = some (197, 1) := by kernel_rfl
theorem eg205 : Tryz.prog.eqGuardType Tryz.prog.depth 205 = false := by kernel_rfl
theorem ty208 : TyIs Tryz.prog 208 false 1 (.slice none 0 0) 24 := ⟨by kernel_rfl, by kernel_rfl⟩
theorem ty209 : TyIs Tryz.prog 209 false 1 (.int .i64 0) 8 := ⟨by kernel_rfl, by kernel_rfl⟩
theorem ty210 : TyIs Tryz.prog 210 true 2 (mkS [.int .i64 0, .int .i64 0]) 16 := ⟨by kernel_rfl, by kernel_rfl⟩
theorem pl210 : structPlaces Tryz.prog 210 = some (placesOf [.int .i64 0, .int .i64 0] 0) := by kernel_rfl
theorem fa210_0 : fieldFact Tryz.prog 210 0 = some 0 := by kernel_rfl
theorem ft210_0 : fieldTy Tryz.prog 210 0 = some (2, 0) := by kernel_rfl
theorem fa210_1 : fieldFact Tryz.prog 210 1 = some 1 := by kernel_rfl
theorem ft210_1 : fieldTy Tryz.prog 210 1 = some (2, 1) := by kernel_rfl
theorem eg210 : Tryz.prog.eqGuardType Tryz.prog.depth 210 = false := by kernel_rfl
theorem ty211 : TyIs Tryz.prog 211 true 2 (mkS [.int .i64 0, .int .i64 0]) 16 := ⟨by kernel_rfl, by kernel_rfl⟩
theorem pl211 : structPlaces Tryz.prog 211 = some (placesOf [.int .i64 0, .int .i64 0] 0) := by kernel_rfl
theorem fa211_0 : fieldFact Tryz.prog 211 0 = some 0 := by kernel_rfl
theorem ft211_0 : fieldTy Tryz.prog 211 0 = some (2, 0) := by kernel_rfl
theorem fa211_1 : fieldFact Tryz.prog 211 1 = some 1 := by kernel_rfl
theorem ft211_1 : fieldTy Tryz.prog 211 1 = some (2, 1) := by kernel_rfl
theorem eg211 : Tryz.prog.eqGuardType Tryz.prog.depth 211 = false := by kernel_rfl
theorem ty212 : TyIs Tryz.prog 212 true 5 (mkS [.int .i64 0, .int .i64 0, mkS [.slice none 0 0], mkS [.int .i64 0, .int .i64 0]]) 56 := ⟨by kernel_rfl, by kernel_rfl⟩
theorem pl212 : structPlaces Tryz.prog 212 = some (placesOf [.int .i64 0, .int .i64 0, mkS [.slice none 0 0], mkS [.int .i64 0, .int .i64 0]] 0) := by kernel_rfl
theorem fa212_0 : fieldFact Tryz.prog 212 0 = some 0 := by kernel_rfl
theorem ft212_0 : fieldTy Tryz.prog 212 0 = some (209, 0) := by kernel_rfl
theorem fa212_1 : fieldFact Tryz.prog 212 1 = some 1 := by kernel_rfl
theorem ft212_1 : fieldTy Tryz.prog 212 1 = some (3, 1) := by kernel_rfl
theorem fa212_2 : fieldFact Tryz.prog 212 2 = some 2 := by kernel_rfl
theorem ft212_2 : fieldTy Tryz.prog 212 2 = some (168, 2) := by kernel_rfl
theorem fa212_3 : fieldFact Tryz.prog 212 3 = some 3 := by kernel_rfl
theorem ft212_3 : fieldTy Tryz.prog 212 3 = some (211, 3) := by kernel_rfl
theorem eg212 : Tryz.prog.eqGuardType Tryz.prog.depth 212 = false := by kernel_rfl
theorem ty213 : TyIs Tryz.prog 213 true 5 (mkS [.int .i64 0, .int .i64 0, mkS [.slice none 0 0], mkS [.int .i64 0, .int .i64 0]]) 56 := ⟨by kernel_rfl, by kernel_rfl⟩
theorem pl213 : structPlaces Tryz.prog 213 = some (placesOf [.int .i64 0, .int .i64 0, mkS [.slice none 0 0], mkS [.int .i64 0, .int .i64 0]] 0) := by kernel_rfl
theorem fa213_0 : fieldFact Tryz.prog 213 0 = some 0 := by kernel_rfl
theorem ft213_0 : fieldTy Tryz.prog 213 0 = some (209, 0) := by kernel_rfl
theorem fa213_1 : fieldFact Tryz.prog 213 1 = some 1 := by kernel_rfl
theorem ft213_1 : fieldTy Tryz.prog 213 1 = some (3, 1) := by kernel_rfl
theorem fa213_2 : fieldFact Tryz.prog 213 2 = some 2 := by kernel_rfl
theorem ft213_2 : fieldTy Tryz.prog 213 2 = some (168, 2) := by kernel_rfl
theorem fa213_3 : fieldFact Tryz.prog 213 3 = some 3 := by kernel_rfl
theorem ft213_3 : fieldTy Tryz.prog 213 3 = some (211, 3) := by kernel_rfl
theorem eg213 : Tryz.prog.eqGuardType Tryz.prog.depth 213 = false := by kernel_rfl
theorem ty216 : TyIs Tryz.prog 216 false 1 (.slice none 0 0) 24 := ⟨by kernel_rfl, by kernel_rfl⟩
theorem ty217 : TyIs Tryz.prog 217 true 40 (mkS [.slice none 0 0, .slice none 0 0, .slice none 0 0, .slice none 0 0, .int .i64 0, .int .i64 0, .int .i64 0, .slice none 0 0, hval hz]) 176 := ⟨by kernel_rfl, by kernel_rfl⟩
theorem pl217 : structPlaces Tryz.prog 217 = some (placesOf [.slice none 0 0, .slice none 0 0, .slice none 0 0, .slice none 0 0, .int .i64 0, .int .i64 0, .int .i64 0, .slice none 0 0, hval hz] 0) := by kernel_rfl
theorem fa217_0 : fieldFact Tryz.prog 217 0 = some 0 := by kernel_rfl
theorem ft217_0 : fieldTy Tryz.prog 217 0 = some (188, 0) := by kernel_rfl
theorem fa217_1 : fieldFact Tryz.prog 217 1 = some 1 := by kernel_rfl
theorem ft217_1 : fieldTy Tryz.prog 217 1 = some (188, 1) := by kernel_rfl
theorem fa217_2 : fieldFact Tryz.prog 217 2 = some 2 := by kernel_rfl
theorem ft217_2 : fieldTy Tryz.prog 217 2 = some (180, 2) := by kernel_rfl
theorem fa217_3 : fieldFact Tryz.prog 217 3 = some 3 := by kernel_rfl
theorem ft217_3 : fieldTy Tryz.prog 217 3 = some (180, 3) := by kernel_rfl
theorem fa217_4 : fieldFact Tryz.prog 217 4 = some 4 := by kernel_rfl
theorem ft217_4 : fieldTy Tryz.prog 217 4 = some (2, 4) := by kernel_rfl
theorem fa217_5 : fieldFact Tryz.prog 217 5 = some 5 := by kernel_rfl
theorem ft217_5 : fieldTy Tryz.prog 217 5 = some (2, 5) := by kernel_rfl
theorem fa217_6 : fieldFact Tryz.prog 217 6 = some 6 := by kernel_rfl
theorem ft217_6 : fieldTy Tryz.prog 217 6 = some (2, 6) := by kernel_rfl
theorem fa217_7 : fieldFact Tryz.prog 217 7 = some 7 := by kernel_rfl
theorem ft217_7 : fieldTy Tryz.prog 217 7 = some (171, 7) := by kernel_rfl
theorem fa217_8 : fieldFact Tryz.prog 217 8 = some 8 := by kernel_rfl
theorem ft217_8 : fieldTy Tryz.prog 217 8 = some (23, 8) := by kernel_rfl
theorem eg217 : Tryz.prog.eqGuardType Tryz.prog.depth 217 = false := by kernel_rfl
theorem ty218 : TyIs Tryz.prog 218 true 40 (mkS [.slice none 0 0, .slice none 0 0, .slice none 0 0, .slice none 0 0, .int .i64 0, .int .i64 0, .int .i64 0, .slice none 0 0, hval hz]) 176 := ⟨by kernel_rfl, by kernel_rfl⟩
theorem pl218 : structPlaces Tryz.prog 218 = some (placesOf [.slice none 0 0, .slice none 0 0, .slice none 0 0, .slice none 0 0, .int .i64 0, .int .i64 0, .int .i64 0, .slice none 0 0, hval hz] 0) := by kernel_rfl
theorem fa218_0 : fieldFact Tryz.prog 218 0 = some 0 := by kernel_rfl
theorem ft218_0 : fieldTy Tryz.prog 218 0 = some (188, 0) := by kernel_rfl
theorem fa218_1 : fieldFact Tryz.prog 218 1 = some 1 := by kernel_rfl
theorem ft218_1 : fieldTy Tryz.prog 218 1 = some (188, 1) := by kernel_rfl
theorem fa218_2 : fieldFact Tryz.prog 218 2 = some 2 := by kernel_rfl
theorem ft218_2 : fieldTy Tryz.prog 218 2 = some (180, 2) := by kernel_rfl
theorem fa218_3 : fieldFact Tryz.prog 218 3 = some 3 := by kernel_rfl
theorem ft218_3 : fieldTy Tryz.prog 218 3 = some (180, 3) := by kernel_rfl
theorem fa218_4 : fieldFact Tryz.prog 218 4 = some 4 := by kernel_rfl
theorem ft218_4 : fieldTy Tryz.prog 218 4 = some (2, 4) := by kernel_rfl
theorem fa218_5 : fieldFact Tryz.prog 218 5 = some 5 := by kernel_rfl
theorem ft218_5 : fieldTy Tryz.prog 218 5 = some (2, 5) := by kernel_rfl
theorem fa218_6 : fieldFact Tryz.prog 218 6 = some 6 := by kernel_rfl
theorem ft218_6 : fieldTy Tryz.prog 218 6 = some (2, 6) := by kernel_rfl
theorem fa218_7 : fieldFact Tryz.prog 218 7 = some 7 := by kernel_rfl
theorem ft218_7 : fieldTy Tryz.prog 218 7 = some (171, 7) := by kernel_rfl
theorem fa218_8 : fieldFact Tryz.prog 218 8 = some 8 := by kernel_rfl
theorem ft218_8 : fieldTy Tryz.prog 218 8 = some (23, 8) := by kernel_rfl
theorem eg218 : Tryz.prog.eqGuardType Tryz.prog.depth 218 = false := by kernel_rfl
theorem ty221 : TyIs Tryz.prog 221 false 1 (.slice none 0 0) 24 := ⟨by kernel_rfl, by kernel_rfl⟩
theorem ty222 : TyIs Tryz.prog 222 true 1 (mkS [.slice none 0 0]) 24 := ⟨by kernel_rfl, by kernel_rfl⟩
theorem pl222 : structPlaces Tryz.prog 222 = some (placesOf [.slice none 0 0] 0) := by kernel_rfl
theorem fa222_0 : fieldFact Tryz.prog 222 0 = some 0 := by kernel_rfl
theorem ft222_0 : fieldTy Tryz.prog 222 0 = some (47, 0) := by kernel_rfl
theorem eg222 : Tryz.prog.eqGuardType Tryz.prog.depth 222 = false := by kernel_rfl
theorem ty223 : TyIs Tryz.prog 223 true 1 (mkS [.slice none 0 0]) 24 := ⟨by kernel_rfl, by kernel_rfl⟩
theorem pl223 : structPlaces Tryz.prog 223 = some (placesOf [.slice none 0 0] 0) := by kernel_rfl
theorem fa223_0 : fieldFact Tryz.prog 223 0 = some 0 := by kernel_rfl
theorem ft223_0 : fieldTy Tryz.prog 223 0 = some (47, 0) := by kernel_rfl
theorem eg223 : Tryz.prog.eqGuardType Tryz.prog.depth 223 = false := by kernel_rfl
theorem ty226 : TyIs Tryz.prog 226 false 1 (.slice none 0 0) 24 := ⟨by kernel_rfl, by kernel_rfl⟩
theorem ty227 : TyIs Tryz.prog 227 true 45 (mkS [mkS [.slice none 0 0, .slice none 0 0, .slice none 0 0, .slice none 0 0, .int .i64 0, .int .i64 0, .int .i64 0, .slice none 0 0, hval hz], .slice none 0 0, .slice none 0 0, .slice none 0 0, .slice none 0 0, .bool false]) 280 := ⟨by kernel_rfl, by kernel_rfl⟩
theorem pl227 : structPlaces Tryz.prog 227 = some (placesOf [mkS [.slice none 0 0, .slice none 0 0, .slice none 0 0, .slice none 0 0, .int .i64 0, .int .i64 0, .int .i64 0, .slice none 0 0, hval hz], .slice none 0 0, .slice none 0 0, .slice none 0 0, .slice none 0 0, .bool false] 0) := by kernel_rfl
theorem fa227_0 : fieldFact Tryz.prog 227 0 = some 0 := by kernel_rfl
theorem ft227_0 : fieldTy Tryz.prog 227 0 = some (218, 0) := by kernel_rfl
theorem fa227_1 : fieldFact Tryz.prog 227 1 = some 40 := by kernel_rfl
theorem ft227_1 : fieldTy Tryz.prog 227 1 = some (221, 40) := by kernel_rfl
theorem fa227_2 : fieldFact Tryz.prog 227 2 = some 41 := by kernel_rfl
theorem ft227_2 : fieldTy Tryz.prog 227 2 = some (203, 41) := by kernel_rfl
theorem fa227_3 : fieldFact Tryz.prog 227 3 = some 42 := by kernel_rfl
theorem ft227_3 : fieldTy Tryz.prog 227 3 = some (166, 42) := by kernel_rfl
theorem fa227_4 : fieldFact Tryz.prog 227 4 = some 43 := by kernel_rfl
theorem ft227_4 : fieldTy Tryz.prog 227 4 = some (208, 43) := by kernel_rfl
theorem fa227_5 : fieldFact Tryz.prog 227 5 = some 44 := by kernel_rfl
theorem ft227_5 : fieldTy Tryz.prog 227 5 = some (4, 44) := by kernel_rfl
theorem eg227 : Tryz.prog.eqGuardType Tryz.prog.depth 227 = false := by kernel_rfl
theorem ty228 : TyIs Tryz.prog 228 true 45 (mkS [mkS [.slice none 0 0, .slice none 0 0, .slice none 0 0, .slice none 0 0, .int .i64 0, .int .i64 0, .int .i64 0, .slice none 0 0, hval hz], .slice none 0 0, .slice none 0 0, .slice none 0 0, .slice none 0 0, .bool false]) 280 := ⟨by kernel_rfl, by kernel_rfl⟩
theorem pl228 : structPlaces Tryz.prog 228 = some (placesOf [mkS [.slice none 0 0, .slice none 0 0, .slice none 0 0, .slice none 0 0, .int .i64 0, .int .i64 0, .int .i64 0, .slice none 0 0, hval hz], .slice none 0 0, .slice none 0 0, .slice none 0 0, .slice none 0 0, .bool false] 0) := by kernel_rfl
theorem fa228_0 : fieldFact Tryz.prog 228 0 = some 0 := by kernel_rfl
theorem ft228_0 : fieldTy Tryz.prog 228 0 = some (218, 0) := by kernel_rfl
theorem fa228_1 : fieldFact Tryz.prog 228 1 = some 40 := by kernel_rfl
theorem ft228_1 : fieldTy Tryz.prog 228 1 = some (221, 40) := by kernel_rfl
theorem fa228_2 : fieldFact Tryz.prog 228 2 = some 41 := by kernel_rfl
theorem ft228_2 : fieldTy Tryz.prog 228 2 = some (203, 41) := by kernel_rfl
theorem fa228_3 : fieldFact Tryz.prog 228 3 = some 42 := by kernel_rfl
theorem ft228_3 : fieldTy Tryz.prog 228 3 = some (166, 42) := by kernel_rfl
theorem fa228_4 : fieldFact Tryz.prog 228 4 = some 43 := by kernel_rfl
theorem ft228_4 : fieldTy Tryz.prog 228 4 = some (208, 43) := by kernel_rfl
theorem fa228_5 : fieldFact Tryz.prog 228 5 = some 44 := by kernel_rfl
theorem ft228_5 : fieldTy Tryz.prog 228 5 = some (4, 44) := by kernel_rfl
theorem eg228 : Tryz.prog.eqGuardType Tryz.prog.depth 228 = false := by kernel_rfl
theorem ty231 : TyIs Tryz.prog 231 false 1 (.slice none 0 0) 24 := ⟨by kernel_rfl, by kernel_rfl⟩
theorem ty232 : TyIs Tryz.prog 232 true 67 (mkS [hval hz, .int .i64 0, .int .i64 0, hval hz, .int .u64 0]) 88 := ⟨by kernel_rfl, by kernel_rfl⟩
theorem pl232 : structPlaces Tryz.prog 232 = some (placesOf [hval hz, .int .i64 0, .int .i64 0, hval hz, .int .u64 0] 0) := by kernel_rfl
theorem fa232_0 : fieldFact Tryz.prog 232 0 = some 0 := by kernel_rfl
theorem ft232_0 : fieldTy Tryz.prog 232 0 = some (23, 0) := by kernel_rfl
theorem fa232_1 : fieldFact Tryz.prog 232 1 = some 32 := by kernel_rfl
theorem ft232_1 : fieldTy Tryz.prog 232 1 = some (3, 32) := by kernel_rfl
theorem fa232_2 : fieldFact Tryz.prog 232 2 = some 33 := by kernel_rfl
theorem ft232_2 : fieldTy Tryz.prog 232 2 = some (2, 33) := by kernel_rfl
theorem fa232_3 : fieldFact Tryz.prog 232 3 = some 34 := by kernel_rfl
theorem ft232_3 : fieldTy Tryz.prog 232 3 = some (23, 34) := by kernel_rfl
theorem fa232_4 : fieldFact Tryz.prog 232 4 = some 66 := by kernel_rfl
theorem ft232_4 : fieldTy Tryz.prog 232 4 = some (154, 66) := by kernel_rfl
theorem eg232 : Tryz.prog.eqGuardType Tryz.prog.depth 232 = false := by kernel_rfl
theorem ty233 : TyIs Tryz.prog 233 true 67 (mkS [hval hz, .int .i64 0, .int .i64 0, hval hz, .int .u64 0]) 88 := ⟨by kernel_rfl, by kernel_rfl⟩
theorem pl233 : structPlaces Tryz.prog 233 = some (placesOf [hval hz, .int .i64 0, .int .i64 0, hval hz, .int .u64 0] 0) := by kernel_rfl
theorem fa233_0 : fieldFact Tryz.prog 233 0 = some 0 := by kernel_rfl
theorem ft233_0 : fieldTy Tryz.prog 233 0 = some (23, 0) := by kernel_rfl
theorem fa233_1 : fieldFact Tryz.prog 233 1 = some 32 := by kernel_rfl
theorem ft233_1 : fieldTy Tryz.prog 233 1 = some (3, 32) := by kernel_rfl
theorem fa233_2 : fieldFact Tryz.prog 233 2 = some 33 := by kernel_rfl
theorem ft233_2 : fieldTy Tryz.prog 233 2 = some (2, 33) := by kernel_rfl
theorem fa233_3 : fieldFact Tryz.prog 233 3 = some 34 := by kernel_rfl
theorem ft233_3 : fieldTy Tryz.prog 233 3 = some (23, 34) := by kernel_rfl
theorem fa233_4 : fieldFact Tryz.prog 233 4 = some 66 := by kernel_rfl
theorem ft233_4 : fieldTy Tryz.prog 233 4 = some (154, 66) := by kernel_rfl
theorem eg233 : Tryz.prog.eqGuardType Tryz.prog.depth 233 = false := by kernel_rfl
theorem ty234 : TyIs Tryz.prog 234 true 68 (mkS [mkS [hval hz, .int .i64 0, .int .i64 0, hval hz, .int .u64 0], .slice none 0 0]) 112 := ⟨by kernel_rfl, by kernel_rfl⟩
theorem pl234 : structPlaces Tryz.prog 234 = some (placesOf [mkS [hval hz, .int .i64 0, .int .i64 0, hval hz, .int .u64 0], .slice none 0 0] 0) := by kernel_rfl
theorem fa234_0 : fieldFact Tryz.prog 234 0 = some 0 := by kernel_rfl
theorem ft234_0 : fieldTy Tryz.prog 234 0 = some (233, 0) := by kernel_rfl
theorem fa234_1 : fieldFact Tryz.prog 234 1 = some 67 := by kernel_rfl
theorem ft234_1 : fieldTy Tryz.prog 234 1 = some (226, 67) := by kernel_rfl
theorem eg234 : Tryz.prog.eqGuardType Tryz.prog.depth 234 = false := by kernel_rfl
theorem ty235 : TyIs Tryz.prog 235 true 68 (mkS [mkS [hval hz, .int .i64 0, .int .i64 0, hval hz, .int .u64 0], .slice none 0 0]) 112 := ⟨by kernel_rfl, by kernel_rfl⟩
theorem pl235 : structPlaces Tryz.prog 235 = some (placesOf [mkS [hval hz, .int .i64 0, .int .i64 0, hval hz, .int .u64 0], .slice none 0 0] 0) := by kernel_rfl
theorem fa235_0 : fieldFact Tryz.prog 235 0 = some 0 := by kernel_rfl
theorem ft235_0 : fieldTy Tryz.prog 235 0 = some (233, 0) := by kernel_rfl
theorem fa235_1 : fieldFact Tryz.prog 235 1 = some 67 := by kernel_rfl
theorem ft235_1 : fieldTy Tryz.prog 235 1 = some (226, 67) := by kernel_rfl
theorem eg235 : Tryz.prog.eqGuardType Tryz.prog.depth 235 = false := by kernel_rfl
theorem ty238 : TyIs Tryz.prog 238 false 1 (.slice none 0 0) 24 := ⟨by kernel_rfl, by kernel_rfl⟩
theorem ty239 : TyIs Tryz.prog 239 true 12 (mkS [.int .i64 0, .int .i64 0, .int .i64 0, .int .i64 0, .int .i64 0, .int .i64 0, .int .i64 0, .int .i64 0, mkS [.int .i64 0, .int .i64 0], .int .i64 0, .int .i64 0]) 96 := ⟨by kernel_rfl, by kernel_rfl⟩
theorem pl239 : structPlaces Tryz.prog 239 = some (placesOf [.int .i64 0, .int .i64 0, .int .i64 0, .int .i64 0, .int .i64 0, .int .i64 0, .int .i64 0, .int .i64 0, mkS [.int .i64 0, .int .i64 0], .int .i64 0, .int .i64 0] 0) := by kernel_rfl
theorem fa239_0 : fieldFact Tryz.prog 239 0 = some 0 := by kernel_rfl
theorem ft239_0 : fieldTy Tryz.prog 239 0 = some (2, 0) := by kernel_rfl
theorem fa239_1 : fieldFact Tryz.prog 239 1 = some 1 := by kernel_rfl
theorem ft239_1 : fieldTy Tryz.prog 239 1 = some (2, 1) := by kernel_rfl
theorem fa239_2 : fieldFact Tryz.prog 239 2 = some 2 := by kernel_rfl
theorem ft239_2 : fieldTy Tryz.prog 239 2 = some (2, 2) := by kernel_rfl
theorem fa239_3 : fieldFact Tryz.prog 239 3 = some 3 := by kernel_rfl
theorem ft239_3 : fieldTy Tryz.prog 239 3 = some (2, 3) := by kernel_rfl
theorem fa239_4 : fieldFact Tryz.prog 239 4 = some 4 := by kernel_rfl
theorem ft239_4 : fieldTy Tryz.prog 239 4 = some (2, 4) := by kernel_rfl
theorem fa239_5 : fieldFact Tryz.prog 239 5 = some 5 := by kernel_rfl
theorem ft239_5 : fieldTy Tryz.prog 239 5 = some (2, 5) := by kernel_rfl
theorem fa239_6 : fieldFact Tryz.prog 239 6 = some 6 := by kernel_rfl
theorem ft239_6 : fieldTy Tryz.prog 239 6 = some (3, 6) := by kernel_rfl
theorem fa239_7 : fieldFact Tryz.prog 239 7 = some 7 := by kernel_rfl
theorem ft239_7 : fieldTy Tryz.prog 239 7 = some (3, 7) := by kernel_rfl
theorem fa239_8 : fieldFact Tryz.prog 239 8 = some 8 := by kernel_rfl
theorem ft239_8 : fieldTy Tryz.prog 239 8 = some (211, 8) := by kernel_rfl
theorem fa239_9 : fieldFact Tryz.prog 239 9 = some 10 := by kernel_rfl
theorem ft239_9 : fieldTy Tryz.prog 239 9 = some (3, 10) := by kernel_rfl
theorem fa239_10 : fieldFact Tryz.prog 239 10 = some 11 := by kernel_rfl
theorem ft239_10 : fieldTy Tryz.prog 239 10 = some (3, 11) := by kernel_rfl
theorem eg239 : Tryz.prog.eqGuardType Tryz.prog.depth 239 = false := by kernel_rfl
theorem ty240 : TyIs Tryz.prog 240 true 12 (mkS [.int .i64 0, .int .i64 0, .int .i64 0, .int .i64 0, .int .i64 0, .int .i64 0, .int .i64 0, .int .i64 0, mkS [.int .i64 0, .int .i64 0], .int .i64 0, .int .i64 0]) 96 := ⟨by kernel_rfl, by kernel_rfl⟩
theorem pl240 : structPlaces Tryz.prog 240 = some (placesOf [.int .i64 0, .int .i64 0, .int .i64 0, .int .i64 0, .int .i64 0, .int .i64 0, .int .i64 0, .int .i64 0, mkS [.int .i64 0, .int .i64 0], .int .i64 0, .int .i64 0] 0) := by kernel_rfl
theorem fa240_0 : fieldFact Tryz.prog 240 0 = some 0 := by kernel_rfl
theorem ft240_0 : fieldTy Tryz.prog 240 0 = some (2, 0) := by kernel_rfl
theorem fa240_1 : fieldFact Tryz.prog 240 1 = some 1 := by kernel_rfl
theorem ft240_1 : fieldTy Tryz.prog 240 1 = some (2, 1) := by kernel_rfl
theorem fa240_2 : fieldFact Tryz.prog 240 2 = some 2 := by kernel_rfl
theorem ft240_2 : fieldTy Tryz.prog 240 2 = some (2, 2) := by kernel_rfl
theorem fa240_3 : fieldFact Tryz.prog 240 3 = some 3 := by kernel_rfl
theorem ft240_3 : fieldTy Tryz.prog 240 3 = some (2, 3) := by kernel_rfl
theorem fa240_4 : fieldFact Tryz.prog 240 4 = some 4 := by kernel_rfl
theorem ft240_4 : fieldTy Tryz.prog 240 4 = some (2, 4) := by kernel_rfl
theorem fa240_5 : fieldFact Tryz.prog 240 5 = some 5 := by kernel_rfl
theorem ft240_5 : fieldTy Tryz.prog 240 5 = some (2, 5) := by kernel_rfl
theorem fa240_6 : fieldFact Tryz.prog 240 6 = some 6 := by kernel_rfl
theorem ft240_6 : fieldTy Tryz.prog 240 6 = some (3, 6) := by kernel_rfl
theorem fa240_7 : fieldFact Tryz.prog 240 7 = some 7 := by kernel_rfl
theorem ft240_7 : fieldTy Tryz.prog 240 7 = some (3, 7) := by kernel_rfl
theorem fa240_8 : fieldFact Tryz.prog 240 8 = some 8 := by kernel_rfl
theorem ft240_8 : fieldTy Tryz.prog 240 8 = some (211, 8) := by kernel_rfl
theorem fa240_9 : fieldFact Tryz.prog 240 9 = some 10 := by kernel_rfl
theorem ft240_9 : fieldTy Tryz.prog 240 9 = some (3, 10) := by kernel_rfl
theorem fa240_10 : fieldFact Tryz.prog 240 10 = some 11 := by kernel_rfl
theorem ft240_10 : fieldTy Tryz.prog 240 10 = some (3, 11) := by kernel_rfl
theorem eg240 : Tryz.prog.eqGuardType Tryz.prog.depth 240 = false := by kernel_rfl
theorem ty241 : TyIs Tryz.prog 241 true 14 (mkS [mkS [.int .i64 0, .int .i64 0, .int .i64 0, .int .i64 0, .int .i64 0, .int .i64 0, .int .i64 0, .int .i64 0, mkS [.int .i64 0, .int .i64 0], .int .i64 0, .int .i64 0], .int .i64 0, .slice none 0 0]) 128 := ⟨by kernel_rfl, by kernel_rfl⟩
theorem pl241 : structPlaces Tryz.prog 241 = some (placesOf [mkS [.int .i64 0, .int .i64 0, .int .i64 0, .int .i64 0, .int .i64 0, .int .i64 0, .int .i64 0, .int .i64 0, mkS [.int .i64 0, .int .i64 0], .int .i64 0, .int .i64 0], .int .i64 0, .slice none 0 0] 0) := by kernel_rfl
theorem fa241_0 : fieldFact Tryz.prog 241 0 = some 0 := by kernel_rfl
theorem ft241_0 : fieldTy Tryz.prog 241 0 = some (240, 0) := by kernel_rfl
theorem fa241_1 : fieldFact Tryz.prog 241 1 = some 12 := by kernel_rfl
theorem ft241_1 : fieldTy Tryz.prog 241 1 = some (2, 12) := by kernel_rfl
theorem fa241_2 : fieldFact Tryz.prog 241 2 = some 13 := by kernel_rfl
theorem ft241_2 : fieldTy Tryz.prog 241 2 = some (180, 13) := by kernel_rfl
theorem eg241 : Tryz.prog.eqGuardType Tryz.prog.depth 241 = false := by kernel_rfl
theorem ty242 : TyIs Tryz.prog 242 true 14 (mkS [mkS [.int .i64 0, .int .i64 0, .int .i64 0, .int .i64 0, .int .i64 0, .int .i64 0, .int .i64 0, .int .i64 0, mkS [.int .i64 0, .int .i64 0], .int .i64 0, .int .i64 0], .int .i64 0, .slice none 0 0]) 128 := ⟨by kernel_rfl, by kernel_rfl⟩
theorem pl242 : structPlaces Tryz.prog 242 = some (placesOf [mkS [.int .i64 0, .int .i64 0, .int .i64 0, .int .i64 0, .int .i64 0, .int .i64 0, .int .i64 0, .int .i64 0, mkS [.int .i64 0, .int .i64 0], .int .i64 0, .int .i64 0], .int .i64 0, .slice none 0 0] 0) := by kernel_rfl
theorem fa242_0 : fieldFact Tryz.prog 242 0 = some 0 := by kernel_rfl
theorem ft242_0 : fieldTy Tryz.prog 242 0 = some (240, 0) := by kernel_rfl
theorem fa242_1 : fieldFact Tryz.prog 242 1 = some 12 := by kernel_rfl
theorem ft242_1 : fieldTy Tryz.prog 242 1 = some (2, 12) := by kernel_rfl
theorem fa242_2 : fieldFact Tryz.prog 242 2 = some 13 := by kernel_rfl
theorem ft242_2 : fieldTy Tryz.prog 242 2 = some (180, 13) := by kernel_rfl
theorem eg242 : Tryz.prog.eqGuardType Tryz.prog.depth 242 = false := by kernel_rfl
theorem ty245 : TyIs Tryz.prog 245 false 1 (.slice none 0 0) 24 := ⟨by kernel_rfl, by kernel_rfl⟩
theorem ty246 : TyIs Tryz.prog 246 true 2 (mkS [.int .i64 0, .int .u64 0]) 16 := ⟨by kernel_rfl, by kernel_rfl⟩
theorem pl246 : structPlaces Tryz.prog 246 = some (placesOf [.int .i64 0, .int .u64 0] 0) := by kernel_rfl
theorem fa246_0 : fieldFact Tryz.prog 246 0 = some 0 := by kernel_rfl
theorem ft246_0 : fieldTy Tryz.prog 246 0 = some (2, 0) := by kernel_rfl
theorem fa246_1 : fieldFact Tryz.prog 246 1 = some 1 := by kernel_rfl
theorem ft246_1 : fieldTy Tryz.prog 246 1 = some (154, 1) := by kernel_rfl
theorem eg246 : Tryz.prog.eqGuardType Tryz.prog.depth 246 = false := by kernel_rfl
theorem ty247 : TyIs Tryz.prog 247 true 2 (mkS [.int .i64 0, .int .u64 0]) 16 := ⟨by kernel_rfl, by kernel_rfl⟩
theorem pl247 : structPlaces Tryz.prog 247 = some (placesOf [.int .i64 0, .int .u64 0] 0) := by kernel_rfl
theorem fa247_0 : fieldFact Tryz.prog 247 0 = some 0 := by kernel_rfl
theorem ft247_0 : fieldTy Tryz.prog 247 0 = some (2, 0) := by kernel_rfl
theorem fa247_1 : fieldFact Tryz.prog 247 1 = some 1 := by kernel_rfl
theorem ft247_1 : fieldTy Tryz.prog 247 1 = some (154, 1) := by kernel_rfl
theorem eg247 : Tryz.prog.eqGuardType Tryz.prog.depth 247 = false := by kernel_rfl
theorem ty248 : TyIs Tryz.prog 248 true 35 (mkS [hval hz, .string ⟨#[]⟩, mkS [.int .i64 0, .int .u64 0]]) 64 := ⟨by kernel_rfl, by kernel_rfl⟩
theorem pl248 : structPlaces Tryz.prog 248 = some (placesOf [hval hz, .string ⟨#[]⟩, mkS [.int .i64 0, .int .u64 0]] 0) := by kernel_rfl
theorem fa248_0 : fieldFact Tryz.prog 248 0 = some 0 := by kernel_rfl
theorem ft248_0 : fieldTy Tryz.prog 248 0 = some (23, 0) := by kernel_rfl
theorem fa248_1 : fieldFact Tryz.prog 248 1 = some 32 := by kernel_rfl
theorem ft248_1 : fieldTy Tryz.prog 248 1 = some (9, 32) := by kernel_rfl
theorem fa248_2 : fieldFact Tryz.prog 248 2 = some 33 := by kernel_rfl
theorem ft248_2 : fieldTy Tryz.prog 248 2 = some (247, 33) := by kernel_rfl
theorem eg248 : Tryz.prog.eqGuardType Tryz.prog.depth 248 = false := by kernel_rfl
theorem ty249 : TyIs Tryz.prog 249 true 35 (mkS [hval hz, .string ⟨#[]⟩, mkS [.int .i64 0, .int .u64 0]]) 64 := ⟨by kernel_rfl, by kernel_rfl⟩
theorem pl249 : structPlaces Tryz.prog 249 = some (placesOf [hval hz, .string ⟨#[]⟩, mkS [.int .i64 0, .int .u64 0]] 0) := by kernel_rfl
theorem fa249_0 : fieldFact Tryz.prog 249 0 = some 0 := by kernel_rfl
theorem ft249_0 : fieldTy Tryz.prog 249 0 = some (23, 0) := by kernel_rfl
theorem fa249_1 : fieldFact Tryz.prog 249 1 = some 32 := by kernel_rfl
theorem ft249_1 : fieldTy Tryz.prog 249 1 = some (9, 32) := by kernel_rfl
theorem fa249_2 : fieldFact Tryz.prog 249 2 = some 33 := by kernel_rfl
theorem ft249_2 : fieldTy Tryz.prog 249 2 = some (247, 33) := by kernel_rfl
theorem eg249 : Tryz.prog.eqGuardType Tryz.prog.depth 249 = false := by kernel_rfl
theorem ty251 : TyIs Tryz.prog 251 false 1 (.slice none 0 0) 24 := ⟨by kernel_rfl, by kernel_rfl⟩
theorem ty252 : TyIs Tryz.prog 252 true 5 (mkS [.slice none 0 0, .slice none 0 0, .int .i64 0, .int .i64 0, .slice none 0 0]) 88 := ⟨by kernel_rfl, by kernel_rfl⟩
theorem pl252 : structPlaces Tryz.prog 252 = some (placesOf [.slice none 0 0, .slice none 0 0, .int .i64 0, .int .i64 0, .slice none 0 0] 0) := by kernel_rfl
theorem fa252_0 : fieldFact Tryz.prog 252 0 = some 0 := by kernel_rfl
theorem ft252_0 : fieldTy Tryz.prog 252 0 = some (192, 0) := by kernel_rfl
theorem fa252_1 : fieldFact Tryz.prog 252 1 = some 1 := by kernel_rfl
theorem ft252_1 : fieldTy Tryz.prog 252 1 = some (192, 1) := by kernel_rfl
theorem fa252_2 : fieldFact Tryz.prog 252 2 = some 2 := by kernel_rfl
theorem ft252_2 : fieldTy Tryz.prog 252 2 = some (2, 2) := by kernel_rfl
theorem fa252_3 : fieldFact Tryz.prog 252 3 = some 3 := by kernel_rfl
theorem ft252_3 : fieldTy Tryz.prog 252 3 = some (2, 3) := by kernel_rfl
theorem fa252_4 : fieldFact Tryz.prog 252 4 = some 4 := by kernel_rfl
theorem ft252_4 : fieldTy Tryz.prog 252 4 = some (245, 4) := by kernel_rfl
theorem eg252 : Tryz.prog.eqGuardType Tryz.prog.depth 252 = false := by kernel_rfl
theorem ty253 : TyIs Tryz.prog 253 true 5 (mkS [.slice none 0 0, .slice none 0 0, .int .i64 0, .int .i64 0, .slice none 0 0]) 88 := ⟨by kernel_rfl, by kernel_rfl⟩
theorem pl253 : structPlaces Tryz.prog 253 = some (placesOf [.slice none 0 0, .slice none 0 0, .int .i64 0, .int .i64 0, .slice none 0 0] 0) := by kernel_rfl
theorem fa253_0 : fieldFact Tryz.prog 253 0 = some 0 := by kernel_rfl
theorem ft253_0 : fieldTy Tryz.prog 253 0 = some (192, 0) := by kernel_rfl
theorem fa253_1 : fieldFact Tryz.prog 253 1 = some 1 := by kernel_rfl
theorem ft253_1 : fieldTy Tryz.prog 253 1 = some (192, 1) := by kernel_rfl
theorem fa253_2 : fieldFact Tryz.prog 253 2 = some 2 := by kernel_rfl
theorem ft253_2 : fieldTy Tryz.prog 253 2 = some (2, 2) := by kernel_rfl
theorem fa253_3 : fieldFact Tryz.prog 253 3 = some 3 := by kernel_rfl
theorem ft253_3 : fieldTy Tryz.prog 253 3 = some (2, 3) := by kernel_rfl
theorem fa253_4 : fieldFact Tryz.prog 253 4 = some 4 := by kernel_rfl
theorem ft253_4 : fieldTy Tryz.prog 253 4 = some (245, 4) := by kernel_rfl
theorem eg253 : Tryz.prog.eqGuardType Tryz.prog.depth 253 = false := by kernel_rfl
theorem ty256 : TyIs Tryz.prog 256 false 1 (.slice none 0 0) 24 := ⟨by kernel_rfl, by kernel_rfl⟩
theorem ty257 : TyIs Tryz.prog 257 true 106 (mkS [hval hz, mkS [mkS [hval hz, .int .i64 0, .int .i64 0, hval hz, .int .u64 0], .slice none 0 0], .int .i64 0, mkS [.slice none 0 0, .slice none 0 0, .int .i64 0, .int .i64 0, .slice none 0 0]]) 240 := ⟨by kernel_rfl, by kernel_rfl⟩
theorem pl257 : structPlaces Tryz.prog 257 = some (placesOf [hval hz, mkS [mkS [hval hz, .int .i64 0, .int .i64 0, hval hz, .int .u64 0], .slice none 0 0], .int .i64 0, mkS [.slice none 0 0, .slice none 0 0, .int .i64 0, .int .i64 0, .slice none 0 0]] 0) := by kernel_rfl
theorem fa257_0 : fieldFact Tryz.prog 257 0 = some 0 := by kernel_rfl
theorem ft257_0 : fieldTy Tryz.prog 257 0 = some (23, 0) := by kernel_rfl
theorem fa257_1 : fieldFact Tryz.prog 257 1 = some 32 := by kernel_rfl
theorem ft257_1 : fieldTy Tryz.prog 257 1 = some (235, 32) := by kernel_rfl
theorem fa257_2 : fieldFact Tryz.prog 257 2 = some 100 := by kernel_rfl
theorem ft257_2 : fieldTy Tryz.prog 257 2 = some (35, 100) := by kernel_rfl
theorem fa257_3 : fieldFact Tryz.prog 257 3 = some 101 := by kernel_rfl
theorem ft257_3 : fieldTy Tryz.prog 257 3 = some (253, 101) := by kernel_rfl
theorem eg257 : Tryz.prog.eqGuardType Tryz.prog.depth 257 = false := by kernel_rfl
theorem ty258 : TyIs Tryz.prog 258 true 106 (mkS [hval hz, mkS [mkS [hval hz, .int .i64 0, .int .i64 0, hval hz, .int .u64 0], .slice none 0 0], .int .i64 0, mkS [.slice none 0 0, .slice none 0 0, .int .i64 0, .int .i64 0, .slice none 0 0]]) 240 := ⟨by kernel_rfl, by kernel_rfl⟩
theorem pl258 : structPlaces Tryz.prog 258 = some (placesOf [hval hz, mkS [mkS [hval hz, .int .i64 0, .int .i64 0, hval hz, .int .u64 0], .slice none 0 0], .int .i64 0, mkS [.slice none 0 0, .slice none 0 0, .int .i64 0, .int .i64 0, .slice none 0 0]] 0) := by kernel_rfl
theorem fa258_0 : fieldFact Tryz.prog 258 0 = some 0 := by kernel_rfl
theorem ft258_0 : fieldTy Tryz.prog 258 0 = some (23, 0) := by kernel_rfl
theorem fa258_1 : fieldFact Tryz.prog 258 1 = some 32 := by kernel_rfl
theorem ft258_1 : fieldTy Tryz.prog 258 1 = some (235, 32) := by kernel_rfl
theorem fa258_2 : fieldFact Tryz.prog 258 2 = some 100 := by kernel_rfl
theorem ft258_2 : fieldTy Tryz.prog 258 2 = some (35, 100) := by kernel_rfl
theorem fa258_3 : fieldFact Tryz.prog 258 3 = some 101 := by kernel_rfl
theorem ft258_3 : fieldTy Tryz.prog 258 3 = some (253, 101) := by kernel_rfl
theorem eg258 : Tryz.prog.eqGuardType Tryz.prog.depth 258 = false := by kernel_rfl
theorem ty261 : TyIs Tryz.prog 261 false 1 (.slice none 0 0) 24 := ⟨by kernel_rfl, by kernel_rfl⟩
theorem ty262 : TyIs Tryz.prog 262 true 182 (mkS [mkS [.int .i64 0, .int .i64 0, .int .i64 0, .int .i64 0, .int .i64 0, .int .i64 0, .int .i64 0, .int .i64 0, mkS [.int .i64 0, .int .i64 0], .int .i64 0, .int .i64 0], hval hz, .slice none 0 0, .slice none 0 0, mkS [hval hz, .int .i64 0, .int .i64 0, hval hz, .int .u64 0], hval hz, hval hz, .int .i64 0, .int .i64 0, .slice none 0 0, .slice none 0 0, .int .i64 0]) 400 := ⟨by kernel_rfl, by kernel_rfl⟩
theorem pl262 : structPlaces Tryz.prog 262 = some (placesOf [mkS [.int .i64 0, .int .i64 0, .int .i64 0, .int .i64 0, .int .i64 0, .int .i64 0, .int .i64 0, .int .i64 0, mkS [.int .i64 0, .int .i64 0], .int .i64 0, .int .i64 0], hval hz, .slice none 0 0, .slice none 0 0, mkS [hval hz, .int .i64 0, .int .i64 0, hval hz, .int .u64 0], hval hz, hval hz, .int .i64 0, .int .i64 0, .slice none 0 0, .slice none 0 0, .int .i64 0] 0) := by kernel_rfl
theorem fa262_0 : fieldFact Tryz.prog 262 0 = some 0 := by kernel_rfl
theorem ft262_0 : fieldTy Tryz.prog 262 0 = some (240, 0) := by kernel_rfl
theorem fa262_1 : fieldFact Tryz.prog 262 1 = some 12 := by kernel_rfl
theorem ft262_1 : fieldTy Tryz.prog 262 1 = some (23, 12) := by kernel_rfl
theorem fa262_2 : fieldFact Tryz.prog 262 2 = some 44 := by kernel_rfl
theorem ft262_2 : fieldTy Tryz.prog 262 2 = some (192, 44) := by kernel_rfl
theorem fa262_3 : fieldFact Tryz.prog 262 3 = some 45 := by kernel_rfl
theorem ft262_3 : fieldTy Tryz.prog 262 3 = some (256, 45) := by kernel_rfl
theorem fa262_4 : fieldFact Tryz.prog 262 4 = some 46 := by kernel_rfl
theorem ft262_4 : fieldTy Tryz.prog 262 4 = some (233, 46) := by kernel_rfl
theorem fa262_5 : fieldFact Tryz.prog 262 5 = some 113 := by kernel_rfl
theorem ft262_5 : fieldTy Tryz.prog 262 5 = some (23, 113) := by kernel_rfl
theorem fa262_6 : fieldFact Tryz.prog 262 6 = some 145 := by kernel_rfl
theorem ft262_6 : fieldTy Tryz.prog 262 6 = some (23, 145) := by kernel_rfl
theorem fa262_7 : fieldFact Tryz.prog 262 7 = some 177 := by kernel_rfl
theorem ft262_7 : fieldTy Tryz.prog 262 7 = some (2, 177) := by kernel_rfl
theorem fa262_8 : fieldFact Tryz.prog 262 8 = some 178 := by kernel_rfl
theorem ft262_8 : fieldTy Tryz.prog 262 8 = some (2, 178) := by kernel_rfl
theorem fa262_9 : fieldFact Tryz.prog 262 9 = some 179 := by kernel_rfl
theorem ft262_9 : fieldTy Tryz.prog 262 9 = some (245, 179) := by kernel_rfl
theorem fa262_10 : fieldFact Tryz.prog 262 10 = some 180 := by kernel_rfl
theorem ft262_10 : fieldTy Tryz.prog 262 10 = some (226, 180) := by kernel_rfl
theorem fa262_11 : fieldFact Tryz.prog 262 11 = some 181 := by kernel_rfl
theorem ft262_11 : fieldTy Tryz.prog 262 11 = some (2, 181) := by kernel_rfl
theorem eg262 : Tryz.prog.eqGuardType Tryz.prog.depth 262 = false := by kernel_rfl
theorem ty263 : TyIs Tryz.prog 263 true 182 (mkS [mkS [.int .i64 0, .int .i64 0, .int .i64 0, .int .i64 0, .int .i64 0, .int .i64 0, .int .i64 0, .int .i64 0, mkS [.int .i64 0, .int .i64 0], .int .i64 0, .int .i64 0], hval hz, .slice none 0 0, .slice none 0 0, mkS [hval hz, .int .i64 0, .int .i64 0, hval hz, .int .u64 0], hval hz, hval hz, .int .i64 0, .int .i64 0, .slice none 0 0, .slice none 0 0, .int .i64 0]) 400 := ⟨by kernel_rfl, by kernel_rfl⟩
theorem pl263 : structPlaces Tryz.prog 263 = some (placesOf [mkS [.int .i64 0, .int .i64 0, .int .i64 0, .int .i64 0, .int .i64 0, .int .i64 0, .int .i64 0, .int .i64 0, mkS [.int .i64 0, .int .i64 0], .int .i64 0, .int .i64 0], hval hz, .slice none 0 0, .slice none 0 0, mkS [hval hz, .int .i64 0, .int .i64 0, hval hz, .int .u64 0], hval hz, hval hz, .int .i64 0, .int .i64 0, .slice none 0 0, .slice none 0 0, .int .i64 0] 0) := by kernel_rfl
theorem fa263_0 : fieldFact Tryz.prog 263 0 = some 0 := by kernel_rfl
theorem ft263_0 : fieldTy Tryz.prog 263 0 = some (240, 0) := by kernel_rfl
theorem fa263_1 : fieldFact Tryz.prog 263 1 = some 12 := by kernel_rfl
theorem ft263_1 : fieldTy Tryz.prog 263 1 = some (23, 12) := by kernel_rfl
theorem fa263_2 : fieldFact Tryz.prog 263 2 = some 44 := by kernel_rfl
theorem ft263_2 : fieldTy Tryz.prog 263 2 = some (192, 44) := by kernel_rfl
theorem fa263_3 : fieldFact Tryz.prog 263 3 = some 45 := by kernel_rfl
theorem ft263_3 : fieldTy Tryz.prog 263 3 = some (256, 45) := by kernel_rfl
theorem fa263_4 : fieldFact Tryz.prog 263 4 = some 46 := by kernel_rfl
theorem ft263_4 : fieldTy Tryz.prog 263 4 = some (233, 46) := by kernel_rfl
theorem fa263_5 : fieldFact Tryz.prog 263 5 = some 113 := by kernel_rfl
theorem ft263_5 : fieldTy Tryz.prog 263 5 = some (23, 113) := by kernel_rfl
theorem fa263_6 : fieldFact Tryz.prog 263 6 = some 145 := by kernel_rfl
theorem ft263_6 : fieldTy Tryz.prog 263 6 = some (23, 145) := by kernel_rfl
theorem fa263_7 : fieldFact Tryz.prog 263 7 = some 177 := by kernel_rfl
theorem ft263_7 : fieldTy Tryz.prog 263 7 = some (2, 177) := by kernel_rfl
theorem fa263_8 : fieldFact Tryz.prog 263 8 = some 178 := by kernel_rfl
theorem ft263_8 : fieldTy Tryz.prog 263 8 = some (2, 178) := by kernel_rfl
theorem fa263_9 : fieldFact Tryz.prog 263 9 = some 179 := by kernel_rfl
theorem ft263_9 : fieldTy Tryz.prog 263 9 = some (245, 179) := by kernel_rfl
theorem fa263_10 : fieldFact Tryz.prog 263 10 = some 180 := by kernel_rfl
theorem ft263_10 : fieldTy Tryz.prog 263 10 = some (226, 180) := by kernel_rfl
theorem fa263_11 : fieldFact Tryz.prog 263 11 = some 181 := by kernel_rfl
theorem ft263_11 : fieldTy Tryz.prog 263 11 = some (2, 181) := by kernel_rfl
theorem eg263 : Tryz.prog.eqGuardType Tryz.prog.depth 263 = false := by kernel_rfl
theorem ty266 : TyIs Tryz.prog 266 false 1 (.slice none 0 0) 24 := ⟨by kernel_rfl, by kernel_rfl⟩
theorem ty267 : TyIs Tryz.prog 267 false 1 (.int .i64 0) 8 := ⟨by kernel_rfl, by kernel_rfl⟩
theorem ty268 : TyIs Tryz.prog 268 true 3 (mkS [.int .i64 0, .slice none 0 0, .int .i64 0]) 40 := ⟨by kernel_rfl, by kernel_rfl⟩
theorem pl268 : structPlaces Tryz.prog 268 = some (placesOf [.int .i64 0, .slice none 0 0, .int .i64 0] 0) := by kernel_rfl
theorem fa268_0 : fieldFact Tryz.prog 268 0 = some 0 := by kernel_rfl
theorem ft268_0 : fieldTy Tryz.prog 268 0 = some (267, 0) := by kernel_rfl
theorem fa268_1 : fieldFact Tryz.prog 268 1 = some 1 := by kernel_rfl
theorem ft268_1 : fieldTy Tryz.prog 268 1 = some (111, 1) := by kernel_rfl
theorem fa268_2 : fieldFact Tryz.prog 268 2 = some 2 := by kernel_rfl
theorem ft268_2 : fieldTy Tryz.prog 268 2 = some (2, 2) := by kernel_rfl
theorem eg268 : Tryz.prog.eqGuardType Tryz.prog.depth 268 = false := by kernel_rfl
theorem ty269 : TyIs Tryz.prog 269 true 3 (mkS [.int .i64 0, .slice none 0 0, .int .i64 0]) 40 := ⟨by kernel_rfl, by kernel_rfl⟩
theorem pl269 : structPlaces Tryz.prog 269 = some (placesOf [.int .i64 0, .slice none 0 0, .int .i64 0] 0) := by kernel_rfl
theorem fa269_0 : fieldFact Tryz.prog 269 0 = some 0 := by kernel_rfl
theorem ft269_0 : fieldTy Tryz.prog 269 0 = some (267, 0) := by kernel_rfl
theorem fa269_1 : fieldFact Tryz.prog 269 1 = some 1 := by kernel_rfl
theorem ft269_1 : fieldTy Tryz.prog 269 1 = some (111, 1) := by kernel_rfl
theorem fa269_2 : fieldFact Tryz.prog 269 2 = some 2 := by kernel_rfl
theorem ft269_2 : fieldTy Tryz.prog 269 2 = some (2, 2) := by kernel_rfl
theorem eg269 : Tryz.prog.eqGuardType Tryz.prog.depth 269 = false := by kernel_rfl
theorem ty272 : TyIs Tryz.prog 272 false 1 (.slice none 0 0) 24 := ⟨by kernel_rfl, by kernel_rfl⟩
theorem ty273 : TyIs Tryz.prog 273 false 1 (.int .i64 0) 8 := ⟨by kernel_rfl, by kernel_rfl⟩
theorem ty274 : TyIs Tryz.prog 274 true 3 (mkS [.int .i64 0, .int .i64 0, .int .i64 0]) 24 := ⟨by kernel_rfl, by kernel_rfl⟩
theorem pl274 : structPlaces Tryz.prog 274 = some (placesOf [.int .i64 0, .int .i64 0, .int .i64 0] 0) := by kernel_rfl
theorem fa274_0 : fieldFact Tryz.prog 274 0 = some 0 := by kernel_rfl
theorem ft274_0 : fieldTy Tryz.prog 274 0 = some (27, 0) := by kernel_rfl
theorem fa274_1 : fieldFact Tryz.prog 274 1 = some 1 := by kernel_rfl
theorem ft274_1 : fieldTy Tryz.prog 274 1 = some (273, 1) := by kernel_rfl
theorem fa274_2 : fieldFact Tryz.prog 274 2 = some 2 := by kernel_rfl
theorem ft274_2 : fieldTy Tryz.prog 274 2 = some (35, 2) := by kernel_rfl
theorem eg274 : Tryz.prog.eqGuardType Tryz.prog.depth 274 = false := by kernel_rfl
theorem ty275 : TyIs Tryz.prog 275 true 3 (mkS [.int .i64 0, .int .i64 0, .int .i64 0]) 24 := ⟨by kernel_rfl, by kernel_rfl⟩
theorem pl275 : structPlaces Tryz.prog 275 = some (placesOf [.int .i64 0, .int .i64 0, .int .i64 0] 0) := by kernel_rfl
theorem fa275_0 : fieldFact Tryz.prog 275 0 = some 0 := by kernel_rfl
theorem ft275_0 : fieldTy Tryz.prog 275 0 = some (27, 0) := by kernel_rfl
theorem fa275_1 : fieldFact Tryz.prog 275 1 = some 1 := by kernel_rfl
theorem ft275_1 : fieldTy Tryz.prog 275 1 = some (273, 1) := by kernel_rfl
theorem fa275_2 : fieldFact Tryz.prog 275 2 = some 2 := by kernel_rfl
theorem ft275_2 : fieldTy Tryz.prog 275 2 = some (35, 2) := by kernel_rfl
theorem eg275 : Tryz.prog.eqGuardType Tryz.prog.depth 275 = false := by kernel_rfl
theorem ty295 : TyIs Tryz.prog 295 false 1 (.int .i64 0) 8 := ⟨by kernel_rfl, by kernel_rfl⟩
theorem ty304 : TyIs Tryz.prog 304 false 1 (.int .u64 0) 8 := ⟨by kernel_rfl, by kernel_rfl⟩
theorem ty308 : TyIs Tryz.prog 308 false 1 (.pointer none) 8 := ⟨by kernel_rfl, by kernel_rfl⟩
theorem ty310 : TyIs Tryz.prog 310 false 1 (.pointer none) 8 := ⟨by kernel_rfl, by kernel_rfl⟩
theorem ty314 : TyIs Tryz.prog 314 true 4 (mkS [.pointer none, .pointer none, .pointer none, .string ⟨#[]⟩]) 40 := ⟨by kernel_rfl, by kernel_rfl⟩
theorem pl314 : structPlaces Tryz.prog 314 = some (placesOf [.pointer none, .pointer none, .pointer none, .string ⟨#[]⟩] 0) := by kernel_rfl
theorem fa314_0 : fieldFact Tryz.prog 314 0 = some 0 := by kernel_rfl
theorem ft314_0 : fieldTy Tryz.prog 314 0 = some (17, 0) := by kernel_rfl
theorem fa314_1 : fieldFact Tryz.prog 314 1 = some 1 := by kernel_rfl
theorem ft314_1 : fieldTy Tryz.prog 314 1 = some (17, 1) := by kernel_rfl
theorem fa314_2 : fieldFact Tryz.prog 314 2 = some 2 := by kernel_rfl
theorem ft314_2 : fieldTy Tryz.prog 314 2 = some (17, 2) := by kernel_rfl
theorem fa314_3 : fieldFact Tryz.prog 314 3 = some 3 := by kernel_rfl
theorem ft314_3 : fieldTy Tryz.prog 314 3 = some (9, 3) := by kernel_rfl
theorem eg314 : Tryz.prog.eqGuardType Tryz.prog.depth 314 = false := by kernel_rfl
theorem ty315 : TyIs Tryz.prog 315 true 4 (mkS [.pointer none, .pointer none, .pointer none, .string ⟨#[]⟩]) 40 := ⟨by kernel_rfl, by kernel_rfl⟩
theorem pl315 : structPlaces Tryz.prog 315 = some (placesOf [.pointer none, .pointer none, .pointer none, .string ⟨#[]⟩] 0) := by kernel_rfl
theorem fa315_0 : fieldFact Tryz.prog 315 0 = some 0 := by kernel_rfl
theorem ft315_0 : fieldTy Tryz.prog 315 0 = some (17, 0) := by kernel_rfl
theorem fa315_1 : fieldFact Tryz.prog 315 1 = some 1 := by kernel_rfl
theorem ft315_1 : fieldTy Tryz.prog 315 1 = some (17, 1) := by kernel_rfl
theorem fa315_2 : fieldFact Tryz.prog 315 2 = some 2 := by kernel_rfl
theorem ft315_2 : fieldTy Tryz.prog 315 2 = some (17, 2) := by kernel_rfl
theorem fa315_3 : fieldFact Tryz.prog 315 3 = some 3 := by kernel_rfl
theorem ft315_3 : fieldTy Tryz.prog 315 3 = some (9, 3) := by kernel_rfl
theorem eg315 : Tryz.prog.eqGuardType Tryz.prog.depth 315 = false := by kernel_rfl
theorem ty317 : TyIs Tryz.prog 317 true 0 (mkS [(mkS [])]) 0 := ⟨by kernel_rfl, by kernel_rfl⟩
theorem pl317 : structPlaces Tryz.prog 317 = some (placesOf [(mkS [])] 0) := by kernel_rfl
theorem eg317 : Tryz.prog.eqGuardType Tryz.prog.depth 317 = false := by kernel_rfl
theorem ty318 : TyIs Tryz.prog 318 true 0 (mkS [(mkS [])]) 0 := ⟨by kernel_rfl, by kernel_rfl⟩
theorem pl318 : structPlaces Tryz.prog 318 = some (placesOf [(mkS [])] 0) := by kernel_rfl
theorem eg318 : Tryz.prog.eqGuardType Tryz.prog.depth 318 = false := by kernel_rfl
theorem ty320 : TyIs Tryz.prog 320 false 1 (.int .u8 0) 1 := ⟨by kernel_rfl, by kernel_rfl⟩
theorem ty321 : TyIs Tryz.prog 321 false 1 (.int .u8 0) 1 := ⟨by kernel_rfl, by kernel_rfl⟩
theorem ty323 : TyIs Tryz.prog 323 false 1 (.pointer none) 8 := ⟨by kernel_rfl, by kernel_rfl⟩
theorem ty324 : TyIs Tryz.prog 324 false 1 (.int .i32 0) 4 := ⟨by kernel_rfl, by kernel_rfl⟩
theorem ty325 : TyIs Tryz.prog 325 false 1 (.int .i32 0) 4 := ⟨by kernel_rfl, by kernel_rfl⟩
theorem ty326 : TyIs Tryz.prog 326 true 11 (mkS [.int .u64 0, .int .u64 0, .int .u32 0, .int .u8 0, .int .u8 0, .int .u8 0, .int .u8 0, .nilFunc, .pointer none, .int .i32 0, .int .i32 0]) 48 := ⟨by kernel_rfl, by kernel_rfl⟩
theorem pl326 : structPlaces Tryz.prog 326 = some (placesOf [.int .u64 0, .int .u64 0, .int .u32 0, .int .u8 0, .int .u8 0, .int .u8 0, .int .u8 0, .nilFunc, .pointer none, .int .i32 0, .int .i32 0] 0) := by kernel_rfl
theorem fa326_0 : fieldFact Tryz.prog 326 0 = some 0 := by kernel_rfl
theorem ft326_0 : fieldTy Tryz.prog 326 0 = some (12, 0) := by kernel_rfl
theorem fa326_1 : fieldFact Tryz.prog 326 1 = some 1 := by kernel_rfl
theorem ft326_1 : fieldTy Tryz.prog 326 1 = some (12, 1) := by kernel_rfl
theorem fa326_2 : fieldFact Tryz.prog 326 2 = some 2 := by kernel_rfl
theorem ft326_2 : fieldTy Tryz.prog 326 2 = some (151, 2) := by kernel_rfl
theorem fa326_3 : fieldFact Tryz.prog 326 3 = some 3 := by kernel_rfl
theorem ft326_3 : fieldTy Tryz.prog 326 3 = some (320, 3) := by kernel_rfl
theorem fa326_4 : fieldFact Tryz.prog 326 4 = some 4 := by kernel_rfl
theorem ft326_4 : fieldTy Tryz.prog 326 4 = some (5, 4) := by kernel_rfl
theorem fa326_5 : fieldFact Tryz.prog 326 5 = some 5 := by kernel_rfl
theorem ft326_5 : fieldTy Tryz.prog 326 5 = some (5, 5) := by kernel_rfl
theorem fa326_6 : fieldFact Tryz.prog 326 6 = some 6 := by kernel_rfl
theorem ft326_6 : fieldTy Tryz.prog 326 6 = some (321, 6) := by kernel_rfl
theorem fa326_7 : fieldFact Tryz.prog 326 7 = some 7 := by kernel_rfl
theorem ft326_7 : fieldTy Tryz.prog 326 7 = some (322, 7) := by kernel_rfl
theorem fa326_8 : fieldFact Tryz.prog 326 8 = some 8 := by kernel_rfl
theorem ft326_8 : fieldTy Tryz.prog 326 8 = some (323, 8) := by kernel_rfl
theorem fa326_9 : fieldFact Tryz.prog 326 9 = some 9 := by kernel_rfl
theorem ft326_9 : fieldTy Tryz.prog 326 9 = some (324, 9) := by kernel_rfl
theorem fa326_10 : fieldFact Tryz.prog 326 10 = some 10 := by kernel_rfl
theorem ft326_10 : fieldTy Tryz.prog 326 10 = some (325, 10) := by kernel_rfl
theorem eg326 : Tryz.prog.eqGuardType Tryz.prog.depth 326 = false := by kernel_rfl
theorem ty327 : TyIs Tryz.prog 327 true 11 (mkS [.int .u64 0, .int .u64 0, .int .u32 0, .int .u8 0, .int .u8 0, .int .u8 0, .int .u8 0, .nilFunc, .pointer none, .int .i32 0, .int .i32 0]) 48 := ⟨by kernel_rfl, by kernel_rfl⟩
theorem pl327 : structPlaces Tryz.prog 327 = some (placesOf [.int .u64 0, .int .u64 0, .int .u32 0, .int .u8 0, .int .u8 0, .int .u8 0, .int .u8 0, .nilFunc, .pointer none, .int .i32 0, .int .i32 0] 0) := by kernel_rfl
theorem fa327_0 : fieldFact Tryz.prog 327 0 = some 0 := by kernel_rfl
theorem ft327_0 : fieldTy Tryz.prog 327 0 = some (12, 0) := by kernel_rfl
theorem fa327_1 : fieldFact Tryz.prog 327 1 = some 1 := by kernel_rfl
theorem ft327_1 : fieldTy Tryz.prog 327 1 = some (12, 1) := by kernel_rfl
theorem fa327_2 : fieldFact Tryz.prog 327 2 = some 2 := by kernel_rfl
theorem ft327_2 : fieldTy Tryz.prog 327 2 = some (151, 2) := by kernel_rfl
theorem fa327_3 : fieldFact Tryz.prog 327 3 = some 3 := by kernel_rfl
theorem ft327_3 : fieldTy Tryz.prog 327 3 = some (320, 3) := by kernel_rfl
theorem fa327_4 : fieldFact Tryz.prog 327 4 = some 4 := by kernel_rfl
theorem ft327_4 : fieldTy Tryz.prog 327 4 = some (5, 4) := by kernel_rfl
theorem fa327_5 : fieldFact Tryz.prog 327 5 = some 5 := by kernel_rfl
theorem ft327_5 : fieldTy Tryz.prog 327 5 = some (5, 5) := by kernel_rfl
theorem fa327_6 : fieldFact Tryz.prog 327 6 = some 6 := by kernel_rfl
theorem ft327_6 : fieldTy Tryz.prog 327 6 = some (321, 6) := by kernel_rfl
theorem fa327_7 : fieldFact Tryz.prog 327 7 = some 7 := by kernel_rfl
theorem ft327_7 : fieldTy Tryz.prog 327 7 = some (322, 7) := by kernel_rfl
theorem fa327_8 : fieldFact Tryz.prog 327 8 = some 8 := by kernel_rfl
theorem ft327_8 : fieldTy Tryz.prog 327 8 = some (323, 8) := by kernel_rfl
theorem fa327_9 : fieldFact Tryz.prog 327 9 = some 9 := by kernel_rfl
theorem ft327_9 : fieldTy Tryz.prog 327 9 = some (324, 9) := by kernel_rfl
theorem fa327_10 : fieldFact Tryz.prog 327 10 = some 10 := by kernel_rfl
theorem ft327_10 : fieldTy Tryz.prog 327 10 = some (325, 10) := by kernel_rfl
theorem eg327 : Tryz.prog.eqGuardType Tryz.prog.depth 327 = false := by kernel_rfl
end Go.Proofs.YtonbgcehgmpnkaaGreat
set_option linter.unusedVariables false
set_option linter.unusedSimpArgs false
namespace Go.Proofs.YtonbgcehgmpnkaaGreat
open Go Go.RowKit HL
/-- A result that lies in a variable of its own block. -/
theorem post_cell {fn : Func} {R : Ending → World → Prop} {a : Act} {w w0 : World} {M : Nat → Prop} {L : List Res} {i g : Nat} {t : Tmp} {T : TypeId} {vs : List Value} {v : Value} (hr : fn.results = #[.cell t T]) (ht : opv a (.tmp t) = some (.pointer (some ⟨g, 0, none⟩))) (hd : a.defers = [])
    (hst : St w0 w M L) (hi : L[i]? = some (Res.var g T vs)) (hf : Fits Tryz.prog T v) (hv : flat vs = v.cells.toList) (hR : R (.returned v) w) : bodyPost Tryz.prog fn R .ret a w := by
  refine bodyPost_ret (v := v) ?_ hd hR
  have hc := hst.var_cells hi
  rw [hv] at hc
  have hp' : a.tmps[t]?.getD undef = .pointer (some ⟨g, 0, none⟩) := by simpa [Act.eval] using opv_eval ht
  simp [results, hr, hp', asAddr, run_loadVar hf hc]
theorem fits_hash (h : Hash) : Fits Tryz.prog 23 (hval h) := fits_of ty23 (isAgg_hval h) (size_hval h)
def byteOf (n : Int) : UInt8 := UInt8.ofNat (n % 256).toNat
theorem byteOf_toNat (n : Int) : ((byteOf n).toNat : Int) = n % 256 := by
  unfold byteOf
  have h1 : (n % 256).toNat < 256 := by omega
  rw [UInt8.toNat_ofNat_of_lt' (by simpa using h1)]
  omega
/-- id(n). -/
def idH (n : Int) : Hash := hset hz [(0, byteOf n)]
theorem id_calls (n : Int) (w : World) : Calls Tryz.prog 11 #[.int .i64 n] w fun e w' => e = .returned (hval (idH n)) ∧ St w w' No [] := by
  have hst := St.start w No
  have hb := byteOf_toNat n
  have HB := Lib.hid hb
  clear hb
  go_enter Tryz.func11, Tryz.ntmps11
  go_wp2_with (first
    | (refine o_alloc ty23 rfl (.list rfl) hst ?_; intro w1 g1 hst)
    | (refine o_buildH [(0, byteOf n)] Tryz.underlying23 ty23 ty5 rfl (.list rfl) (by simp [opv, HB.out]) (by simp) ?_)
    | (refine o_store (i := 0) (k := 0) rfl rfl rfl rfl rfl (.list rfl) hst (fits_hash _) (ok1_hval _) rfl (by simp) ?_; intro w2 hst; dsimp only [List.set] at hst))
  exact post_cell (i := 0) rfl rfl rfl hst rfl (fits_hash _) (flat_single _) ⟨rfl, hst.drop 0⟩
def leafV (i p : Hash) (h m : Int) : Value := mkS [hval i, hval p, .int .i64 h, .int .i64 m]
theorem var_leafV (g e : Nat) (i p : Hash) (h m : Int) : Res.var g e [leafV i p h m] = Res.var g e [hval i, hval p, .int .i64 h, .int .i64 m] := Res.var_mkS g e _
theorem loose_calls (i p : Hash) (h m : Int) (w : World) : Calls Tryz.prog 31 #[leafV i p h m] w fun e w' => e = .returned (.bool (m == 1 || m == 4)) ∧ St w w' No [] := by
  have hst := St.start w No
  by_cases h1 : (m == 1) = true
  all_goals
    go_enter Tryz.func31, Tryz.ntmps31
    go_wp2_with (first
      | (refine o_box (v := leafV i p h m) rfl rfl (.list rfl) hst ?_; intro w1 g1 hst; rw [var_leafV] at hst)
      | (refine o_field rfl rfl (.list rfl) fa37_3 ?_)
      | (refine o_load (v := .int .i64 m) rfl rfl (.list rfl) (fits_of ty35 rfl rfl) (hst.field_cells (i := 0) (k := 3) rfl rfl (by simp [szs])) ?_))
    go_ret
    exact ⟨by simp_all, hst.drop 0⟩
end Go.Proofs.YtonbgcehgmpnkaaGreat
set_option linter.unusedVariables false
set_option linter.unusedSimpArgs false
namespace Go.Proofs.YtonbgcehgmpnkaaGreat
open Go Go.RowKit HL BigFrame
theorem hashes_get (l : List Hash) (k : Nat) (h : k < l.length) : (l.map hval)[k]? = some (hval l[k]) := by simp [h]
theorem hashes_sz (l : List Hash) : ∀ v ∈ l.map hval, v.cells.size = 32 := by
  intro v hv
  obtain ⟨h, _, rfl⟩ := List.mem_map.1 hv
  exact size_hval h
/-- SameHashes. -/
theorem sameHashes_calls (A B : Option Addr) (l m : List Hash) (ca cb : Nat) (w : World) (hA : RdS w A (flat (l.map hval))) (hB : RdS w B (flat (m.map hval))) (hl : l.length ≤ 1048576) (hm : m.length ≤ 1048576) :
    Calls Tryz.prog 15 #[.slice A l.length ca, .slice B m.length cb] w fun e w' => e = .returned (.bool (decide (l = m))) ∧ St w w' No [] := by
  have hst := St.start w No
  by_cases hne : ((l.length : Int) != (m.length : Int)) = true
  · have hd : decide (l = m) = false := by
      simp only [bne_iff_ne, ne_eq] at hne
      exact decide_eq_false (fun h => hne (by rw [h]))
    have HD := Lib.hid hd
    clear hd
    go_enter Tryz.func15, Tryz.ntmps15
    go_wp2
    go_ret
    exact ⟨by simp [HD.out], hst⟩
  · have hlm : l.length = m.length := by
      simp only [bne_iff_ne, ne_eq, Decidable.not_not] at hne
      omega
    have hne' : ((l.length : Int) != (m.length : Int)) = false := by simpa using hne
    clear hne
    have HLM := Lib.hid hlm
    clear hlm
    go_enter Tryz.func15, Tryz.ntmps15
    go_wp2
    go_loopw [5] (fun i wr => ∃ k : Nat, k ≤ l.length ∧ i = .int .i64 k ∧ l.take k = m.take k ∧ St w wr No []) (fun i _ => l.length - (intOf i).toNat)
    case atStart => exact ⟨0, Nat.zero_le _, rfl, rfl, hst⟩
    case round =>
      obtain ⟨k, hk, rfl, heq, hst⟩ := hrel
      have HEQ := Lib.hid heq
      clear heq
      by_cases hlt : k < l.length
      · have hlt2 : k < m.length := by have := HLM.out; omega
        have g1 := hashes_get l k hlt
        have g2 := hashes_get m k hlt2
        have G1 := Lib.hid g1
        have G2 := Lib.hid g2
        clear g1 g2
        go_wp2
        refine wp_region_sched (.q 0 (.q 1 (.q 2 (.q 3 (.q 4 (.q 5 (.q 6 (.q 7 (.q 8 .nil))))))))) (fun w1 => St w w1 No []) (by kernel_rfl) (by kernel_rfl) (by kernel_rfl) (by decide) (fun d v c a w h => by cases d <;> exact h) ?_
        have hst := hst.drew
        iterate 2 (refine sched_q rfl rfl rfl hst (fun K hK => ?_); go_big_quiet_op; first | refine hK _ ?_ | refine ⟨_, fun _ _ => rfl, hK _ ?_⟩; clear hK K)
        refine q_elem Tryz.underlying47 ty23 rfl rfl rfl rfl rfl hst (by omega) (by omega) (fun w' h => h.old_rd hA (fun _ _ => id)) (hashes_sz l) (by omega) (by simpa using G1.out) (fun p hp => ?_)
        refine q_load rfl rfl rfl rfl hst (fits_hash _) hp ?_
        try simp only [Act.put, List.setIfInBounds_toArray, List.set_cons_succ, List.set_cons_zero]
        iterate 2 (refine sched_q rfl rfl rfl hst (fun K hK => ?_); go_big_quiet_op; first | refine hK _ ?_ | refine ⟨_, fun _ _ => rfl, hK _ ?_⟩; clear hK K)
        refine q_elem Tryz.underlying47 ty23 rfl rfl rfl rfl rfl hst (by omega) (by omega) (fun w' h => h.old_rd hB (fun _ _ => id)) (hashes_sz m) (by omega) (by simpa using G2.out) (fun p hp => ?_)
        refine q_load rfl rfl rfl rfl hst (fits_hash _) hp ?_
        refine q_ne ek23.eq (by omega) isAgg_hval eg23 rfl rfl rfl rfl rfl hst ?_
        refine sched_nil ?_
        try simp only [Act.put, List.setIfInBounds_toArray, List.set_cons_succ, List.set_cons_zero]
        by_cases heq : (!decide (l[k] = m[k])) = true
        · have hd : decide (l = m) = false := by
            simp only [Bool.not_eq_true', decide_eq_false_iff_not] at heq
            refine decide_eq_false (fun h => heq ?_)
            subst h
            rfl
          have HD := Lib.hid hd
          clear hd
          simp only [heq]
          clear heq
          go_wp2
          go_ret
          exact ⟨by simp [HD.out], hst⟩
        · have heq' : (!decide (l[k] = m[k])) = false := by simpa using heq
          simp only [heq']
          have HE := Lib.hid heq'
          clear heq heq'
          go_wp2
          refine ⟨⟨k + 1, by omega, by go_num, ?_, hst⟩, by simp [intOf]; omega⟩
          rw [List.take_succ_eq_append_getElem hlt, List.take_succ_eq_append_getElem hlt2, HEQ.out]
          have h3 := HE.out
          simp at h3
          rw [h3]
      · have hkl : k = l.length := by omega
        have hd : decide (l = m) = true := by
          have h1 := HEQ.out
          have h2 := HLM.out
          rw [hkl, List.take_length, h2, List.take_length] at h1
          exact decide_eq_true h1
        have HD := Lib.hid hd
        clear hd hkl
        go_wp2
        go_ret
        exact ⟨by simp [HD.out], hst⟩
end Go.Proofs.YtonbgcehgmpnkaaGreat
set_option linter.unusedVariables false
set_option linter.unusedSimpArgs false
namespace Go.Proofs.YtonbgcehgmpnkaaGreat
open Go Go.RowKit HL BigFrame
structure LeafP where
  id : Hash
  parent : Hash
  height : Int
  mark : Int
deriving DecidableEq
def leafE (x : LeafP) : Value := leafV x.id x.parent x.height x.mark
def leaf0 : LeafP := ⟨hz, hz, 0, 0⟩
@[simp] theorem size_leafE (x : LeafP) : (leafE x).cells.size = 66 := by simp [leafE, leafV, szs]
theorem ok1_leafE (x : LeafP) : Ok1 (leafE x) := Ok1.mkS (by
  intro v hv
  simp at hv
  rcases hv with rfl | rfl | rfl | rfl
  · exact ok1_hval _
  · exact ok1_hval _
  · exact ok1_int _ _
  · exact ok1_int _ _)
theorem fits_leaf (x : LeafP) : Fits Tryz.prog 37 (leafE x) := fits_of ty37 (isAgg_mkS _) (size_leafE x)
theorem leaves_sz (l : List LeafP) : ∀ v ∈ l.map leafE, v.cells.size = 66 := by
  intro v hv
  obtain ⟨h, _, rfl⟩ := List.mem_map.1 hv
  exact size_leafE h
theorem leaves_get (l : List LeafP) (k : Nat) (h : k < l.length) : (l.map leafE)[k]? = some (leafE l[k]) := by simp [h]
/-! ### the two maps of a tree -/
def lents (l : List LeafP) : List (Hash × LeafP × Nat) := l.zipIdx.map fun x => (x.1.id, x.1, x.2)
abbrev KV := Option Addr × Nat × List Hash
def kvE (v : KV) : Value := .slice v.1 v.2.2.length v.2.1
def kv0 : KV := (none, 0, [])
def krows (xs : List (Hash × KV × Nat)) : List Res := xs.map fun x => Res.row x.2.1.1 x.2.1.2.2.length x.2.1.2.1 23 32 (flat (x.2.1.2.2.map hval))
/-- What the map of kids holds of some leaves. -/
structure KidsOf (xs : List (Hash × KV × Nat)) (l : List LeafP) : Prop where
  born : xs.map (·.2.2) = List.range xs.length
  keys : (xs.map (·.1)).Nodup
  look : ∀ p, ((mlook xs p).getD kv0).2.2 = (l.filter fun x => x.parent = p).map (·.id)
  few : xs.length ≤ l.length
theorem mlook_lents (l : List LeafP) (h : Hash) : mlook (lents l) h = l.find? fun x => x.id = h := by
  unfold mlook lents
  have gen : ∀ (l : List LeafP) (n : Nat), (((l.zipIdx n).map fun x => (x.1.id, x.1, x.2)).find? fun x => x.1 = h).map (·.2.1) = l.find? fun x => x.id = h := by
    intro l
    induction l with
    | nil => intro n; rfl
    | cons x l ih =>
      intro n
      by_cases e : x.id = h
      · simp [e]
      · simp only [List.zipIdx_cons, List.map_cons, List.find?_cons, e, decide_false]
        exact ih (n + 1)
  exact gen l 0
theorem lents_snoc (l : List LeafP) (x : LeafP) : lents (l ++ [x]) = lents l ++ [(x.id, x, l.length)] := by simp [lents, List.zipIdx_append]
theorem mput_lents (l : List LeafP) (x : LeafP) (h : ∀ y ∈ l, y.id ≠ x.id) : mput (lents l) l.length x.id x = lents (l ++ [x]) ∧ mclk (lents l) l.length x.id = (l ++ [x]).length := by
  have h1 : mhas (lents l) x.id = false := by
    unfold mhas
    rw [mlook_lents]
    simp only [Option.isSome_eq_false_iff, Option.isNone_iff_eq_none, List.find?_eq_none, decide_eq_true_eq]
    exact h
  constructor
  · rw [mput, h1, lents_snoc]; rfl
  · rw [mclk, h1]; simp
theorem mhas_lents (l : List LeafP) (h : Hash) : mhas (lents l) h = l.any fun x => x.id = h := by
  unfold mhas
  rw [mlook_lents, Bool.eq_iff_iff]
  simp [List.any_eq_true]
/-- The entries behind a parent's first leaf, or a further one. -/
def kpre (xs : List (Hash × KV × Nat)) (p : Hash) : List (Hash × KV × Nat) := if mhas xs p then xs else xs ++ [(p, kv0, xs.length)]
theorem krows_append (xs ys : List (Hash × KV × Nat)) : krows (xs ++ ys) = krows xs ++ krows ys := by simp [krows]
theorem krows_get (xs : List (Hash × KV × Nat)) {j : Nat} {p : Hash} {v : KV} {b : Nat} (h : xs[j]? = some (p, v, b)) : (krows xs)[j]? = some (Res.row v.1 v.2.2.length v.2.1 23 32 (flat (v.2.2.map hval))) := by simp [krows, h]
theorem krows_set (xs : List (Hash × KV × Nat)) (j : Nat) (p : Hash) (v : KV) (b : Nat) : krows (xs.set j (p, v, b)) = (krows xs).set j (Res.row v.1 v.2.2.length v.2.1 23 32 (flat (v.2.2.map hval))) := by simp [krows, List.map_set]
theorem kpre_born {xs : List (Hash × KV × Nat)} {l : List LeafP} (h : KidsOf xs l) (p : Hash) : (kpre xs p).map (·.2.2) = List.range (kpre xs p).length := by
  unfold kpre
  split
  · exact h.born
  · simp [h.born, List.range_succ]
theorem kpre_nodup {xs : List (Hash × KV × Nat)} {l : List LeafP} (h : KidsOf xs l) (p : Hash) : ((kpre xs p).map (·.2.2)).Nodup := by rw [kpre_born h p]; exact List.nodup_range
theorem mlook_append (xs ys : List (Hash × KV × Nat)) (q : Hash) : mlook (xs ++ ys) q = (mlook xs q).or (mlook ys q) := by
  unfold mlook
  rw [List.find?_append]
  cases xs.find? (fun x => decide (x.1 = q)) <;> simp
theorem kpre_keys {xs : List (Hash × KV × Nat)} {l : List LeafP} (h : KidsOf xs l) (p : Hash) : ((kpre xs p).map (·.1)).Nodup := by
  unfold kpre
  split
  · exact h.keys
  · rename_i hn
    rw [List.map_append, List.nodup_append]
    refine ⟨h.keys, by simp, ?_⟩
    intro a ha b hb e
    subst e
    simp at hb
    subst hb
    obtain ⟨x, hx, rfl⟩ := List.mem_map.1 ha
    refine hn ?_
    unfold mhas mlook
    simp only [Option.isSome_map, List.find?_isSome]
    exact ⟨x, hx, by simp⟩
theorem mlook_set {xs : List (Hash × KV × Nat)} (hk : (xs.map (·.1)).Nodup) {j : Nat} {p : Hash} {u v : KV} {b : Nat} (hj : xs[j]? = some (p, u, b)) (q : Hash) : mlook (xs.set j (p, v, b)) q = if q = p then some v else mlook xs q := by
  induction xs generalizing j with
  | nil => simp at hj
  | cons x xs ih =>
    cases j with
    | zero =>
      simp at hj
      subst hj
      by_cases e : q = p
      · subst e; simp [mlook]
      · have e' : ¬ p = q := fun h => e h.symm
        simp [mlook, e, e']
    | succ j =>
      simp at hj
      have hk' : (xs.map (·.1)).Nodup := by simp at hk; exact hk.2
      have hne : x.1 ≠ p := by
        intro e
        rw [List.map_cons, List.nodup_cons] at hk
        exact hk.1 (List.mem_map.2 ⟨(p, u, b), List.mem_of_getElem? hj, e.symm⟩)
      have := ih hk' hj
      by_cases e : x.1 = q
      · have e2 : ¬ q = p := by rw [← e]; exact hne
        simp [mlook, e, e2]
      · simp only [mlook, List.set_cons_succ, List.find?_cons, e, decide_false] at this ⊢
        exact this
theorem kpre_look (xs : List (Hash × KV × Nat)) (p q : Hash) : (mlook (kpre xs p) q).getD kv0 = (mlook xs q).getD kv0 := by
  unfold kpre
  split
  · rfl
  · rename_i hn
    rw [mlook_append]
    cases h : mlook xs q with
    | some v => simp
    | none =>
      by_cases e : p = q
      · simp [mlook, e]
      · simp [mlook, e]
theorem kids_step {xs : List (Hash × KV × Nat)} {l : List LeafP} (h : KidsOf xs l) (x : LeafP) {j b : Nat} {v : KV} (hj : (kpre xs x.parent)[j]? = some (x.parent, (mlook xs x.parent).getD kv0, b)) (hv : v.2.2 = ((mlook xs x.parent).getD kv0).2.2 ++ [x.id]) :
    KidsOf ((kpre xs x.parent).set j (x.parent, v, b)) (l ++ [x]) ∧ ((kpre xs x.parent).set j (x.parent, v, b)).length = mclk xs xs.length x.parent := by
  have hl : ((kpre xs x.parent).set j (x.parent, v, b)).length = mclk xs xs.length x.parent := by
    rw [List.length_set, kpre, mclk]
    split <;> simp
  refine ⟨⟨?_, ?_, ?_, ?_⟩, hl⟩
  · rw [List.length_set, ← kpre_born h x.parent, List.map_set]
    apply List.ext_getElem?
    intro q
    by_cases e : j = q
    · subst e
      have hlt := (List.getElem?_eq_some_iff.1 hj).1
      rw [List.getElem?_set_self (by simpa using hlt), List.getElem?_map, hj]
      rfl
    · rw [List.getElem?_set_ne e]
  · rw [List.map_set]
    have : ((kpre xs x.parent).map (·.1)).set j x.parent = (kpre xs x.parent).map (·.1) := by
      apply List.ext_getElem?
      intro q
      by_cases e : j = q
      · subst e
        have hlt := (List.getElem?_eq_some_iff.1 hj).1
        rw [List.getElem?_set_self (by simpa using hlt), List.getElem?_map, hj]
        rfl
      · rw [List.getElem?_set_ne e]
    rw [this]
    exact kpre_keys h x.parent
  · intro q
    rw [mlook_set (kpre_keys h x.parent) hj q]
    by_cases e : q = x.parent
    · subst e
      simp only [if_true, Option.getD_some, hv, h.look, List.filter_append, List.map_append]
      simp
    · have e' : ¬ x.parent = q := fun hh => e hh.symm
      simp only [e, if_false, kpre_look, h.look, List.filter_append, List.map_append]
      simp [e']
  · rw [hl, mclk]
    have := h.few
    split <;> simp <;> omega
/-- Leaves whose ids are all different. -/
def Apart (l : List LeafP) : Prop := (l.map (·.id)).Nodup
theorem apart_take {l : List LeafP} {k : Nat} (hk : k < l.length) (h : Apart (l.take k)) : Apart (l.take (k + 1)) ↔ mhas (lents (l.take k)) l[k].id = false := by
  unfold Apart at *
  rw [List.take_succ_eq_append_getElem hk, List.map_append, List.nodup_append, mhas_lents]
  constructor
  · intro h1
    rw [Bool.eq_false_iff]
    intro h2
    obtain ⟨x, hx, he⟩ := List.any_eq_true.1 h2
    exact h1.2.2 x.id (List.mem_map.2 ⟨x, hx, rfl⟩) l[k].id (by simp) (by simpa using he)
  · intro h1
    refine ⟨h, by simp, ?_⟩
    intro a ha b hb e
    obtain ⟨x, hx, rfl⟩ := List.mem_map.1 ha
    simp at hb
    subst hb
    have : (l.take k).any (fun y => y.id = l[k].id) = true := List.any_eq_true.2 ⟨x, hx, by simpa using e⟩
    rw [this] at h1
    cases h1
theorem kids_nil : KidsOf [] [] := ⟨rfl, by simp, fun p => by simp [mlook, kv0], Nat.le_refl _⟩
theorem getD_leafE (o : Option LeafP) : (o.map leafE).getD (mkS [hval hz, hval hz, .int .i64 0, .int .i64 0]) = leafE (o.getD leaf0) := by cases o <;> rfl
theorem var_leafE (g e : Nat) (x : LeafP) : Res.var g e [leafE x] = Res.var g e [hval x.id, hval x.parent, .int .i64 x.height, .int .i64 x.mark] := Res.var_mkS g e _
theorem cells_leafE (x : LeafP) : (leafE x).cells.toList = flat [hval x.id, hval x.parent, .int .i64 x.height, .int .i64 x.mark] := cells_mkS _
attribute [irreducible] leafE
theorem kids_pre {w0 w : World} {M : Nat → Prop} {R : List Res} {xs : List (Hash × KV × Nat)} {p : Hash} {gk : Nat} (hst : St w0 w M (R ++ Res.map gk hval kvE (if mhas xs p then xs else xs ++ [(p, kv0, xs.length)]) (mclk xs xs.length p) :: krows xs)) :
    St w0 w M (R ++ Res.map gk hval kvE (kpre xs p) (mclk xs xs.length p) :: krows (kpre xs p)) := by
  unfold kpre
  by_cases h : mhas xs p = true
  · simpa only [h, if_true] using hst
  · simp only [h, if_false, Bool.false_eq_true] at hst ⊢
    rw [krows_append]
    have h2 := hst.nilrow 23 32
    refine h2.perm ?_
    have : krows [(p, kv0, xs.length)] = [Res.row none 0 0 23 32 []] := by
      unfold krows
      simp only [List.map_cons, List.map_nil, kv0, List.length_nil]
      unfold flat
      rfl
    rw [this]
    have h3 := (List.perm_append_singleton (Res.row none 0 0 23 32 []) (R ++ Res.map gk hval kvE (xs ++ [(p, kv0, xs.length)]) (mclk xs xs.length p) :: krows xs)).symm
    simpa only [List.append_assoc, List.cons_append] using h3
theorem kids_len {xs : List (Hash × KV × Nat)} {l : List LeafP} {k : Nat} {p : Hash} {v : KV} (h : KidsOf xs (l.take k)) (hv : (mlook xs p).getD kv0 = v) : v.2.2.length ≤ l.length := by
  have h1 := h.look p
  rw [hv] at h1
  rw [h1, List.length_map]
  exact Nat.le_trans (List.length_filter_le _ _) (by rw [List.length_take]; omega)
theorem at_entry {P : Program} {ops rest o} {Q : Exit → Act → World → Prop} {a : Act} {w : World} {T x y u} (h : wpList P ops Q (o :: rest) a w) (ho : o.op = .entryStore T x y u) : wpList P ops Q (o :: rest) a w := h
/-! ### put -/
def putL (g gl gk : Nat) (xs : List (Hash × KV × Nat)) (l : List LeafP) : List Res :=
  Res.map gl hval leafE (lents l) l.length :: Res.map gk hval kvE xs xs.length :: krows xs
set_option maxHeartbeats 4000000 in
set_option maxRecDepth 100000 in
theorem put_calls (A : Option Addr) (l : List LeafP) (c gl gk : Nat) (w : World) (hA : RdS w A (flat (l.map leafE))) (hne : gl ≠ gk) (h1 : w.heap[gl]? = some (mobj hval leafE [] 0)) (h2 : w.heap[gk]? = some (mobj hval kvE [] 0))
    (hAl : 0 < l.length → ∀ ad, A = some ad → ad.block ≠ gl ∧ ad.block ≠ gk) (hl : l.length ≤ 1048576) :
    Calls Tryz.prog 16 #[mkS [.map (some gl), .map (some gk)], .slice A l.length c] w fun e w' =>
      (e = .returned (.bool false) ∧ ¬ Apart l ∧ ∃ L, St w w' (fun b => b = gl ∨ b = gk) L) ∨
      (e = .returned (.bool true) ∧ Apart l ∧ ∃ xs, KidsOf xs l ∧ St w w' (fun b => b = gl ∨ b = gk) (putL 0 gl gk xs l)) := by
  have hst : St w w (fun b => b = gl ∨ b = gk) (putL 0 gl gk [] []) :=
    (St.startL (L := putL 0 gl gk [] []) (by
      intro r hr
      simp [putL, krows] at hr
      rcases hr with rfl | rfl
      · exact holds_map h1
      · exact holds_map h2) (by
      simp only [putL, krows, List.map_nil, List.pairwise_cons]
      refine ⟨?_, by simp, by simp⟩
      intro r hr b hb hb'
      simp at hr
      subst hr
      exact hne ((fp_map.1 hb).symm.trans (fp_map.1 hb')))).more (by
      intro b hb
      obtain ⟨r, hr, hb⟩ := hb
      simp [putL, krows] at hr
      rcases hr with rfl | rfl
      · exact .inl (fp_map.1 hb)
      · exact .inr (fp_map.1 hb))
  unfold putL at hst
  clear h1 h2
  go_enter Tryz.func16, Tryz.ntmps16
  go_wp2_with (first
    | (refine o_box (v := mkS [.map (some gl), .map (some gk)]) rfl rfl (.list rfl) hst ?_; intro w1 gb hst; rw [Res.var_mkS] at hst))
  simp only [krows, List.map_nil, List.length_nil] at hst
  go_loopw [11] (fun i wr => ∃ (k : Nat) (xs : List (Hash × KV × Nat)), k ≤ l.length ∧ i = .int .i64 k ∧ Apart (l.take k) ∧ KidsOf xs (l.take k) ∧
    St w wr (fun b => b = gl ∨ b = gk) (Res.var gb 54 [.map (some gl), .map (some gk)] :: Res.map gl hval leafE (lents (l.take k)) k :: Res.map gk hval kvE xs xs.length :: krows xs)) (fun i _ => l.length - (intOf i).toNat)
  case atStart => exact ⟨0, [], Nat.zero_le _, rfl, by simp [Apart], kids_nil, hst⟩
  case round =>
    obtain ⟨k, xs, hk, rfl, hap, hks, hst⟩ := hrel
    by_cases hlt : k < l.length
    · have g1 := leaves_get l k hlt
      have G1 := Lib.hid g1
      clear g1
      have hap2 := apart_take hlt hap
      have HAP := Lib.hid hap2
      clear hap2
      by_cases hm : mhas (lents (l.take k)) l[k].id = true
      · go_wp2_with (first
          | (refine o_elem Tryz.underlying24 ty37 rfl rfl rfl (.list rfl) (by omega) (by omega) (hst.old_rd' hA (fun ad h1 h2 => h2.elim (hAl (by omega) ad h1).1 (hAl (by omega) ad h1).2)) (leaves_sz l) (by omega) (by simpa using G1.out) ?_; intro p hp; simp only [Act.put, List.setIfInBounds_toArray, List.set_cons_succ, List.set_cons_zero])
          | (refine o_load (v := leafE l[k]) rfl rfl (.list rfl) (fits_leaf _) hp ?_; simp only [Act.put, List.setIfInBounds_toArray, List.set_cons_succ, List.set_cons_zero])
          | (refine o_alloc ty37 rfl (.list rfl) hst ?_; clear hst; intro w1 gx hst; simp only [Act.put, List.setIfInBounds_toArray, List.set_cons_succ, List.set_cons_zero])
          | (refine o_store (i := 0) (k := 0) rfl rfl rfl rfl rfl (.list rfl) hst (fits_leaf _) (ok1_leafE _) ?_ ?_ ?_; (focus (simp [szs]; done)); (focus (simp [szs]; done)); clear hst; intro w1 hst; simp only [List.set_cons_succ, List.set_cons_zero] at hst; rw [var_leafE] at hst; simp only [Act.put, List.setIfInBounds_toArray, List.set_cons_succ, List.set_cons_zero])
          | (refine o_field rfl rfl (.list rfl) fa54_0 ?_; simp only [Act.put, List.setIfInBounds_toArray, List.set_cons_succ, List.set_cons_zero])
          | (refine o_field rfl rfl (.list rfl) fa37_0 ?_; simp only [Act.put, List.setIfInBounds_toArray, List.set_cons_succ, List.set_cons_zero])
          | (refine o_load (v := .map (some gl)) rfl rfl (.list rfl) (fits_of ty51 rfl rfl) (hst.field_cells (i := 1) (k := 0) rfl rfl ?_) ?_; (focus (simp [szs]; done)); simp only [Act.put, List.setIfInBounds_toArray, List.set_cons_succ, List.set_cons_zero])
          | (refine o_load (v := hval l[k].id) rfl rfl (.list rfl) (fits_hash _) (hst.field_cells (i := 0) (k := 0) rfl rfl ?_) ?_; (focus (simp [szs]; done)); simp only [Act.put, List.setIfInBounds_toArray, List.set_cons_succ, List.set_cons_zero])
          | (refine o_lookup (i := 2) ek23 Tryz.underlying51 ty37 rfl rfl rfl (.list rfl) hst rfl ?_; simp only [if_true]; rw [getD_leafE]; simp only [Act.put, List.setIfInBounds_toArray, List.set_cons_succ, List.set_cons_zero]))
        go_ret
        refine .inl ⟨rfl, fun hA2 => ?_, _, hst⟩
        have h1 : Apart (l.take (k + 1)) := by
          unfold Apart at hA2 ⊢
          rw [List.map_take]
          exact (List.take_sublist _ _).nodup hA2
        rw [HAP.out] at h1
        rw [h1] at hm
        cases hm
      · have hm' : mhas (lents (l.take k)) l[k].id = false := by simpa using hm
        have hap3 := HAP.out.2 hm'
        clear hm
        go_wp2_with (first
          | (refine o_elem Tryz.underlying24 ty37 rfl rfl rfl (.list rfl) (by omega) (by omega) (hst.old_rd' hA (fun ad h1 h2 => h2.elim (hAl (by omega) ad h1).1 (hAl (by omega) ad h1).2)) (leaves_sz l) (by omega) (by simpa using G1.out) ?_; intro p hp; simp only [Act.put, List.setIfInBounds_toArray, List.set_cons_succ, List.set_cons_zero])
          | (refine o_load (v := leafE l[k]) rfl rfl (.list rfl) (fits_leaf _) hp ?_; simp only [Act.put, List.setIfInBounds_toArray, List.set_cons_succ, List.set_cons_zero])
          | (refine o_alloc ty37 rfl (.list rfl) hst ?_; clear hst; intro w1 gx hst; simp only [Act.put, List.setIfInBounds_toArray, List.set_cons_succ, List.set_cons_zero])
          | (refine o_store (i := 0) (k := 0) rfl rfl rfl rfl rfl (.list rfl) hst (fits_leaf _) (ok1_leafE _) ?_ ?_ ?_; (focus (simp [szs]; done)); (focus (simp [szs]; done)); clear hst; intro w1 hst; simp only [List.set_cons_succ, List.set_cons_zero] at hst; rw [var_leafE] at hst; simp only [Act.put, List.setIfInBounds_toArray, List.set_cons_succ, List.set_cons_zero])
          | (refine o_field rfl rfl (.list rfl) fa54_0 ?_; simp only [Act.put, List.setIfInBounds_toArray, List.set_cons_succ, List.set_cons_zero])
          | (refine o_field rfl rfl (.list rfl) fa37_0 ?_; simp only [Act.put, List.setIfInBounds_toArray, List.set_cons_succ, List.set_cons_zero])
          | (refine o_load (v := .map (some gl)) rfl rfl (.list rfl) (fits_of ty51 rfl rfl) (hst.field_cells (i := 1) (k := 0) rfl rfl ?_) ?_; (focus (simp [szs]; done)); simp only [Act.put, List.setIfInBounds_toArray, List.set_cons_succ, List.set_cons_zero])
          | (refine o_load (v := hval l[k].id) rfl rfl (.list rfl) (fits_hash _) (hst.field_cells (i := 0) (k := 0) rfl rfl ?_) ?_; (focus (simp [szs]; done)); simp only [Act.put, List.setIfInBounds_toArray, List.set_cons_succ, List.set_cons_zero])
          | (refine o_lookup (i := 2) ek23 Tryz.underlying51 ty37 rfl rfl rfl (.list rfl) hst rfl ?_; simp only [if_true]; rw [getD_leafE]; simp only [Act.put, List.setIfInBounds_toArray, List.set_cons_succ, List.set_cons_zero])
          | (refine o_load (v := leafE l[k]) rfl rfl (.list rfl) (fits_leaf _) (by rw [cells_leafE]; exact hst.var_cells (i := 1) rfl) ?_; simp only [Act.put, List.setIfInBounds_toArray, List.set_cons_succ, List.set_cons_zero])
          | (refine o_load (v := .map (some gl)) rfl rfl (.list rfl) (fits_of ty51 rfl rfl) (hst.field_cells (i := 2) (k := 0) rfl rfl ?_) ?_; (focus (simp [szs]; done)); simp only [Act.put, List.setIfInBounds_toArray, List.set_cons_succ, List.set_cons_zero])
          | (refine o_load (v := hval l[k].id) rfl rfl (.list rfl) (fits_hash _) (hst.field_cells (i := 1) (k := 0) rfl rfl ?_) ?_; (focus (simp [szs]; done)); simp only [Act.put, List.setIfInBounds_toArray, List.set_cons_succ, List.set_cons_zero])
          | (refine o_mapUpdate (i := 3) (v := l[k]) ek23 Tryz.underlying51 rfl rfl rfl rfl (.list rfl) hst rfl ?_; clear hst; intro w1 hst; simp only [List.set_cons_succ, List.set_cons_zero] at hst; simp only [Act.put, List.setIfInBounds_toArray, List.set_cons_succ, List.set_cons_zero])
          | (refine o_field rfl rfl (.list rfl) fa54_1 ?_; simp only [Act.put, List.setIfInBounds_toArray, List.set_cons_succ, List.set_cons_zero])
          | (refine o_field rfl rfl (.list rfl) fa37_1 ?_; simp only [Act.put, List.setIfInBounds_toArray, List.set_cons_succ, List.set_cons_zero])
          | (refine o_load (v := .map (some gk)) rfl rfl (.list rfl) (fits_of ty52 rfl rfl) (hst.field_cells (i := 2) (k := 1) rfl rfl ?_) ?_; (focus (simp [szs]; done)); simp only [Act.put, List.setIfInBounds_toArray, List.set_cons_succ, List.set_cons_zero])
          | (refine o_load (v := hval l[k].parent) rfl rfl (.list rfl) (fits_hash _) (hst.field_cells (i := 1) (k := 1) rfl rfl ?_) ?_; (focus (simp [szs]; done)); simp only [Act.put, List.setIfInBounds_toArray, List.set_cons_succ, List.set_cons_zero])
          | (refine o_buildSlice (vs := [hval l[k].id]) Tryz.underlying47 ty23 (size_hval hz) rfl (.list rfl) hst rfl rfl (by simp) (by simp) (by omega) ?_; clear hst; intro B w1 hst; simp only [Act.put, List.setIfInBounds_toArray, List.set_cons_succ, List.set_cons_zero])
          | (refine o_mapEntry (i := 5) (zv := kv0) ek23 Tryz.underlying52 (show TyIs Tryz.prog 47 false 1 (kvE kv0) 24 from ty47) rfl rfl rfl (.list rfl) hst rfl ?_; clear hst; intro bn j w1 hj1 hj2 hst; simp only [List.set_cons_succ, List.set_cons_zero] at hst; replace hst := kids_pre (R := [_, _, _, _, _]) hst; simp only [List.cons_append, List.nil_append] at hst; obtain ⟨⟨A1, c1, ids⟩, hv⟩ : ∃ v, (mlook xs l[k].parent).getD kv0 = v := ⟨_, rfl⟩; rw [hv] at hj1 ⊢; have HV := Lib.hid hv; clear hv; have HJ := Lib.hid hj1; clear hj1 hj2; simp only [kvE]; have hrow := krows_get _ HJ.out; simp only [Act.put, List.setIfInBounds_toArray, List.set_cons_succ, List.set_cons_zero])
          | (at_builtin; go_must (refine o_append (i := j + 6) Tryz.underlying47 ty23 (by omega) (size_hval hz) rfl rfl rfl (.list rfl) hst hrow (hst.src_row (i := 0) rfl (ok1_flat (by simp [ok1_hval]))) ?_ ?_ ?_; (focus (have h9 : ids.length ≤ l.length := kids_len hks HV.out; show (ids.length + 1) * 32 ≤ 140737488355328; omega)); (focus (have h9 : ids.length ≤ l.length := kids_len hks HV.out; show ids.length + 1 ≤ 140737488355328; omega)); clear hst hrow; intro B2 c2 w1 hst; simp only [List.set_cons_succ] at hst; simp only [Act.put, List.setIfInBounds_toArray, List.set_cons_succ, List.set_cons_zero]))
          | (refine at_entry ?_ rfl; go_must (refine o_entryStore (i := 5) (v := (B2, c2, ids ++ [l[k].id])) rfl rfl rfl ?_ (.list rfl) hst rfl (kpre_nodup hks _) HJ.out ?_; (focus (simp [opv, kvE]; done)); clear hst; intro w1 hst; simp only [List.set_cons_succ, List.set_cons_zero] at hst; simp only [Act.put, List.setIfInBounds_toArray, List.set_cons_succ, List.set_cons_zero])))
        have hks2 := kids_step hks l[k] (v := (B2, c2, ids ++ [l[k].id])) (by rw [HV.out]; exact HJ.out) (by rw [HV.out])
        have hlen : (l.take k).length = k := by rw [List.length_take]; omega
        have hno : ∀ y ∈ l.take k, y.id ≠ l[k].id := fun y hy he => by
          have h1 := hm'
          rw [mhas_lents, List.any_eq_false] at h1
          exact h1 y hy (by simpa using he)
        have hmp := mput_lents (l.take k) l[k] hno
        rw [hlen, ← List.take_succ_eq_append_getElem hlt] at hmp
        rw [← List.take_succ_eq_append_getElem hlt] at hks2
        refine ⟨⟨k + 1, (kpre xs l[k].parent).set j (l[k].parent, (B2, c2, ids ++ [l[k].id]), bn), by omega, by go_num, hap3, hks2.1, ?_⟩, by simp [intOf]; omega⟩
        have hst2 := ((hst.drop 0).drop 0).drop 0
        simp only [List.eraseIdx_zero, List.tail_cons] at hst2
        rw [hks2.2, krows_set, ← hmp.1]
        have e1 : mclk (lents (l.take k)) k l[k].id = k + 1 := by rw [hmp.2, List.length_take]; omega
        rw [e1] at hst2
        simpa [flat_append] using hst2
    · have hkl : k = l.length := by omega
      go_wp2
      go_ret
      rw [hkl, List.take_length] at hap hks hst
      refine .inr ⟨rfl, hap, xs, hks, ?_⟩
      have hst2 := hst.drop 0
      simp only [List.eraseIdx_zero, List.tail_cons] at hst2
      exact hst2
end Go.Proofs.YtonbgcehgmpnkaaGreat
