/- Lemmas and walks: Vt, N1, W1, W2, W3, W4, W5, W6, W7, N2. -/
import Derived.Test.YtlnckcgbpilmdaaGreatZ3
import Derived.Test.YtlnckcgbpilmdaaGreatProg
import Derived.KernelRfl
/- What is known of this seat's types: closed facts and tables, printed by my own facts3.py. -/



namespace Go.Proofs.YtlnckcgbpilmdaaGreat
open Go HL
set_option maxRecDepth 100000
instance ta1 : TyA Tryz.prog 1 false 1 (.one (.fnn)) 8 := ⟨⟨by kernel_rfl, by kernel_rfl⟩, rfl, rfl⟩
instance noi1 : NoI Tryz.prog 1 := ⟨by kernel_rfl⟩
instance ta2 : TyA Tryz.prog 2 false 1 (.one (.i .i64 0)) 8 := ⟨⟨by kernel_rfl, by kernel_rfl⟩, rfl, rfl⟩
instance noi2 : NoI Tryz.prog 2 := ⟨by kernel_rfl⟩
instance ud2 : UD Tryz.prog 2 (.int .i64) := ⟨by kernel_rfl⟩
instance ta3 : TyA Tryz.prog 3 false 1 (.one (.i .i64 0)) 8 := ⟨⟨by kernel_rfl, by kernel_rfl⟩, rfl, rfl⟩
instance noi3 : NoI Tryz.prog 3 := ⟨by kernel_rfl⟩
instance ud3 : UD Tryz.prog 3 (.int .i64) := ⟨by kernel_rfl⟩
instance ta4 : TyA Tryz.prog 4 false 1 (.one (.b false)) 1 := ⟨⟨by kernel_rfl, by kernel_rfl⟩, rfl, rfl⟩
instance noi4 : NoI Tryz.prog 4 := ⟨by kernel_rfl⟩
instance ud4 : UD Tryz.prog 4 (.bool) := ⟨by kernel_rfl⟩
instance ta5 : TyA Tryz.prog 5 false 1 (.one (.i .u8 0)) 1 := ⟨⟨by kernel_rfl, by kernel_rfl⟩, rfl, rfl⟩
instance noi5 : NoI Tryz.prog 5 := ⟨by kernel_rfl⟩
instance ud5 : UD Tryz.prog 5 (.int .u8) := ⟨by kernel_rfl⟩
instance ta6 : TyA Tryz.prog 6 false 1 (.one (.i .u8 0)) 1 := ⟨⟨by kernel_rfl, by kernel_rfl⟩, rfl, rfl⟩
instance noi6 : NoI Tryz.prog 6 := ⟨by kernel_rfl⟩
instance ud6 : UD Tryz.prog 6 (.int .u8) := ⟨by kernel_rfl⟩
instance ta7 : TyA Tryz.prog 7 true 4 (.agg [.one (.i .i64 0), .one (.i .i64 0), .one (.b false), .one (.i .u8 0)]) 24 := ⟨⟨by kernel_rfl, by kernel_rfl⟩, rfl, rfl⟩
instance noi7 : NoI Tryz.prog 7 := ⟨by kernel_rfl⟩
instance fa7_0 : FA Tryz.prog 7 0 0 := ⟨by kernel_rfl⟩
instance ft7_0 : FT Tryz.prog 7 0 2 0 := ⟨by kernel_rfl⟩
instance fa7_1 : FA Tryz.prog 7 1 1 := ⟨by kernel_rfl⟩
instance ft7_1 : FT Tryz.prog 7 1 3 1 := ⟨by kernel_rfl⟩
instance fa7_2 : FA Tryz.prog 7 2 2 := ⟨by kernel_rfl⟩
instance ft7_2 : FT Tryz.prog 7 2 4 2 := ⟨by kernel_rfl⟩
instance fa7_3 : FA Tryz.prog 7 3 3 := ⟨by kernel_rfl⟩
instance ft7_3 : FT Tryz.prog 7 3 6 3 := ⟨by kernel_rfl⟩
instance pls7 : PLS Tryz.prog 7 [.one (.i .i64 0), .one (.i .i64 0), .one (.b false), .one (.i .u8 0)] := ⟨by kernel_rfl⟩
instance ta8 : TyA Tryz.prog 8 true 4 (.agg [.one (.i .i64 0), .one (.i .i64 0), .one (.b false), .one (.i .u8 0)]) 24 := ⟨⟨by kernel_rfl, by kernel_rfl⟩, rfl, rfl⟩
instance noi8 : NoI Tryz.prog 8 := ⟨by kernel_rfl⟩
instance fa8_0 : FA Tryz.prog 8 0 0 := ⟨by kernel_rfl⟩
instance ft8_0 : FT Tryz.prog 8 0 2 0 := ⟨by kernel_rfl⟩
instance fa8_1 : FA Tryz.prog 8 1 1 := ⟨by kernel_rfl⟩
instance ft8_1 : FT Tryz.prog 8 1 3 1 := ⟨by kernel_rfl⟩
instance fa8_2 : FA Tryz.prog 8 2 2 := ⟨by kernel_rfl⟩
instance ft8_2 : FT Tryz.prog 8 2 4 2 := ⟨by kernel_rfl⟩
instance fa8_3 : FA Tryz.prog 8 3 3 := ⟨by kernel_rfl⟩
instance ft8_3 : FT Tryz.prog 8 3 6 3 := ⟨by kernel_rfl⟩
instance pls8 : PLS Tryz.prog 8 [.one (.i .i64 0), .one (.i .i64 0), .one (.b false), .one (.i .u8 0)] := ⟨by kernel_rfl⟩
instance ta9 : TyA Tryz.prog 9 false 1 (.one (.s ⟨#[]⟩)) 16 := ⟨⟨by kernel_rfl, by kernel_rfl⟩, rfl, rfl⟩
instance noi9 : NoI Tryz.prog 9 := ⟨by kernel_rfl⟩
instance ud9 : UD Tryz.prog 9 (.string) := ⟨by kernel_rfl⟩
instance ta10 : TyA Tryz.prog 10 false 1 (.one (.s ⟨#[]⟩)) 16 := ⟨⟨by kernel_rfl, by kernel_rfl⟩, rfl, rfl⟩
instance noi10 : NoI Tryz.prog 10 := ⟨by kernel_rfl⟩
instance ud10 : UD Tryz.prog 10 (.string) := ⟨by kernel_rfl⟩
instance ta11 : TyA Tryz.prog 11 false 1 (.one (.s ⟨#[]⟩)) 16 := ⟨⟨by kernel_rfl, by kernel_rfl⟩, rfl, rfl⟩
instance noi11 : NoI Tryz.prog 11 := ⟨by kernel_rfl⟩
instance ud11 : UD Tryz.prog 11 (.string) := ⟨by kernel_rfl⟩
instance ta12 : TyA Tryz.prog 12 false 1 (.one (.i .u64 0)) 8 := ⟨⟨by kernel_rfl, by kernel_rfl⟩, rfl, rfl⟩
instance noi12 : NoI Tryz.prog 12 := ⟨by kernel_rfl⟩
instance ud12 : UD Tryz.prog 12 (.int .u64) := ⟨by kernel_rfl⟩
instance ta13 : TyA Tryz.prog 13 true 2 (.agg [.one (.s ⟨#[]⟩), .one (.i .u64 0)]) 24 := ⟨⟨by kernel_rfl, by kernel_rfl⟩, rfl, rfl⟩
instance noi13 : NoI Tryz.prog 13 := ⟨by kernel_rfl⟩
instance fa13_0 : FA Tryz.prog 13 0 0 := ⟨by kernel_rfl⟩
instance ft13_0 : FT Tryz.prog 13 0 9 0 := ⟨by kernel_rfl⟩
instance fa13_1 : FA Tryz.prog 13 1 1 := ⟨by kernel_rfl⟩
instance ft13_1 : FT Tryz.prog 13 1 12 1 := ⟨by kernel_rfl⟩
instance pls13 : PLS Tryz.prog 13 [.one (.s ⟨#[]⟩), .one (.i .u64 0)] := ⟨by kernel_rfl⟩
instance ta14 : TyA Tryz.prog 14 true 2 (.agg [.one (.s ⟨#[]⟩), .one (.i .u64 0)]) 24 := ⟨⟨by kernel_rfl, by kernel_rfl⟩, rfl, rfl⟩
instance noi14 : NoI Tryz.prog 14 := ⟨by kernel_rfl⟩
instance fa14_0 : FA Tryz.prog 14 0 0 := ⟨by kernel_rfl⟩
instance ft14_0 : FT Tryz.prog 14 0 9 0 := ⟨by kernel_rfl⟩
instance fa14_1 : FA Tryz.prog 14 1 1 := ⟨by kernel_rfl⟩
instance ft14_1 : FT Tryz.prog 14 1 12 1 := ⟨by kernel_rfl⟩
instance pls14 : PLS Tryz.prog 14 [.one (.s ⟨#[]⟩), .one (.i .u64 0)] := ⟨by kernel_rfl⟩
instance ta15 : TyA Tryz.prog 15 false 1 (.one (.pn)) 8 := ⟨⟨by kernel_rfl, by kernel_rfl⟩, rfl, rfl⟩
instance noi15 : NoI Tryz.prog 15 := ⟨by kernel_rfl⟩
instance ud15 : UD Tryz.prog 15 (.pointer 345) := ⟨by kernel_rfl⟩
instance ta16 : TyA Tryz.prog 16 false 1 (.one (.pn)) 8 := ⟨⟨by kernel_rfl, by kernel_rfl⟩, rfl, rfl⟩
instance noi16 : NoI Tryz.prog 16 := ⟨by kernel_rfl⟩
instance ud16 : UD Tryz.prog 16 (.pointer 348) := ⟨by kernel_rfl⟩
instance ta17 : TyA Tryz.prog 17 false 1 (.one (.pn)) 8 := ⟨⟨by kernel_rfl, by kernel_rfl⟩, rfl, rfl⟩
instance noi17 : NoI Tryz.prog 17 := ⟨by kernel_rfl⟩
instance ud17 : UD Tryz.prog 17 (.pointer 357) := ⟨by kernel_rfl⟩
instance ta18 : TyA Tryz.prog 18 true 1 (.agg [.one (.pn)]) 8 := ⟨⟨by kernel_rfl, by kernel_rfl⟩, rfl, rfl⟩
instance noi18 : NoI Tryz.prog 18 := ⟨by kernel_rfl⟩
instance fa18_0 : FA Tryz.prog 18 0 0 := ⟨by kernel_rfl⟩
instance ft18_0 : FT Tryz.prog 18 0 17 0 := ⟨by kernel_rfl⟩
instance pls18 : PLS Tryz.prog 18 [.one (.pn)] := ⟨by kernel_rfl⟩
instance ta19 : TyA Tryz.prog 19 true 1 (.agg [.one (.pn)]) 8 := ⟨⟨by kernel_rfl, by kernel_rfl⟩, rfl, rfl⟩
instance noi19 : NoI Tryz.prog 19 := ⟨by kernel_rfl⟩
instance fa19_0 : FA Tryz.prog 19 0 0 := ⟨by kernel_rfl⟩
instance ft19_0 : FT Tryz.prog 19 0 17 0 := ⟨by kernel_rfl⟩
instance pls19 : PLS Tryz.prog 19 [.one (.pn)] := ⟨by kernel_rfl⟩
instance ta20 : TyA Tryz.prog 20 false 1 (.one (.ifn)) 16 := ⟨⟨by kernel_rfl, by kernel_rfl⟩, rfl, rfl⟩
theorem ifc20 : isIfc (Tryz.prog.underlying 20) = true := by kernel_rfl
instance ta21 : TyA Tryz.prog 21 false 1 (.one (.i .i32 0)) 4 := ⟨⟨by kernel_rfl, by kernel_rfl⟩, rfl, rfl⟩
instance noi21 : NoI Tryz.prog 21 := ⟨by kernel_rfl⟩
instance ud21 : UD Tryz.prog 21 (.int .i32) := ⟨by kernel_rfl⟩
instance ta22 : TyA Tryz.prog 22 false 1 (.one (.sl 0 none 0 0)) 24 := ⟨⟨by kernel_rfl, by kernel_rfl⟩, rfl, rfl⟩
instance noi22 : NoI Tryz.prog 22 := ⟨by kernel_rfl⟩
instance ud22 : UD Tryz.prog 22 (.slice 26) := ⟨by kernel_rfl⟩
instance ta23 : TyA Tryz.prog 23 false 1 (.one (.sl 0 none 0 0)) 24 := ⟨⟨by kernel_rfl, by kernel_rfl⟩, rfl, rfl⟩
instance noi23 : NoI Tryz.prog 23 := ⟨by kernel_rfl⟩
instance ud23 : UD Tryz.prog 23 (.slice 57) := ⟨by kernel_rfl⟩
instance ta24 : TyA Tryz.prog 24 false 1 (.one (.fnn)) 8 := ⟨⟨by kernel_rfl, by kernel_rfl⟩, rfl, rfl⟩
instance noi24 : NoI Tryz.prog 24 := ⟨by kernel_rfl⟩
instance ta25 : TyA Tryz.prog 25 true 2 (.agg [.one (.i .i64 0), .one (.sl 0 none 0 0)]) 32 := ⟨⟨by kernel_rfl, by kernel_rfl⟩, rfl, rfl⟩
instance noi25 : NoI Tryz.prog 25 := ⟨by kernel_rfl⟩
instance fa25_0 : FA Tryz.prog 25 0 0 := ⟨by kernel_rfl⟩
instance ft25_0 : FT Tryz.prog 25 0 2 0 := ⟨by kernel_rfl⟩
instance fa25_1 : FA Tryz.prog 25 1 1 := ⟨by kernel_rfl⟩
instance ft25_1 : FT Tryz.prog 25 1 23 1 := ⟨by kernel_rfl⟩
instance pls25 : PLS Tryz.prog 25 [.one (.i .i64 0), .one (.sl 0 none 0 0)] := ⟨by kernel_rfl⟩
instance ta26 : TyA Tryz.prog 26 true 2 (.agg [.one (.i .i64 0), .one (.sl 0 none 0 0)]) 32 := ⟨⟨by kernel_rfl, by kernel_rfl⟩, rfl, rfl⟩
instance noi26 : NoI Tryz.prog 26 := ⟨by kernel_rfl⟩
instance fa26_0 : FA Tryz.prog 26 0 0 := ⟨by kernel_rfl⟩
instance ft26_0 : FT Tryz.prog 26 0 2 0 := ⟨by kernel_rfl⟩
instance fa26_1 : FA Tryz.prog 26 1 1 := ⟨by kernel_rfl⟩
instance ft26_1 : FT Tryz.prog 26 1 23 1 := ⟨by kernel_rfl⟩
instance pls26 : PLS Tryz.prog 26 [.one (.i .i64 0), .one (.sl 0 none 0 0)] := ⟨by kernel_rfl⟩
instance ta27 : TyA Tryz.prog 27 false 1 (.one (.fnn)) 8 := ⟨⟨by kernel_rfl, by kernel_rfl⟩, rfl, rfl⟩
instance noi27 : NoI Tryz.prog 27 := ⟨by kernel_rfl⟩
instance ta28 : TyA Tryz.prog 28 false 1 (.one (.fnn)) 8 := ⟨⟨by kernel_rfl, by kernel_rfl⟩, rfl, rfl⟩
instance noi28 : NoI Tryz.prog 28 := ⟨by kernel_rfl⟩
instance ta29 : TyA Tryz.prog 29 false 1 (.one (.fnn)) 8 := ⟨⟨by kernel_rfl, by kernel_rfl⟩, rfl, rfl⟩
instance noi29 : NoI Tryz.prog 29 := ⟨by kernel_rfl⟩
instance ta31 : TyA Tryz.prog 31 false 1 (.one (.fnn)) 8 := ⟨⟨by kernel_rfl, by kernel_rfl⟩, rfl, rfl⟩
instance noi31 : NoI Tryz.prog 31 := ⟨by kernel_rfl⟩
instance ta32 : TyA Tryz.prog 32 false 1 (.one (.fnn)) 8 := ⟨⟨by kernel_rfl, by kernel_rfl⟩, rfl, rfl⟩
instance noi32 : NoI Tryz.prog 32 := ⟨by kernel_rfl⟩
instance ta33 : TyA Tryz.prog 33 false 1 (.one (.i .u64 0)) 8 := ⟨⟨by kernel_rfl, by kernel_rfl⟩, rfl, rfl⟩
instance noi33 : NoI Tryz.prog 33 := ⟨by kernel_rfl⟩
instance ud33 : UD Tryz.prog 33 (.int .u64) := ⟨by kernel_rfl⟩
instance ta34 : TyA Tryz.prog 34 true 2 (.agg [.one (.i .i64 0), .one (.i .u64 0)]) 16 := ⟨⟨by kernel_rfl, by kernel_rfl⟩, rfl, rfl⟩
instance noi34 : NoI Tryz.prog 34 := ⟨by kernel_rfl⟩
instance fa34_0 : FA Tryz.prog 34 0 0 := ⟨by kernel_rfl⟩
instance ft34_0 : FT Tryz.prog 34 0 2 0 := ⟨by kernel_rfl⟩
instance fa34_1 : FA Tryz.prog 34 1 1 := ⟨by kernel_rfl⟩
instance ft34_1 : FT Tryz.prog 34 1 33 1 := ⟨by kernel_rfl⟩
instance pls34 : PLS Tryz.prog 34 [.one (.i .i64 0), .one (.i .u64 0)] := ⟨by kernel_rfl⟩
instance ta35 : TyA Tryz.prog 35 true 2 (.agg [.one (.i .i64 0), .one (.i .u64 0)]) 16 := ⟨⟨by kernel_rfl, by kernel_rfl⟩, rfl, rfl⟩
instance noi35 : NoI Tryz.prog 35 := ⟨by kernel_rfl⟩
instance fa35_0 : FA Tryz.prog 35 0 0 := ⟨by kernel_rfl⟩
instance ft35_0 : FT Tryz.prog 35 0 2 0 := ⟨by kernel_rfl⟩
instance fa35_1 : FA Tryz.prog 35 1 1 := ⟨by kernel_rfl⟩
instance ft35_1 : FT Tryz.prog 35 1 33 1 := ⟨by kernel_rfl⟩
instance pls35 : PLS Tryz.prog 35 [.one (.i .i64 0), .one (.i .u64 0)] := ⟨by kernel_rfl⟩
instance ta36 : TyA Tryz.prog 36 false 1 (.one (.sl 0 none 0 0)) 24 := ⟨⟨by kernel_rfl, by kernel_rfl⟩, rfl, rfl⟩
instance noi36 : NoI Tryz.prog 36 := ⟨by kernel_rfl⟩
instance ud36 : UD Tryz.prog 36 (.slice 75) := ⟨by kernel_rfl⟩
instance ta38 : TyA Tryz.prog 38 false 1 (.one (.fnn)) 8 := ⟨⟨by kernel_rfl, by kernel_rfl⟩, rfl, rfl⟩
instance noi38 : NoI Tryz.prog 38 := ⟨by kernel_rfl⟩
instance ta39 : TyA Tryz.prog 39 false 1 (.one (.fnn)) 8 := ⟨⟨by kernel_rfl, by kernel_rfl⟩, rfl, rfl⟩
instance noi39 : NoI Tryz.prog 39 := ⟨by kernel_rfl⟩
instance ta40 : TyA Tryz.prog 40 false 1 (.one (.fnn)) 8 := ⟨⟨by kernel_rfl, by kernel_rfl⟩, rfl, rfl⟩
instance noi40 : NoI Tryz.prog 40 := ⟨by kernel_rfl⟩
instance ta41 : TyA Tryz.prog 41 false 1 (.one (.fnn)) 8 := ⟨⟨by kernel_rfl, by kernel_rfl⟩, rfl, rfl⟩
instance noi41 : NoI Tryz.prog 41 := ⟨by kernel_rfl⟩
instance ta42 : TyA Tryz.prog 42 false 1 (.one (.fnn)) 8 := ⟨⟨by kernel_rfl, by kernel_rfl⟩, rfl, rfl⟩
instance noi42 : NoI Tryz.prog 42 := ⟨by kernel_rfl⟩
instance ta43 : TyA Tryz.prog 43 false 1 (.one (.fnn)) 8 := ⟨⟨by kernel_rfl, by kernel_rfl⟩, rfl, rfl⟩
instance noi43 : NoI Tryz.prog 43 := ⟨by kernel_rfl⟩
instance ta44 : TyA Tryz.prog 44 false 1 (.one (.fnn)) 8 := ⟨⟨by kernel_rfl, by kernel_rfl⟩, rfl, rfl⟩
instance noi44 : NoI Tryz.prog 44 := ⟨by kernel_rfl⟩
instance ta45 : TyA Tryz.prog 45 false 1 (.one (.fnn)) 8 := ⟨⟨by kernel_rfl, by kernel_rfl⟩, rfl, rfl⟩
instance noi45 : NoI Tryz.prog 45 := ⟨by kernel_rfl⟩
instance ta46 : TyA Tryz.prog 46 false 1 (.one (.sl 0 none 0 0)) 24 := ⟨⟨by kernel_rfl, by kernel_rfl⟩, rfl, rfl⟩
instance noi46 : NoI Tryz.prog 46 := ⟨by kernel_rfl⟩
instance ud46 : UD Tryz.prog 46 (.slice 36) := ⟨by kernel_rfl⟩
instance ta47 : TyA Tryz.prog 47 false 1 (.one (.fnn)) 8 := ⟨⟨by kernel_rfl, by kernel_rfl⟩, rfl, rfl⟩
instance noi47 : NoI Tryz.prog 47 := ⟨by kernel_rfl⟩
instance ta48 : TyA Tryz.prog 48 false 1 (.one (.sl 0 none 0 0)) 24 := ⟨⟨by kernel_rfl, by kernel_rfl⟩, rfl, rfl⟩
instance noi48 : NoI Tryz.prog 48 := ⟨by kernel_rfl⟩
instance ud48 : UD Tryz.prog 48 (.slice 22) := ⟨by kernel_rfl⟩
instance ta49 : TyA Tryz.prog 49 true 32 (.agg [.hash hz]) 32 := ⟨⟨by kernel_rfl, by kernel_rfl⟩, rfl, rfl⟩
instance noi49 : NoI Tryz.prog 49 := ⟨by kernel_rfl⟩
instance ud49 : UD Tryz.prog 49 (.array 32 5) := ⟨by kernel_rfl⟩
instance ht49 : HashT Tryz.prog 49 := ⟨keyTy_hash ud49.is ud5.is ta5.is, by kernel_rfl⟩
instance ta50 : TyA Tryz.prog 50 true 32 (.agg [.hash hz]) 32 := ⟨⟨by kernel_rfl, by kernel_rfl⟩, rfl, rfl⟩
instance noi50 : NoI Tryz.prog 50 := ⟨by kernel_rfl⟩
instance ud50 : UD Tryz.prog 50 (.array 32 5) := ⟨by kernel_rfl⟩
instance ht50 : HashT Tryz.prog 50 := ⟨keyTy_hash ud50.is ud5.is ta5.is, by kernel_rfl⟩
instance ta51 : TyA Tryz.prog 51 false 1 (.one (.fnn)) 8 := ⟨⟨by kernel_rfl, by kernel_rfl⟩, rfl, rfl⟩
instance noi51 : NoI Tryz.prog 51 := ⟨by kernel_rfl⟩
instance ta52 : TyA Tryz.prog 52 false 1 (.one (.fnn)) 8 := ⟨⟨by kernel_rfl, by kernel_rfl⟩, rfl, rfl⟩
instance noi52 : NoI Tryz.prog 52 := ⟨by kernel_rfl⟩
instance ta53 : TyA Tryz.prog 53 false 1 (.one (.fnn)) 8 := ⟨⟨by kernel_rfl, by kernel_rfl⟩, rfl, rfl⟩
instance noi53 : NoI Tryz.prog 53 := ⟨by kernel_rfl⟩
instance ta54 : TyA Tryz.prog 54 false 1 (.one (.fnn)) 8 := ⟨⟨by kernel_rfl, by kernel_rfl⟩, rfl, rfl⟩
instance noi54 : NoI Tryz.prog 54 := ⟨by kernel_rfl⟩
instance ta55 : TyA Tryz.prog 55 false 1 (.one (.fnn)) 8 := ⟨⟨by kernel_rfl, by kernel_rfl⟩, rfl, rfl⟩
instance noi55 : NoI Tryz.prog 55 := ⟨by kernel_rfl⟩
instance ta56 : TyA Tryz.prog 56 true 34 (.agg [.hash hz, .one (.s ⟨#[]⟩), .one (.i .i64 0)]) 56 := ⟨⟨by kernel_rfl, by kernel_rfl⟩, rfl, rfl⟩
instance noi56 : NoI Tryz.prog 56 := ⟨by kernel_rfl⟩
instance fa56_0 : FA Tryz.prog 56 0 0 := ⟨by kernel_rfl⟩
instance ft56_0 : FT Tryz.prog 56 0 50 0 := ⟨by kernel_rfl⟩
instance fa56_1 : FA Tryz.prog 56 1 32 := ⟨by kernel_rfl⟩
instance ft56_1 : FT Tryz.prog 56 1 9 32 := ⟨by kernel_rfl⟩
instance fa56_2 : FA Tryz.prog 56 2 33 := ⟨by kernel_rfl⟩
instance ft56_2 : FT Tryz.prog 56 2 2 33 := ⟨by kernel_rfl⟩
instance pls56 : PLS Tryz.prog 56 [.agg [.hash hz], .one (.s ⟨#[]⟩), .one (.i .i64 0)] := ⟨by kernel_rfl⟩
instance ta57 : TyA Tryz.prog 57 true 34 (.agg [.hash hz, .one (.s ⟨#[]⟩), .one (.i .i64 0)]) 56 := ⟨⟨by kernel_rfl, by kernel_rfl⟩, rfl, rfl⟩
instance noi57 : NoI Tryz.prog 57 := ⟨by kernel_rfl⟩
instance fa57_0 : FA Tryz.prog 57 0 0 := ⟨by kernel_rfl⟩
instance ft57_0 : FT Tryz.prog 57 0 50 0 := ⟨by kernel_rfl⟩
instance fa57_1 : FA Tryz.prog 57 1 32 := ⟨by kernel_rfl⟩
instance ft57_1 : FT Tryz.prog 57 1 9 32 := ⟨by kernel_rfl⟩
instance fa57_2 : FA Tryz.prog 57 2 33 := ⟨by kernel_rfl⟩
instance ft57_2 : FT Tryz.prog 57 2 2 33 := ⟨by kernel_rfl⟩
instance pls57 : PLS Tryz.prog 57 [.agg [.hash hz], .one (.s ⟨#[]⟩), .one (.i .i64 0)] := ⟨by kernel_rfl⟩
instance ta58 : TyA Tryz.prog 58 false 1 (.one (.fnn)) 8 := ⟨⟨by kernel_rfl, by kernel_rfl⟩, rfl, rfl⟩
instance noi58 : NoI Tryz.prog 58 := ⟨by kernel_rfl⟩
instance ta59 : TyA Tryz.prog 59 false 1 (.one (.sl 0 none 0 0)) 24 := ⟨⟨by kernel_rfl, by kernel_rfl⟩, rfl, rfl⟩
instance noi59 : NoI Tryz.prog 59 := ⟨by kernel_rfl⟩
instance ud59 : UD Tryz.prog 59 (.slice 35) := ⟨by kernel_rfl⟩
instance ta60 : TyA Tryz.prog 60 false 1 (.one (.fnn)) 8 := ⟨⟨by kernel_rfl, by kernel_rfl⟩, rfl, rfl⟩
instance noi60 : NoI Tryz.prog 60 := ⟨by kernel_rfl⟩
instance ta61 : TyA Tryz.prog 61 false 1 (.one (.fnn)) 8 := ⟨⟨by kernel_rfl, by kernel_rfl⟩, rfl, rfl⟩
instance noi61 : NoI Tryz.prog 61 := ⟨by kernel_rfl⟩
instance ta62 : TyA Tryz.prog 62 false 1 (.one (.fnn)) 8 := ⟨⟨by kernel_rfl, by kernel_rfl⟩, rfl, rfl⟩
instance noi62 : NoI Tryz.prog 62 := ⟨by kernel_rfl⟩
instance ta63 : TyA Tryz.prog 63 false 1 (.one (.fnn)) 8 := ⟨⟨by kernel_rfl, by kernel_rfl⟩, rfl, rfl⟩
instance noi63 : NoI Tryz.prog 63 := ⟨by kernel_rfl⟩
instance ta64 : TyA Tryz.prog 64 false 1 (.one (.fnn)) 8 := ⟨⟨by kernel_rfl, by kernel_rfl⟩, rfl, rfl⟩
instance noi64 : NoI Tryz.prog 64 := ⟨by kernel_rfl⟩
instance ta65 : TyA Tryz.prog 65 false 1 (.one (.fnn)) 8 := ⟨⟨by kernel_rfl, by kernel_rfl⟩, rfl, rfl⟩
instance noi65 : NoI Tryz.prog 65 := ⟨by kernel_rfl⟩
instance ta66 : TyA Tryz.prog 66 false 1 (.one (.fnn)) 8 := ⟨⟨by kernel_rfl, by kernel_rfl⟩, rfl, rfl⟩
instance noi66 : NoI Tryz.prog 66 := ⟨by kernel_rfl⟩
instance ta67 : TyA Tryz.prog 67 false 1 (.one (.fnn)) 8 := ⟨⟨by kernel_rfl, by kernel_rfl⟩, rfl, rfl⟩
instance noi67 : NoI Tryz.prog 67 := ⟨by kernel_rfl⟩
instance ta68 : TyA Tryz.prog 68 false 1 (.one (.fnn)) 8 := ⟨⟨by kernel_rfl, by kernel_rfl⟩, rfl, rfl⟩
instance noi68 : NoI Tryz.prog 68 := ⟨by kernel_rfl⟩
instance ta69 : TyA Tryz.prog 69 false 1 (.one (.fnn)) 8 := ⟨⟨by kernel_rfl, by kernel_rfl⟩, rfl, rfl⟩
instance noi69 : NoI Tryz.prog 69 := ⟨by kernel_rfl⟩
instance ta70 : TyA Tryz.prog 70 false 1 (.one (.sl 0 none 0 0)) 24 := ⟨⟨by kernel_rfl, by kernel_rfl⟩, rfl, rfl⟩
instance noi70 : NoI Tryz.prog 70 := ⟨by kernel_rfl⟩
instance ud70 : UD Tryz.prog 70 (.slice 2) := ⟨by kernel_rfl⟩
instance ta71 : TyA Tryz.prog 71 false 1 (.one (.sl 0 none 0 0)) 24 := ⟨⟨by kernel_rfl, by kernel_rfl⟩, rfl, rfl⟩
instance noi71 : NoI Tryz.prog 71 := ⟨by kernel_rfl⟩
instance ud71 : UD Tryz.prog 71 (.slice 9) := ⟨by kernel_rfl⟩
instance ta72 : TyA Tryz.prog 72 false 1 (.one (.fnn)) 8 := ⟨⟨by kernel_rfl, by kernel_rfl⟩, rfl, rfl⟩
instance noi72 : NoI Tryz.prog 72 := ⟨by kernel_rfl⟩
instance ta73 : TyA Tryz.prog 73 false 1 (.one (.fnn)) 8 := ⟨⟨by kernel_rfl, by kernel_rfl⟩, rfl, rfl⟩
instance noi73 : NoI Tryz.prog 73 := ⟨by kernel_rfl⟩
instance ta74 : TyA Tryz.prog 74 true 35 (.agg [.hash hz, .one (.s ⟨#[]⟩), .one (.i .i64 0), .one (.i .u64 0)]) 64 := ⟨⟨by kernel_rfl, by kernel_rfl⟩, rfl, rfl⟩
instance noi74 : NoI Tryz.prog 74 := ⟨by kernel_rfl⟩
instance fa74_0 : FA Tryz.prog 74 0 0 := ⟨by kernel_rfl⟩
instance ft74_0 : FT Tryz.prog 74 0 50 0 := ⟨by kernel_rfl⟩
instance fa74_1 : FA Tryz.prog 74 1 32 := ⟨by kernel_rfl⟩
instance ft74_1 : FT Tryz.prog 74 1 9 32 := ⟨by kernel_rfl⟩
instance fa74_2 : FA Tryz.prog 74 2 33 := ⟨by kernel_rfl⟩
instance ft74_2 : FT Tryz.prog 74 2 35 33 := ⟨by kernel_rfl⟩
instance pls74 : PLS Tryz.prog 74 [.agg [.hash hz], .one (.s ⟨#[]⟩), .agg [.one (.i .i64 0), .one (.i .u64 0)]] := ⟨by kernel_rfl⟩
instance ta75 : TyA Tryz.prog 75 true 35 (.agg [.hash hz, .one (.s ⟨#[]⟩), .one (.i .i64 0), .one (.i .u64 0)]) 64 := ⟨⟨by kernel_rfl, by kernel_rfl⟩, rfl, rfl⟩
instance noi75 : NoI Tryz.prog 75 := ⟨by kernel_rfl⟩
instance fa75_0 : FA Tryz.prog 75 0 0 := ⟨by kernel_rfl⟩
instance ft75_0 : FT Tryz.prog 75 0 50 0 := ⟨by kernel_rfl⟩
instance fa75_1 : FA Tryz.prog 75 1 32 := ⟨by kernel_rfl⟩
instance ft75_1 : FT Tryz.prog 75 1 9 32 := ⟨by kernel_rfl⟩
instance fa75_2 : FA Tryz.prog 75 2 33 := ⟨by kernel_rfl⟩
instance ft75_2 : FT Tryz.prog 75 2 35 33 := ⟨by kernel_rfl⟩
instance pls75 : PLS Tryz.prog 75 [.agg [.hash hz], .one (.s ⟨#[]⟩), .agg [.one (.i .i64 0), .one (.i .u64 0)]] := ⟨by kernel_rfl⟩
instance ta76 : TyA Tryz.prog 76 false 1 (.one (.fnn)) 8 := ⟨⟨by kernel_rfl, by kernel_rfl⟩, rfl, rfl⟩
instance noi76 : NoI Tryz.prog 76 := ⟨by kernel_rfl⟩
instance ta77 : TyA Tryz.prog 77 false 1 (.one (.fnn)) 8 := ⟨⟨by kernel_rfl, by kernel_rfl⟩, rfl, rfl⟩
instance noi77 : NoI Tryz.prog 77 := ⟨by kernel_rfl⟩
instance ta78 : TyA Tryz.prog 78 false 1 (.one (.fnn)) 8 := ⟨⟨by kernel_rfl, by kernel_rfl⟩, rfl, rfl⟩
instance noi78 : NoI Tryz.prog 78 := ⟨by kernel_rfl⟩
instance ta79 : TyA Tryz.prog 79 false 1 (.one (.fnn)) 8 := ⟨⟨by kernel_rfl, by kernel_rfl⟩, rfl, rfl⟩
instance noi79 : NoI Tryz.prog 79 := ⟨by kernel_rfl⟩
instance ta80 : TyA Tryz.prog 80 false 1 (.one (.pn)) 8 := ⟨⟨by kernel_rfl, by kernel_rfl⟩, rfl, rfl⟩
instance noi80 : NoI Tryz.prog 80 := ⟨by kernel_rfl⟩
instance ud80 : UD Tryz.prog 80 (.pointer 129) := ⟨by kernel_rfl⟩
instance ta81 : TyA Tryz.prog 81 false 1 (.one (.fnn)) 8 := ⟨⟨by kernel_rfl, by kernel_rfl⟩, rfl, rfl⟩
instance noi81 : NoI Tryz.prog 81 := ⟨by kernel_rfl⟩
instance ta82 : TyA Tryz.prog 82 false 1 (.one (.fnn)) 8 := ⟨⟨by kernel_rfl, by kernel_rfl⟩, rfl, rfl⟩
instance noi82 : NoI Tryz.prog 82 := ⟨by kernel_rfl⟩
instance ta83 : TyA Tryz.prog 83 false 1 (.one (.fnn)) 8 := ⟨⟨by kernel_rfl, by kernel_rfl⟩, rfl, rfl⟩
instance noi83 : NoI Tryz.prog 83 := ⟨by kernel_rfl⟩
instance ta84 : TyA Tryz.prog 84 false 1 (.one (.mn)) 8 := ⟨⟨by kernel_rfl, by kernel_rfl⟩, rfl, rfl⟩
instance noi84 : NoI Tryz.prog 84 := ⟨by kernel_rfl⟩
instance ud84 : UD Tryz.prog 84 (.map 88 35) := ⟨by kernel_rfl⟩
instance ta85 : TyA Tryz.prog 85 false 1 (.one (.mn)) 8 := ⟨⟨by kernel_rfl, by kernel_rfl⟩, rfl, rfl⟩
instance noi85 : NoI Tryz.prog 85 := ⟨by kernel_rfl⟩
instance ud85 : UD Tryz.prog 85 (.map 88 35) := ⟨by kernel_rfl⟩
instance ta86 : TyA Tryz.prog 86 false 1 (.one (.fnn)) 8 := ⟨⟨by kernel_rfl, by kernel_rfl⟩, rfl, rfl⟩
instance noi86 : NoI Tryz.prog 86 := ⟨by kernel_rfl⟩
instance ta87 : TyA Tryz.prog 87 true 33 (.agg [.hash hz, .one (.s ⟨#[]⟩)]) 48 := ⟨⟨by kernel_rfl, by kernel_rfl⟩, rfl, rfl⟩
instance noi87 : NoI Tryz.prog 87 := ⟨by kernel_rfl⟩
instance fa87_0 : FA Tryz.prog 87 0 0 := ⟨by kernel_rfl⟩
instance ft87_0 : FT Tryz.prog 87 0 50 0 := ⟨by kernel_rfl⟩
instance fa87_1 : FA Tryz.prog 87 1 32 := ⟨by kernel_rfl⟩
instance ft87_1 : FT Tryz.prog 87 1 9 32 := ⟨by kernel_rfl⟩
instance pls87 : PLS Tryz.prog 87 [.agg [.hash hz], .one (.s ⟨#[]⟩)] := ⟨by kernel_rfl⟩
instance ta88 : TyA Tryz.prog 88 true 33 (.agg [.hash hz, .one (.s ⟨#[]⟩)]) 48 := ⟨⟨by kernel_rfl, by kernel_rfl⟩, rfl, rfl⟩
instance noi88 : NoI Tryz.prog 88 := ⟨by kernel_rfl⟩
instance fa88_0 : FA Tryz.prog 88 0 0 := ⟨by kernel_rfl⟩
instance ft88_0 : FT Tryz.prog 88 0 50 0 := ⟨by kernel_rfl⟩
instance fa88_1 : FA Tryz.prog 88 1 32 := ⟨by kernel_rfl⟩
instance ft88_1 : FT Tryz.prog 88 1 9 32 := ⟨by kernel_rfl⟩
instance pls88 : PLS Tryz.prog 88 [.agg [.hash hz], .one (.s ⟨#[]⟩)] := ⟨by kernel_rfl⟩
instance ta89 : TyA Tryz.prog 89 false 1 (.one (.fnn)) 8 := ⟨⟨by kernel_rfl, by kernel_rfl⟩, rfl, rfl⟩
instance noi89 : NoI Tryz.prog 89 := ⟨by kernel_rfl⟩
instance ta90 : TyA Tryz.prog 90 false 1 (.one (.fnn)) 8 := ⟨⟨by kernel_rfl, by kernel_rfl⟩, rfl, rfl⟩
instance noi90 : NoI Tryz.prog 90 := ⟨by kernel_rfl⟩
instance ta91 : TyA Tryz.prog 91 false 1 (.one (.fnn)) 8 := ⟨⟨by kernel_rfl, by kernel_rfl⟩, rfl, rfl⟩
instance noi91 : NoI Tryz.prog 91 := ⟨by kernel_rfl⟩
instance ta92 : TyA Tryz.prog 92 false 1 (.one (.fnn)) 8 := ⟨⟨by kernel_rfl, by kernel_rfl⟩, rfl, rfl⟩
instance noi92 : NoI Tryz.prog 92 := ⟨by kernel_rfl⟩
instance ta93 : TyA Tryz.prog 93 false 1 (.one (.pn)) 8 := ⟨⟨by kernel_rfl, by kernel_rfl⟩, rfl, rfl⟩
instance noi93 : NoI Tryz.prog 93 := ⟨by kernel_rfl⟩
instance ud93 : UD Tryz.prog 93 (.pointer 122) := ⟨by kernel_rfl⟩
instance ta94 : TyA Tryz.prog 94 false 1 (.one (.sl 0 none 0 0)) 24 := ⟨⟨by kernel_rfl, by kernel_rfl⟩, rfl, rfl⟩
instance noi94 : NoI Tryz.prog 94 := ⟨by kernel_rfl⟩
instance ud94 : UD Tryz.prog 94 (.slice 192) := ⟨by kernel_rfl⟩
instance ta95 : TyA Tryz.prog 95 false 1 (.one (.sl 0 none 0 0)) 24 := ⟨⟨by kernel_rfl, by kernel_rfl⟩, rfl, rfl⟩
instance noi95 : NoI Tryz.prog 95 := ⟨by kernel_rfl⟩
instance ud95 : UD Tryz.prog 95 (.slice 194) := ⟨by kernel_rfl⟩
instance ta96 : TyA Tryz.prog 96 false 1 (.one (.sl 0 none 0 0)) 24 := ⟨⟨by kernel_rfl, by kernel_rfl⟩, rfl, rfl⟩
instance noi96 : NoI Tryz.prog 96 := ⟨by kernel_rfl⟩
instance ud96 : UD Tryz.prog 96 (.slice 182) := ⟨by kernel_rfl⟩
instance ta97 : TyA Tryz.prog 97 false 1 (.one (.sl 0 none 0 0)) 24 := ⟨⟨by kernel_rfl, by kernel_rfl⟩, rfl, rfl⟩
instance noi97 : NoI Tryz.prog 97 := ⟨by kernel_rfl⟩
instance ud97 : UD Tryz.prog 97 (.slice 70) := ⟨by kernel_rfl⟩
instance ta98 : TyA Tryz.prog 98 false 1 (.one (.sl 0 none 0 0)) 24 := ⟨⟨by kernel_rfl, by kernel_rfl⟩, rfl, rfl⟩
instance noi98 : NoI Tryz.prog 98 := ⟨by kernel_rfl⟩
instance ud98 : UD Tryz.prog 98 (.slice 71) := ⟨by kernel_rfl⟩
instance ta99 : TyA Tryz.prog 99 false 1 (.one (.sl 0 none 0 0)) 24 := ⟨⟨by kernel_rfl, by kernel_rfl⟩, rfl, rfl⟩
instance noi99 : NoI Tryz.prog 99 := ⟨by kernel_rfl⟩
instance ud99 : UD Tryz.prog 99 (.slice 186) := ⟨by kernel_rfl⟩
instance ta100 : TyA Tryz.prog 100 false 1 (.one (.sl 0 none 0 0)) 24 := ⟨⟨by kernel_rfl, by kernel_rfl⟩, rfl, rfl⟩
instance noi100 : NoI Tryz.prog 100 := ⟨by kernel_rfl⟩
instance ud100 : UD Tryz.prog 100 (.slice 196) := ⟨by kernel_rfl⟩
instance ta101 : TyA Tryz.prog 101 false 1 (.one (.sl 0 none 0 0)) 24 := ⟨⟨by kernel_rfl, by kernel_rfl⟩, rfl, rfl⟩
instance noi101 : NoI Tryz.prog 101 := ⟨by kernel_rfl⟩
instance ud101 : UD Tryz.prog 101 (.slice 197) := ⟨by kernel_rfl⟩
instance ta102 : TyA Tryz.prog 102 false 1 (.one (.sl 0 none 0 0)) 24 := ⟨⟨by kernel_rfl, by kernel_rfl⟩, rfl, rfl⟩
instance noi102 : NoI Tryz.prog 102 := ⟨by kernel_rfl⟩
instance ud102 : UD Tryz.prog 102 (.slice 199) := ⟨by kernel_rfl⟩
instance ta103 : TyA Tryz.prog 103 false 1 (.one (.sl 0 none 0 0)) 24 := ⟨⟨by kernel_rfl, by kernel_rfl⟩, rfl, rfl⟩
instance noi103 : NoI Tryz.prog 103 := ⟨by kernel_rfl⟩
instance ud103 : UD Tryz.prog 103 (.slice 204) := ⟨by kernel_rfl⟩
instance ta104 : TyA Tryz.prog 104 false 1 (.one (.sl 0 none 0 0)) 24 := ⟨⟨by kernel_rfl, by kernel_rfl⟩, rfl, rfl⟩
instance noi104 : NoI Tryz.prog 104 := ⟨by kernel_rfl⟩
instance ud104 : UD Tryz.prog 104 (.slice 23) := ⟨by kernel_rfl⟩
instance ta105 : TyA Tryz.prog 105 false 1 (.one (.sl 0 none 0 0)) 24 := ⟨⟨by kernel_rfl, by kernel_rfl⟩, rfl, rfl⟩
instance noi105 : NoI Tryz.prog 105 := ⟨by kernel_rfl⟩
instance ud105 : UD Tryz.prog 105 (.slice 209) := ⟨by kernel_rfl⟩
instance ta106 : TyA Tryz.prog 106 false 1 (.one (.sl 0 none 0 0)) 24 := ⟨⟨by kernel_rfl, by kernel_rfl⟩, rfl, rfl⟩
instance noi106 : NoI Tryz.prog 106 := ⟨by kernel_rfl⟩
instance ud106 : UD Tryz.prog 106 (.slice 217) := ⟨by kernel_rfl⟩
instance ta107 : TyA Tryz.prog 107 false 1 (.one (.sl 0 none 0 0)) 24 := ⟨⟨by kernel_rfl, by kernel_rfl⟩, rfl, rfl⟩
instance noi107 : NoI Tryz.prog 107 := ⟨by kernel_rfl⟩
instance ud107 : UD Tryz.prog 107 (.slice 221) := ⟨by kernel_rfl⟩
instance ta108 : TyA Tryz.prog 108 false 1 (.one (.sl 0 none 0 0)) 24 := ⟨⟨by kernel_rfl, by kernel_rfl⟩, rfl, rfl⟩
instance noi108 : NoI Tryz.prog 108 := ⟨by kernel_rfl⟩
instance ud108 : UD Tryz.prog 108 (.slice 226) := ⟨by kernel_rfl⟩
instance ta109 : TyA Tryz.prog 109 false 1 (.one (.sl 0 none 0 0)) 24 := ⟨⟨by kernel_rfl, by kernel_rfl⟩, rfl, rfl⟩
instance noi109 : NoI Tryz.prog 109 := ⟨by kernel_rfl⟩
instance ud109 : UD Tryz.prog 109 (.slice 232) := ⟨by kernel_rfl⟩
instance ta110 : TyA Tryz.prog 110 false 1 (.one (.sl 0 none 0 0)) 24 := ⟨⟨by kernel_rfl, by kernel_rfl⟩, rfl, rfl⟩
instance noi110 : NoI Tryz.prog 110 := ⟨by kernel_rfl⟩
instance ud110 : UD Tryz.prog 110 (.slice 237) := ⟨by kernel_rfl⟩
instance ta111 : TyA Tryz.prog 111 false 1 (.one (.sl 0 none 0 0)) 24 := ⟨⟨by kernel_rfl, by kernel_rfl⟩, rfl, rfl⟩
instance noi111 : NoI Tryz.prog 111 := ⟨by kernel_rfl⟩
instance ud111 : UD Tryz.prog 111 (.slice 245) := ⟨by kernel_rfl⟩
instance ta112 : TyA Tryz.prog 112 false 1 (.one (.sl 0 none 0 0)) 24 := ⟨⟨by kernel_rfl, by kernel_rfl⟩, rfl, rfl⟩
instance noi112 : NoI Tryz.prog 112 := ⟨by kernel_rfl⟩
instance ud112 : UD Tryz.prog 112 (.slice 250) := ⟨by kernel_rfl⟩
instance ta113 : TyA Tryz.prog 113 false 1 (.one (.sl 0 none 0 0)) 24 := ⟨⟨by kernel_rfl, by kernel_rfl⟩, rfl, rfl⟩
instance noi113 : NoI Tryz.prog 113 := ⟨by kernel_rfl⟩
instance ud113 : UD Tryz.prog 113 (.slice 255) := ⟨by kernel_rfl⟩
instance ta114 : TyA Tryz.prog 114 false 1 (.one (.sl 0 none 0 0)) 24 := ⟨⟨by kernel_rfl, by kernel_rfl⟩, rfl, rfl⟩
instance noi114 : NoI Tryz.prog 114 := ⟨by kernel_rfl⟩
instance ud114 : UD Tryz.prog 114 (.slice 260) := ⟨by kernel_rfl⟩
instance ta115 : TyA Tryz.prog 115 false 1 (.one (.sl 0 none 0 0)) 24 := ⟨⟨by kernel_rfl, by kernel_rfl⟩, rfl, rfl⟩
instance noi115 : NoI Tryz.prog 115 := ⟨by kernel_rfl⟩
instance ud115 : UD Tryz.prog 115 (.slice 267) := ⟨by kernel_rfl⟩
instance ta116 : TyA Tryz.prog 116 false 1 (.one (.sl 0 none 0 0)) 24 := ⟨⟨by kernel_rfl, by kernel_rfl⟩, rfl, rfl⟩
instance noi116 : NoI Tryz.prog 116 := ⟨by kernel_rfl⟩
instance ud116 : UD Tryz.prog 116 (.slice 274) := ⟨by kernel_rfl⟩
instance ta117 : TyA Tryz.prog 117 false 1 (.one (.sl 0 none 0 0)) 24 := ⟨⟨by kernel_rfl, by kernel_rfl⟩, rfl, rfl⟩
instance noi117 : NoI Tryz.prog 117 := ⟨by kernel_rfl⟩
instance ud117 : UD Tryz.prog 117 (.slice 279) := ⟨by kernel_rfl⟩
instance ta118 : TyA Tryz.prog 118 false 1 (.one (.sl 0 none 0 0)) 24 := ⟨⟨by kernel_rfl, by kernel_rfl⟩, rfl, rfl⟩
instance noi118 : NoI Tryz.prog 118 := ⟨by kernel_rfl⟩
instance ud118 : UD Tryz.prog 118 (.slice 285) := ⟨by kernel_rfl⟩
instance ta119 : TyA Tryz.prog 119 false 1 (.one (.sl 0 none 0 0)) 24 := ⟨⟨by kernel_rfl, by kernel_rfl⟩, rfl, rfl⟩
instance noi119 : NoI Tryz.prog 119 := ⟨by kernel_rfl⟩
instance ud119 : UD Tryz.prog 119 (.slice 290) := ⟨by kernel_rfl⟩
instance ta120 : TyA Tryz.prog 120 false 1 (.one (.sl 0 none 0 0)) 24 := ⟨⟨by kernel_rfl, by kernel_rfl⟩, rfl, rfl⟩
instance noi120 : NoI Tryz.prog 120 := ⟨by kernel_rfl⟩
instance ud120 : UD Tryz.prog 120 (.slice 296) := ⟨by kernel_rfl⟩
instance ta121 : TyA Tryz.prog 121 true 29 (.agg [.one (.sl 0 none 0 0), .one (.sl 0 none 0 0), .one (.sl 0 none 0 0), .one (.sl 0 none 0 0), .one (.sl 0 none 0 0), .one (.sl 0 none 0 0), .one (.sl 0 none 0 0), .one (.sl 0 none 0 0), .one (.sl 0 none 0 0), .one (.sl 0 none 0 0), .one (.sl 0 none 0 0), .one (.sl 0 none 0 0), .one (.sl 0 none 0 0), .one (.sl 0 none 0 0), .one (.sl 0 none 0 0), .one (.sl 0 none 0 0), .one (.sl 0 none 0 0), .one (.sl 0 none 0 0), .one (.sl 0 none 0 0), .one (.sl 0 none 0 0), .one (.sl 0 none 0 0), .one (.sl 0 none 0 0), .one (.sl 0 none 0 0), .one (.sl 0 none 0 0), .one (.sl 0 none 0 0), .one (.sl 0 none 0 0), .one (.sl 0 none 0 0), .one (.sl 0 none 0 0), .one (.sl 0 none 0 0)]) 696 := ⟨⟨by kernel_rfl, by kernel_rfl⟩, rfl, rfl⟩
instance noi121 : NoI Tryz.prog 121 := ⟨by kernel_rfl⟩
instance fa121_0 : FA Tryz.prog 121 0 0 := ⟨by kernel_rfl⟩
instance ft121_0 : FT Tryz.prog 121 0 94 0 := ⟨by kernel_rfl⟩
instance fa121_1 : FA Tryz.prog 121 1 1 := ⟨by kernel_rfl⟩
instance ft121_1 : FT Tryz.prog 121 1 95 1 := ⟨by kernel_rfl⟩
instance fa121_2 : FA Tryz.prog 121 2 2 := ⟨by kernel_rfl⟩
instance ft121_2 : FT Tryz.prog 121 2 96 2 := ⟨by kernel_rfl⟩
instance fa121_3 : FA Tryz.prog 121 3 3 := ⟨by kernel_rfl⟩
instance ft121_3 : FT Tryz.prog 121 3 97 3 := ⟨by kernel_rfl⟩
instance fa121_4 : FA Tryz.prog 121 4 4 := ⟨by kernel_rfl⟩
instance ft121_4 : FT Tryz.prog 121 4 98 4 := ⟨by kernel_rfl⟩
instance fa121_5 : FA Tryz.prog 121 5 5 := ⟨by kernel_rfl⟩
instance ft121_5 : FT Tryz.prog 121 5 99 5 := ⟨by kernel_rfl⟩
instance fa121_6 : FA Tryz.prog 121 6 6 := ⟨by kernel_rfl⟩
instance ft121_6 : FT Tryz.prog 121 6 100 6 := ⟨by kernel_rfl⟩
instance fa121_7 : FA Tryz.prog 121 7 7 := ⟨by kernel_rfl⟩
instance ft121_7 : FT Tryz.prog 121 7 101 7 := ⟨by kernel_rfl⟩
instance fa121_8 : FA Tryz.prog 121 8 8 := ⟨by kernel_rfl⟩
instance ft121_8 : FT Tryz.prog 121 8 102 8 := ⟨by kernel_rfl⟩
instance fa121_9 : FA Tryz.prog 121 9 9 := ⟨by kernel_rfl⟩
instance ft121_9 : FT Tryz.prog 121 9 103 9 := ⟨by kernel_rfl⟩
instance fa121_10 : FA Tryz.prog 121 10 10 := ⟨by kernel_rfl⟩
instance ft121_10 : FT Tryz.prog 121 10 104 10 := ⟨by kernel_rfl⟩
instance fa121_11 : FA Tryz.prog 121 11 11 := ⟨by kernel_rfl⟩
instance ft121_11 : FT Tryz.prog 121 11 48 11 := ⟨by kernel_rfl⟩
instance fa121_12 : FA Tryz.prog 121 12 12 := ⟨by kernel_rfl⟩
instance ft121_12 : FT Tryz.prog 121 12 105 12 := ⟨by kernel_rfl⟩
instance fa121_13 : FA Tryz.prog 121 13 13 := ⟨by kernel_rfl⟩
instance ft121_13 : FT Tryz.prog 121 13 106 13 := ⟨by kernel_rfl⟩
instance fa121_14 : FA Tryz.prog 121 14 14 := ⟨by kernel_rfl⟩
instance ft121_14 : FT Tryz.prog 121 14 107 14 := ⟨by kernel_rfl⟩
instance fa121_15 : FA Tryz.prog 121 15 15 := ⟨by kernel_rfl⟩
instance ft121_15 : FT Tryz.prog 121 15 108 15 := ⟨by kernel_rfl⟩
instance fa121_16 : FA Tryz.prog 121 16 16 := ⟨by kernel_rfl⟩
instance ft121_16 : FT Tryz.prog 121 16 109 16 := ⟨by kernel_rfl⟩
instance fa121_17 : FA Tryz.prog 121 17 17 := ⟨by kernel_rfl⟩
instance ft121_17 : FT Tryz.prog 121 17 110 17 := ⟨by kernel_rfl⟩
instance fa121_18 : FA Tryz.prog 121 18 18 := ⟨by kernel_rfl⟩
instance ft121_18 : FT Tryz.prog 121 18 111 18 := ⟨by kernel_rfl⟩
instance fa121_19 : FA Tryz.prog 121 19 19 := ⟨by kernel_rfl⟩
instance ft121_19 : FT Tryz.prog 121 19 112 19 := ⟨by kernel_rfl⟩
instance fa121_20 : FA Tryz.prog 121 20 20 := ⟨by kernel_rfl⟩
instance ft121_20 : FT Tryz.prog 121 20 113 20 := ⟨by kernel_rfl⟩
instance fa121_21 : FA Tryz.prog 121 21 21 := ⟨by kernel_rfl⟩
instance ft121_21 : FT Tryz.prog 121 21 114 21 := ⟨by kernel_rfl⟩
instance fa121_22 : FA Tryz.prog 121 22 22 := ⟨by kernel_rfl⟩
instance ft121_22 : FT Tryz.prog 121 22 115 22 := ⟨by kernel_rfl⟩
instance fa121_23 : FA Tryz.prog 121 23 23 := ⟨by kernel_rfl⟩
instance ft121_23 : FT Tryz.prog 121 23 46 23 := ⟨by kernel_rfl⟩
instance fa121_24 : FA Tryz.prog 121 24 24 := ⟨by kernel_rfl⟩
instance ft121_24 : FT Tryz.prog 121 24 116 24 := ⟨by kernel_rfl⟩
instance fa121_25 : FA Tryz.prog 121 25 25 := ⟨by kernel_rfl⟩
instance ft121_25 : FT Tryz.prog 121 25 117 25 := ⟨by kernel_rfl⟩
instance fa121_26 : FA Tryz.prog 121 26 26 := ⟨by kernel_rfl⟩
instance ft121_26 : FT Tryz.prog 121 26 118 26 := ⟨by kernel_rfl⟩
instance fa121_27 : FA Tryz.prog 121 27 27 := ⟨by kernel_rfl⟩
instance ft121_27 : FT Tryz.prog 121 27 119 27 := ⟨by kernel_rfl⟩
instance fa121_28 : FA Tryz.prog 121 28 28 := ⟨by kernel_rfl⟩
instance ft121_28 : FT Tryz.prog 121 28 120 28 := ⟨by kernel_rfl⟩
instance pls121 : PLS Tryz.prog 121 [.one (.sl 0 none 0 0), .one (.sl 0 none 0 0), .one (.sl 0 none 0 0), .one (.sl 0 none 0 0), .one (.sl 0 none 0 0), .one (.sl 0 none 0 0), .one (.sl 0 none 0 0), .one (.sl 0 none 0 0), .one (.sl 0 none 0 0), .one (.sl 0 none 0 0), .one (.sl 0 none 0 0), .one (.sl 0 none 0 0), .one (.sl 0 none 0 0), .one (.sl 0 none 0 0), .one (.sl 0 none 0 0), .one (.sl 0 none 0 0), .one (.sl 0 none 0 0), .one (.sl 0 none 0 0), .one (.sl 0 none 0 0), .one (.sl 0 none 0 0), .one (.sl 0 none 0 0), .one (.sl 0 none 0 0), .one (.sl 0 none 0 0), .one (.sl 0 none 0 0), .one (.sl 0 none 0 0), .one (.sl 0 none 0 0), .one (.sl 0 none 0 0), .one (.sl 0 none 0 0), .one (.sl 0 none 0 0)] := ⟨by kernel_rfl⟩
instance ta122 : TyA Tryz.prog 122 true 29 (.agg [.one (.sl 0 none 0 0), .one (.sl 0 none 0 0), .one (.sl 0 none 0 0), .one (.sl 0 none 0 0), .one (.sl 0 none 0 0), .one (.sl 0 none 0 0), .one (.sl 0 none 0 0), .one (.sl 0 none 0 0), .one (.sl 0 none 0 0), .one (.sl 0 none 0 0), .one (.sl 0 none 0 0), .one (.sl 0 none 0 0), .one (.sl 0 none 0 0), .one (.sl 0 none 0 0), .one (.sl 0 none 0 0), .one (.sl 0 none 0 0), .one (.sl 0 none 0 0), .one (.sl 0 none 0 0), .one (.sl 0 none 0 0), .one (.sl 0 none 0 0), .one (.sl 0 none 0 0), .one (.sl 0 none 0 0), .one (.sl 0 none 0 0), .one (.sl 0 none 0 0), .one (.sl 0 none 0 0), .one (.sl 0 none 0 0), .one (.sl 0 none 0 0), .one (.sl 0 none 0 0), .one (.sl 0 none 0 0)]) 696 := ⟨⟨by kernel_rfl, by kernel_rfl⟩, rfl, rfl⟩
instance noi122 : NoI Tryz.prog 122 := ⟨by kernel_rfl⟩
instance fa122_0 : FA Tryz.prog 122 0 0 := ⟨by kernel_rfl⟩
instance ft122_0 : FT Tryz.prog 122 0 94 0 := ⟨by kernel_rfl⟩
instance fa122_1 : FA Tryz.prog 122 1 1 := ⟨by kernel_rfl⟩
instance ft122_1 : FT Tryz.prog 122 1 95 1 := ⟨by kernel_rfl⟩
instance fa122_2 : FA Tryz.prog 122 2 2 := ⟨by kernel_rfl⟩
instance ft122_2 : FT Tryz.prog 122 2 96 2 := ⟨by kernel_rfl⟩
instance fa122_3 : FA Tryz.prog 122 3 3 := ⟨by kernel_rfl⟩
instance ft122_3 : FT Tryz.prog 122 3 97 3 := ⟨by kernel_rfl⟩
instance fa122_4 : FA Tryz.prog 122 4 4 := ⟨by kernel_rfl⟩
instance ft122_4 : FT Tryz.prog 122 4 98 4 := ⟨by kernel_rfl⟩
instance fa122_5 : FA Tryz.prog 122 5 5 := ⟨by kernel_rfl⟩
instance ft122_5 : FT Tryz.prog 122 5 99 5 := ⟨by kernel_rfl⟩
instance fa122_6 : FA Tryz.prog 122 6 6 := ⟨by kernel_rfl⟩
instance ft122_6 : FT Tryz.prog 122 6 100 6 := ⟨by kernel_rfl⟩
instance fa122_7 : FA Tryz.prog 122 7 7 := ⟨by kernel_rfl⟩
instance ft122_7 : FT Tryz.prog 122 7 101 7 := ⟨by kernel_rfl⟩
instance fa122_8 : FA Tryz.prog 122 8 8 := ⟨by kernel_rfl⟩
instance ft122_8 : FT Tryz.prog 122 8 102 8 := ⟨by kernel_rfl⟩
instance fa122_9 : FA Tryz.prog 122 9 9 := ⟨by kernel_rfl⟩
instance ft122_9 : FT Tryz.prog 122 9 103 9 := ⟨by kernel_rfl⟩
instance fa122_10 : FA Tryz.prog 122 10 10 := ⟨by kernel_rfl⟩
instance ft122_10 : FT Tryz.prog 122 10 104 10 := ⟨by kernel_rfl⟩
instance fa122_11 : FA Tryz.prog 122 11 11 := ⟨by kernel_rfl⟩
instance ft122_11 : FT Tryz.prog 122 11 48 11 := ⟨by kernel_rfl⟩
instance fa122_12 : FA Tryz.prog 122 12 12 := ⟨by kernel_rfl⟩
instance ft122_12 : FT Tryz.prog 122 12 105 12 := ⟨by kernel_rfl⟩
instance fa122_13 : FA Tryz.prog 122 13 13 := ⟨by kernel_rfl⟩
instance ft122_13 : FT Tryz.prog 122 13 106 13 := ⟨by kernel_rfl⟩
instance fa122_14 : FA Tryz.prog 122 14 14 := ⟨by kernel_rfl⟩
instance ft122_14 : FT Tryz.prog 122 14 107 14 := ⟨by kernel_rfl⟩
instance fa122_15 : FA Tryz.prog 122 15 15 := ⟨by kernel_rfl⟩
instance ft122_15 : FT Tryz.prog 122 15 108 15 := ⟨by kernel_rfl⟩
instance fa122_16 : FA Tryz.prog 122 16 16 := ⟨by kernel_rfl⟩
instance ft122_16 : FT Tryz.prog 122 16 109 16 := ⟨by kernel_rfl⟩
instance fa122_17 : FA Tryz.prog 122 17 17 := ⟨by kernel_rfl⟩
instance ft122_17 : FT Tryz.prog 122 17 110 17 := ⟨by kernel_rfl⟩
instance fa122_18 : FA Tryz.prog 122 18 18 := ⟨by kernel_rfl⟩
instance ft122_18 : FT Tryz.prog 122 18 111 18 := ⟨by kernel_rfl⟩
instance fa122_19 : FA Tryz.prog 122 19 19 := ⟨by kernel_rfl⟩
instance ft122_19 : FT Tryz.prog 122 19 112 19 := ⟨by kernel_rfl⟩
instance fa122_20 : FA Tryz.prog 122 20 20 := ⟨by kernel_rfl⟩
instance ft122_20 : FT Tryz.prog 122 20 113 20 := ⟨by kernel_rfl⟩
instance fa122_21 : FA Tryz.prog 122 21 21 := ⟨by kernel_rfl⟩
instance ft122_21 : FT Tryz.prog 122 21 114 21 := ⟨by kernel_rfl⟩
instance fa122_22 : FA Tryz.prog 122 22 22 := ⟨by kernel_rfl⟩
instance ft122_22 : FT Tryz.prog 122 22 115 22 := ⟨by kernel_rfl⟩
instance fa122_23 : FA Tryz.prog 122 23 23 := ⟨by kernel_rfl⟩
instance ft122_23 : FT Tryz.prog 122 23 46 23 := ⟨by kernel_rfl⟩
instance fa122_24 : FA Tryz.prog 122 24 24 := ⟨by kernel_rfl⟩
instance ft122_24 : FT Tryz.prog 122 24 116 24 := ⟨by kernel_rfl⟩
instance fa122_25 : FA Tryz.prog 122 25 25 := ⟨by kernel_rfl⟩
instance ft122_25 : FT Tryz.prog 122 25 117 25 := ⟨by kernel_rfl⟩
instance fa122_26 : FA Tryz.prog 122 26 26 := ⟨by kernel_rfl⟩
instance ft122_26 : FT Tryz.prog 122 26 118 26 := ⟨by kernel_rfl⟩
instance fa122_27 : FA Tryz.prog 122 27 27 := ⟨by kernel_rfl⟩
instance ft122_27 : FT Tryz.prog 122 27 119 27 := ⟨by kernel_rfl⟩
instance fa122_28 : FA Tryz.prog 122 28 28 := ⟨by kernel_rfl⟩
instance ft122_28 : FT Tryz.prog 122 28 120 28 := ⟨by kernel_rfl⟩
instance pls122 : PLS Tryz.prog 122 [.one (.sl 0 none 0 0), .one (.sl 0 none 0 0), .one (.sl 0 none 0 0), .one (.sl 0 none 0 0), .one (.sl 0 none 0 0), .one (.sl 0 none 0 0), .one (.sl 0 none 0 0), .one (.sl 0 none 0 0), .one (.sl 0 none 0 0), .one (.sl 0 none 0 0), .one (.sl 0 none 0 0), .one (.sl 0 none 0 0), .one (.sl 0 none 0 0), .one (.sl 0 none 0 0), .one (.sl 0 none 0 0), .one (.sl 0 none 0 0), .one (.sl 0 none 0 0), .one (.sl 0 none 0 0), .one (.sl 0 none 0 0), .one (.sl 0 none 0 0), .one (.sl 0 none 0 0), .one (.sl 0 none 0 0), .one (.sl 0 none 0 0), .one (.sl 0 none 0 0), .one (.sl 0 none 0 0), .one (.sl 0 none 0 0), .one (.sl 0 none 0 0), .one (.sl 0 none 0 0), .one (.sl 0 none 0 0)] := ⟨by kernel_rfl⟩
instance ta123 : TyA Tryz.prog 123 false 1 (.one (.fnn)) 8 := ⟨⟨by kernel_rfl, by kernel_rfl⟩, rfl, rfl⟩
instance noi123 : NoI Tryz.prog 123 := ⟨by kernel_rfl⟩
instance ta124 : TyA Tryz.prog 124 false 1 (.one (.fnn)) 8 := ⟨⟨by kernel_rfl, by kernel_rfl⟩, rfl, rfl⟩
instance noi124 : NoI Tryz.prog 124 := ⟨by kernel_rfl⟩
instance ta125 : TyA Tryz.prog 125 false 1 (.one (.fnn)) 8 := ⟨⟨by kernel_rfl, by kernel_rfl⟩, rfl, rfl⟩
instance noi125 : NoI Tryz.prog 125 := ⟨by kernel_rfl⟩
instance ta126 : TyA Tryz.prog 126 false 1 (.one (.fnn)) 8 := ⟨⟨by kernel_rfl, by kernel_rfl⟩, rfl, rfl⟩
instance noi126 : NoI Tryz.prog 126 := ⟨by kernel_rfl⟩
instance ta127 : TyA Tryz.prog 127 false 1 (.one (.mn)) 8 := ⟨⟨by kernel_rfl, by kernel_rfl⟩, rfl, rfl⟩
instance noi127 : NoI Tryz.prog 127 := ⟨by kernel_rfl⟩
instance ud127 : UD Tryz.prog 127 (.map 88 2) := ⟨by kernel_rfl⟩
instance ta128 : TyA Tryz.prog 128 true 2 (.agg [.one (.i .i64 0), .one (.mn)]) 16 := ⟨⟨by kernel_rfl, by kernel_rfl⟩, rfl, rfl⟩
instance noi128 : NoI Tryz.prog 128 := ⟨by kernel_rfl⟩
instance fa128_0 : FA Tryz.prog 128 0 0 := ⟨by kernel_rfl⟩
instance ft128_0 : FT Tryz.prog 128 0 2 0 := ⟨by kernel_rfl⟩
instance fa128_1 : FA Tryz.prog 128 1 1 := ⟨by kernel_rfl⟩
instance ft128_1 : FT Tryz.prog 128 1 127 1 := ⟨by kernel_rfl⟩
instance pls128 : PLS Tryz.prog 128 [.one (.i .i64 0), .one (.mn)] := ⟨by kernel_rfl⟩
instance ta129 : TyA Tryz.prog 129 true 2 (.agg [.one (.i .i64 0), .one (.mn)]) 16 := ⟨⟨by kernel_rfl, by kernel_rfl⟩, rfl, rfl⟩
instance noi129 : NoI Tryz.prog 129 := ⟨by kernel_rfl⟩
instance fa129_0 : FA Tryz.prog 129 0 0 := ⟨by kernel_rfl⟩
instance ft129_0 : FT Tryz.prog 129 0 2 0 := ⟨by kernel_rfl⟩
instance fa129_1 : FA Tryz.prog 129 1 1 := ⟨by kernel_rfl⟩
instance ft129_1 : FT Tryz.prog 129 1 127 1 := ⟨by kernel_rfl⟩
instance pls129 : PLS Tryz.prog 129 [.one (.i .i64 0), .one (.mn)] := ⟨by kernel_rfl⟩
instance ta130 : TyA Tryz.prog 130 false 1 (.one (.fnn)) 8 := ⟨⟨by kernel_rfl, by kernel_rfl⟩, rfl, rfl⟩
instance noi130 : NoI Tryz.prog 130 := ⟨by kernel_rfl⟩
instance ta131 : TyA Tryz.prog 131 false 1 (.one (.fnn)) 8 := ⟨⟨by kernel_rfl, by kernel_rfl⟩, rfl, rfl⟩
instance noi131 : NoI Tryz.prog 131 := ⟨by kernel_rfl⟩
instance ta132 : TyA Tryz.prog 132 false 1 (.one (.fnn)) 8 := ⟨⟨by kernel_rfl, by kernel_rfl⟩, rfl, rfl⟩
instance noi132 : NoI Tryz.prog 132 := ⟨by kernel_rfl⟩
instance ta134 : TyA Tryz.prog 134 false 1 (.one (.fnn)) 8 := ⟨⟨by kernel_rfl, by kernel_rfl⟩, rfl, rfl⟩
instance noi134 : NoI Tryz.prog 134 := ⟨by kernel_rfl⟩
instance ta135 : TyA Tryz.prog 135 false 1 (.one (.i .u64 0)) 8 := ⟨⟨by kernel_rfl, by kernel_rfl⟩, rfl, rfl⟩
instance noi135 : NoI Tryz.prog 135 := ⟨by kernel_rfl⟩
instance ud135 : UD Tryz.prog 135 (.int .u64) := ⟨by kernel_rfl⟩
instance ta136 : TyA Tryz.prog 136 false 1 (.one (.fnn)) 8 := ⟨⟨by kernel_rfl, by kernel_rfl⟩, rfl, rfl⟩
instance noi136 : NoI Tryz.prog 136 := ⟨by kernel_rfl⟩
instance ta137 : TyA Tryz.prog 137 false 1 (.one (.fnn)) 8 := ⟨⟨by kernel_rfl, by kernel_rfl⟩, rfl, rfl⟩
instance noi137 : NoI Tryz.prog 137 := ⟨by kernel_rfl⟩
instance ta138 : TyA Tryz.prog 138 false 1 (.one (.fnn)) 8 := ⟨⟨by kernel_rfl, by kernel_rfl⟩, rfl, rfl⟩
instance noi138 : NoI Tryz.prog 138 := ⟨by kernel_rfl⟩
instance ta139 : TyA Tryz.prog 139 false 1 (.one (.fnn)) 8 := ⟨⟨by kernel_rfl, by kernel_rfl⟩, rfl, rfl⟩
instance noi139 : NoI Tryz.prog 139 := ⟨by kernel_rfl⟩
instance ta140 : TyA Tryz.prog 140 false 1 (.one (.fnn)) 8 := ⟨⟨by kernel_rfl, by kernel_rfl⟩, rfl, rfl⟩
instance noi140 : NoI Tryz.prog 140 := ⟨by kernel_rfl⟩
instance ta141 : TyA Tryz.prog 141 false 1 (.one (.fnn)) 8 := ⟨⟨by kernel_rfl, by kernel_rfl⟩, rfl, rfl⟩
instance noi141 : NoI Tryz.prog 141 := ⟨by kernel_rfl⟩
instance ta142 : TyA Tryz.prog 142 false 1 (.one (.fnn)) 8 := ⟨⟨by kernel_rfl, by kernel_rfl⟩, rfl, rfl⟩
instance noi142 : NoI Tryz.prog 142 := ⟨by kernel_rfl⟩
instance ta143 : TyA Tryz.prog 143 false 1 (.one (.fnn)) 8 := ⟨⟨by kernel_rfl, by kernel_rfl⟩, rfl, rfl⟩
instance noi143 : NoI Tryz.prog 143 := ⟨by kernel_rfl⟩
instance ta144 : TyA Tryz.prog 144 true 0 (.agg []) 0 := ⟨⟨by kernel_rfl, by kernel_rfl⟩, rfl, rfl⟩
instance noi144 : NoI Tryz.prog 144 := ⟨by kernel_rfl⟩
instance pls144 : PLS Tryz.prog 144 [] := ⟨by kernel_rfl⟩
instance ta145 : TyA Tryz.prog 145 true 0 (.agg []) 0 := ⟨⟨by kernel_rfl, by kernel_rfl⟩, rfl, rfl⟩
instance noi145 : NoI Tryz.prog 145 := ⟨by kernel_rfl⟩
instance pls145 : PLS Tryz.prog 145 [] := ⟨by kernel_rfl⟩
instance ta147 : TyA Tryz.prog 147 false 1 (.one (.fnn)) 8 := ⟨⟨by kernel_rfl, by kernel_rfl⟩, rfl, rfl⟩
instance noi147 : NoI Tryz.prog 147 := ⟨by kernel_rfl⟩
instance ta148 : TyA Tryz.prog 148 false 1 (.one (.fnn)) 8 := ⟨⟨by kernel_rfl, by kernel_rfl⟩, rfl, rfl⟩
instance noi148 : NoI Tryz.prog 148 := ⟨by kernel_rfl⟩
instance ta149 : TyA Tryz.prog 149 false 1 (.one (.fnn)) 8 := ⟨⟨by kernel_rfl, by kernel_rfl⟩, rfl, rfl⟩
instance noi149 : NoI Tryz.prog 149 := ⟨by kernel_rfl⟩
instance ta150 : TyA Tryz.prog 150 false 1 (.one (.fnn)) 8 := ⟨⟨by kernel_rfl, by kernel_rfl⟩, rfl, rfl⟩
instance noi150 : NoI Tryz.prog 150 := ⟨by kernel_rfl⟩
instance ta151 : TyA Tryz.prog 151 false 1 (.one (.fnn)) 8 := ⟨⟨by kernel_rfl, by kernel_rfl⟩, rfl, rfl⟩
instance noi151 : NoI Tryz.prog 151 := ⟨by kernel_rfl⟩
instance ta152 : TyA Tryz.prog 152 false 1 (.one (.fnn)) 8 := ⟨⟨by kernel_rfl, by kernel_rfl⟩, rfl, rfl⟩
instance noi152 : NoI Tryz.prog 152 := ⟨by kernel_rfl⟩
instance ta153 : TyA Tryz.prog 153 false 1 (.one (.fnn)) 8 := ⟨⟨by kernel_rfl, by kernel_rfl⟩, rfl, rfl⟩
instance noi153 : NoI Tryz.prog 153 := ⟨by kernel_rfl⟩
instance ta154 : TyA Tryz.prog 154 false 1 (.one (.fnn)) 8 := ⟨⟨by kernel_rfl, by kernel_rfl⟩, rfl, rfl⟩
instance noi154 : NoI Tryz.prog 154 := ⟨by kernel_rfl⟩
instance ta155 : TyA Tryz.prog 155 false 1 (.one (.fnn)) 8 := ⟨⟨by kernel_rfl, by kernel_rfl⟩, rfl, rfl⟩
instance noi155 : NoI Tryz.prog 155 := ⟨by kernel_rfl⟩
instance ta156 : TyA Tryz.prog 156 false 1 (.one (.fnn)) 8 := ⟨⟨by kernel_rfl, by kernel_rfl⟩, rfl, rfl⟩
instance noi156 : NoI Tryz.prog 156 := ⟨by kernel_rfl⟩
instance ta157 : TyA Tryz.prog 157 false 1 (.one (.fnn)) 8 := ⟨⟨by kernel_rfl, by kernel_rfl⟩, rfl, rfl⟩
instance noi157 : NoI Tryz.prog 157 := ⟨by kernel_rfl⟩
instance ta158 : TyA Tryz.prog 158 false 1 (.one (.fnn)) 8 := ⟨⟨by kernel_rfl, by kernel_rfl⟩, rfl, rfl⟩
instance noi158 : NoI Tryz.prog 158 := ⟨by kernel_rfl⟩
instance ta159 : TyA Tryz.prog 159 false 1 (.one (.fnn)) 8 := ⟨⟨by kernel_rfl, by kernel_rfl⟩, rfl, rfl⟩
instance noi159 : NoI Tryz.prog 159 := ⟨by kernel_rfl⟩
instance ta160 : TyA Tryz.prog 160 false 1 (.one (.fnn)) 8 := ⟨⟨by kernel_rfl, by kernel_rfl⟩, rfl, rfl⟩
instance noi160 : NoI Tryz.prog 160 := ⟨by kernel_rfl⟩
instance ta161 : TyA Tryz.prog 161 false 1 (.one (.fnn)) 8 := ⟨⟨by kernel_rfl, by kernel_rfl⟩, rfl, rfl⟩
instance noi161 : NoI Tryz.prog 161 := ⟨by kernel_rfl⟩
instance ta162 : TyA Tryz.prog 162 false 1 (.one (.fnn)) 8 := ⟨⟨by kernel_rfl, by kernel_rfl⟩, rfl, rfl⟩
instance noi162 : NoI Tryz.prog 162 := ⟨by kernel_rfl⟩
instance ta163 : TyA Tryz.prog 163 false 1 (.one (.fnn)) 8 := ⟨⟨by kernel_rfl, by kernel_rfl⟩, rfl, rfl⟩
instance noi163 : NoI Tryz.prog 163 := ⟨by kernel_rfl⟩
instance ta164 : TyA Tryz.prog 164 false 1 (.one (.fnn)) 8 := ⟨⟨by kernel_rfl, by kernel_rfl⟩, rfl, rfl⟩
instance noi164 : NoI Tryz.prog 164 := ⟨by kernel_rfl⟩
instance ta165 : TyA Tryz.prog 165 false 1 (.one (.fnn)) 8 := ⟨⟨by kernel_rfl, by kernel_rfl⟩, rfl, rfl⟩
instance noi165 : NoI Tryz.prog 165 := ⟨by kernel_rfl⟩
instance ta166 : TyA Tryz.prog 166 false 1 (.one (.fnn)) 8 := ⟨⟨by kernel_rfl, by kernel_rfl⟩, rfl, rfl⟩
instance noi166 : NoI Tryz.prog 166 := ⟨by kernel_rfl⟩
instance ta167 : TyA Tryz.prog 167 false 1 (.one (.fnn)) 8 := ⟨⟨by kernel_rfl, by kernel_rfl⟩, rfl, rfl⟩
instance noi167 : NoI Tryz.prog 167 := ⟨by kernel_rfl⟩
instance ta168 : TyA Tryz.prog 168 false 1 (.one (.fnn)) 8 := ⟨⟨by kernel_rfl, by kernel_rfl⟩, rfl, rfl⟩
instance noi168 : NoI Tryz.prog 168 := ⟨by kernel_rfl⟩
instance ta169 : TyA Tryz.prog 169 false 1 (.one (.fnn)) 8 := ⟨⟨by kernel_rfl, by kernel_rfl⟩, rfl, rfl⟩
instance noi169 : NoI Tryz.prog 169 := ⟨by kernel_rfl⟩
instance ta170 : TyA Tryz.prog 170 false 1 (.one (.fnn)) 8 := ⟨⟨by kernel_rfl, by kernel_rfl⟩, rfl, rfl⟩
instance noi170 : NoI Tryz.prog 170 := ⟨by kernel_rfl⟩
instance ta171 : TyA Tryz.prog 171 false 1 (.one (.fnn)) 8 := ⟨⟨by kernel_rfl, by kernel_rfl⟩, rfl, rfl⟩
instance noi171 : NoI Tryz.prog 171 := ⟨by kernel_rfl⟩
instance ta172 : TyA Tryz.prog 172 false 1 (.one (.fnn)) 8 := ⟨⟨by kernel_rfl, by kernel_rfl⟩, rfl, rfl⟩
instance noi172 : NoI Tryz.prog 172 := ⟨by kernel_rfl⟩
instance ta173 : TyA Tryz.prog 173 false 1 (.one (.fnn)) 8 := ⟨⟨by kernel_rfl, by kernel_rfl⟩, rfl, rfl⟩
instance noi173 : NoI Tryz.prog 173 := ⟨by kernel_rfl⟩
instance ta174 : TyA Tryz.prog 174 false 1 (.one (.fnn)) 8 := ⟨⟨by kernel_rfl, by kernel_rfl⟩, rfl, rfl⟩
instance noi174 : NoI Tryz.prog 174 := ⟨by kernel_rfl⟩
instance ta175 : TyA Tryz.prog 175 false 1 (.one (.fnn)) 8 := ⟨⟨by kernel_rfl, by kernel_rfl⟩, rfl, rfl⟩
instance noi175 : NoI Tryz.prog 175 := ⟨by kernel_rfl⟩
instance ta176 : TyA Tryz.prog 176 false 1 (.one (.fnn)) 8 := ⟨⟨by kernel_rfl, by kernel_rfl⟩, rfl, rfl⟩
instance noi176 : NoI Tryz.prog 176 := ⟨by kernel_rfl⟩
instance ta177 : TyA Tryz.prog 177 false 1 (.one (.fnn)) 8 := ⟨⟨by kernel_rfl, by kernel_rfl⟩, rfl, rfl⟩
instance noi177 : NoI Tryz.prog 177 := ⟨by kernel_rfl⟩
instance ta178 : TyA Tryz.prog 178 false 1 (.one (.fnn)) 8 := ⟨⟨by kernel_rfl, by kernel_rfl⟩, rfl, rfl⟩
instance noi178 : NoI Tryz.prog 178 := ⟨by kernel_rfl⟩
instance ta179 : TyA Tryz.prog 179 false 1 (.one (.fnn)) 8 := ⟨⟨by kernel_rfl, by kernel_rfl⟩, rfl, rfl⟩
instance noi179 : NoI Tryz.prog 179 := ⟨by kernel_rfl⟩
instance ta180 : TyA Tryz.prog 180 false 1 (.one (.fnn)) 8 := ⟨⟨by kernel_rfl, by kernel_rfl⟩, rfl, rfl⟩
instance noi180 : NoI Tryz.prog 180 := ⟨by kernel_rfl⟩
instance ta181 : TyA Tryz.prog 181 false 1 (.one (.fnn)) 8 := ⟨⟨by kernel_rfl, by kernel_rfl⟩, rfl, rfl⟩
instance noi181 : NoI Tryz.prog 181 := ⟨by kernel_rfl⟩
instance ta182 : TyA Tryz.prog 182 false 1 (.one (.sl 0 none 0 0)) 24 := ⟨⟨by kernel_rfl, by kernel_rfl⟩, rfl, rfl⟩
instance noi182 : NoI Tryz.prog 182 := ⟨by kernel_rfl⟩
instance ud182 : UD Tryz.prog 182 (.slice 3) := ⟨by kernel_rfl⟩
instance ta183 : TyA Tryz.prog 183 false 1 (.one (.fnn)) 8 := ⟨⟨by kernel_rfl, by kernel_rfl⟩, rfl, rfl⟩
instance noi183 : NoI Tryz.prog 183 := ⟨by kernel_rfl⟩
instance ta184 : TyA Tryz.prog 184 false 1 (.one (.fnn)) 8 := ⟨⟨by kernel_rfl, by kernel_rfl⟩, rfl, rfl⟩
instance noi184 : NoI Tryz.prog 184 := ⟨by kernel_rfl⟩
instance ta185 : TyA Tryz.prog 185 false 1 (.one (.fnn)) 8 := ⟨⟨by kernel_rfl, by kernel_rfl⟩, rfl, rfl⟩
instance noi185 : NoI Tryz.prog 185 := ⟨by kernel_rfl⟩
instance ta186 : TyA Tryz.prog 186 false 1 (.one (.sl 0 none 0 0)) 24 := ⟨⟨by kernel_rfl, by kernel_rfl⟩, rfl, rfl⟩
instance noi186 : NoI Tryz.prog 186 := ⟨by kernel_rfl⟩
instance ud186 : UD Tryz.prog 186 (.slice 5) := ⟨by kernel_rfl⟩
instance ta187 : TyA Tryz.prog 187 false 1 (.one (.fnn)) 8 := ⟨⟨by kernel_rfl, by kernel_rfl⟩, rfl, rfl⟩
instance noi187 : NoI Tryz.prog 187 := ⟨by kernel_rfl⟩
instance ta188 : TyA Tryz.prog 188 false 1 (.one (.fnn)) 8 := ⟨⟨by kernel_rfl, by kernel_rfl⟩, rfl, rfl⟩
instance noi188 : NoI Tryz.prog 188 := ⟨by kernel_rfl⟩
instance ta189 : TyA Tryz.prog 189 false 1 (.one (.fnn)) 8 := ⟨⟨by kernel_rfl, by kernel_rfl⟩, rfl, rfl⟩
instance noi189 : NoI Tryz.prog 189 := ⟨by kernel_rfl⟩
instance ta190 : TyA Tryz.prog 190 false 1 (.one (.fnn)) 8 := ⟨⟨by kernel_rfl, by kernel_rfl⟩, rfl, rfl⟩
instance noi190 : NoI Tryz.prog 190 := ⟨by kernel_rfl⟩
instance ta191 : TyA Tryz.prog 191 false 1 (.one (.fnn)) 8 := ⟨⟨by kernel_rfl, by kernel_rfl⟩, rfl, rfl⟩
instance noi191 : NoI Tryz.prog 191 := ⟨by kernel_rfl⟩
instance ta192 : TyA Tryz.prog 192 false 1 (.one (.sl 0 none 0 0)) 24 := ⟨⟨by kernel_rfl, by kernel_rfl⟩, rfl, rfl⟩
instance noi192 : NoI Tryz.prog 192 := ⟨by kernel_rfl⟩
instance ud192 : UD Tryz.prog 192 (.slice 193) := ⟨by kernel_rfl⟩
instance ta193 : TyA Tryz.prog 193 false 1 (.one (.i .u32 0)) 4 := ⟨⟨by kernel_rfl, by kernel_rfl⟩, rfl, rfl⟩
instance noi193 : NoI Tryz.prog 193 := ⟨by kernel_rfl⟩
instance ud193 : UD Tryz.prog 193 (.int .u32) := ⟨by kernel_rfl⟩
instance ta194 : TyA Tryz.prog 194 false 1 (.one (.sl 0 none 0 0)) 24 := ⟨⟨by kernel_rfl, by kernel_rfl⟩, rfl, rfl⟩
instance noi194 : NoI Tryz.prog 194 := ⟨by kernel_rfl⟩
instance ud194 : UD Tryz.prog 194 (.slice 33) := ⟨by kernel_rfl⟩
instance ta195 : TyA Tryz.prog 195 false 1 (.one (.fnn)) 8 := ⟨⟨by kernel_rfl, by kernel_rfl⟩, rfl, rfl⟩
instance noi195 : NoI Tryz.prog 195 := ⟨by kernel_rfl⟩
instance ta196 : TyA Tryz.prog 196 false 1 (.one (.sl 0 none 0 0)) 24 := ⟨⟨by kernel_rfl, by kernel_rfl⟩, rfl, rfl⟩
instance noi196 : NoI Tryz.prog 196 := ⟨by kernel_rfl⟩
instance ud196 : UD Tryz.prog 196 (.slice 4) := ⟨by kernel_rfl⟩
instance ta197 : TyA Tryz.prog 197 false 1 (.one (.sl 0 none 0 0)) 24 := ⟨⟨by kernel_rfl, by kernel_rfl⟩, rfl, rfl⟩
instance noi197 : NoI Tryz.prog 197 := ⟨by kernel_rfl⟩
instance ud197 : UD Tryz.prog 197 (.slice 50) := ⟨by kernel_rfl⟩
instance ta198 : TyA Tryz.prog 198 false 1 (.one (.fnn)) 8 := ⟨⟨by kernel_rfl, by kernel_rfl⟩, rfl, rfl⟩
instance noi198 : NoI Tryz.prog 198 := ⟨by kernel_rfl⟩
instance ta199 : TyA Tryz.prog 199 false 1 (.one (.sl 0 none 0 0)) 24 := ⟨⟨by kernel_rfl, by kernel_rfl⟩, rfl, rfl⟩
instance noi199 : NoI Tryz.prog 199 := ⟨by kernel_rfl⟩
instance ud199 : UD Tryz.prog 199 (.slice 202) := ⟨by kernel_rfl⟩
instance ta200 : TyA Tryz.prog 200 false 1 (.one (.i .i64 0)) 8 := ⟨⟨by kernel_rfl, by kernel_rfl⟩, rfl, rfl⟩
instance noi200 : NoI Tryz.prog 200 := ⟨by kernel_rfl⟩
instance ud200 : UD Tryz.prog 200 (.int .i64) := ⟨by kernel_rfl⟩
instance ta201 : TyA Tryz.prog 201 true 5 (.agg [.one (.i .i64 0), .one (.i .i64 0), .one (.i .u64 0), .one (.s ⟨#[]⟩), .one (.i .i64 0)]) 48 := ⟨⟨by kernel_rfl, by kernel_rfl⟩, rfl, rfl⟩
instance noi201 : NoI Tryz.prog 201 := ⟨by kernel_rfl⟩
instance fa201_0 : FA Tryz.prog 201 0 0 := ⟨by kernel_rfl⟩
instance ft201_0 : FT Tryz.prog 201 0 200 0 := ⟨by kernel_rfl⟩
instance fa201_1 : FA Tryz.prog 201 1 1 := ⟨by kernel_rfl⟩
instance ft201_1 : FT Tryz.prog 201 1 2 1 := ⟨by kernel_rfl⟩
instance fa201_2 : FA Tryz.prog 201 2 2 := ⟨by kernel_rfl⟩
instance ft201_2 : FT Tryz.prog 201 2 33 2 := ⟨by kernel_rfl⟩
instance fa201_3 : FA Tryz.prog 201 3 3 := ⟨by kernel_rfl⟩
instance ft201_3 : FT Tryz.prog 201 3 9 3 := ⟨by kernel_rfl⟩
instance fa201_4 : FA Tryz.prog 201 4 4 := ⟨by kernel_rfl⟩
instance ft201_4 : FT Tryz.prog 201 4 3 4 := ⟨by kernel_rfl⟩
instance pls201 : PLS Tryz.prog 201 [.one (.i .i64 0), .one (.i .i64 0), .one (.i .u64 0), .one (.s ⟨#[]⟩), .one (.i .i64 0)] := ⟨by kernel_rfl⟩
instance ta202 : TyA Tryz.prog 202 true 5 (.agg [.one (.i .i64 0), .one (.i .i64 0), .one (.i .u64 0), .one (.s ⟨#[]⟩), .one (.i .i64 0)]) 48 := ⟨⟨by kernel_rfl, by kernel_rfl⟩, rfl, rfl⟩
instance noi202 : NoI Tryz.prog 202 := ⟨by kernel_rfl⟩
instance fa202_0 : FA Tryz.prog 202 0 0 := ⟨by kernel_rfl⟩
instance ft202_0 : FT Tryz.prog 202 0 200 0 := ⟨by kernel_rfl⟩
instance fa202_1 : FA Tryz.prog 202 1 1 := ⟨by kernel_rfl⟩
instance ft202_1 : FT Tryz.prog 202 1 2 1 := ⟨by kernel_rfl⟩
instance fa202_2 : FA Tryz.prog 202 2 2 := ⟨by kernel_rfl⟩
instance ft202_2 : FT Tryz.prog 202 2 33 2 := ⟨by kernel_rfl⟩
instance fa202_3 : FA Tryz.prog 202 3 3 := ⟨by kernel_rfl⟩
instance ft202_3 : FT Tryz.prog 202 3 9 3 := ⟨by kernel_rfl⟩
instance fa202_4 : FA Tryz.prog 202 4 4 := ⟨by kernel_rfl⟩
instance ft202_4 : FT Tryz.prog 202 4 3 4 := ⟨by kernel_rfl⟩
instance pls202 : PLS Tryz.prog 202 [.one (.i .i64 0), .one (.i .i64 0), .one (.i .u64 0), .one (.s ⟨#[]⟩), .one (.i .i64 0)] := ⟨by kernel_rfl⟩
instance ta203 : TyA Tryz.prog 203 false 1 (.one (.fnn)) 8 := ⟨⟨by kernel_rfl, by kernel_rfl⟩, rfl, rfl⟩
instance noi203 : NoI Tryz.prog 203 := ⟨by kernel_rfl⟩
instance ta204 : TyA Tryz.prog 204 false 1 (.one (.sl 0 none 0 0)) 24 := ⟨⟨by kernel_rfl, by kernel_rfl⟩, rfl, rfl⟩
instance noi204 : NoI Tryz.prog 204 := ⟨by kernel_rfl⟩
instance ud204 : UD Tryz.prog 204 (.slice 206) := ⟨by kernel_rfl⟩
instance ta205 : TyA Tryz.prog 205 true 1 (.agg [.one (.sl 0 none 0 0)]) 24 := ⟨⟨by kernel_rfl, by kernel_rfl⟩, rfl, rfl⟩
instance noi205 : NoI Tryz.prog 205 := ⟨by kernel_rfl⟩
instance fa205_0 : FA Tryz.prog 205 0 0 := ⟨by kernel_rfl⟩
instance ft205_0 : FT Tryz.prog 205 0 199 0 := ⟨by kernel_rfl⟩
instance pls205 : PLS Tryz.prog 205 [.one (.sl 0 none 0 0)] := ⟨by kernel_rfl⟩
instance ta206 : TyA Tryz.prog 206 true 1 (.agg [.one (.sl 0 none 0 0)]) 24 := ⟨⟨by kernel_rfl, by kernel_rfl⟩, rfl, rfl⟩
instance noi206 : NoI Tryz.prog 206 := ⟨by kernel_rfl⟩
instance fa206_0 : FA Tryz.prog 206 0 0 := ⟨by kernel_rfl⟩
instance ft206_0 : FT Tryz.prog 206 0 199 0 := ⟨by kernel_rfl⟩
instance pls206 : PLS Tryz.prog 206 [.one (.sl 0 none 0 0)] := ⟨by kernel_rfl⟩
instance ta207 : TyA Tryz.prog 207 false 1 (.one (.fnn)) 8 := ⟨⟨by kernel_rfl, by kernel_rfl⟩, rfl, rfl⟩
instance noi207 : NoI Tryz.prog 207 := ⟨by kernel_rfl⟩
instance ta208 : TyA Tryz.prog 208 false 1 (.one (.fnn)) 8 := ⟨⟨by kernel_rfl, by kernel_rfl⟩, rfl, rfl⟩
instance noi208 : NoI Tryz.prog 208 := ⟨by kernel_rfl⟩
instance ta209 : TyA Tryz.prog 209 false 1 (.one (.sl 0 none 0 0)) 24 := ⟨⟨by kernel_rfl, by kernel_rfl⟩, rfl, rfl⟩
instance noi209 : NoI Tryz.prog 209 := ⟨by kernel_rfl⟩
instance ud209 : UD Tryz.prog 209 (.slice 214) := ⟨by kernel_rfl⟩
instance ta210 : TyA Tryz.prog 210 true 33 (.agg [.one (.b false), .hash hz]) 33 := ⟨⟨by kernel_rfl, by kernel_rfl⟩, rfl, rfl⟩
instance noi210 : NoI Tryz.prog 210 := ⟨by kernel_rfl⟩
instance fa210_0 : FA Tryz.prog 210 0 0 := ⟨by kernel_rfl⟩
instance ft210_0 : FT Tryz.prog 210 0 4 0 := ⟨by kernel_rfl⟩
instance fa210_1 : FA Tryz.prog 210 1 1 := ⟨by kernel_rfl⟩
instance ft210_1 : FT Tryz.prog 210 1 50 1 := ⟨by kernel_rfl⟩
instance pls210 : PLS Tryz.prog 210 [.one (.b false), .agg [.hash hz]] := ⟨by kernel_rfl⟩
instance ta211 : TyA Tryz.prog 211 true 33 (.agg [.one (.b false), .hash hz]) 33 := ⟨⟨by kernel_rfl, by kernel_rfl⟩, rfl, rfl⟩
instance noi211 : NoI Tryz.prog 211 := ⟨by kernel_rfl⟩
instance fa211_0 : FA Tryz.prog 211 0 0 := ⟨by kernel_rfl⟩
instance ft211_0 : FT Tryz.prog 211 0 4 0 := ⟨by kernel_rfl⟩
instance fa211_1 : FA Tryz.prog 211 1 1 := ⟨by kernel_rfl⟩
instance ft211_1 : FT Tryz.prog 211 1 50 1 := ⟨by kernel_rfl⟩
instance pls211 : PLS Tryz.prog 211 [.one (.b false), .agg [.hash hz]] := ⟨by kernel_rfl⟩
instance ta212 : TyA Tryz.prog 212 false 1 (.one (.i .i64 0)) 8 := ⟨⟨by kernel_rfl, by kernel_rfl⟩, rfl, rfl⟩
instance noi212 : NoI Tryz.prog 212 := ⟨by kernel_rfl⟩
instance ud212 : UD Tryz.prog 212 (.int .i64) := ⟨by kernel_rfl⟩
instance ta213 : TyA Tryz.prog 213 true 69 (.agg [.one (.b false), .hash hz, .one (.i .i64 0), .one (.sl 0 none 0 0), .one (.i .i64 0), .hash hz, .one (.sl 0 none 0 0)]) 136 := ⟨⟨by kernel_rfl, by kernel_rfl⟩, rfl, rfl⟩
instance noi213 : NoI Tryz.prog 213 := ⟨by kernel_rfl⟩
instance fa213_0 : FA Tryz.prog 213 0 0 := ⟨by kernel_rfl⟩
instance ft213_0 : FT Tryz.prog 213 0 211 0 := ⟨by kernel_rfl⟩
instance fa213_1 : FA Tryz.prog 213 1 33 := ⟨by kernel_rfl⟩
instance ft213_1 : FT Tryz.prog 213 1 26 33 := ⟨by kernel_rfl⟩
instance fa213_2 : FA Tryz.prog 213 2 35 := ⟨by kernel_rfl⟩
instance ft213_2 : FT Tryz.prog 213 2 212 35 := ⟨by kernel_rfl⟩
instance fa213_3 : FA Tryz.prog 213 3 36 := ⟨by kernel_rfl⟩
instance ft213_3 : FT Tryz.prog 213 3 50 36 := ⟨by kernel_rfl⟩
instance fa213_4 : FA Tryz.prog 213 4 68 := ⟨by kernel_rfl⟩
instance ft213_4 : FT Tryz.prog 213 4 206 68 := ⟨by kernel_rfl⟩
instance pls213 : PLS Tryz.prog 213 [.agg [.one (.b false), .hash hz], .agg [.one (.i .i64 0), .one (.sl 0 none 0 0)], .one (.i .i64 0), .agg [.hash hz], .agg [.one (.sl 0 none 0 0)]] := ⟨by kernel_rfl⟩
instance ta214 : TyA Tryz.prog 214 true 69 (.agg [.one (.b false), .hash hz, .one (.i .i64 0), .one (.sl 0 none 0 0), .one (.i .i64 0), .hash hz, .one (.sl 0 none 0 0)]) 136 := ⟨⟨by kernel_rfl, by kernel_rfl⟩, rfl, rfl⟩
instance noi214 : NoI Tryz.prog 214 := ⟨by kernel_rfl⟩
instance fa214_0 : FA Tryz.prog 214 0 0 := ⟨by kernel_rfl⟩
instance ft214_0 : FT Tryz.prog 214 0 211 0 := ⟨by kernel_rfl⟩
instance fa214_1 : FA Tryz.prog 214 1 33 := ⟨by kernel_rfl⟩
instance ft214_1 : FT Tryz.prog 214 1 26 33 := ⟨by kernel_rfl⟩
instance fa214_2 : FA Tryz.prog 214 2 35 := ⟨by kernel_rfl⟩
instance ft214_2 : FT Tryz.prog 214 2 212 35 := ⟨by kernel_rfl⟩
instance fa214_3 : FA Tryz.prog 214 3 36 := ⟨by kernel_rfl⟩
instance ft214_3 : FT Tryz.prog 214 3 50 36 := ⟨by kernel_rfl⟩
instance fa214_4 : FA Tryz.prog 214 4 68 := ⟨by kernel_rfl⟩
instance ft214_4 : FT Tryz.prog 214 4 206 68 := ⟨by kernel_rfl⟩
instance pls214 : PLS Tryz.prog 214 [.agg [.one (.b false), .hash hz], .agg [.one (.i .i64 0), .one (.sl 0 none 0 0)], .one (.i .i64 0), .agg [.hash hz], .agg [.one (.sl 0 none 0 0)]] := ⟨by kernel_rfl⟩
instance ta215 : TyA Tryz.prog 215 false 1 (.one (.fnn)) 8 := ⟨⟨by kernel_rfl, by kernel_rfl⟩, rfl, rfl⟩
instance noi215 : NoI Tryz.prog 215 := ⟨by kernel_rfl⟩
instance ta216 : TyA Tryz.prog 216 false 1 (.one (.fnn)) 8 := ⟨⟨by kernel_rfl, by kernel_rfl⟩, rfl, rfl⟩
instance noi216 : NoI Tryz.prog 216 := ⟨by kernel_rfl⟩
instance ta217 : TyA Tryz.prog 217 false 1 (.one (.sl 0 none 0 0)) 24 := ⟨⟨by kernel_rfl, by kernel_rfl⟩, rfl, rfl⟩
instance noi217 : NoI Tryz.prog 217 := ⟨by kernel_rfl⟩
instance ud217 : UD Tryz.prog 217 (.slice 219) := ⟨by kernel_rfl⟩
instance ta218 : TyA Tryz.prog 218 true 33 (.agg [.hash hz, .one (.i .i64 0)]) 40 := ⟨⟨by kernel_rfl, by kernel_rfl⟩, rfl, rfl⟩
instance noi218 : NoI Tryz.prog 218 := ⟨by kernel_rfl⟩
instance fa218_0 : FA Tryz.prog 218 0 0 := ⟨by kernel_rfl⟩
instance ft218_0 : FT Tryz.prog 218 0 50 0 := ⟨by kernel_rfl⟩
instance fa218_1 : FA Tryz.prog 218 1 32 := ⟨by kernel_rfl⟩
instance ft218_1 : FT Tryz.prog 218 1 3 32 := ⟨by kernel_rfl⟩
instance pls218 : PLS Tryz.prog 218 [.agg [.hash hz], .one (.i .i64 0)] := ⟨by kernel_rfl⟩
instance ta219 : TyA Tryz.prog 219 true 33 (.agg [.hash hz, .one (.i .i64 0)]) 40 := ⟨⟨by kernel_rfl, by kernel_rfl⟩, rfl, rfl⟩
instance noi219 : NoI Tryz.prog 219 := ⟨by kernel_rfl⟩
instance fa219_0 : FA Tryz.prog 219 0 0 := ⟨by kernel_rfl⟩
instance ft219_0 : FT Tryz.prog 219 0 50 0 := ⟨by kernel_rfl⟩
instance fa219_1 : FA Tryz.prog 219 1 32 := ⟨by kernel_rfl⟩
instance ft219_1 : FT Tryz.prog 219 1 3 32 := ⟨by kernel_rfl⟩
instance pls219 : PLS Tryz.prog 219 [.agg [.hash hz], .one (.i .i64 0)] := ⟨by kernel_rfl⟩
instance ta220 : TyA Tryz.prog 220 false 1 (.one (.fnn)) 8 := ⟨⟨by kernel_rfl, by kernel_rfl⟩, rfl, rfl⟩
instance noi220 : NoI Tryz.prog 220 := ⟨by kernel_rfl⟩
instance ta221 : TyA Tryz.prog 221 false 1 (.one (.sl 0 none 0 0)) 24 := ⟨⟨by kernel_rfl, by kernel_rfl⟩, rfl, rfl⟩
instance noi221 : NoI Tryz.prog 221 := ⟨by kernel_rfl⟩
instance ud221 : UD Tryz.prog 221 (.slice 223) := ⟨by kernel_rfl⟩
instance ta222 : TyA Tryz.prog 222 true 102 (.agg [.hash hz, .one (.i .i64 0), .one (.b false), .hash hz, .one (.i .i64 0), .one (.sl 0 none 0 0), .one (.i .i64 0), .hash hz, .one (.sl 0 none 0 0)]) 176 := ⟨⟨by kernel_rfl, by kernel_rfl⟩, rfl, rfl⟩
instance noi222 : NoI Tryz.prog 222 := ⟨by kernel_rfl⟩
instance fa222_0 : FA Tryz.prog 222 0 0 := ⟨by kernel_rfl⟩
instance ft222_0 : FT Tryz.prog 222 0 219 0 := ⟨by kernel_rfl⟩
instance fa222_1 : FA Tryz.prog 222 1 33 := ⟨by kernel_rfl⟩
instance ft222_1 : FT Tryz.prog 222 1 214 33 := ⟨by kernel_rfl⟩
instance pls222 : PLS Tryz.prog 222 [.agg [.hash hz, .one (.i .i64 0)], .agg [.one (.b false), .hash hz, .one (.i .i64 0), .one (.sl 0 none 0 0), .one (.i .i64 0), .hash hz, .one (.sl 0 none 0 0)]] := ⟨by kernel_rfl⟩
instance ta223 : TyA Tryz.prog 223 true 102 (.agg [.hash hz, .one (.i .i64 0), .one (.b false), .hash hz, .one (.i .i64 0), .one (.sl 0 none 0 0), .one (.i .i64 0), .hash hz, .one (.sl 0 none 0 0)]) 176 := ⟨⟨by kernel_rfl, by kernel_rfl⟩, rfl, rfl⟩
instance noi223 : NoI Tryz.prog 223 := ⟨by kernel_rfl⟩
instance fa223_0 : FA Tryz.prog 223 0 0 := ⟨by kernel_rfl⟩
instance ft223_0 : FT Tryz.prog 223 0 219 0 := ⟨by kernel_rfl⟩
instance fa223_1 : FA Tryz.prog 223 1 33 := ⟨by kernel_rfl⟩
instance ft223_1 : FT Tryz.prog 223 1 214 33 := ⟨by kernel_rfl⟩
instance pls223 : PLS Tryz.prog 223 [.agg [.hash hz, .one (.i .i64 0)], .agg [.one (.b false), .hash hz, .one (.i .i64 0), .one (.sl 0 none 0 0), .one (.i .i64 0), .hash hz, .one (.sl 0 none 0 0)]] := ⟨by kernel_rfl⟩
instance ta224 : TyA Tryz.prog 224 false 1 (.one (.fnn)) 8 := ⟨⟨by kernel_rfl, by kernel_rfl⟩, rfl, rfl⟩
instance noi224 : NoI Tryz.prog 224 := ⟨by kernel_rfl⟩
instance ta225 : TyA Tryz.prog 225 false 1 (.one (.fnn)) 8 := ⟨⟨by kernel_rfl, by kernel_rfl⟩, rfl, rfl⟩
instance noi225 : NoI Tryz.prog 225 := ⟨by kernel_rfl⟩
instance ta226 : TyA Tryz.prog 226 false 1 (.one (.sl 0 none 0 0)) 24 := ⟨⟨by kernel_rfl, by kernel_rfl⟩, rfl, rfl⟩
instance noi226 : NoI Tryz.prog 226 := ⟨by kernel_rfl⟩
instance ud226 : UD Tryz.prog 226 (.slice 229) := ⟨by kernel_rfl⟩
instance ta227 : TyA Tryz.prog 227 false 1 (.one (.i .i64 0)) 8 := ⟨⟨by kernel_rfl, by kernel_rfl⟩, rfl, rfl⟩
instance noi227 : NoI Tryz.prog 227 := ⟨by kernel_rfl⟩
instance ud227 : UD Tryz.prog 227 (.int .i64) := ⟨by kernel_rfl⟩
instance ta228 : TyA Tryz.prog 228 true 4 (.agg [.one (.i .i64 0), .one (.i .i64 0), .one (.i .u64 0), .one (.sl 0 none 0 0)]) 48 := ⟨⟨by kernel_rfl, by kernel_rfl⟩, rfl, rfl⟩
instance noi228 : NoI Tryz.prog 228 := ⟨by kernel_rfl⟩
instance fa228_0 : FA Tryz.prog 228 0 0 := ⟨by kernel_rfl⟩
instance ft228_0 : FT Tryz.prog 228 0 227 0 := ⟨by kernel_rfl⟩
instance fa228_1 : FA Tryz.prog 228 1 1 := ⟨by kernel_rfl⟩
instance ft228_1 : FT Tryz.prog 228 1 2 1 := ⟨by kernel_rfl⟩
instance fa228_2 : FA Tryz.prog 228 2 2 := ⟨by kernel_rfl⟩
instance ft228_2 : FT Tryz.prog 228 2 33 2 := ⟨by kernel_rfl⟩
instance fa228_3 : FA Tryz.prog 228 3 3 := ⟨by kernel_rfl⟩
instance ft228_3 : FT Tryz.prog 228 3 206 3 := ⟨by kernel_rfl⟩
instance pls228 : PLS Tryz.prog 228 [.one (.i .i64 0), .one (.i .i64 0), .one (.i .u64 0), .agg [.one (.sl 0 none 0 0)]] := ⟨by kernel_rfl⟩
instance ta229 : TyA Tryz.prog 229 true 4 (.agg [.one (.i .i64 0), .one (.i .i64 0), .one (.i .u64 0), .one (.sl 0 none 0 0)]) 48 := ⟨⟨by kernel_rfl, by kernel_rfl⟩, rfl, rfl⟩
instance noi229 : NoI Tryz.prog 229 := ⟨by kernel_rfl⟩
instance fa229_0 : FA Tryz.prog 229 0 0 := ⟨by kernel_rfl⟩
instance ft229_0 : FT Tryz.prog 229 0 227 0 := ⟨by kernel_rfl⟩
instance fa229_1 : FA Tryz.prog 229 1 1 := ⟨by kernel_rfl⟩
instance ft229_1 : FT Tryz.prog 229 1 2 1 := ⟨by kernel_rfl⟩
instance fa229_2 : FA Tryz.prog 229 2 2 := ⟨by kernel_rfl⟩
instance ft229_2 : FT Tryz.prog 229 2 33 2 := ⟨by kernel_rfl⟩
instance fa229_3 : FA Tryz.prog 229 3 3 := ⟨by kernel_rfl⟩
instance ft229_3 : FT Tryz.prog 229 3 206 3 := ⟨by kernel_rfl⟩
instance pls229 : PLS Tryz.prog 229 [.one (.i .i64 0), .one (.i .i64 0), .one (.i .u64 0), .agg [.one (.sl 0 none 0 0)]] := ⟨by kernel_rfl⟩
instance ta230 : TyA Tryz.prog 230 false 1 (.one (.fnn)) 8 := ⟨⟨by kernel_rfl, by kernel_rfl⟩, rfl, rfl⟩
instance noi230 : NoI Tryz.prog 230 := ⟨by kernel_rfl⟩
instance ta231 : TyA Tryz.prog 231 false 1 (.one (.fnn)) 8 := ⟨⟨by kernel_rfl, by kernel_rfl⟩, rfl, rfl⟩
instance noi231 : NoI Tryz.prog 231 := ⟨by kernel_rfl⟩
instance ta232 : TyA Tryz.prog 232 false 1 (.one (.sl 0 none 0 0)) 24 := ⟨⟨by kernel_rfl, by kernel_rfl⟩, rfl, rfl⟩
instance noi232 : NoI Tryz.prog 232 := ⟨by kernel_rfl⟩
instance ud232 : UD Tryz.prog 232 (.slice 234) := ⟨by kernel_rfl⟩
instance ta233 : TyA Tryz.prog 233 true 2 (.agg [.one (.i .i64 0), .one (.sl 0 none 0 0)]) 32 := ⟨⟨by kernel_rfl, by kernel_rfl⟩, rfl, rfl⟩
instance noi233 : NoI Tryz.prog 233 := ⟨by kernel_rfl⟩
instance fa233_0 : FA Tryz.prog 233 0 0 := ⟨by kernel_rfl⟩
instance ft233_0 : FT Tryz.prog 233 0 3 0 := ⟨by kernel_rfl⟩
instance fa233_1 : FA Tryz.prog 233 1 1 := ⟨by kernel_rfl⟩
instance ft233_1 : FT Tryz.prog 233 1 226 1 := ⟨by kernel_rfl⟩
instance pls233 : PLS Tryz.prog 233 [.one (.i .i64 0), .one (.sl 0 none 0 0)] := ⟨by kernel_rfl⟩
instance ta234 : TyA Tryz.prog 234 true 2 (.agg [.one (.i .i64 0), .one (.sl 0 none 0 0)]) 32 := ⟨⟨by kernel_rfl, by kernel_rfl⟩, rfl, rfl⟩
instance noi234 : NoI Tryz.prog 234 := ⟨by kernel_rfl⟩
instance fa234_0 : FA Tryz.prog 234 0 0 := ⟨by kernel_rfl⟩
instance ft234_0 : FT Tryz.prog 234 0 3 0 := ⟨by kernel_rfl⟩
instance fa234_1 : FA Tryz.prog 234 1 1 := ⟨by kernel_rfl⟩
instance ft234_1 : FT Tryz.prog 234 1 226 1 := ⟨by kernel_rfl⟩
instance pls234 : PLS Tryz.prog 234 [.one (.i .i64 0), .one (.sl 0 none 0 0)] := ⟨by kernel_rfl⟩
instance ta235 : TyA Tryz.prog 235 false 1 (.one (.fnn)) 8 := ⟨⟨by kernel_rfl, by kernel_rfl⟩, rfl, rfl⟩
instance noi235 : NoI Tryz.prog 235 := ⟨by kernel_rfl⟩
instance ta236 : TyA Tryz.prog 236 false 1 (.one (.fnn)) 8 := ⟨⟨by kernel_rfl, by kernel_rfl⟩, rfl, rfl⟩
instance noi236 : NoI Tryz.prog 236 := ⟨by kernel_rfl⟩
instance ta237 : TyA Tryz.prog 237 false 1 (.one (.sl 0 none 0 0)) 24 := ⟨⟨by kernel_rfl, by kernel_rfl⟩, rfl, rfl⟩
instance noi237 : NoI Tryz.prog 237 := ⟨by kernel_rfl⟩
instance ud237 : UD Tryz.prog 237 (.slice 242) := ⟨by kernel_rfl⟩
instance ta238 : TyA Tryz.prog 238 false 1 (.one (.i .i64 0)) 8 := ⟨⟨by kernel_rfl, by kernel_rfl⟩, rfl, rfl⟩
instance noi238 : NoI Tryz.prog 238 := ⟨by kernel_rfl⟩
instance ud238 : UD Tryz.prog 238 (.int .i64) := ⟨by kernel_rfl⟩
instance ta239 : TyA Tryz.prog 239 true 2 (.agg [.one (.i .i64 0), .one (.i .i64 0)]) 16 := ⟨⟨by kernel_rfl, by kernel_rfl⟩, rfl, rfl⟩
instance noi239 : NoI Tryz.prog 239 := ⟨by kernel_rfl⟩
instance fa239_0 : FA Tryz.prog 239 0 0 := ⟨by kernel_rfl⟩
instance ft239_0 : FT Tryz.prog 239 0 2 0 := ⟨by kernel_rfl⟩
instance fa239_1 : FA Tryz.prog 239 1 1 := ⟨by kernel_rfl⟩
instance ft239_1 : FT Tryz.prog 239 1 2 1 := ⟨by kernel_rfl⟩
instance pls239 : PLS Tryz.prog 239 [.one (.i .i64 0), .one (.i .i64 0)] := ⟨by kernel_rfl⟩
instance ta240 : TyA Tryz.prog 240 true 2 (.agg [.one (.i .i64 0), .one (.i .i64 0)]) 16 := ⟨⟨by kernel_rfl, by kernel_rfl⟩, rfl, rfl⟩
instance noi240 : NoI Tryz.prog 240 := ⟨by kernel_rfl⟩
instance fa240_0 : FA Tryz.prog 240 0 0 := ⟨by kernel_rfl⟩
instance ft240_0 : FT Tryz.prog 240 0 2 0 := ⟨by kernel_rfl⟩
instance fa240_1 : FA Tryz.prog 240 1 1 := ⟨by kernel_rfl⟩
instance ft240_1 : FT Tryz.prog 240 1 2 1 := ⟨by kernel_rfl⟩
instance pls240 : PLS Tryz.prog 240 [.one (.i .i64 0), .one (.i .i64 0)] := ⟨by kernel_rfl⟩
instance ta241 : TyA Tryz.prog 241 true 5 (.agg [.one (.i .i64 0), .one (.i .i64 0), .one (.sl 0 none 0 0), .one (.i .i64 0), .one (.i .i64 0)]) 56 := ⟨⟨by kernel_rfl, by kernel_rfl⟩, rfl, rfl⟩
instance noi241 : NoI Tryz.prog 241 := ⟨by kernel_rfl⟩
instance fa241_0 : FA Tryz.prog 241 0 0 := ⟨by kernel_rfl⟩
instance ft241_0 : FT Tryz.prog 241 0 238 0 := ⟨by kernel_rfl⟩
instance fa241_1 : FA Tryz.prog 241 1 1 := ⟨by kernel_rfl⟩
instance ft241_1 : FT Tryz.prog 241 1 3 1 := ⟨by kernel_rfl⟩
instance fa241_2 : FA Tryz.prog 241 2 2 := ⟨by kernel_rfl⟩
instance ft241_2 : FT Tryz.prog 241 2 206 2 := ⟨by kernel_rfl⟩
instance fa241_3 : FA Tryz.prog 241 3 3 := ⟨by kernel_rfl⟩
instance ft241_3 : FT Tryz.prog 241 3 240 3 := ⟨by kernel_rfl⟩
instance pls241 : PLS Tryz.prog 241 [.one (.i .i64 0), .one (.i .i64 0), .agg [.one (.sl 0 none 0 0)], .agg [.one (.i .i64 0), .one (.i .i64 0)]] := ⟨by kernel_rfl⟩
instance ta242 : TyA Tryz.prog 242 true 5 (.agg [.one (.i .i64 0), .one (.i .i64 0), .one (.sl 0 none 0 0), .one (.i .i64 0), .one (.i .i64 0)]) 56 := ⟨⟨by kernel_rfl, by kernel_rfl⟩, rfl, rfl⟩
instance noi242 : NoI Tryz.prog 242 := ⟨by kernel_rfl⟩
instance fa242_0 : FA Tryz.prog 242 0 0 := ⟨by kernel_rfl⟩
instance ft242_0 : FT Tryz.prog 242 0 238 0 := ⟨by kernel_rfl⟩
instance fa242_1 : FA Tryz.prog 242 1 1 := ⟨by kernel_rfl⟩
instance ft242_1 : FT Tryz.prog 242 1 3 1 := ⟨by kernel_rfl⟩
instance fa242_2 : FA Tryz.prog 242 2 2 := ⟨by kernel_rfl⟩
instance ft242_2 : FT Tryz.prog 242 2 206 2 := ⟨by kernel_rfl⟩
instance fa242_3 : FA Tryz.prog 242 3 3 := ⟨by kernel_rfl⟩
instance ft242_3 : FT Tryz.prog 242 3 240 3 := ⟨by kernel_rfl⟩
instance pls242 : PLS Tryz.prog 242 [.one (.i .i64 0), .one (.i .i64 0), .agg [.one (.sl 0 none 0 0)], .agg [.one (.i .i64 0), .one (.i .i64 0)]] := ⟨by kernel_rfl⟩
instance ta243 : TyA Tryz.prog 243 false 1 (.one (.fnn)) 8 := ⟨⟨by kernel_rfl, by kernel_rfl⟩, rfl, rfl⟩
instance noi243 : NoI Tryz.prog 243 := ⟨by kernel_rfl⟩
instance ta244 : TyA Tryz.prog 244 false 1 (.one (.fnn)) 8 := ⟨⟨by kernel_rfl, by kernel_rfl⟩, rfl, rfl⟩
instance noi244 : NoI Tryz.prog 244 := ⟨by kernel_rfl⟩
instance ta245 : TyA Tryz.prog 245 false 1 (.one (.sl 0 none 0 0)) 24 := ⟨⟨by kernel_rfl, by kernel_rfl⟩, rfl, rfl⟩
instance noi245 : NoI Tryz.prog 245 := ⟨by kernel_rfl⟩
instance ud245 : UD Tryz.prog 245 (.slice 247) := ⟨by kernel_rfl⟩
instance ta246 : TyA Tryz.prog 246 true 40 (.agg [.one (.sl 0 none 0 0), .one (.sl 0 none 0 0), .one (.sl 0 none 0 0), .one (.sl 0 none 0 0), .one (.i .i64 0), .one (.i .i64 0), .one (.i .i64 0), .one (.sl 0 none 0 0), .hash hz]) 176 := ⟨⟨by kernel_rfl, by kernel_rfl⟩, rfl, rfl⟩
instance noi246 : NoI Tryz.prog 246 := ⟨by kernel_rfl⟩
instance fa246_0 : FA Tryz.prog 246 0 0 := ⟨by kernel_rfl⟩
instance ft246_0 : FT Tryz.prog 246 0 217 0 := ⟨by kernel_rfl⟩
instance fa246_1 : FA Tryz.prog 246 1 1 := ⟨by kernel_rfl⟩
instance ft246_1 : FT Tryz.prog 246 1 217 1 := ⟨by kernel_rfl⟩
instance fa246_2 : FA Tryz.prog 246 2 2 := ⟨by kernel_rfl⟩
instance ft246_2 : FT Tryz.prog 246 2 209 2 := ⟨by kernel_rfl⟩
instance fa246_3 : FA Tryz.prog 246 3 3 := ⟨by kernel_rfl⟩
instance ft246_3 : FT Tryz.prog 246 3 209 3 := ⟨by kernel_rfl⟩
instance fa246_4 : FA Tryz.prog 246 4 4 := ⟨by kernel_rfl⟩
instance ft246_4 : FT Tryz.prog 246 4 2 4 := ⟨by kernel_rfl⟩
instance fa246_5 : FA Tryz.prog 246 5 5 := ⟨by kernel_rfl⟩
instance ft246_5 : FT Tryz.prog 246 5 2 5 := ⟨by kernel_rfl⟩
instance fa246_6 : FA Tryz.prog 246 6 6 := ⟨by kernel_rfl⟩
instance ft246_6 : FT Tryz.prog 246 6 2 6 := ⟨by kernel_rfl⟩
instance fa246_7 : FA Tryz.prog 246 7 7 := ⟨by kernel_rfl⟩
instance ft246_7 : FT Tryz.prog 246 7 23 7 := ⟨by kernel_rfl⟩
instance fa246_8 : FA Tryz.prog 246 8 8 := ⟨by kernel_rfl⟩
instance ft246_8 : FT Tryz.prog 246 8 50 8 := ⟨by kernel_rfl⟩
instance pls246 : PLS Tryz.prog 246 [.one (.sl 0 none 0 0), .one (.sl 0 none 0 0), .one (.sl 0 none 0 0), .one (.sl 0 none 0 0), .one (.i .i64 0), .one (.i .i64 0), .one (.i .i64 0), .one (.sl 0 none 0 0), .agg [.hash hz]] := ⟨by kernel_rfl⟩
instance ta247 : TyA Tryz.prog 247 true 40 (.agg [.one (.sl 0 none 0 0), .one (.sl 0 none 0 0), .one (.sl 0 none 0 0), .one (.sl 0 none 0 0), .one (.i .i64 0), .one (.i .i64 0), .one (.i .i64 0), .one (.sl 0 none 0 0), .hash hz]) 176 := ⟨⟨by kernel_rfl, by kernel_rfl⟩, rfl, rfl⟩
instance noi247 : NoI Tryz.prog 247 := ⟨by kernel_rfl⟩
instance fa247_0 : FA Tryz.prog 247 0 0 := ⟨by kernel_rfl⟩
instance ft247_0 : FT Tryz.prog 247 0 217 0 := ⟨by kernel_rfl⟩
instance fa247_1 : FA Tryz.prog 247 1 1 := ⟨by kernel_rfl⟩
instance ft247_1 : FT Tryz.prog 247 1 217 1 := ⟨by kernel_rfl⟩
instance fa247_2 : FA Tryz.prog 247 2 2 := ⟨by kernel_rfl⟩
instance ft247_2 : FT Tryz.prog 247 2 209 2 := ⟨by kernel_rfl⟩
instance fa247_3 : FA Tryz.prog 247 3 3 := ⟨by kernel_rfl⟩
instance ft247_3 : FT Tryz.prog 247 3 209 3 := ⟨by kernel_rfl⟩
instance fa247_4 : FA Tryz.prog 247 4 4 := ⟨by kernel_rfl⟩
instance ft247_4 : FT Tryz.prog 247 4 2 4 := ⟨by kernel_rfl⟩
instance fa247_5 : FA Tryz.prog 247 5 5 := ⟨by kernel_rfl⟩
instance ft247_5 : FT Tryz.prog 247 5 2 5 := ⟨by kernel_rfl⟩
instance fa247_6 : FA Tryz.prog 247 6 6 := ⟨by kernel_rfl⟩
instance ft247_6 : FT Tryz.prog 247 6 2 6 := ⟨by kernel_rfl⟩
instance fa247_7 : FA Tryz.prog 247 7 7 := ⟨by kernel_rfl⟩
instance ft247_7 : FT Tryz.prog 247 7 23 7 := ⟨by kernel_rfl⟩
instance fa247_8 : FA Tryz.prog 247 8 8 := ⟨by kernel_rfl⟩
instance ft247_8 : FT Tryz.prog 247 8 50 8 := ⟨by kernel_rfl⟩
instance pls247 : PLS Tryz.prog 247 [.one (.sl 0 none 0 0), .one (.sl 0 none 0 0), .one (.sl 0 none 0 0), .one (.sl 0 none 0 0), .one (.i .i64 0), .one (.i .i64 0), .one (.i .i64 0), .one (.sl 0 none 0 0), .agg [.hash hz]] := ⟨by kernel_rfl⟩
instance ta248 : TyA Tryz.prog 248 false 1 (.one (.fnn)) 8 := ⟨⟨by kernel_rfl, by kernel_rfl⟩, rfl, rfl⟩
instance noi248 : NoI Tryz.prog 248 := ⟨by kernel_rfl⟩
instance ta249 : TyA Tryz.prog 249 false 1 (.one (.fnn)) 8 := ⟨⟨by kernel_rfl, by kernel_rfl⟩, rfl, rfl⟩
instance noi249 : NoI Tryz.prog 249 := ⟨by kernel_rfl⟩
instance ta250 : TyA Tryz.prog 250 false 1 (.one (.sl 0 none 0 0)) 24 := ⟨⟨by kernel_rfl, by kernel_rfl⟩, rfl, rfl⟩
instance noi250 : NoI Tryz.prog 250 := ⟨by kernel_rfl⟩
instance ud250 : UD Tryz.prog 250 (.slice 252) := ⟨by kernel_rfl⟩
instance ta251 : TyA Tryz.prog 251 true 1 (.agg [.one (.sl 0 none 0 0)]) 24 := ⟨⟨by kernel_rfl, by kernel_rfl⟩, rfl, rfl⟩
instance noi251 : NoI Tryz.prog 251 := ⟨by kernel_rfl⟩
instance fa251_0 : FA Tryz.prog 251 0 0 := ⟨by kernel_rfl⟩
instance ft251_0 : FT Tryz.prog 251 0 197 0 := ⟨by kernel_rfl⟩
instance pls251 : PLS Tryz.prog 251 [.one (.sl 0 none 0 0)] := ⟨by kernel_rfl⟩
instance ta252 : TyA Tryz.prog 252 true 1 (.agg [.one (.sl 0 none 0 0)]) 24 := ⟨⟨by kernel_rfl, by kernel_rfl⟩, rfl, rfl⟩
instance noi252 : NoI Tryz.prog 252 := ⟨by kernel_rfl⟩
instance fa252_0 : FA Tryz.prog 252 0 0 := ⟨by kernel_rfl⟩
instance ft252_0 : FT Tryz.prog 252 0 197 0 := ⟨by kernel_rfl⟩
instance pls252 : PLS Tryz.prog 252 [.one (.sl 0 none 0 0)] := ⟨by kernel_rfl⟩
instance ta253 : TyA Tryz.prog 253 false 1 (.one (.fnn)) 8 := ⟨⟨by kernel_rfl, by kernel_rfl⟩, rfl, rfl⟩
instance noi253 : NoI Tryz.prog 253 := ⟨by kernel_rfl⟩
instance ta254 : TyA Tryz.prog 254 false 1 (.one (.fnn)) 8 := ⟨⟨by kernel_rfl, by kernel_rfl⟩, rfl, rfl⟩
instance noi254 : NoI Tryz.prog 254 := ⟨by kernel_rfl⟩
instance ta255 : TyA Tryz.prog 255 false 1 (.one (.sl 0 none 0 0)) 24 := ⟨⟨by kernel_rfl, by kernel_rfl⟩, rfl, rfl⟩
instance noi255 : NoI Tryz.prog 255 := ⟨by kernel_rfl⟩
instance ud255 : UD Tryz.prog 255 (.slice 257) := ⟨by kernel_rfl⟩
instance ta256 : TyA Tryz.prog 256 true 45 (.agg [.one (.sl 0 none 0 0), .one (.sl 0 none 0 0), .one (.sl 0 none 0 0), .one (.sl 0 none 0 0), .one (.i .i64 0), .one (.i .i64 0), .one (.i .i64 0), .one (.sl 0 none 0 0), .hash hz, .one (.sl 0 none 0 0), .one (.sl 0 none 0 0), .one (.sl 0 none 0 0), .one (.sl 0 none 0 0), .one (.b false)]) 280 := ⟨⟨by kernel_rfl, by kernel_rfl⟩, rfl, rfl⟩
instance noi256 : NoI Tryz.prog 256 := ⟨by kernel_rfl⟩
instance fa256_0 : FA Tryz.prog 256 0 0 := ⟨by kernel_rfl⟩
instance ft256_0 : FT Tryz.prog 256 0 247 0 := ⟨by kernel_rfl⟩
instance fa256_1 : FA Tryz.prog 256 1 40 := ⟨by kernel_rfl⟩
instance ft256_1 : FT Tryz.prog 256 1 250 40 := ⟨by kernel_rfl⟩
instance fa256_2 : FA Tryz.prog 256 2 41 := ⟨by kernel_rfl⟩
instance ft256_2 : FT Tryz.prog 256 2 232 41 := ⟨by kernel_rfl⟩
instance fa256_3 : FA Tryz.prog 256 3 42 := ⟨by kernel_rfl⟩
instance ft256_3 : FT Tryz.prog 256 3 204 42 := ⟨by kernel_rfl⟩
instance fa256_4 : FA Tryz.prog 256 4 43 := ⟨by kernel_rfl⟩
instance ft256_4 : FT Tryz.prog 256 4 237 43 := ⟨by kernel_rfl⟩
instance fa256_5 : FA Tryz.prog 256 5 44 := ⟨by kernel_rfl⟩
instance ft256_5 : FT Tryz.prog 256 5 4 44 := ⟨by kernel_rfl⟩
instance pls256 : PLS Tryz.prog 256 [.agg [.one (.sl 0 none 0 0), .one (.sl 0 none 0 0), .one (.sl 0 none 0 0), .one (.sl 0 none 0 0), .one (.i .i64 0), .one (.i .i64 0), .one (.i .i64 0), .one (.sl 0 none 0 0), .hash hz], .one (.sl 0 none 0 0), .one (.sl 0 none 0 0), .one (.sl 0 none 0 0), .one (.sl 0 none 0 0), .one (.b false)] := ⟨by kernel_rfl⟩
instance ta257 : TyA Tryz.prog 257 true 45 (.agg [.one (.sl 0 none 0 0), .one (.sl 0 none 0 0), .one (.sl 0 none 0 0), .one (.sl 0 none 0 0), .one (.i .i64 0), .one (.i .i64 0), .one (.i .i64 0), .one (.sl 0 none 0 0), .hash hz, .one (.sl 0 none 0 0), .one (.sl 0 none 0 0), .one (.sl 0 none 0 0), .one (.sl 0 none 0 0), .one (.b false)]) 280 := ⟨⟨by kernel_rfl, by kernel_rfl⟩, rfl, rfl⟩
instance noi257 : NoI Tryz.prog 257 := ⟨by kernel_rfl⟩
instance fa257_0 : FA Tryz.prog 257 0 0 := ⟨by kernel_rfl⟩
instance ft257_0 : FT Tryz.prog 257 0 247 0 := ⟨by kernel_rfl⟩
instance fa257_1 : FA Tryz.prog 257 1 40 := ⟨by kernel_rfl⟩
instance ft257_1 : FT Tryz.prog 257 1 250 40 := ⟨by kernel_rfl⟩
instance fa257_2 : FA Tryz.prog 257 2 41 := ⟨by kernel_rfl⟩
instance ft257_2 : FT Tryz.prog 257 2 232 41 := ⟨by kernel_rfl⟩
instance fa257_3 : FA Tryz.prog 257 3 42 := ⟨by kernel_rfl⟩
instance ft257_3 : FT Tryz.prog 257 3 204 42 := ⟨by kernel_rfl⟩
instance fa257_4 : FA Tryz.prog 257 4 43 := ⟨by kernel_rfl⟩
instance ft257_4 : FT Tryz.prog 257 4 237 43 := ⟨by kernel_rfl⟩
instance fa257_5 : FA Tryz.prog 257 5 44 := ⟨by kernel_rfl⟩
instance ft257_5 : FT Tryz.prog 257 5 4 44 := ⟨by kernel_rfl⟩
instance pls257 : PLS Tryz.prog 257 [.agg [.one (.sl 0 none 0 0), .one (.sl 0 none 0 0), .one (.sl 0 none 0 0), .one (.sl 0 none 0 0), .one (.i .i64 0), .one (.i .i64 0), .one (.i .i64 0), .one (.sl 0 none 0 0), .hash hz], .one (.sl 0 none 0 0), .one (.sl 0 none 0 0), .one (.sl 0 none 0 0), .one (.sl 0 none 0 0), .one (.b false)] := ⟨by kernel_rfl⟩
instance ta258 : TyA Tryz.prog 258 false 1 (.one (.fnn)) 8 := ⟨⟨by kernel_rfl, by kernel_rfl⟩, rfl, rfl⟩
instance noi258 : NoI Tryz.prog 258 := ⟨by kernel_rfl⟩
instance ta259 : TyA Tryz.prog 259 false 1 (.one (.fnn)) 8 := ⟨⟨by kernel_rfl, by kernel_rfl⟩, rfl, rfl⟩
instance noi259 : NoI Tryz.prog 259 := ⟨by kernel_rfl⟩
instance ta260 : TyA Tryz.prog 260 false 1 (.one (.sl 0 none 0 0)) 24 := ⟨⟨by kernel_rfl, by kernel_rfl⟩, rfl, rfl⟩
instance noi260 : NoI Tryz.prog 260 := ⟨by kernel_rfl⟩
instance ud260 : UD Tryz.prog 260 (.slice 264) := ⟨by kernel_rfl⟩
instance ta261 : TyA Tryz.prog 261 true 67 (.agg [.hash hz, .one (.i .i64 0), .one (.i .i64 0), .hash hz, .one (.i .u64 0)]) 88 := ⟨⟨by kernel_rfl, by kernel_rfl⟩, rfl, rfl⟩
instance noi261 : NoI Tryz.prog 261 := ⟨by kernel_rfl⟩
instance fa261_0 : FA Tryz.prog 261 0 0 := ⟨by kernel_rfl⟩
instance ft261_0 : FT Tryz.prog 261 0 50 0 := ⟨by kernel_rfl⟩
instance fa261_1 : FA Tryz.prog 261 1 32 := ⟨by kernel_rfl⟩
instance ft261_1 : FT Tryz.prog 261 1 3 32 := ⟨by kernel_rfl⟩
instance fa261_2 : FA Tryz.prog 261 2 33 := ⟨by kernel_rfl⟩
instance ft261_2 : FT Tryz.prog 261 2 2 33 := ⟨by kernel_rfl⟩
instance fa261_3 : FA Tryz.prog 261 3 34 := ⟨by kernel_rfl⟩
instance ft261_3 : FT Tryz.prog 261 3 50 34 := ⟨by kernel_rfl⟩
instance fa261_4 : FA Tryz.prog 261 4 66 := ⟨by kernel_rfl⟩
instance ft261_4 : FT Tryz.prog 261 4 33 66 := ⟨by kernel_rfl⟩
instance pls261 : PLS Tryz.prog 261 [.agg [.hash hz], .one (.i .i64 0), .one (.i .i64 0), .agg [.hash hz], .one (.i .u64 0)] := ⟨by kernel_rfl⟩
instance ta262 : TyA Tryz.prog 262 true 67 (.agg [.hash hz, .one (.i .i64 0), .one (.i .i64 0), .hash hz, .one (.i .u64 0)]) 88 := ⟨⟨by kernel_rfl, by kernel_rfl⟩, rfl, rfl⟩
instance noi262 : NoI Tryz.prog 262 := ⟨by kernel_rfl⟩
instance fa262_0 : FA Tryz.prog 262 0 0 := ⟨by kernel_rfl⟩
instance ft262_0 : FT Tryz.prog 262 0 50 0 := ⟨by kernel_rfl⟩
instance fa262_1 : FA Tryz.prog 262 1 32 := ⟨by kernel_rfl⟩
instance ft262_1 : FT Tryz.prog 262 1 3 32 := ⟨by kernel_rfl⟩
instance fa262_2 : FA Tryz.prog 262 2 33 := ⟨by kernel_rfl⟩
instance ft262_2 : FT Tryz.prog 262 2 2 33 := ⟨by kernel_rfl⟩
instance fa262_3 : FA Tryz.prog 262 3 34 := ⟨by kernel_rfl⟩
instance ft262_3 : FT Tryz.prog 262 3 50 34 := ⟨by kernel_rfl⟩
instance fa262_4 : FA Tryz.prog 262 4 66 := ⟨by kernel_rfl⟩
instance ft262_4 : FT Tryz.prog 262 4 33 66 := ⟨by kernel_rfl⟩
instance pls262 : PLS Tryz.prog 262 [.agg [.hash hz], .one (.i .i64 0), .one (.i .i64 0), .agg [.hash hz], .one (.i .u64 0)] := ⟨by kernel_rfl⟩
instance ta263 : TyA Tryz.prog 263 true 68 (.agg [.hash hz, .one (.i .i64 0), .one (.i .i64 0), .hash hz, .one (.i .u64 0), .one (.sl 0 none 0 0)]) 112 := ⟨⟨by kernel_rfl, by kernel_rfl⟩, rfl, rfl⟩
instance noi263 : NoI Tryz.prog 263 := ⟨by kernel_rfl⟩
instance fa263_0 : FA Tryz.prog 263 0 0 := ⟨by kernel_rfl⟩
instance ft263_0 : FT Tryz.prog 263 0 262 0 := ⟨by kernel_rfl⟩
instance fa263_1 : FA Tryz.prog 263 1 67 := ⟨by kernel_rfl⟩
instance ft263_1 : FT Tryz.prog 263 1 255 67 := ⟨by kernel_rfl⟩
instance pls263 : PLS Tryz.prog 263 [.agg [.hash hz, .one (.i .i64 0), .one (.i .i64 0), .hash hz, .one (.i .u64 0)], .one (.sl 0 none 0 0)] := ⟨by kernel_rfl⟩
instance ta264 : TyA Tryz.prog 264 true 68 (.agg [.hash hz, .one (.i .i64 0), .one (.i .i64 0), .hash hz, .one (.i .u64 0), .one (.sl 0 none 0 0)]) 112 := ⟨⟨by kernel_rfl, by kernel_rfl⟩, rfl, rfl⟩
instance noi264 : NoI Tryz.prog 264 := ⟨by kernel_rfl⟩
instance fa264_0 : FA Tryz.prog 264 0 0 := ⟨by kernel_rfl⟩
instance ft264_0 : FT Tryz.prog 264 0 262 0 := ⟨by kernel_rfl⟩
instance fa264_1 : FA Tryz.prog 264 1 67 := ⟨by kernel_rfl⟩
instance ft264_1 : FT Tryz.prog 264 1 255 67 := ⟨by kernel_rfl⟩
instance pls264 : PLS Tryz.prog 264 [.agg [.hash hz, .one (.i .i64 0), .one (.i .i64 0), .hash hz, .one (.i .u64 0)], .one (.sl 0 none 0 0)] := ⟨by kernel_rfl⟩
instance ta265 : TyA Tryz.prog 265 false 1 (.one (.fnn)) 8 := ⟨⟨by kernel_rfl, by kernel_rfl⟩, rfl, rfl⟩
instance noi265 : NoI Tryz.prog 265 := ⟨by kernel_rfl⟩
instance ta266 : TyA Tryz.prog 266 false 1 (.one (.fnn)) 8 := ⟨⟨by kernel_rfl, by kernel_rfl⟩, rfl, rfl⟩
instance noi266 : NoI Tryz.prog 266 := ⟨by kernel_rfl⟩
instance ta267 : TyA Tryz.prog 267 false 1 (.one (.sl 0 none 0 0)) 24 := ⟨⟨by kernel_rfl, by kernel_rfl⟩, rfl, rfl⟩
instance noi267 : NoI Tryz.prog 267 := ⟨by kernel_rfl⟩
instance ud267 : UD Tryz.prog 267 (.slice 271) := ⟨by kernel_rfl⟩
instance ta268 : TyA Tryz.prog 268 true 12 (.agg [.one (.i .i64 0), .one (.i .i64 0), .one (.i .i64 0), .one (.i .i64 0), .one (.i .i64 0), .one (.i .i64 0), .one (.i .i64 0), .one (.i .i64 0), .one (.i .i64 0), .one (.i .i64 0), .one (.i .i64 0), .one (.i .i64 0)]) 96 := ⟨⟨by kernel_rfl, by kernel_rfl⟩, rfl, rfl⟩
instance noi268 : NoI Tryz.prog 268 := ⟨by kernel_rfl⟩
instance fa268_0 : FA Tryz.prog 268 0 0 := ⟨by kernel_rfl⟩
instance ft268_0 : FT Tryz.prog 268 0 2 0 := ⟨by kernel_rfl⟩
instance fa268_1 : FA Tryz.prog 268 1 1 := ⟨by kernel_rfl⟩
instance ft268_1 : FT Tryz.prog 268 1 2 1 := ⟨by kernel_rfl⟩
instance fa268_2 : FA Tryz.prog 268 2 2 := ⟨by kernel_rfl⟩
instance ft268_2 : FT Tryz.prog 268 2 2 2 := ⟨by kernel_rfl⟩
instance fa268_3 : FA Tryz.prog 268 3 3 := ⟨by kernel_rfl⟩
instance ft268_3 : FT Tryz.prog 268 3 2 3 := ⟨by kernel_rfl⟩
instance fa268_4 : FA Tryz.prog 268 4 4 := ⟨by kernel_rfl⟩
instance ft268_4 : FT Tryz.prog 268 4 2 4 := ⟨by kernel_rfl⟩
instance fa268_5 : FA Tryz.prog 268 5 5 := ⟨by kernel_rfl⟩
instance ft268_5 : FT Tryz.prog 268 5 2 5 := ⟨by kernel_rfl⟩
instance fa268_6 : FA Tryz.prog 268 6 6 := ⟨by kernel_rfl⟩
instance ft268_6 : FT Tryz.prog 268 6 3 6 := ⟨by kernel_rfl⟩
instance fa268_7 : FA Tryz.prog 268 7 7 := ⟨by kernel_rfl⟩
instance ft268_7 : FT Tryz.prog 268 7 3 7 := ⟨by kernel_rfl⟩
instance fa268_8 : FA Tryz.prog 268 8 8 := ⟨by kernel_rfl⟩
instance ft268_8 : FT Tryz.prog 268 8 240 8 := ⟨by kernel_rfl⟩
instance fa268_9 : FA Tryz.prog 268 9 10 := ⟨by kernel_rfl⟩
instance ft268_9 : FT Tryz.prog 268 9 3 10 := ⟨by kernel_rfl⟩
instance fa268_10 : FA Tryz.prog 268 10 11 := ⟨by kernel_rfl⟩
instance ft268_10 : FT Tryz.prog 268 10 3 11 := ⟨by kernel_rfl⟩
instance pls268 : PLS Tryz.prog 268 [.one (.i .i64 0), .one (.i .i64 0), .one (.i .i64 0), .one (.i .i64 0), .one (.i .i64 0), .one (.i .i64 0), .one (.i .i64 0), .one (.i .i64 0), .agg [.one (.i .i64 0), .one (.i .i64 0)], .one (.i .i64 0), .one (.i .i64 0)] := ⟨by kernel_rfl⟩
instance ta269 : TyA Tryz.prog 269 true 12 (.agg [.one (.i .i64 0), .one (.i .i64 0), .one (.i .i64 0), .one (.i .i64 0), .one (.i .i64 0), .one (.i .i64 0), .one (.i .i64 0), .one (.i .i64 0), .one (.i .i64 0), .one (.i .i64 0), .one (.i .i64 0), .one (.i .i64 0)]) 96 := ⟨⟨by kernel_rfl, by kernel_rfl⟩, rfl, rfl⟩
instance noi269 : NoI Tryz.prog 269 := ⟨by kernel_rfl⟩
instance fa269_0 : FA Tryz.prog 269 0 0 := ⟨by kernel_rfl⟩
instance ft269_0 : FT Tryz.prog 269 0 2 0 := ⟨by kernel_rfl⟩
instance fa269_1 : FA Tryz.prog 269 1 1 := ⟨by kernel_rfl⟩
instance ft269_1 : FT Tryz.prog 269 1 2 1 := ⟨by kernel_rfl⟩
instance fa269_2 : FA Tryz.prog 269 2 2 := ⟨by kernel_rfl⟩
instance ft269_2 : FT Tryz.prog 269 2 2 2 := ⟨by kernel_rfl⟩
instance fa269_3 : FA Tryz.prog 269 3 3 := ⟨by kernel_rfl⟩
instance ft269_3 : FT Tryz.prog 269 3 2 3 := ⟨by kernel_rfl⟩
instance fa269_4 : FA Tryz.prog 269 4 4 := ⟨by kernel_rfl⟩
instance ft269_4 : FT Tryz.prog 269 4 2 4 := ⟨by kernel_rfl⟩
instance fa269_5 : FA Tryz.prog 269 5 5 := ⟨by kernel_rfl⟩
instance ft269_5 : FT Tryz.prog 269 5 2 5 := ⟨by kernel_rfl⟩
instance fa269_6 : FA Tryz.prog 269 6 6 := ⟨by kernel_rfl⟩
instance ft269_6 : FT Tryz.prog 269 6 3 6 := ⟨by kernel_rfl⟩
instance fa269_7 : FA Tryz.prog 269 7 7 := ⟨by kernel_rfl⟩
instance ft269_7 : FT Tryz.prog 269 7 3 7 := ⟨by kernel_rfl⟩
instance fa269_8 : FA Tryz.prog 269 8 8 := ⟨by kernel_rfl⟩
instance ft269_8 : FT Tryz.prog 269 8 240 8 := ⟨by kernel_rfl⟩
instance fa269_9 : FA Tryz.prog 269 9 10 := ⟨by kernel_rfl⟩
instance ft269_9 : FT Tryz.prog 269 9 3 10 := ⟨by kernel_rfl⟩
instance fa269_10 : FA Tryz.prog 269 10 11 := ⟨by kernel_rfl⟩
instance ft269_10 : FT Tryz.prog 269 10 3 11 := ⟨by kernel_rfl⟩
instance pls269 : PLS Tryz.prog 269 [.one (.i .i64 0), .one (.i .i64 0), .one (.i .i64 0), .one (.i .i64 0), .one (.i .i64 0), .one (.i .i64 0), .one (.i .i64 0), .one (.i .i64 0), .agg [.one (.i .i64 0), .one (.i .i64 0)], .one (.i .i64 0), .one (.i .i64 0)] := ⟨by kernel_rfl⟩
instance ta270 : TyA Tryz.prog 270 true 14 (.agg [.one (.i .i64 0), .one (.i .i64 0), .one (.i .i64 0), .one (.i .i64 0), .one (.i .i64 0), .one (.i .i64 0), .one (.i .i64 0), .one (.i .i64 0), .one (.i .i64 0), .one (.i .i64 0), .one (.i .i64 0), .one (.i .i64 0), .one (.i .i64 0), .one (.sl 0 none 0 0)]) 128 := ⟨⟨by kernel_rfl, by kernel_rfl⟩, rfl, rfl⟩
instance noi270 : NoI Tryz.prog 270 := ⟨by kernel_rfl⟩
instance fa270_0 : FA Tryz.prog 270 0 0 := ⟨by kernel_rfl⟩
instance ft270_0 : FT Tryz.prog 270 0 269 0 := ⟨by kernel_rfl⟩
instance fa270_1 : FA Tryz.prog 270 1 12 := ⟨by kernel_rfl⟩
instance ft270_1 : FT Tryz.prog 270 1 2 12 := ⟨by kernel_rfl⟩
instance fa270_2 : FA Tryz.prog 270 2 13 := ⟨by kernel_rfl⟩
instance ft270_2 : FT Tryz.prog 270 2 209 13 := ⟨by kernel_rfl⟩
instance pls270 : PLS Tryz.prog 270 [.agg [.one (.i .i64 0), .one (.i .i64 0), .one (.i .i64 0), .one (.i .i64 0), .one (.i .i64 0), .one (.i .i64 0), .one (.i .i64 0), .one (.i .i64 0), .one (.i .i64 0), .one (.i .i64 0), .one (.i .i64 0), .one (.i .i64 0)], .one (.i .i64 0), .one (.sl 0 none 0 0)] := ⟨by kernel_rfl⟩
instance ta271 : TyA Tryz.prog 271 true 14 (.agg [.one (.i .i64 0), .one (.i .i64 0), .one (.i .i64 0), .one (.i .i64 0), .one (.i .i64 0), .one (.i .i64 0), .one (.i .i64 0), .one (.i .i64 0), .one (.i .i64 0), .one (.i .i64 0), .one (.i .i64 0), .one (.i .i64 0), .one (.i .i64 0), .one (.sl 0 none 0 0)]) 128 := ⟨⟨by kernel_rfl, by kernel_rfl⟩, rfl, rfl⟩
instance noi271 : NoI Tryz.prog 271 := ⟨by kernel_rfl⟩
instance fa271_0 : FA Tryz.prog 271 0 0 := ⟨by kernel_rfl⟩
instance ft271_0 : FT Tryz.prog 271 0 269 0 := ⟨by kernel_rfl⟩
instance fa271_1 : FA Tryz.prog 271 1 12 := ⟨by kernel_rfl⟩
instance ft271_1 : FT Tryz.prog 271 1 2 12 := ⟨by kernel_rfl⟩
instance fa271_2 : FA Tryz.prog 271 2 13 := ⟨by kernel_rfl⟩
instance ft271_2 : FT Tryz.prog 271 2 209 13 := ⟨by kernel_rfl⟩
instance pls271 : PLS Tryz.prog 271 [.agg [.one (.i .i64 0), .one (.i .i64 0), .one (.i .i64 0), .one (.i .i64 0), .one (.i .i64 0), .one (.i .i64 0), .one (.i .i64 0), .one (.i .i64 0), .one (.i .i64 0), .one (.i .i64 0), .one (.i .i64 0), .one (.i .i64 0)], .one (.i .i64 0), .one (.sl 0 none 0 0)] := ⟨by kernel_rfl⟩
instance ta272 : TyA Tryz.prog 272 false 1 (.one (.fnn)) 8 := ⟨⟨by kernel_rfl, by kernel_rfl⟩, rfl, rfl⟩
instance noi272 : NoI Tryz.prog 272 := ⟨by kernel_rfl⟩
instance ta273 : TyA Tryz.prog 273 false 1 (.one (.fnn)) 8 := ⟨⟨by kernel_rfl, by kernel_rfl⟩, rfl, rfl⟩
instance noi273 : NoI Tryz.prog 273 := ⟨by kernel_rfl⟩
instance ta274 : TyA Tryz.prog 274 false 1 (.one (.sl 0 none 0 0)) 24 := ⟨⟨by kernel_rfl, by kernel_rfl⟩, rfl, rfl⟩
instance noi274 : NoI Tryz.prog 274 := ⟨by kernel_rfl⟩
instance ud274 : UD Tryz.prog 274 (.slice 276) := ⟨by kernel_rfl⟩
instance ta275 : TyA Tryz.prog 275 true 5 (.agg [.one (.sl 0 none 0 0), .one (.sl 0 none 0 0), .one (.i .i64 0), .one (.i .i64 0), .one (.sl 0 none 0 0)]) 88 := ⟨⟨by kernel_rfl, by kernel_rfl⟩, rfl, rfl⟩
instance noi275 : NoI Tryz.prog 275 := ⟨by kernel_rfl⟩
instance fa275_0 : FA Tryz.prog 275 0 0 := ⟨by kernel_rfl⟩
instance ft275_0 : FT Tryz.prog 275 0 221 0 := ⟨by kernel_rfl⟩
instance fa275_1 : FA Tryz.prog 275 1 1 := ⟨by kernel_rfl⟩
instance ft275_1 : FT Tryz.prog 275 1 221 1 := ⟨by kernel_rfl⟩
instance fa275_2 : FA Tryz.prog 275 2 2 := ⟨by kernel_rfl⟩
instance ft275_2 : FT Tryz.prog 275 2 2 2 := ⟨by kernel_rfl⟩
instance fa275_3 : FA Tryz.prog 275 3 3 := ⟨by kernel_rfl⟩
instance ft275_3 : FT Tryz.prog 275 3 2 3 := ⟨by kernel_rfl⟩
instance fa275_4 : FA Tryz.prog 275 4 4 := ⟨by kernel_rfl⟩
instance ft275_4 : FT Tryz.prog 275 4 36 4 := ⟨by kernel_rfl⟩
instance pls275 : PLS Tryz.prog 275 [.one (.sl 0 none 0 0), .one (.sl 0 none 0 0), .one (.i .i64 0), .one (.i .i64 0), .one (.sl 0 none 0 0)] := ⟨by kernel_rfl⟩
instance ta276 : TyA Tryz.prog 276 true 5 (.agg [.one (.sl 0 none 0 0), .one (.sl 0 none 0 0), .one (.i .i64 0), .one (.i .i64 0), .one (.sl 0 none 0 0)]) 88 := ⟨⟨by kernel_rfl, by kernel_rfl⟩, rfl, rfl⟩
instance noi276 : NoI Tryz.prog 276 := ⟨by kernel_rfl⟩
instance fa276_0 : FA Tryz.prog 276 0 0 := ⟨by kernel_rfl⟩
instance ft276_0 : FT Tryz.prog 276 0 221 0 := ⟨by kernel_rfl⟩
instance fa276_1 : FA Tryz.prog 276 1 1 := ⟨by kernel_rfl⟩
instance ft276_1 : FT Tryz.prog 276 1 221 1 := ⟨by kernel_rfl⟩
instance fa276_2 : FA Tryz.prog 276 2 2 := ⟨by kernel_rfl⟩
instance ft276_2 : FT Tryz.prog 276 2 2 2 := ⟨by kernel_rfl⟩
instance fa276_3 : FA Tryz.prog 276 3 3 := ⟨by kernel_rfl⟩
instance ft276_3 : FT Tryz.prog 276 3 2 3 := ⟨by kernel_rfl⟩
instance fa276_4 : FA Tryz.prog 276 4 4 := ⟨by kernel_rfl⟩
instance ft276_4 : FT Tryz.prog 276 4 36 4 := ⟨by kernel_rfl⟩
instance pls276 : PLS Tryz.prog 276 [.one (.sl 0 none 0 0), .one (.sl 0 none 0 0), .one (.i .i64 0), .one (.i .i64 0), .one (.sl 0 none 0 0)] := ⟨by kernel_rfl⟩
instance ta277 : TyA Tryz.prog 277 false 1 (.one (.fnn)) 8 := ⟨⟨by kernel_rfl, by kernel_rfl⟩, rfl, rfl⟩
instance noi277 : NoI Tryz.prog 277 := ⟨by kernel_rfl⟩
instance ta278 : TyA Tryz.prog 278 false 1 (.one (.fnn)) 8 := ⟨⟨by kernel_rfl, by kernel_rfl⟩, rfl, rfl⟩
instance noi278 : NoI Tryz.prog 278 := ⟨by kernel_rfl⟩
instance ta279 : TyA Tryz.prog 279 false 1 (.one (.sl 0 none 0 0)) 24 := ⟨⟨by kernel_rfl, by kernel_rfl⟩, rfl, rfl⟩
instance noi279 : NoI Tryz.prog 279 := ⟨by kernel_rfl⟩
instance ud279 : UD Tryz.prog 279 (.slice 282) := ⟨by kernel_rfl⟩
instance ta280 : TyA Tryz.prog 280 false 1 (.one (.i .i64 0)) 8 := ⟨⟨by kernel_rfl, by kernel_rfl⟩, rfl, rfl⟩
instance noi280 : NoI Tryz.prog 280 := ⟨by kernel_rfl⟩
instance ud280 : UD Tryz.prog 280 (.int .i64) := ⟨by kernel_rfl⟩
instance ta281 : TyA Tryz.prog 281 true 106 (.agg [.hash hz, .hash hz, .one (.i .i64 0), .one (.i .i64 0), .hash hz, .one (.i .u64 0), .one (.sl 0 none 0 0), .one (.i .i64 0), .one (.sl 0 none 0 0), .one (.sl 0 none 0 0), .one (.i .i64 0), .one (.i .i64 0), .one (.sl 0 none 0 0)]) 240 := ⟨⟨by kernel_rfl, by kernel_rfl⟩, rfl, rfl⟩
instance noi281 : NoI Tryz.prog 281 := ⟨by kernel_rfl⟩
instance fa281_0 : FA Tryz.prog 281 0 0 := ⟨by kernel_rfl⟩
instance ft281_0 : FT Tryz.prog 281 0 50 0 := ⟨by kernel_rfl⟩
instance fa281_1 : FA Tryz.prog 281 1 32 := ⟨by kernel_rfl⟩
instance ft281_1 : FT Tryz.prog 281 1 264 32 := ⟨by kernel_rfl⟩
instance fa281_2 : FA Tryz.prog 281 2 100 := ⟨by kernel_rfl⟩
instance ft281_2 : FT Tryz.prog 281 2 280 100 := ⟨by kernel_rfl⟩
instance fa281_3 : FA Tryz.prog 281 3 101 := ⟨by kernel_rfl⟩
instance ft281_3 : FT Tryz.prog 281 3 276 101 := ⟨by kernel_rfl⟩
instance pls281 : PLS Tryz.prog 281 [.agg [.hash hz], .agg [.hash hz, .one (.i .i64 0), .one (.i .i64 0), .hash hz, .one (.i .u64 0), .one (.sl 0 none 0 0)], .one (.i .i64 0), .agg [.one (.sl 0 none 0 0), .one (.sl 0 none 0 0), .one (.i .i64 0), .one (.i .i64 0), .one (.sl 0 none 0 0)]] := ⟨by kernel_rfl⟩
instance ta282 : TyA Tryz.prog 282 true 106 (.agg [.hash hz, .hash hz, .one (.i .i64 0), .one (.i .i64 0), .hash hz, .one (.i .u64 0), .one (.sl 0 none 0 0), .one (.i .i64 0), .one (.sl 0 none 0 0), .one (.sl 0 none 0 0), .one (.i .i64 0), .one (.i .i64 0), .one (.sl 0 none 0 0)]) 240 := ⟨⟨by kernel_rfl, by kernel_rfl⟩, rfl, rfl⟩
instance noi282 : NoI Tryz.prog 282 := ⟨by kernel_rfl⟩
instance fa282_0 : FA Tryz.prog 282 0 0 := ⟨by kernel_rfl⟩
instance ft282_0 : FT Tryz.prog 282 0 50 0 := ⟨by kernel_rfl⟩
instance fa282_1 : FA Tryz.prog 282 1 32 := ⟨by kernel_rfl⟩
instance ft282_1 : FT Tryz.prog 282 1 264 32 := ⟨by kernel_rfl⟩
instance fa282_2 : FA Tryz.prog 282 2 100 := ⟨by kernel_rfl⟩
instance ft282_2 : FT Tryz.prog 282 2 280 100 := ⟨by kernel_rfl⟩
instance fa282_3 : FA Tryz.prog 282 3 101 := ⟨by kernel_rfl⟩
instance ft282_3 : FT Tryz.prog 282 3 276 101 := ⟨by kernel_rfl⟩
instance pls282 : PLS Tryz.prog 282 [.agg [.hash hz], .agg [.hash hz, .one (.i .i64 0), .one (.i .i64 0), .hash hz, .one (.i .u64 0), .one (.sl 0 none 0 0)], .one (.i .i64 0), .agg [.one (.sl 0 none 0 0), .one (.sl 0 none 0 0), .one (.i .i64 0), .one (.i .i64 0), .one (.sl 0 none 0 0)]] := ⟨by kernel_rfl⟩
instance ta283 : TyA Tryz.prog 283 false 1 (.one (.fnn)) 8 := ⟨⟨by kernel_rfl, by kernel_rfl⟩, rfl, rfl⟩
instance noi283 : NoI Tryz.prog 283 := ⟨by kernel_rfl⟩
instance ta284 : TyA Tryz.prog 284 false 1 (.one (.fnn)) 8 := ⟨⟨by kernel_rfl, by kernel_rfl⟩, rfl, rfl⟩
instance noi284 : NoI Tryz.prog 284 := ⟨by kernel_rfl⟩
instance ta285 : TyA Tryz.prog 285 false 1 (.one (.sl 0 none 0 0)) 24 := ⟨⟨by kernel_rfl, by kernel_rfl⟩, rfl, rfl⟩
instance noi285 : NoI Tryz.prog 285 := ⟨by kernel_rfl⟩
instance ud285 : UD Tryz.prog 285 (.slice 287) := ⟨by kernel_rfl⟩
instance ta286 : TyA Tryz.prog 286 true 182 (.agg [.one (.i .i64 0), .one (.i .i64 0), .one (.i .i64 0), .one (.i .i64 0), .one (.i .i64 0), .one (.i .i64 0), .one (.i .i64 0), .one (.i .i64 0), .one (.i .i64 0), .one (.i .i64 0), .one (.i .i64 0), .one (.i .i64 0), .hash hz, .one (.sl 0 none 0 0), .one (.sl 0 none 0 0), .hash hz, .one (.i .i64 0), .one (.i .i64 0), .hash hz, .one (.i .u64 0), .hash hz, .hash hz, .one (.i .i64 0), .one (.i .i64 0), .one (.sl 0 none 0 0), .one (.sl 0 none 0 0), .one (.i .i64 0)]) 400 := ⟨⟨by kernel_rfl, by kernel_rfl⟩, rfl, rfl⟩
instance noi286 : NoI Tryz.prog 286 := ⟨by kernel_rfl⟩
instance fa286_0 : FA Tryz.prog 286 0 0 := ⟨by kernel_rfl⟩
instance ft286_0 : FT Tryz.prog 286 0 269 0 := ⟨by kernel_rfl⟩
instance fa286_1 : FA Tryz.prog 286 1 12 := ⟨by kernel_rfl⟩
instance ft286_1 : FT Tryz.prog 286 1 50 12 := ⟨by kernel_rfl⟩
instance fa286_2 : FA Tryz.prog 286 2 44 := ⟨by kernel_rfl⟩
instance ft286_2 : FT Tryz.prog 286 2 221 44 := ⟨by kernel_rfl⟩
instance fa286_3 : FA Tryz.prog 286 3 45 := ⟨by kernel_rfl⟩
instance ft286_3 : FT Tryz.prog 286 3 279 45 := ⟨by kernel_rfl⟩
instance fa286_4 : FA Tryz.prog 286 4 46 := ⟨by kernel_rfl⟩
instance ft286_4 : FT Tryz.prog 286 4 262 46 := ⟨by kernel_rfl⟩
instance fa286_5 : FA Tryz.prog 286 5 113 := ⟨by kernel_rfl⟩
instance ft286_5 : FT Tryz.prog 286 5 50 113 := ⟨by kernel_rfl⟩
instance fa286_6 : FA Tryz.prog 286 6 145 := ⟨by kernel_rfl⟩
instance ft286_6 : FT Tryz.prog 286 6 50 145 := ⟨by kernel_rfl⟩
instance fa286_7 : FA Tryz.prog 286 7 177 := ⟨by kernel_rfl⟩
instance ft286_7 : FT Tryz.prog 286 7 2 177 := ⟨by kernel_rfl⟩
instance fa286_8 : FA Tryz.prog 286 8 178 := ⟨by kernel_rfl⟩
instance ft286_8 : FT Tryz.prog 286 8 2 178 := ⟨by kernel_rfl⟩
instance fa286_9 : FA Tryz.prog 286 9 179 := ⟨by kernel_rfl⟩
instance ft286_9 : FT Tryz.prog 286 9 36 179 := ⟨by kernel_rfl⟩
instance fa286_10 : FA Tryz.prog 286 10 180 := ⟨by kernel_rfl⟩
instance ft286_10 : FT Tryz.prog 286 10 255 180 := ⟨by kernel_rfl⟩
instance fa286_11 : FA Tryz.prog 286 11 181 := ⟨by kernel_rfl⟩
instance ft286_11 : FT Tryz.prog 286 11 2 181 := ⟨by kernel_rfl⟩
instance pls286 : PLS Tryz.prog 286 [.agg [.one (.i .i64 0), .one (.i .i64 0), .one (.i .i64 0), .one (.i .i64 0), .one (.i .i64 0), .one (.i .i64 0), .one (.i .i64 0), .one (.i .i64 0), .one (.i .i64 0), .one (.i .i64 0), .one (.i .i64 0), .one (.i .i64 0)], .agg [.hash hz], .one (.sl 0 none 0 0), .one (.sl 0 none 0 0), .agg [.hash hz, .one (.i .i64 0), .one (.i .i64 0), .hash hz, .one (.i .u64 0)], .agg [.hash hz], .agg [.hash hz], .one (.i .i64 0), .one (.i .i64 0), .one (.sl 0 none 0 0), .one (.sl 0 none 0 0), .one (.i .i64 0)] := ⟨by kernel_rfl⟩
instance ta287 : TyA Tryz.prog 287 true 182 (.agg [.one (.i .i64 0), .one (.i .i64 0), .one (.i .i64 0), .one (.i .i64 0), .one (.i .i64 0), .one (.i .i64 0), .one (.i .i64 0), .one (.i .i64 0), .one (.i .i64 0), .one (.i .i64 0), .one (.i .i64 0), .one (.i .i64 0), .hash hz, .one (.sl 0 none 0 0), .one (.sl 0 none 0 0), .hash hz, .one (.i .i64 0), .one (.i .i64 0), .hash hz, .one (.i .u64 0), .hash hz, .hash hz, .one (.i .i64 0), .one (.i .i64 0), .one (.sl 0 none 0 0), .one (.sl 0 none 0 0), .one (.i .i64 0)]) 400 := ⟨⟨by kernel_rfl, by kernel_rfl⟩, rfl, rfl⟩
instance noi287 : NoI Tryz.prog 287 := ⟨by kernel_rfl⟩
instance fa287_0 : FA Tryz.prog 287 0 0 := ⟨by kernel_rfl⟩
instance ft287_0 : FT Tryz.prog 287 0 269 0 := ⟨by kernel_rfl⟩
instance fa287_1 : FA Tryz.prog 287 1 12 := ⟨by kernel_rfl⟩
instance ft287_1 : FT Tryz.prog 287 1 50 12 := ⟨by kernel_rfl⟩
instance fa287_2 : FA Tryz.prog 287 2 44 := ⟨by kernel_rfl⟩
instance ft287_2 : FT Tryz.prog 287 2 221 44 := ⟨by kernel_rfl⟩
instance fa287_3 : FA Tryz.prog 287 3 45 := ⟨by kernel_rfl⟩
instance ft287_3 : FT Tryz.prog 287 3 279 45 := ⟨by kernel_rfl⟩
instance fa287_4 : FA Tryz.prog 287 4 46 := ⟨by kernel_rfl⟩
instance ft287_4 : FT Tryz.prog 287 4 262 46 := ⟨by kernel_rfl⟩
instance fa287_5 : FA Tryz.prog 287 5 113 := ⟨by kernel_rfl⟩
instance ft287_5 : FT Tryz.prog 287 5 50 113 := ⟨by kernel_rfl⟩
instance fa287_6 : FA Tryz.prog 287 6 145 := ⟨by kernel_rfl⟩
instance ft287_6 : FT Tryz.prog 287 6 50 145 := ⟨by kernel_rfl⟩
instance fa287_7 : FA Tryz.prog 287 7 177 := ⟨by kernel_rfl⟩
instance ft287_7 : FT Tryz.prog 287 7 2 177 := ⟨by kernel_rfl⟩
instance fa287_8 : FA Tryz.prog 287 8 178 := ⟨by kernel_rfl⟩
instance ft287_8 : FT Tryz.prog 287 8 2 178 := ⟨by kernel_rfl⟩
instance fa287_9 : FA Tryz.prog 287 9 179 := ⟨by kernel_rfl⟩
instance ft287_9 : FT Tryz.prog 287 9 36 179 := ⟨by kernel_rfl⟩
instance fa287_10 : FA Tryz.prog 287 10 180 := ⟨by kernel_rfl⟩
instance ft287_10 : FT Tryz.prog 287 10 255 180 := ⟨by kernel_rfl⟩
instance fa287_11 : FA Tryz.prog 287 11 181 := ⟨by kernel_rfl⟩
instance ft287_11 : FT Tryz.prog 287 11 2 181 := ⟨by kernel_rfl⟩
instance pls287 : PLS Tryz.prog 287 [.agg [.one (.i .i64 0), .one (.i .i64 0), .one (.i .i64 0), .one (.i .i64 0), .one (.i .i64 0), .one (.i .i64 0), .one (.i .i64 0), .one (.i .i64 0), .one (.i .i64 0), .one (.i .i64 0), .one (.i .i64 0), .one (.i .i64 0)], .agg [.hash hz], .one (.sl 0 none 0 0), .one (.sl 0 none 0 0), .agg [.hash hz, .one (.i .i64 0), .one (.i .i64 0), .hash hz, .one (.i .u64 0)], .agg [.hash hz], .agg [.hash hz], .one (.i .i64 0), .one (.i .i64 0), .one (.sl 0 none 0 0), .one (.sl 0 none 0 0), .one (.i .i64 0)] := ⟨by kernel_rfl⟩
instance ta288 : TyA Tryz.prog 288 false 1 (.one (.fnn)) 8 := ⟨⟨by kernel_rfl, by kernel_rfl⟩, rfl, rfl⟩
instance noi288 : NoI Tryz.prog 288 := ⟨by kernel_rfl⟩
instance ta289 : TyA Tryz.prog 289 false 1 (.one (.fnn)) 8 := ⟨⟨by kernel_rfl, by kernel_rfl⟩, rfl, rfl⟩
instance noi289 : NoI Tryz.prog 289 := ⟨by kernel_rfl⟩
instance ta290 : TyA Tryz.prog 290 false 1 (.one (.sl 0 none 0 0)) 24 := ⟨⟨by kernel_rfl, by kernel_rfl⟩, rfl, rfl⟩
instance noi290 : NoI Tryz.prog 290 := ⟨by kernel_rfl⟩
instance ud290 : UD Tryz.prog 290 (.slice 293) := ⟨by kernel_rfl⟩
instance ta291 : TyA Tryz.prog 291 false 1 (.one (.i .i64 0)) 8 := ⟨⟨by kernel_rfl, by kernel_rfl⟩, rfl, rfl⟩
instance noi291 : NoI Tryz.prog 291 := ⟨by kernel_rfl⟩
instance ud291 : UD Tryz.prog 291 (.int .i64) := ⟨by kernel_rfl⟩
instance ta292 : TyA Tryz.prog 292 true 3 (.agg [.one (.i .i64 0), .one (.sl 0 none 0 0), .one (.i .i64 0)]) 40 := ⟨⟨by kernel_rfl, by kernel_rfl⟩, rfl, rfl⟩
instance noi292 : NoI Tryz.prog 292 := ⟨by kernel_rfl⟩
instance fa292_0 : FA Tryz.prog 292 0 0 := ⟨by kernel_rfl⟩
instance ft292_0 : FT Tryz.prog 292 0 291 0 := ⟨by kernel_rfl⟩
instance fa292_1 : FA Tryz.prog 292 1 1 := ⟨by kernel_rfl⟩
instance ft292_1 : FT Tryz.prog 292 1 186 1 := ⟨by kernel_rfl⟩
instance fa292_2 : FA Tryz.prog 292 2 2 := ⟨by kernel_rfl⟩
instance ft292_2 : FT Tryz.prog 292 2 2 2 := ⟨by kernel_rfl⟩
instance pls292 : PLS Tryz.prog 292 [.one (.i .i64 0), .one (.sl 0 none 0 0), .one (.i .i64 0)] := ⟨by kernel_rfl⟩
instance ta293 : TyA Tryz.prog 293 true 3 (.agg [.one (.i .i64 0), .one (.sl 0 none 0 0), .one (.i .i64 0)]) 40 := ⟨⟨by kernel_rfl, by kernel_rfl⟩, rfl, rfl⟩
instance noi293 : NoI Tryz.prog 293 := ⟨by kernel_rfl⟩
instance fa293_0 : FA Tryz.prog 293 0 0 := ⟨by kernel_rfl⟩
instance ft293_0 : FT Tryz.prog 293 0 291 0 := ⟨by kernel_rfl⟩
instance fa293_1 : FA Tryz.prog 293 1 1 := ⟨by kernel_rfl⟩
instance ft293_1 : FT Tryz.prog 293 1 186 1 := ⟨by kernel_rfl⟩
instance fa293_2 : FA Tryz.prog 293 2 2 := ⟨by kernel_rfl⟩
instance ft293_2 : FT Tryz.prog 293 2 2 2 := ⟨by kernel_rfl⟩
instance pls293 : PLS Tryz.prog 293 [.one (.i .i64 0), .one (.sl 0 none 0 0), .one (.i .i64 0)] := ⟨by kernel_rfl⟩
instance ta294 : TyA Tryz.prog 294 false 1 (.one (.fnn)) 8 := ⟨⟨by kernel_rfl, by kernel_rfl⟩, rfl, rfl⟩
instance noi294 : NoI Tryz.prog 294 := ⟨by kernel_rfl⟩
instance ta295 : TyA Tryz.prog 295 false 1 (.one (.fnn)) 8 := ⟨⟨by kernel_rfl, by kernel_rfl⟩, rfl, rfl⟩
instance noi295 : NoI Tryz.prog 295 := ⟨by kernel_rfl⟩
instance ta296 : TyA Tryz.prog 296 false 1 (.one (.sl 0 none 0 0)) 24 := ⟨⟨by kernel_rfl, by kernel_rfl⟩, rfl, rfl⟩
instance noi296 : NoI Tryz.prog 296 := ⟨by kernel_rfl⟩
instance ud296 : UD Tryz.prog 296 (.slice 300) := ⟨by kernel_rfl⟩
instance ta297 : TyA Tryz.prog 297 false 1 (.one (.i .i64 0)) 8 := ⟨⟨by kernel_rfl, by kernel_rfl⟩, rfl, rfl⟩
instance noi297 : NoI Tryz.prog 297 := ⟨by kernel_rfl⟩
instance ud297 : UD Tryz.prog 297 (.int .i64) := ⟨by kernel_rfl⟩
instance ta298 : TyA Tryz.prog 298 false 1 (.one (.i .i64 0)) 8 := ⟨⟨by kernel_rfl, by kernel_rfl⟩, rfl, rfl⟩
instance noi298 : NoI Tryz.prog 298 := ⟨by kernel_rfl⟩
instance ud298 : UD Tryz.prog 298 (.int .i64) := ⟨by kernel_rfl⟩
instance ta299 : TyA Tryz.prog 299 true 3 (.agg [.one (.i .i64 0), .one (.i .i64 0), .one (.i .i64 0)]) 24 := ⟨⟨by kernel_rfl, by kernel_rfl⟩, rfl, rfl⟩
instance noi299 : NoI Tryz.prog 299 := ⟨by kernel_rfl⟩
instance fa299_0 : FA Tryz.prog 299 0 0 := ⟨by kernel_rfl⟩
instance ft299_0 : FT Tryz.prog 299 0 297 0 := ⟨by kernel_rfl⟩
instance fa299_1 : FA Tryz.prog 299 1 1 := ⟨by kernel_rfl⟩
instance ft299_1 : FT Tryz.prog 299 1 298 1 := ⟨by kernel_rfl⟩
instance fa299_2 : FA Tryz.prog 299 2 2 := ⟨by kernel_rfl⟩
instance ft299_2 : FT Tryz.prog 299 2 280 2 := ⟨by kernel_rfl⟩
instance pls299 : PLS Tryz.prog 299 [.one (.i .i64 0), .one (.i .i64 0), .one (.i .i64 0)] := ⟨by kernel_rfl⟩
instance ta300 : TyA Tryz.prog 300 true 3 (.agg [.one (.i .i64 0), .one (.i .i64 0), .one (.i .i64 0)]) 24 := ⟨⟨by kernel_rfl, by kernel_rfl⟩, rfl, rfl⟩
instance noi300 : NoI Tryz.prog 300 := ⟨by kernel_rfl⟩
instance fa300_0 : FA Tryz.prog 300 0 0 := ⟨by kernel_rfl⟩
instance ft300_0 : FT Tryz.prog 300 0 297 0 := ⟨by kernel_rfl⟩
instance fa300_1 : FA Tryz.prog 300 1 1 := ⟨by kernel_rfl⟩
instance ft300_1 : FT Tryz.prog 300 1 298 1 := ⟨by kernel_rfl⟩
instance fa300_2 : FA Tryz.prog 300 2 2 := ⟨by kernel_rfl⟩
instance ft300_2 : FT Tryz.prog 300 2 280 2 := ⟨by kernel_rfl⟩
instance pls300 : PLS Tryz.prog 300 [.one (.i .i64 0), .one (.i .i64 0), .one (.i .i64 0)] := ⟨by kernel_rfl⟩
instance ta301 : TyA Tryz.prog 301 false 1 (.one (.fnn)) 8 := ⟨⟨by kernel_rfl, by kernel_rfl⟩, rfl, rfl⟩
instance noi301 : NoI Tryz.prog 301 := ⟨by kernel_rfl⟩
instance ta302 : TyA Tryz.prog 302 false 1 (.one (.fnn)) 8 := ⟨⟨by kernel_rfl, by kernel_rfl⟩, rfl, rfl⟩
instance noi302 : NoI Tryz.prog 302 := ⟨by kernel_rfl⟩
instance ta303 : TyA Tryz.prog 303 false 1 (.one (.fnn)) 8 := ⟨⟨by kernel_rfl, by kernel_rfl⟩, rfl, rfl⟩
instance noi303 : NoI Tryz.prog 303 := ⟨by kernel_rfl⟩
instance ta304 : TyA Tryz.prog 304 false 1 (.one (.i .i64 0)) 8 := ⟨⟨by kernel_rfl, by kernel_rfl⟩, rfl, rfl⟩
instance noi304 : NoI Tryz.prog 304 := ⟨by kernel_rfl⟩
instance ud304 : UD Tryz.prog 304 (.int .i64) := ⟨by kernel_rfl⟩
instance ta306 : TyA Tryz.prog 306 false 1 (.one (.fnn)) 8 := ⟨⟨by kernel_rfl, by kernel_rfl⟩, rfl, rfl⟩
instance noi306 : NoI Tryz.prog 306 := ⟨by kernel_rfl⟩
instance ta307 : TyA Tryz.prog 307 false 1 (.one (.fnn)) 8 := ⟨⟨by kernel_rfl, by kernel_rfl⟩, rfl, rfl⟩
instance noi307 : NoI Tryz.prog 307 := ⟨by kernel_rfl⟩
instance ta308 : TyA Tryz.prog 308 false 1 (.one (.fnn)) 8 := ⟨⟨by kernel_rfl, by kernel_rfl⟩, rfl, rfl⟩
instance noi308 : NoI Tryz.prog 308 := ⟨by kernel_rfl⟩
instance ta310 : TyA Tryz.prog 310 false 1 (.one (.fnn)) 8 := ⟨⟨by kernel_rfl, by kernel_rfl⟩, rfl, rfl⟩
instance noi310 : NoI Tryz.prog 310 := ⟨by kernel_rfl⟩
instance ta311 : TyA Tryz.prog 311 false 1 (.one (.fnn)) 8 := ⟨⟨by kernel_rfl, by kernel_rfl⟩, rfl, rfl⟩
instance noi311 : NoI Tryz.prog 311 := ⟨by kernel_rfl⟩
instance ta312 : TyA Tryz.prog 312 false 1 (.one (.fnn)) 8 := ⟨⟨by kernel_rfl, by kernel_rfl⟩, rfl, rfl⟩
instance noi312 : NoI Tryz.prog 312 := ⟨by kernel_rfl⟩
instance ta313 : TyA Tryz.prog 313 false 1 (.one (.fnn)) 8 := ⟨⟨by kernel_rfl, by kernel_rfl⟩, rfl, rfl⟩
instance noi313 : NoI Tryz.prog 313 := ⟨by kernel_rfl⟩
instance ta314 : TyA Tryz.prog 314 false 1 (.one (.fnn)) 8 := ⟨⟨by kernel_rfl, by kernel_rfl⟩, rfl, rfl⟩
instance noi314 : NoI Tryz.prog 314 := ⟨by kernel_rfl⟩
instance ta315 : TyA Tryz.prog 315 false 1 (.one (.fnn)) 8 := ⟨⟨by kernel_rfl, by kernel_rfl⟩, rfl, rfl⟩
instance noi315 : NoI Tryz.prog 315 := ⟨by kernel_rfl⟩
instance ta316 : TyA Tryz.prog 316 false 1 (.one (.fnn)) 8 := ⟨⟨by kernel_rfl, by kernel_rfl⟩, rfl, rfl⟩
instance noi316 : NoI Tryz.prog 316 := ⟨by kernel_rfl⟩
instance ta317 : TyA Tryz.prog 317 false 1 (.one (.fnn)) 8 := ⟨⟨by kernel_rfl, by kernel_rfl⟩, rfl, rfl⟩
instance noi317 : NoI Tryz.prog 317 := ⟨by kernel_rfl⟩
instance ta318 : TyA Tryz.prog 318 false 1 (.one (.fnn)) 8 := ⟨⟨by kernel_rfl, by kernel_rfl⟩, rfl, rfl⟩
instance noi318 : NoI Tryz.prog 318 := ⟨by kernel_rfl⟩
instance ta319 : TyA Tryz.prog 319 false 1 (.one (.fnn)) 8 := ⟨⟨by kernel_rfl, by kernel_rfl⟩, rfl, rfl⟩
instance noi319 : NoI Tryz.prog 319 := ⟨by kernel_rfl⟩
instance ta320 : TyA Tryz.prog 320 false 1 (.one (.fnn)) 8 := ⟨⟨by kernel_rfl, by kernel_rfl⟩, rfl, rfl⟩
instance noi320 : NoI Tryz.prog 320 := ⟨by kernel_rfl⟩
instance ta321 : TyA Tryz.prog 321 false 1 (.one (.fnn)) 8 := ⟨⟨by kernel_rfl, by kernel_rfl⟩, rfl, rfl⟩
instance noi321 : NoI Tryz.prog 321 := ⟨by kernel_rfl⟩
instance ta322 : TyA Tryz.prog 322 false 1 (.one (.fnn)) 8 := ⟨⟨by kernel_rfl, by kernel_rfl⟩, rfl, rfl⟩
instance noi322 : NoI Tryz.prog 322 := ⟨by kernel_rfl⟩
instance ta323 : TyA Tryz.prog 323 false 1 (.one (.fnn)) 8 := ⟨⟨by kernel_rfl, by kernel_rfl⟩, rfl, rfl⟩
instance noi323 : NoI Tryz.prog 323 := ⟨by kernel_rfl⟩
instance ta324 : TyA Tryz.prog 324 false 1 (.one (.fnn)) 8 := ⟨⟨by kernel_rfl, by kernel_rfl⟩, rfl, rfl⟩
instance noi324 : NoI Tryz.prog 324 := ⟨by kernel_rfl⟩
instance ta325 : TyA Tryz.prog 325 false 1 (.one (.fnn)) 8 := ⟨⟨by kernel_rfl, by kernel_rfl⟩, rfl, rfl⟩
instance noi325 : NoI Tryz.prog 325 := ⟨by kernel_rfl⟩
instance ta326 : TyA Tryz.prog 326 false 1 (.one (.fnn)) 8 := ⟨⟨by kernel_rfl, by kernel_rfl⟩, rfl, rfl⟩
instance noi326 : NoI Tryz.prog 326 := ⟨by kernel_rfl⟩
instance ta327 : TyA Tryz.prog 327 false 1 (.one (.fnn)) 8 := ⟨⟨by kernel_rfl, by kernel_rfl⟩, rfl, rfl⟩
instance noi327 : NoI Tryz.prog 327 := ⟨by kernel_rfl⟩
instance ta328 : TyA Tryz.prog 328 false 1 (.one (.fnn)) 8 := ⟨⟨by kernel_rfl, by kernel_rfl⟩, rfl, rfl⟩
instance noi328 : NoI Tryz.prog 328 := ⟨by kernel_rfl⟩
instance ta329 : TyA Tryz.prog 329 false 1 (.one (.fnn)) 8 := ⟨⟨by kernel_rfl, by kernel_rfl⟩, rfl, rfl⟩
instance noi329 : NoI Tryz.prog 329 := ⟨by kernel_rfl⟩
instance ta330 : TyA Tryz.prog 330 false 1 (.one (.fnn)) 8 := ⟨⟨by kernel_rfl, by kernel_rfl⟩, rfl, rfl⟩
instance noi330 : NoI Tryz.prog 330 := ⟨by kernel_rfl⟩
instance ta331 : TyA Tryz.prog 331 false 1 (.one (.i .u64 0)) 8 := ⟨⟨by kernel_rfl, by kernel_rfl⟩, rfl, rfl⟩
instance noi331 : NoI Tryz.prog 331 := ⟨by kernel_rfl⟩
instance ud331 : UD Tryz.prog 331 (.int .u64) := ⟨by kernel_rfl⟩
instance ta332 : TyA Tryz.prog 332 false 1 (.one (.fnn)) 8 := ⟨⟨by kernel_rfl, by kernel_rfl⟩, rfl, rfl⟩
instance noi332 : NoI Tryz.prog 332 := ⟨by kernel_rfl⟩
instance ta333 : TyA Tryz.prog 333 false 1 (.one (.fnn)) 8 := ⟨⟨by kernel_rfl, by kernel_rfl⟩, rfl, rfl⟩
instance noi333 : NoI Tryz.prog 333 := ⟨by kernel_rfl⟩
instance ta334 : TyA Tryz.prog 334 false 1 (.one (.fnn)) 8 := ⟨⟨by kernel_rfl, by kernel_rfl⟩, rfl, rfl⟩
instance noi334 : NoI Tryz.prog 334 := ⟨by kernel_rfl⟩
instance ta335 : TyA Tryz.prog 335 false 1 (.one (.pn)) 8 := ⟨⟨by kernel_rfl, by kernel_rfl⟩, rfl, rfl⟩
instance noi335 : NoI Tryz.prog 335 := ⟨by kernel_rfl⟩
instance ud335 : UD Tryz.prog 335 (.pointer 3) := ⟨by kernel_rfl⟩
instance ta336 : TyA Tryz.prog 336 false 1 (.one (.fnn)) 8 := ⟨⟨by kernel_rfl, by kernel_rfl⟩, rfl, rfl⟩
instance noi336 : NoI Tryz.prog 336 := ⟨by kernel_rfl⟩
instance ta337 : TyA Tryz.prog 337 false 1 (.one (.fnn)) 8 := ⟨⟨by kernel_rfl, by kernel_rfl⟩, rfl, rfl⟩
instance noi337 : NoI Tryz.prog 337 := ⟨by kernel_rfl⟩
instance ta338 : TyA Tryz.prog 338 false 1 (.one (.fnn)) 8 := ⟨⟨by kernel_rfl, by kernel_rfl⟩, rfl, rfl⟩
instance noi338 : NoI Tryz.prog 338 := ⟨by kernel_rfl⟩
instance ta339 : TyA Tryz.prog 339 false 1 (.one (.pn)) 8 := ⟨⟨by kernel_rfl, by kernel_rfl⟩, rfl, rfl⟩
instance noi339 : NoI Tryz.prog 339 := ⟨by kernel_rfl⟩
instance ud339 : UD Tryz.prog 339 (.pointer 331) := ⟨by kernel_rfl⟩
instance ta341 : TyA Tryz.prog 341 false 1 (.one (.fnn)) 8 := ⟨⟨by kernel_rfl, by kernel_rfl⟩, rfl, rfl⟩
instance noi341 : NoI Tryz.prog 341 := ⟨by kernel_rfl⟩
instance ta342 : TyA Tryz.prog 342 false 1 (.one (.fnn)) 8 := ⟨⟨by kernel_rfl, by kernel_rfl⟩, rfl, rfl⟩
instance noi342 : NoI Tryz.prog 342 := ⟨by kernel_rfl⟩
instance ta343 : TyA Tryz.prog 343 false 1 (.one (.fnn)) 8 := ⟨⟨by kernel_rfl, by kernel_rfl⟩, rfl, rfl⟩
instance noi343 : NoI Tryz.prog 343 := ⟨by kernel_rfl⟩
instance ta344 : TyA Tryz.prog 344 true 4 (.agg [.one (.pn), .one (.pn), .one (.pn), .one (.s ⟨#[]⟩)]) 40 := ⟨⟨by kernel_rfl, by kernel_rfl⟩, rfl, rfl⟩
instance noi344 : NoI Tryz.prog 344 := ⟨by kernel_rfl⟩
instance fa344_0 : FA Tryz.prog 344 0 0 := ⟨by kernel_rfl⟩
instance ft344_0 : FT Tryz.prog 344 0 17 0 := ⟨by kernel_rfl⟩
instance fa344_1 : FA Tryz.prog 344 1 1 := ⟨by kernel_rfl⟩
instance ft344_1 : FT Tryz.prog 344 1 17 1 := ⟨by kernel_rfl⟩
instance fa344_2 : FA Tryz.prog 344 2 2 := ⟨by kernel_rfl⟩
instance ft344_2 : FT Tryz.prog 344 2 17 2 := ⟨by kernel_rfl⟩
instance fa344_3 : FA Tryz.prog 344 3 3 := ⟨by kernel_rfl⟩
instance ft344_3 : FT Tryz.prog 344 3 9 3 := ⟨by kernel_rfl⟩
instance pls344 : PLS Tryz.prog 344 [.one (.pn), .one (.pn), .one (.pn), .one (.s ⟨#[]⟩)] := ⟨by kernel_rfl⟩
instance ta345 : TyA Tryz.prog 345 true 4 (.agg [.one (.pn), .one (.pn), .one (.pn), .one (.s ⟨#[]⟩)]) 40 := ⟨⟨by kernel_rfl, by kernel_rfl⟩, rfl, rfl⟩
instance noi345 : NoI Tryz.prog 345 := ⟨by kernel_rfl⟩
instance fa345_0 : FA Tryz.prog 345 0 0 := ⟨by kernel_rfl⟩
instance ft345_0 : FT Tryz.prog 345 0 17 0 := ⟨by kernel_rfl⟩
instance fa345_1 : FA Tryz.prog 345 1 1 := ⟨by kernel_rfl⟩
instance ft345_1 : FT Tryz.prog 345 1 17 1 := ⟨by kernel_rfl⟩
instance fa345_2 : FA Tryz.prog 345 2 2 := ⟨by kernel_rfl⟩
instance ft345_2 : FT Tryz.prog 345 2 17 2 := ⟨by kernel_rfl⟩
instance fa345_3 : FA Tryz.prog 345 3 3 := ⟨by kernel_rfl⟩
instance ft345_3 : FT Tryz.prog 345 3 9 3 := ⟨by kernel_rfl⟩
instance pls345 : PLS Tryz.prog 345 [.one (.pn), .one (.pn), .one (.pn), .one (.s ⟨#[]⟩)] := ⟨by kernel_rfl⟩
instance noi346 : NoI Tryz.prog 346 := ⟨by kernel_rfl⟩
instance ud346 : UD Tryz.prog 346 (.array 0 16) := ⟨by kernel_rfl⟩
instance ta347 : TyA Tryz.prog 347 true 0 (.agg []) 0 := ⟨⟨by kernel_rfl, by kernel_rfl⟩, rfl, rfl⟩
instance noi347 : NoI Tryz.prog 347 := ⟨by kernel_rfl⟩
instance pls347 : PLS Tryz.prog 347 [.agg []] := ⟨by kernel_rfl⟩
instance ta348 : TyA Tryz.prog 348 true 0 (.agg []) 0 := ⟨⟨by kernel_rfl, by kernel_rfl⟩, rfl, rfl⟩
instance noi348 : NoI Tryz.prog 348 := ⟨by kernel_rfl⟩
instance pls348 : PLS Tryz.prog 348 [.agg []] := ⟨by kernel_rfl⟩
instance ta349 : TyA Tryz.prog 349 false 1 (.one (.fnn)) 8 := ⟨⟨by kernel_rfl, by kernel_rfl⟩, rfl, rfl⟩
instance noi349 : NoI Tryz.prog 349 := ⟨by kernel_rfl⟩
instance ta350 : TyA Tryz.prog 350 false 1 (.one (.i .u8 0)) 1 := ⟨⟨by kernel_rfl, by kernel_rfl⟩, rfl, rfl⟩
instance noi350 : NoI Tryz.prog 350 := ⟨by kernel_rfl⟩
instance ud350 : UD Tryz.prog 350 (.int .u8) := ⟨by kernel_rfl⟩
instance ta351 : TyA Tryz.prog 351 false 1 (.one (.i .u8 0)) 1 := ⟨⟨by kernel_rfl, by kernel_rfl⟩, rfl, rfl⟩
instance noi351 : NoI Tryz.prog 351 := ⟨by kernel_rfl⟩
instance ud351 : UD Tryz.prog 351 (.int .u8) := ⟨by kernel_rfl⟩
instance ta352 : TyA Tryz.prog 352 false 1 (.one (.fnn)) 8 := ⟨⟨by kernel_rfl, by kernel_rfl⟩, rfl, rfl⟩
instance noi352 : NoI Tryz.prog 352 := ⟨by kernel_rfl⟩
instance ta353 : TyA Tryz.prog 353 false 1 (.one (.pn)) 8 := ⟨⟨by kernel_rfl, by kernel_rfl⟩, rfl, rfl⟩
instance noi353 : NoI Tryz.prog 353 := ⟨by kernel_rfl⟩
instance ud353 : UD Tryz.prog 353 (.pointer 5) := ⟨by kernel_rfl⟩
instance ta354 : TyA Tryz.prog 354 false 1 (.one (.i .i32 0)) 4 := ⟨⟨by kernel_rfl, by kernel_rfl⟩, rfl, rfl⟩
instance noi354 : NoI Tryz.prog 354 := ⟨by kernel_rfl⟩
instance ud354 : UD Tryz.prog 354 (.int .i32) := ⟨by kernel_rfl⟩
instance ta355 : TyA Tryz.prog 355 false 1 (.one (.i .i32 0)) 4 := ⟨⟨by kernel_rfl, by kernel_rfl⟩, rfl, rfl⟩
instance noi355 : NoI Tryz.prog 355 := ⟨by kernel_rfl⟩
instance ud355 : UD Tryz.prog 355 (.int .i32) := ⟨by kernel_rfl⟩
instance ta356 : TyA Tryz.prog 356 true 11 (.agg [.one (.i .u64 0), .one (.i .u64 0), .one (.i .u32 0), .one (.i .u8 0), .one (.i .u8 0), .one (.i .u8 0), .one (.i .u8 0), .one (.fnn), .one (.pn), .one (.i .i32 0), .one (.i .i32 0)]) 48 := ⟨⟨by kernel_rfl, by kernel_rfl⟩, rfl, rfl⟩
instance noi356 : NoI Tryz.prog 356 := ⟨by kernel_rfl⟩
instance fa356_0 : FA Tryz.prog 356 0 0 := ⟨by kernel_rfl⟩
instance ft356_0 : FT Tryz.prog 356 0 12 0 := ⟨by kernel_rfl⟩
instance fa356_1 : FA Tryz.prog 356 1 1 := ⟨by kernel_rfl⟩
instance ft356_1 : FT Tryz.prog 356 1 12 1 := ⟨by kernel_rfl⟩
instance fa356_2 : FA Tryz.prog 356 2 2 := ⟨by kernel_rfl⟩
instance ft356_2 : FT Tryz.prog 356 2 193 2 := ⟨by kernel_rfl⟩
instance fa356_3 : FA Tryz.prog 356 3 3 := ⟨by kernel_rfl⟩
instance ft356_3 : FT Tryz.prog 356 3 350 3 := ⟨by kernel_rfl⟩
instance fa356_4 : FA Tryz.prog 356 4 4 := ⟨by kernel_rfl⟩
instance ft356_4 : FT Tryz.prog 356 4 5 4 := ⟨by kernel_rfl⟩
instance fa356_5 : FA Tryz.prog 356 5 5 := ⟨by kernel_rfl⟩
instance ft356_5 : FT Tryz.prog 356 5 5 5 := ⟨by kernel_rfl⟩
instance fa356_6 : FA Tryz.prog 356 6 6 := ⟨by kernel_rfl⟩
instance ft356_6 : FT Tryz.prog 356 6 351 6 := ⟨by kernel_rfl⟩
instance fa356_7 : FA Tryz.prog 356 7 7 := ⟨by kernel_rfl⟩
instance ft356_7 : FT Tryz.prog 356 7 352 7 := ⟨by kernel_rfl⟩
instance fa356_8 : FA Tryz.prog 356 8 8 := ⟨by kernel_rfl⟩
instance ft356_8 : FT Tryz.prog 356 8 353 8 := ⟨by kernel_rfl⟩
instance fa356_9 : FA Tryz.prog 356 9 9 := ⟨by kernel_rfl⟩
instance ft356_9 : FT Tryz.prog 356 9 354 9 := ⟨by kernel_rfl⟩
instance fa356_10 : FA Tryz.prog 356 10 10 := ⟨by kernel_rfl⟩
instance ft356_10 : FT Tryz.prog 356 10 355 10 := ⟨by kernel_rfl⟩
instance pls356 : PLS Tryz.prog 356 [.one (.i .u64 0), .one (.i .u64 0), .one (.i .u32 0), .one (.i .u8 0), .one (.i .u8 0), .one (.i .u8 0), .one (.i .u8 0), .one (.fnn), .one (.pn), .one (.i .i32 0), .one (.i .i32 0)] := ⟨by kernel_rfl⟩
instance ta357 : TyA Tryz.prog 357 true 11 (.agg [.one (.i .u64 0), .one (.i .u64 0), .one (.i .u32 0), .one (.i .u8 0), .one (.i .u8 0), .one (.i .u8 0), .one (.i .u8 0), .one (.fnn), .one (.pn), .one (.i .i32 0), .one (.i .i32 0)]) 48 := ⟨⟨by kernel_rfl, by kernel_rfl⟩, rfl, rfl⟩
instance noi357 : NoI Tryz.prog 357 := ⟨by kernel_rfl⟩
instance fa357_0 : FA Tryz.prog 357 0 0 := ⟨by kernel_rfl⟩
instance ft357_0 : FT Tryz.prog 357 0 12 0 := ⟨by kernel_rfl⟩
instance fa357_1 : FA Tryz.prog 357 1 1 := ⟨by kernel_rfl⟩
instance ft357_1 : FT Tryz.prog 357 1 12 1 := ⟨by kernel_rfl⟩
instance fa357_2 : FA Tryz.prog 357 2 2 := ⟨by kernel_rfl⟩
instance ft357_2 : FT Tryz.prog 357 2 193 2 := ⟨by kernel_rfl⟩
instance fa357_3 : FA Tryz.prog 357 3 3 := ⟨by kernel_rfl⟩
instance ft357_3 : FT Tryz.prog 357 3 350 3 := ⟨by kernel_rfl⟩
instance fa357_4 : FA Tryz.prog 357 4 4 := ⟨by kernel_rfl⟩
instance ft357_4 : FT Tryz.prog 357 4 5 4 := ⟨by kernel_rfl⟩
instance fa357_5 : FA Tryz.prog 357 5 5 := ⟨by kernel_rfl⟩
instance ft357_5 : FT Tryz.prog 357 5 5 5 := ⟨by kernel_rfl⟩
instance fa357_6 : FA Tryz.prog 357 6 6 := ⟨by kernel_rfl⟩
instance ft357_6 : FT Tryz.prog 357 6 351 6 := ⟨by kernel_rfl⟩
instance fa357_7 : FA Tryz.prog 357 7 7 := ⟨by kernel_rfl⟩
instance ft357_7 : FT Tryz.prog 357 7 352 7 := ⟨by kernel_rfl⟩
instance fa357_8 : FA Tryz.prog 357 8 8 := ⟨by kernel_rfl⟩
instance ft357_8 : FT Tryz.prog 357 8 353 8 := ⟨by kernel_rfl⟩
instance fa357_9 : FA Tryz.prog 357 9 9 := ⟨by kernel_rfl⟩
instance ft357_9 : FT Tryz.prog 357 9 354 9 := ⟨by kernel_rfl⟩
instance fa357_10 : FA Tryz.prog 357 10 10 := ⟨by kernel_rfl⟩
instance ft357_10 : FT Tryz.prog 357 10 355 10 := ⟨by kernel_rfl⟩
instance pls357 : PLS Tryz.prog 357 [.one (.i .u64 0), .one (.i .u64 0), .one (.i .u32 0), .one (.i .u8 0), .one (.i .u8 0), .one (.i .u8 0), .one (.i .u8 0), .one (.fnn), .one (.pn), .one (.i .i32 0), .one (.i .i32 0)] := ⟨by kernel_rfl⟩
def tdV : Bt TD := (.n (.n (.n (.n (.n (.n (.n (.n .l 2 (.int .i64) .l) 3 (.int .i64) .l) 4 (.bool) (.n (.n .l 5 (.int .u8) .l) 6 (.int .u8) .l)) 7 (.st [(2, 0), (3, 1), (4, 2), (6, 3)] [.one (.i .i64 0), .one (.i .i64 0), .one (.b false), .one (.i .u8 0)]) (.n (.n (.n .l 8 (.st [(2, 0), (3, 1), (4, 2), (6, 3)] [.one (.i .i64 0), .one (.i .i64 0), .one (.b false), .one (.i .u8 0)]) .l) 9 (.str) .l) 10 (.str) (.n .l 11 (.str) .l))) 12 (.int .u64) (.n (.n (.n (.n .l 13 (.st [(9, 0), (12, 1)] [.one (.s ⟨#[]⟩), .one (.i .u64 0)]) .l) 14 (.st [(9, 0), (12, 1)] [.one (.s ⟨#[]⟩), .one (.i .u64 0)]) .l) 15 (.ptr 345) (.n (.n .l 16 (.ptr 348) .l) 17 (.ptr 357) .l)) 18 (.st [(17, 0)] [.one (.pn)]) (.n (.n (.n .l 19 (.st [(17, 0)] [.one (.pn)]) .l) 20 (.ifc) .l) 21 (.int .i32) (.n .l 22 (.slice 26) .l)))) 23 (.slice 57) (.n (.n (.n (.n (.n .l 25 (.st [(2, 0), (23, 1)] [.one (.i .i64 0), .one (.sl 0 none 0 0)]) .l) 26 (.st [(2, 0), (23, 1)] [.one (.i .i64 0), .one (.sl 0 none 0 0)]) .l) 33 (.int .u64) (.n (.n .l 34 (.st [(2, 0), (33, 1)] [.one (.i .i64 0), .one (.i .u64 0)]) .l) 35 (.st [(2, 0), (33, 1)] [.one (.i .i64 0), .one (.i .u64 0)]) .l)) 36 (.slice 75) (.n (.n (.n .l 46 (.slice 36) .l) 48 (.slice 22) .l) 49 (.hash 5) (.n .l 50 (.hash 5) .l))) 56 (.st [(50, 0), (9, 32), (2, 33)] [.agg [.hash hz], .one (.s ⟨#[]⟩), .one (.i .i64 0)]) (.n (.n (.n (.n .l 57 (.st [(50, 0), (9, 32), (2, 33)] [.agg [.hash hz], .one (.s ⟨#[]⟩), .one (.i .i64 0)]) .l) 59 (.slice 35) .l) 70 (.slice 2) (.n .l 71 (.slice 9) .l)) 74 (.st [(50, 0), (9, 32), (35, 33)] [.agg [.hash hz], .one (.s ⟨#[]⟩), .agg [.one (.i .i64 0), .one (.i .u64 0)]]) (.n (.n (.n .l 75 (.st [(50, 0), (9, 32), (35, 33)] [.agg [.hash hz], .one (.s ⟨#[]⟩), .agg [.one (.i .i64 0), .one (.i .u64 0)]]) .l) 80 (.ptr 129) .l) 84 (.map 88 35) (.n .l 85 (.map 88 35) .l))))) 87 (.st [(50, 0), (9, 32)] [.agg [.hash hz], .one (.s ⟨#[]⟩)]) (.n (.n (.n (.n (.n (.n .l 88 (.st [(50, 0), (9, 32)] [.agg [.hash hz], .one (.s ⟨#[]⟩)]) .l) 93 (.ptr 122) .l) 94 (.slice 192) (.n (.n .l 95 (.slice 194) .l) 96 (.slice 182) .l)) 97 (.slice 70) (.n (.n (.n .l 98 (.slice 71) .l) 99 (.slice 186) .l) 100 (.slice 196) (.n .l 101 (.slice 197) .l))) 102 (.slice 199) (.n (.n (.n (.n .l 103 (.slice 204) .l) 104 (.slice 23) .l) 105 (.slice 209) (.n (.n .l 106 (.slice 217) .l) 107 (.slice 221) .l)) 108 (.slice 226) (.n (.n (.n .l 109 (.slice 232) .l) 110 (.slice 237) .l) 111 (.slice 245) (.n .l 112 (.slice 250) .l)))) 113 (.slice 255) (.n (.n (.n (.n (.n .l 114 (.slice 260) .l) 115 (.slice 267) .l) 116 (.slice 274) (.n (.n .l 117 (.slice 279) .l) 118 (.slice 285) .l)) 119 (.slice 290) (.n (.n (.n .l 120 (.slice 296) .l) 121 (.st [(94, 0), (95, 1), (96, 2), (97, 3), (98, 4), (99, 5), (100, 6), (101, 7), (102, 8), (103, 9), (104, 10), (48, 11), (105, 12), (106, 13), (107, 14), (108, 15), (109, 16), (110, 17), (111, 18), (112, 19), (113, 20), (114, 21), (115, 22), (46, 23), (116, 24), (117, 25), (118, 26), (119, 27), (120, 28)] [.one (.sl 0 none 0 0), .one (.sl 0 none 0 0), .one (.sl 0 none 0 0), .one (.sl 0 none 0 0), .one (.sl 0 none 0 0), .one (.sl 0 none 0 0), .one (.sl 0 none 0 0), .one (.sl 0 none 0 0), .one (.sl 0 none 0 0), .one (.sl 0 none 0 0), .one (.sl 0 none 0 0), .one (.sl 0 none 0 0), .one (.sl 0 none 0 0), .one (.sl 0 none 0 0), .one (.sl 0 none 0 0), .one (.sl 0 none 0 0), .one (.sl 0 none 0 0), .one (.sl 0 none 0 0), .one (.sl 0 none 0 0), .one (.sl 0 none 0 0), .one (.sl 0 none 0 0), .one (.sl 0 none 0 0), .one (.sl 0 none 0 0), .one (.sl 0 none 0 0), .one (.sl 0 none 0 0), .one (.sl 0 none 0 0), .one (.sl 0 none 0 0), .one (.sl 0 none 0 0), .one (.sl 0 none 0 0)]) .l) 122 (.st [(94, 0), (95, 1), (96, 2), (97, 3), (98, 4), (99, 5), (100, 6), (101, 7), (102, 8), (103, 9), (104, 10), (48, 11), (105, 12), (106, 13), (107, 14), (108, 15), (109, 16), (110, 17), (111, 18), (112, 19), (113, 20), (114, 21), (115, 22), (46, 23), (116, 24), (117, 25), (118, 26), (119, 27), (120, 28)] [.one (.sl 0 none 0 0), .one (.sl 0 none 0 0), .one (.sl 0 none 0 0), .one (.sl 0 none 0 0), .one (.sl 0 none 0 0), .one (.sl 0 none 0 0), .one (.sl 0 none 0 0), .one (.sl 0 none 0 0), .one (.sl 0 none 0 0), .one (.sl 0 none 0 0), .one (.sl 0 none 0 0), .one (.sl 0 none 0 0), .one (.sl 0 none 0 0), .one (.sl 0 none 0 0), .one (.sl 0 none 0 0), .one (.sl 0 none 0 0), .one (.sl 0 none 0 0), .one (.sl 0 none 0 0), .one (.sl 0 none 0 0), .one (.sl 0 none 0 0), .one (.sl 0 none 0 0), .one (.sl 0 none 0 0), .one (.sl 0 none 0 0), .one (.sl 0 none 0 0), .one (.sl 0 none 0 0), .one (.sl 0 none 0 0), .one (.sl 0 none 0 0), .one (.sl 0 none 0 0), .one (.sl 0 none 0 0)]) (.n .l 127 (.map 88 2) .l))) 128 (.st [(2, 0), (127, 1)] [.one (.i .i64 0), .one (.mn)]) (.n (.n (.n (.n .l 129 (.st [(2, 0), (127, 1)] [.one (.i .i64 0), .one (.mn)]) .l) 135 (.int .u64) .l) 144 (.st [] []) (.n .l 145 (.st [] []) .l)) 182 (.slice 3) (.n (.n (.n .l 186 (.slice 5) .l) 192 (.slice 193) .l) 193 (.int .u32) (.n .l 194 (.slice 33) .l)))))) 196 (.slice 4) (.n (.n (.n (.n (.n (.n (.n .l 197 (.slice 50) .l) 199 (.slice 202) .l) 200 (.int .i64) (.n (.n .l 201 (.st [(200, 0), (2, 1), (33, 2), (9, 3), (3, 4)] [.one (.i .i64 0), .one (.i .i64 0), .one (.i .u64 0), .one (.s ⟨#[]⟩), .one (.i .i64 0)]) .l) 202 (.st [(200, 0), (2, 1), (33, 2), (9, 3), (3, 4)] [.one (.i .i64 0), .one (.i .i64 0), .one (.i .u64 0), .one (.s ⟨#[]⟩), .one (.i .i64 0)]) .l)) 204 (.slice 206) (.n (.n (.n .l 205 (.st [(199, 0)] [.one (.sl 0 none 0 0)]) .l) 206 (.st [(199, 0)] [.one (.sl 0 none 0 0)]) .l) 209 (.slice 214) (.n .l 210 (.st [(4, 0), (50, 1)] [.one (.b false), .agg [.hash hz]]) .l))) 211 (.st [(4, 0), (50, 1)] [.one (.b false), .agg [.hash hz]]) (.n (.n (.n (.n .l 212 (.int .i64) .l) 213 (.st [(211, 0), (26, 33), (212, 35), (50, 36), (206, 68)] [.agg [.one (.b false), .hash hz], .agg [.one (.i .i64 0), .one (.sl 0 none 0 0)], .one (.i .i64 0), .agg [.hash hz], .agg [.one (.sl 0 none 0 0)]]) .l) 214 (.st [(211, 0), (26, 33), (212, 35), (50, 36), (206, 68)] [.agg [.one (.b false), .hash hz], .agg [.one (.i .i64 0), .one (.sl 0 none 0 0)], .one (.i .i64 0), .agg [.hash hz], .agg [.one (.sl 0 none 0 0)]]) (.n (.n .l 217 (.slice 219) .l) 218 (.st [(50, 0), (3, 32)] [.agg [.hash hz], .one (.i .i64 0)]) .l)) 219 (.st [(50, 0), (3, 32)] [.agg [.hash hz], .one (.i .i64 0)]) (.n (.n (.n .l 221 (.slice 223) .l) 222 (.st [(219, 0), (214, 33)] [.agg [.hash hz, .one (.i .i64 0)], .agg [.one (.b false), .hash hz, .one (.i .i64 0), .one (.sl 0 none 0 0), .one (.i .i64 0), .hash hz, .one (.sl 0 none 0 0)]]) .l) 223 (.st [(219, 0), (214, 33)] [.agg [.hash hz, .one (.i .i64 0)], .agg [.one (.b false), .hash hz, .one (.i .i64 0), .one (.sl 0 none 0 0), .one (.i .i64 0), .hash hz, .one (.sl 0 none 0 0)]]) (.n .l 226 (.slice 229) .l)))) 227 (.int .i64) (.n (.n (.n (.n (.n .l 228 (.st [(227, 0), (2, 1), (33, 2), (206, 3)] [.one (.i .i64 0), .one (.i .i64 0), .one (.i .u64 0), .agg [.one (.sl 0 none 0 0)]]) .l) 229 (.st [(227, 0), (2, 1), (33, 2), (206, 3)] [.one (.i .i64 0), .one (.i .i64 0), .one (.i .u64 0), .agg [.one (.sl 0 none 0 0)]]) .l) 232 (.slice 234) (.n (.n .l 233 (.st [(3, 0), (226, 1)] [.one (.i .i64 0), .one (.sl 0 none 0 0)]) .l) 234 (.st [(3, 0), (226, 1)] [.one (.i .i64 0), .one (.sl 0 none 0 0)]) .l)) 237 (.slice 242) (.n (.n (.n .l 238 (.int .i64) .l) 239 (.st [(2, 0), (2, 1)] [.one (.i .i64 0), .one (.i .i64 0)]) .l) 240 (.st [(2, 0), (2, 1)] [.one (.i .i64 0), .one (.i .i64 0)]) (.n .l 241 (.st [(238, 0), (3, 1), (206, 2), (240, 3)] [.one (.i .i64 0), .one (.i .i64 0), .agg [.one (.sl 0 none 0 0)], .agg [.one (.i .i64 0), .one (.i .i64 0)]]) .l))) 242 (.st [(238, 0), (3, 1), (206, 2), (240, 3)] [.one (.i .i64 0), .one (.i .i64 0), .agg [.one (.sl 0 none 0 0)], .agg [.one (.i .i64 0), .one (.i .i64 0)]]) (.n (.n (.n (.n .l 245 (.slice 247) .l) 246 (.st [(217, 0), (217, 1), (209, 2), (209, 3), (2, 4), (2, 5), (2, 6), (23, 7), (50, 8)] [.one (.sl 0 none 0 0), .one (.sl 0 none 0 0), .one (.sl 0 none 0 0), .one (.sl 0 none 0 0), .one (.i .i64 0), .one (.i .i64 0), .one (.i .i64 0), .one (.sl 0 none 0 0), .agg [.hash hz]]) .l) 247 (.st [(217, 0), (217, 1), (209, 2), (209, 3), (2, 4), (2, 5), (2, 6), (23, 7), (50, 8)] [.one (.sl 0 none 0 0), .one (.sl 0 none 0 0), .one (.sl 0 none 0 0), .one (.sl 0 none 0 0), .one (.i .i64 0), .one (.i .i64 0), .one (.i .i64 0), .one (.sl 0 none 0 0), .agg [.hash hz]]) (.n .l 250 (.slice 252) .l)) 251 (.st [(197, 0)] [.one (.sl 0 none 0 0)]) (.n (.n (.n .l 252 (.st [(197, 0)] [.one (.sl 0 none 0 0)]) .l) 255 (.slice 257) .l) 256 (.st [(247, 0), (250, 40), (232, 41), (204, 42), (237, 43), (4, 44)] [.agg [.one (.sl 0 none 0 0), .one (.sl 0 none 0 0), .one (.sl 0 none 0 0), .one (.sl 0 none 0 0), .one (.i .i64 0), .one (.i .i64 0), .one (.i .i64 0), .one (.sl 0 none 0 0), .hash hz], .one (.sl 0 none 0 0), .one (.sl 0 none 0 0), .one (.sl 0 none 0 0), .one (.sl 0 none 0 0), .one (.b false)]) (.n .l 257 (.st [(247, 0), (250, 40), (232, 41), (204, 42), (237, 43), (4, 44)] [.agg [.one (.sl 0 none 0 0), .one (.sl 0 none 0 0), .one (.sl 0 none 0 0), .one (.sl 0 none 0 0), .one (.i .i64 0), .one (.i .i64 0), .one (.i .i64 0), .one (.sl 0 none 0 0), .hash hz], .one (.sl 0 none 0 0), .one (.sl 0 none 0 0), .one (.sl 0 none 0 0), .one (.sl 0 none 0 0), .one (.b false)]) .l))))) 260 (.slice 264) (.n (.n (.n (.n (.n (.n .l 261 (.st [(50, 0), (3, 32), (2, 33), (50, 34), (33, 66)] [.agg [.hash hz], .one (.i .i64 0), .one (.i .i64 0), .agg [.hash hz], .one (.i .u64 0)]) .l) 262 (.st [(50, 0), (3, 32), (2, 33), (50, 34), (33, 66)] [.agg [.hash hz], .one (.i .i64 0), .one (.i .i64 0), .agg [.hash hz], .one (.i .u64 0)]) .l) 263 (.st [(262, 0), (255, 67)] [.agg [.hash hz, .one (.i .i64 0), .one (.i .i64 0), .hash hz, .one (.i .u64 0)], .one (.sl 0 none 0 0)]) (.n (.n .l 264 (.st [(262, 0), (255, 67)] [.agg [.hash hz, .one (.i .i64 0), .one (.i .i64 0), .hash hz, .one (.i .u64 0)], .one (.sl 0 none 0 0)]) .l) 267 (.slice 271) .l)) 268 (.st [(2, 0), (2, 1), (2, 2), (2, 3), (2, 4), (2, 5), (3, 6), (3, 7), (240, 8), (3, 10), (3, 11)] [.one (.i .i64 0), .one (.i .i64 0), .one (.i .i64 0), .one (.i .i64 0), .one (.i .i64 0), .one (.i .i64 0), .one (.i .i64 0), .one (.i .i64 0), .agg [.one (.i .i64 0), .one (.i .i64 0)], .one (.i .i64 0), .one (.i .i64 0)]) (.n (.n (.n .l 269 (.st [(2, 0), (2, 1), (2, 2), (2, 3), (2, 4), (2, 5), (3, 6), (3, 7), (240, 8), (3, 10), (3, 11)] [.one (.i .i64 0), .one (.i .i64 0), .one (.i .i64 0), .one (.i .i64 0), .one (.i .i64 0), .one (.i .i64 0), .one (.i .i64 0), .one (.i .i64 0), .agg [.one (.i .i64 0), .one (.i .i64 0)], .one (.i .i64 0), .one (.i .i64 0)]) .l) 270 (.st [(269, 0), (2, 12), (209, 13)] [.agg [.one (.i .i64 0), .one (.i .i64 0), .one (.i .i64 0), .one (.i .i64 0), .one (.i .i64 0), .one (.i .i64 0), .one (.i .i64 0), .one (.i .i64 0), .one (.i .i64 0), .one (.i .i64 0), .one (.i .i64 0), .one (.i .i64 0)], .one (.i .i64 0), .one (.sl 0 none 0 0)]) .l) 271 (.st [(269, 0), (2, 12), (209, 13)] [.agg [.one (.i .i64 0), .one (.i .i64 0), .one (.i .i64 0), .one (.i .i64 0), .one (.i .i64 0), .one (.i .i64 0), .one (.i .i64 0), .one (.i .i64 0), .one (.i .i64 0), .one (.i .i64 0), .one (.i .i64 0), .one (.i .i64 0)], .one (.i .i64 0), .one (.sl 0 none 0 0)]) (.n .l 274 (.slice 276) .l))) 275 (.st [(221, 0), (221, 1), (2, 2), (2, 3), (36, 4)] [.one (.sl 0 none 0 0), .one (.sl 0 none 0 0), .one (.i .i64 0), .one (.i .i64 0), .one (.sl 0 none 0 0)]) (.n (.n (.n (.n .l 276 (.st [(221, 0), (221, 1), (2, 2), (2, 3), (36, 4)] [.one (.sl 0 none 0 0), .one (.sl 0 none 0 0), .one (.i .i64 0), .one (.i .i64 0), .one (.sl 0 none 0 0)]) .l) 279 (.slice 282) .l) 280 (.int .i64) (.n (.n .l 281 (.st [(50, 0), (264, 32), (280, 100), (276, 101)] [.agg [.hash hz], .agg [.hash hz, .one (.i .i64 0), .one (.i .i64 0), .hash hz, .one (.i .u64 0), .one (.sl 0 none 0 0)], .one (.i .i64 0), .agg [.one (.sl 0 none 0 0), .one (.sl 0 none 0 0), .one (.i .i64 0), .one (.i .i64 0), .one (.sl 0 none 0 0)]]) .l) 282 (.st [(50, 0), (264, 32), (280, 100), (276, 101)] [.agg [.hash hz], .agg [.hash hz, .one (.i .i64 0), .one (.i .i64 0), .hash hz, .one (.i .u64 0), .one (.sl 0 none 0 0)], .one (.i .i64 0), .agg [.one (.sl 0 none 0 0), .one (.sl 0 none 0 0), .one (.i .i64 0), .one (.i .i64 0), .one (.sl 0 none 0 0)]]) .l)) 285 (.slice 287) (.n (.n (.n .l 286 (.st [(269, 0), (50, 12), (221, 44), (279, 45), (262, 46), (50, 113), (50, 145), (2, 177), (2, 178), (36, 179), (255, 180), (2, 181)] [.agg [.one (.i .i64 0), .one (.i .i64 0), .one (.i .i64 0), .one (.i .i64 0), .one (.i .i64 0), .one (.i .i64 0), .one (.i .i64 0), .one (.i .i64 0), .one (.i .i64 0), .one (.i .i64 0), .one (.i .i64 0), .one (.i .i64 0)], .agg [.hash hz], .one (.sl 0 none 0 0), .one (.sl 0 none 0 0), .agg [.hash hz, .one (.i .i64 0), .one (.i .i64 0), .hash hz, .one (.i .u64 0)], .agg [.hash hz], .agg [.hash hz], .one (.i .i64 0), .one (.i .i64 0), .one (.sl 0 none 0 0), .one (.sl 0 none 0 0), .one (.i .i64 0)]) .l) 287 (.st [(269, 0), (50, 12), (221, 44), (279, 45), (262, 46), (50, 113), (50, 145), (2, 177), (2, 178), (36, 179), (255, 180), (2, 181)] [.agg [.one (.i .i64 0), .one (.i .i64 0), .one (.i .i64 0), .one (.i .i64 0), .one (.i .i64 0), .one (.i .i64 0), .one (.i .i64 0), .one (.i .i64 0), .one (.i .i64 0), .one (.i .i64 0), .one (.i .i64 0), .one (.i .i64 0)], .agg [.hash hz], .one (.sl 0 none 0 0), .one (.sl 0 none 0 0), .agg [.hash hz, .one (.i .i64 0), .one (.i .i64 0), .hash hz, .one (.i .u64 0)], .agg [.hash hz], .agg [.hash hz], .one (.i .i64 0), .one (.i .i64 0), .one (.sl 0 none 0 0), .one (.sl 0 none 0 0), .one (.i .i64 0)]) .l) 290 (.slice 293) (.n .l 291 (.int .i64) .l)))) 292 (.st [(291, 0), (186, 1), (2, 2)] [.one (.i .i64 0), .one (.sl 0 none 0 0), .one (.i .i64 0)]) (.n (.n (.n (.n (.n .l 293 (.st [(291, 0), (186, 1), (2, 2)] [.one (.i .i64 0), .one (.sl 0 none 0 0), .one (.i .i64 0)]) .l) 296 (.slice 300) .l) 297 (.int .i64) (.n (.n .l 298 (.int .i64) .l) 299 (.st [(297, 0), (298, 1), (280, 2)] [.one (.i .i64 0), .one (.i .i64 0), .one (.i .i64 0)]) .l)) 300 (.st [(297, 0), (298, 1), (280, 2)] [.one (.i .i64 0), .one (.i .i64 0), .one (.i .i64 0)]) (.n (.n (.n .l 304 (.int .i64) .l) 331 (.int .u64) .l) 335 (.ptr 3) (.n .l 339 (.ptr 331) .l))) 344 (.st [(17, 0), (17, 1), (17, 2), (9, 3)] [.one (.pn), .one (.pn), .one (.pn), .one (.s ⟨#[]⟩)]) (.n (.n (.n (.n .l 345 (.st [(17, 0), (17, 1), (17, 2), (9, 3)] [.one (.pn), .one (.pn), .one (.pn), .one (.s ⟨#[]⟩)]) .l) 346 (.arr 0 16) .l) 350 (.int .u8) (.n .l 351 (.int .u8) .l)) 353 (.ptr 5) (.n (.n (.n .l 354 (.int .i32) .l) 355 (.int .i32) .l) 356 (.st [(12, 0), (12, 1), (193, 2), (350, 3), (5, 4), (5, 5), (351, 6), (352, 7), (353, 8), (354, 9), (355, 10)] [.one (.i .u64 0), .one (.i .u64 0), .one (.i .u32 0), .one (.i .u8 0), .one (.i .u8 0), .one (.i .u8 0), .one (.i .u8 0), .one (.fnn), .one (.pn), .one (.i .i32 0), .one (.i .i32 0)]) (.n .l 357 (.st [(12, 0), (12, 1), (193, 2), (350, 3), (5, 4), (5, 5), (351, 6), (352, 7), (353, 8), (354, 9), (355, 10)] [.one (.i .u64 0), .one (.i .u64 0), .one (.i .u32 0), .one (.i .u8 0), .one (.i .u8 0), .one (.i .u8 0), .one (.i .u8 0), .one (.fnn), .one (.pn), .one (.i .i32 0), .one (.i .i32 0)]) .l)))))))
def taV : Bt TA := (.n (.n (.n (.n (.n (.n (.n (.n (.n .l 1 (⟨false, 1, .one (.fnn), 8⟩) .l) 2 (⟨false, 1, .one (.i .i64 0), 8⟩) .l) 3 (⟨false, 1, .one (.i .i64 0), 8⟩) (.n (.n .l 4 (⟨false, 1, .one (.b false), 1⟩) .l) 5 (⟨false, 1, .one (.i .u8 0), 1⟩) .l)) 6 (⟨false, 1, .one (.i .u8 0), 1⟩) (.n (.n (.n .l 7 (⟨true, 4, .agg [.one (.i .i64 0), .one (.i .i64 0), .one (.b false), .one (.i .u8 0)], 24⟩) .l) 8 (⟨true, 4, .agg [.one (.i .i64 0), .one (.i .i64 0), .one (.b false), .one (.i .u8 0)], 24⟩) .l) 9 (⟨false, 1, .one (.s ⟨#[]⟩), 16⟩) (.n .l 10 (⟨false, 1, .one (.s ⟨#[]⟩), 16⟩) .l))) 11 (⟨false, 1, .one (.s ⟨#[]⟩), 16⟩) (.n (.n (.n (.n .l 12 (⟨false, 1, .one (.i .u64 0), 8⟩) .l) 13 (⟨true, 2, .agg [.one (.s ⟨#[]⟩), .one (.i .u64 0)], 24⟩) .l) 14 (⟨true, 2, .agg [.one (.s ⟨#[]⟩), .one (.i .u64 0)], 24⟩) (.n (.n .l 15 (⟨false, 1, .one (.pn), 8⟩) .l) 16 (⟨false, 1, .one (.pn), 8⟩) .l)) 17 (⟨false, 1, .one (.pn), 8⟩) (.n (.n (.n .l 18 (⟨true, 1, .agg [.one (.pn)], 8⟩) .l) 19 (⟨true, 1, .agg [.one (.pn)], 8⟩) .l) 20 (⟨false, 1, .one (.ifn), 16⟩) (.n .l 21 (⟨false, 1, .one (.i .i32 0), 4⟩) .l)))) 22 (⟨false, 1, .one (.sl 0 none 0 0), 24⟩) (.n (.n (.n (.n (.n .l 23 (⟨false, 1, .one (.sl 0 none 0 0), 24⟩) .l) 24 (⟨false, 1, .one (.fnn), 8⟩) .l) 25 (⟨true, 2, .agg [.one (.i .i64 0), .one (.sl 0 none 0 0)], 32⟩) (.n (.n .l 26 (⟨true, 2, .agg [.one (.i .i64 0), .one (.sl 0 none 0 0)], 32⟩) .l) 27 (⟨false, 1, .one (.fnn), 8⟩) .l)) 28 (⟨false, 1, .one (.fnn), 8⟩) (.n (.n (.n .l 29 (⟨false, 1, .one (.fnn), 8⟩) .l) 31 (⟨false, 1, .one (.fnn), 8⟩) .l) 32 (⟨false, 1, .one (.fnn), 8⟩) (.n .l 33 (⟨false, 1, .one (.i .u64 0), 8⟩) .l))) 34 (⟨true, 2, .agg [.one (.i .i64 0), .one (.i .u64 0)], 16⟩) (.n (.n (.n (.n .l 35 (⟨true, 2, .agg [.one (.i .i64 0), .one (.i .u64 0)], 16⟩) .l) 36 (⟨false, 1, .one (.sl 0 none 0 0), 24⟩) .l) 38 (⟨false, 1, .one (.fnn), 8⟩) (.n (.n .l 39 (⟨false, 1, .one (.fnn), 8⟩) .l) 40 (⟨false, 1, .one (.fnn), 8⟩) .l)) 41 (⟨false, 1, .one (.fnn), 8⟩) (.n (.n (.n .l 42 (⟨false, 1, .one (.fnn), 8⟩) .l) 43 (⟨false, 1, .one (.fnn), 8⟩) .l) 44 (⟨false, 1, .one (.fnn), 8⟩) (.n .l 45 (⟨false, 1, .one (.fnn), 8⟩) .l))))) 46 (⟨false, 1, .one (.sl 0 none 0 0), 24⟩) (.n (.n (.n (.n (.n (.n .l 47 (⟨false, 1, .one (.fnn), 8⟩) .l) 48 (⟨false, 1, .one (.sl 0 none 0 0), 24⟩) .l) 49 (⟨true, 32, .agg [.hash hz], 32⟩) (.n (.n .l 50 (⟨true, 32, .agg [.hash hz], 32⟩) .l) 51 (⟨false, 1, .one (.fnn), 8⟩) .l)) 52 (⟨false, 1, .one (.fnn), 8⟩) (.n (.n (.n .l 53 (⟨false, 1, .one (.fnn), 8⟩) .l) 54 (⟨false, 1, .one (.fnn), 8⟩) .l) 55 (⟨false, 1, .one (.fnn), 8⟩) (.n .l 56 (⟨true, 34, .agg [.hash hz, .one (.s ⟨#[]⟩), .one (.i .i64 0)], 56⟩) .l))) 57 (⟨true, 34, .agg [.hash hz, .one (.s ⟨#[]⟩), .one (.i .i64 0)], 56⟩) (.n (.n (.n (.n .l 58 (⟨false, 1, .one (.fnn), 8⟩) .l) 59 (⟨false, 1, .one (.sl 0 none 0 0), 24⟩) .l) 60 (⟨false, 1, .one (.fnn), 8⟩) (.n (.n .l 61 (⟨false, 1, .one (.fnn), 8⟩) .l) 62 (⟨false, 1, .one (.fnn), 8⟩) .l)) 63 (⟨false, 1, .one (.fnn), 8⟩) (.n (.n (.n .l 64 (⟨false, 1, .one (.fnn), 8⟩) .l) 65 (⟨false, 1, .one (.fnn), 8⟩) .l) 66 (⟨false, 1, .one (.fnn), 8⟩) (.n .l 67 (⟨false, 1, .one (.fnn), 8⟩) .l)))) 68 (⟨false, 1, .one (.fnn), 8⟩) (.n (.n (.n (.n (.n .l 69 (⟨false, 1, .one (.fnn), 8⟩) .l) 70 (⟨false, 1, .one (.sl 0 none 0 0), 24⟩) .l) 71 (⟨false, 1, .one (.sl 0 none 0 0), 24⟩) (.n (.n .l 72 (⟨false, 1, .one (.fnn), 8⟩) .l) 73 (⟨false, 1, .one (.fnn), 8⟩) .l)) 74 (⟨true, 35, .agg [.hash hz, .one (.s ⟨#[]⟩), .one (.i .i64 0), .one (.i .u64 0)], 64⟩) (.n (.n (.n .l 75 (⟨true, 35, .agg [.hash hz, .one (.s ⟨#[]⟩), .one (.i .i64 0), .one (.i .u64 0)], 64⟩) .l) 76 (⟨false, 1, .one (.fnn), 8⟩) .l) 77 (⟨false, 1, .one (.fnn), 8⟩) (.n .l 78 (⟨false, 1, .one (.fnn), 8⟩) .l))) 79 (⟨false, 1, .one (.fnn), 8⟩) (.n (.n (.n (.n .l 80 (⟨false, 1, .one (.pn), 8⟩) .l) 81 (⟨false, 1, .one (.fnn), 8⟩) .l) 82 (⟨false, 1, .one (.fnn), 8⟩) (.n (.n .l 83 (⟨false, 1, .one (.fnn), 8⟩) .l) 84 (⟨false, 1, .one (.mn), 8⟩) .l)) 85 (⟨false, 1, .one (.mn), 8⟩) (.n (.n (.n .l 86 (⟨false, 1, .one (.fnn), 8⟩) .l) 87 (⟨true, 33, .agg [.hash hz, .one (.s ⟨#[]⟩)], 48⟩) .l) 88 (⟨true, 33, .agg [.hash hz, .one (.s ⟨#[]⟩)], 48⟩) (.n .l 89 (⟨false, 1, .one (.fnn), 8⟩) .l)))))) 90 (⟨false, 1, .one (.fnn), 8⟩) (.n (.n (.n (.n (.n (.n (.n .l 91 (⟨false, 1, .one (.fnn), 8⟩) .l) 92 (⟨false, 1, .one (.fnn), 8⟩) .l) 93 (⟨false, 1, .one (.pn), 8⟩) (.n (.n .l 94 (⟨false, 1, .one (.sl 0 none 0 0), 24⟩) .l) 95 (⟨false, 1, .one (.sl 0 none 0 0), 24⟩) .l)) 96 (⟨false, 1, .one (.sl 0 none 0 0), 24⟩) (.n (.n (.n .l 97 (⟨false, 1, .one (.sl 0 none 0 0), 24⟩) .l) 98 (⟨false, 1, .one (.sl 0 none 0 0), 24⟩) .l) 99 (⟨false, 1, .one (.sl 0 none 0 0), 24⟩) (.n .l 100 (⟨false, 1, .one (.sl 0 none 0 0), 24⟩) .l))) 101 (⟨false, 1, .one (.sl 0 none 0 0), 24⟩) (.n (.n (.n (.n .l 102 (⟨false, 1, .one (.sl 0 none 0 0), 24⟩) .l) 103 (⟨false, 1, .one (.sl 0 none 0 0), 24⟩) .l) 104 (⟨false, 1, .one (.sl 0 none 0 0), 24⟩) (.n (.n .l 105 (⟨false, 1, .one (.sl 0 none 0 0), 24⟩) .l) 106 (⟨false, 1, .one (.sl 0 none 0 0), 24⟩) .l)) 107 (⟨false, 1, .one (.sl 0 none 0 0), 24⟩) (.n (.n (.n .l 108 (⟨false, 1, .one (.sl 0 none 0 0), 24⟩) .l) 109 (⟨false, 1, .one (.sl 0 none 0 0), 24⟩) .l) 110 (⟨false, 1, .one (.sl 0 none 0 0), 24⟩) (.n .l 111 (⟨false, 1, .one (.sl 0 none 0 0), 24⟩) .l)))) 112 (⟨false, 1, .one (.sl 0 none 0 0), 24⟩) (.n (.n (.n (.n (.n .l 113 (⟨false, 1, .one (.sl 0 none 0 0), 24⟩) .l) 114 (⟨false, 1, .one (.sl 0 none 0 0), 24⟩) .l) 115 (⟨false, 1, .one (.sl 0 none 0 0), 24⟩) (.n (.n .l 116 (⟨false, 1, .one (.sl 0 none 0 0), 24⟩) .l) 117 (⟨false, 1, .one (.sl 0 none 0 0), 24⟩) .l)) 118 (⟨false, 1, .one (.sl 0 none 0 0), 24⟩) (.n (.n (.n .l 119 (⟨false, 1, .one (.sl 0 none 0 0), 24⟩) .l) 120 (⟨false, 1, .one (.sl 0 none 0 0), 24⟩) .l) 121 (⟨true, 29, .agg [.one (.sl 0 none 0 0), .one (.sl 0 none 0 0), .one (.sl 0 none 0 0), .one (.sl 0 none 0 0), .one (.sl 0 none 0 0), .one (.sl 0 none 0 0), .one (.sl 0 none 0 0), .one (.sl 0 none 0 0), .one (.sl 0 none 0 0), .one (.sl 0 none 0 0), .one (.sl 0 none 0 0), .one (.sl 0 none 0 0), .one (.sl 0 none 0 0), .one (.sl 0 none 0 0), .one (.sl 0 none 0 0), .one (.sl 0 none 0 0), .one (.sl 0 none 0 0), .one (.sl 0 none 0 0), .one (.sl 0 none 0 0), .one (.sl 0 none 0 0), .one (.sl 0 none 0 0), .one (.sl 0 none 0 0), .one (.sl 0 none 0 0), .one (.sl 0 none 0 0), .one (.sl 0 none 0 0), .one (.sl 0 none 0 0), .one (.sl 0 none 0 0), .one (.sl 0 none 0 0), .one (.sl 0 none 0 0)], 696⟩) (.n .l 122 (⟨true, 29, .agg [.one (.sl 0 none 0 0), .one (.sl 0 none 0 0), .one (.sl 0 none 0 0), .one (.sl 0 none 0 0), .one (.sl 0 none 0 0), .one (.sl 0 none 0 0), .one (.sl 0 none 0 0), .one (.sl 0 none 0 0), .one (.sl 0 none 0 0), .one (.sl 0 none 0 0), .one (.sl 0 none 0 0), .one (.sl 0 none 0 0), .one (.sl 0 none 0 0), .one (.sl 0 none 0 0), .one (.sl 0 none 0 0), .one (.sl 0 none 0 0), .one (.sl 0 none 0 0), .one (.sl 0 none 0 0), .one (.sl 0 none 0 0), .one (.sl 0 none 0 0), .one (.sl 0 none 0 0), .one (.sl 0 none 0 0), .one (.sl 0 none 0 0), .one (.sl 0 none 0 0), .one (.sl 0 none 0 0), .one (.sl 0 none 0 0), .one (.sl 0 none 0 0), .one (.sl 0 none 0 0), .one (.sl 0 none 0 0)], 696⟩) .l))) 123 (⟨false, 1, .one (.fnn), 8⟩) (.n (.n (.n (.n .l 124 (⟨false, 1, .one (.fnn), 8⟩) .l) 125 (⟨false, 1, .one (.fnn), 8⟩) .l) 126 (⟨false, 1, .one (.fnn), 8⟩) (.n (.n .l 127 (⟨false, 1, .one (.mn), 8⟩) .l) 128 (⟨true, 2, .agg [.one (.i .i64 0), .one (.mn)], 16⟩) .l)) 129 (⟨true, 2, .agg [.one (.i .i64 0), .one (.mn)], 16⟩) (.n (.n (.n .l 130 (⟨false, 1, .one (.fnn), 8⟩) .l) 131 (⟨false, 1, .one (.fnn), 8⟩) .l) 132 (⟨false, 1, .one (.fnn), 8⟩) (.n .l 134 (⟨false, 1, .one (.fnn), 8⟩) .l))))) 135 (⟨false, 1, .one (.i .u64 0), 8⟩) (.n (.n (.n (.n (.n (.n .l 136 (⟨false, 1, .one (.fnn), 8⟩) .l) 137 (⟨false, 1, .one (.fnn), 8⟩) .l) 138 (⟨false, 1, .one (.fnn), 8⟩) (.n (.n .l 139 (⟨false, 1, .one (.fnn), 8⟩) .l) 140 (⟨false, 1, .one (.fnn), 8⟩) .l)) 141 (⟨false, 1, .one (.fnn), 8⟩) (.n (.n (.n .l 142 (⟨false, 1, .one (.fnn), 8⟩) .l) 143 (⟨false, 1, .one (.fnn), 8⟩) .l) 144 (⟨true, 0, .agg [], 0⟩) (.n .l 145 (⟨true, 0, .agg [], 0⟩) .l))) 147 (⟨false, 1, .one (.fnn), 8⟩) (.n (.n (.n (.n .l 148 (⟨false, 1, .one (.fnn), 8⟩) .l) 149 (⟨false, 1, .one (.fnn), 8⟩) .l) 150 (⟨false, 1, .one (.fnn), 8⟩) (.n (.n .l 151 (⟨false, 1, .one (.fnn), 8⟩) .l) 152 (⟨false, 1, .one (.fnn), 8⟩) .l)) 153 (⟨false, 1, .one (.fnn), 8⟩) (.n (.n (.n .l 154 (⟨false, 1, .one (.fnn), 8⟩) .l) 155 (⟨false, 1, .one (.fnn), 8⟩) .l) 156 (⟨false, 1, .one (.fnn), 8⟩) (.n .l 157 (⟨false, 1, .one (.fnn), 8⟩) .l)))) 158 (⟨false, 1, .one (.fnn), 8⟩) (.n (.n (.n (.n (.n .l 159 (⟨false, 1, .one (.fnn), 8⟩) .l) 160 (⟨false, 1, .one (.fnn), 8⟩) .l) 161 (⟨false, 1, .one (.fnn), 8⟩) (.n (.n .l 162 (⟨false, 1, .one (.fnn), 8⟩) .l) 163 (⟨false, 1, .one (.fnn), 8⟩) .l)) 164 (⟨false, 1, .one (.fnn), 8⟩) (.n (.n (.n .l 165 (⟨false, 1, .one (.fnn), 8⟩) .l) 166 (⟨false, 1, .one (.fnn), 8⟩) .l) 167 (⟨false, 1, .one (.fnn), 8⟩) (.n .l 168 (⟨false, 1, .one (.fnn), 8⟩) .l))) 169 (⟨false, 1, .one (.fnn), 8⟩) (.n (.n (.n (.n .l 170 (⟨false, 1, .one (.fnn), 8⟩) .l) 171 (⟨false, 1, .one (.fnn), 8⟩) .l) 172 (⟨false, 1, .one (.fnn), 8⟩) (.n .l 173 (⟨false, 1, .one (.fnn), 8⟩) .l)) 174 (⟨false, 1, .one (.fnn), 8⟩) (.n (.n (.n .l 175 (⟨false, 1, .one (.fnn), 8⟩) .l) 176 (⟨false, 1, .one (.fnn), 8⟩) .l) 177 (⟨false, 1, .one (.fnn), 8⟩) (.n .l 178 (⟨false, 1, .one (.fnn), 8⟩) .l))))))) 179 (⟨false, 1, .one (.fnn), 8⟩) (.n (.n (.n (.n (.n (.n (.n (.n .l 180 (⟨false, 1, .one (.fnn), 8⟩) .l) 181 (⟨false, 1, .one (.fnn), 8⟩) .l) 182 (⟨false, 1, .one (.sl 0 none 0 0), 24⟩) (.n (.n .l 183 (⟨false, 1, .one (.fnn), 8⟩) .l) 184 (⟨false, 1, .one (.fnn), 8⟩) .l)) 185 (⟨false, 1, .one (.fnn), 8⟩) (.n (.n (.n .l 186 (⟨false, 1, .one (.sl 0 none 0 0), 24⟩) .l) 187 (⟨false, 1, .one (.fnn), 8⟩) .l) 188 (⟨false, 1, .one (.fnn), 8⟩) (.n .l 189 (⟨false, 1, .one (.fnn), 8⟩) .l))) 190 (⟨false, 1, .one (.fnn), 8⟩) (.n (.n (.n (.n .l 191 (⟨false, 1, .one (.fnn), 8⟩) .l) 192 (⟨false, 1, .one (.sl 0 none 0 0), 24⟩) .l) 193 (⟨false, 1, .one (.i .u32 0), 4⟩) (.n (.n .l 194 (⟨false, 1, .one (.sl 0 none 0 0), 24⟩) .l) 195 (⟨false, 1, .one (.fnn), 8⟩) .l)) 196 (⟨false, 1, .one (.sl 0 none 0 0), 24⟩) (.n (.n (.n .l 197 (⟨false, 1, .one (.sl 0 none 0 0), 24⟩) .l) 198 (⟨false, 1, .one (.fnn), 8⟩) .l) 199 (⟨false, 1, .one (.sl 0 none 0 0), 24⟩) (.n .l 200 (⟨false, 1, .one (.i .i64 0), 8⟩) .l)))) 201 (⟨true, 5, .agg [.one (.i .i64 0), .one (.i .i64 0), .one (.i .u64 0), .one (.s ⟨#[]⟩), .one (.i .i64 0)], 48⟩) (.n (.n (.n (.n (.n .l 202 (⟨true, 5, .agg [.one (.i .i64 0), .one (.i .i64 0), .one (.i .u64 0), .one (.s ⟨#[]⟩), .one (.i .i64 0)], 48⟩) .l) 203 (⟨false, 1, .one (.fnn), 8⟩) .l) 204 (⟨false, 1, .one (.sl 0 none 0 0), 24⟩) (.n (.n .l 205 (⟨true, 1, .agg [.one (.sl 0 none 0 0)], 24⟩) .l) 206 (⟨true, 1, .agg [.one (.sl 0 none 0 0)], 24⟩) .l)) 207 (⟨false, 1, .one (.fnn), 8⟩) (.n (.n (.n .l 208 (⟨false, 1, .one (.fnn), 8⟩) .l) 209 (⟨false, 1, .one (.sl 0 none 0 0), 24⟩) .l) 210 (⟨true, 33, .agg [.one (.b false), .hash hz], 33⟩) (.n .l 211 (⟨true, 33, .agg [.one (.b false), .hash hz], 33⟩) .l))) 212 (⟨false, 1, .one (.i .i64 0), 8⟩) (.n (.n (.n (.n .l 213 (⟨true, 69, .agg [.one (.b false), .hash hz, .one (.i .i64 0), .one (.sl 0 none 0 0), .one (.i .i64 0), .hash hz, .one (.sl 0 none 0 0)], 136⟩) .l) 214 (⟨true, 69, .agg [.one (.b false), .hash hz, .one (.i .i64 0), .one (.sl 0 none 0 0), .one (.i .i64 0), .hash hz, .one (.sl 0 none 0 0)], 136⟩) .l) 215 (⟨false, 1, .one (.fnn), 8⟩) (.n (.n .l 216 (⟨false, 1, .one (.fnn), 8⟩) .l) 217 (⟨false, 1, .one (.sl 0 none 0 0), 24⟩) .l)) 218 (⟨true, 33, .agg [.hash hz, .one (.i .i64 0)], 40⟩) (.n (.n (.n .l 219 (⟨true, 33, .agg [.hash hz, .one (.i .i64 0)], 40⟩) .l) 220 (⟨false, 1, .one (.fnn), 8⟩) .l) 221 (⟨false, 1, .one (.sl 0 none 0 0), 24⟩) (.n .l 222 (⟨true, 102, .agg [.hash hz, .one (.i .i64 0), .one (.b false), .hash hz, .one (.i .i64 0), .one (.sl 0 none 0 0), .one (.i .i64 0), .hash hz, .one (.sl 0 none 0 0)], 176⟩) .l))))) 223 (⟨true, 102, .agg [.hash hz, .one (.i .i64 0), .one (.b false), .hash hz, .one (.i .i64 0), .one (.sl 0 none 0 0), .one (.i .i64 0), .hash hz, .one (.sl 0 none 0 0)], 176⟩) (.n (.n (.n (.n (.n (.n .l 224 (⟨false, 1, .one (.fnn), 8⟩) .l) 225 (⟨false, 1, .one (.fnn), 8⟩) .l) 226 (⟨false, 1, .one (.sl 0 none 0 0), 24⟩) (.n (.n .l 227 (⟨false, 1, .one (.i .i64 0), 8⟩) .l) 228 (⟨true, 4, .agg [.one (.i .i64 0), .one (.i .i64 0), .one (.i .u64 0), .one (.sl 0 none 0 0)], 48⟩) .l)) 229 (⟨true, 4, .agg [.one (.i .i64 0), .one (.i .i64 0), .one (.i .u64 0), .one (.sl 0 none 0 0)], 48⟩) (.n (.n (.n .l 230 (⟨false, 1, .one (.fnn), 8⟩) .l) 231 (⟨false, 1, .one (.fnn), 8⟩) .l) 232 (⟨false, 1, .one (.sl 0 none 0 0), 24⟩) (.n .l 233 (⟨true, 2, .agg [.one (.i .i64 0), .one (.sl 0 none 0 0)], 32⟩) .l))) 234 (⟨true, 2, .agg [.one (.i .i64 0), .one (.sl 0 none 0 0)], 32⟩) (.n (.n (.n (.n .l 235 (⟨false, 1, .one (.fnn), 8⟩) .l) 236 (⟨false, 1, .one (.fnn), 8⟩) .l) 237 (⟨false, 1, .one (.sl 0 none 0 0), 24⟩) (.n (.n .l 238 (⟨false, 1, .one (.i .i64 0), 8⟩) .l) 239 (⟨true, 2, .agg [.one (.i .i64 0), .one (.i .i64 0)], 16⟩) .l)) 240 (⟨true, 2, .agg [.one (.i .i64 0), .one (.i .i64 0)], 16⟩) (.n (.n (.n .l 241 (⟨true, 5, .agg [.one (.i .i64 0), .one (.i .i64 0), .one (.sl 0 none 0 0), .one (.i .i64 0), .one (.i .i64 0)], 56⟩) .l) 242 (⟨true, 5, .agg [.one (.i .i64 0), .one (.i .i64 0), .one (.sl 0 none 0 0), .one (.i .i64 0), .one (.i .i64 0)], 56⟩) .l) 243 (⟨false, 1, .one (.fnn), 8⟩) (.n .l 244 (⟨false, 1, .one (.fnn), 8⟩) .l)))) 245 (⟨false, 1, .one (.sl 0 none 0 0), 24⟩) (.n (.n (.n (.n (.n .l 246 (⟨true, 40, .agg [.one (.sl 0 none 0 0), .one (.sl 0 none 0 0), .one (.sl 0 none 0 0), .one (.sl 0 none 0 0), .one (.i .i64 0), .one (.i .i64 0), .one (.i .i64 0), .one (.sl 0 none 0 0), .hash hz], 176⟩) .l) 247 (⟨true, 40, .agg [.one (.sl 0 none 0 0), .one (.sl 0 none 0 0), .one (.sl 0 none 0 0), .one (.sl 0 none 0 0), .one (.i .i64 0), .one (.i .i64 0), .one (.i .i64 0), .one (.sl 0 none 0 0), .hash hz], 176⟩) .l) 248 (⟨false, 1, .one (.fnn), 8⟩) (.n (.n .l 249 (⟨false, 1, .one (.fnn), 8⟩) .l) 250 (⟨false, 1, .one (.sl 0 none 0 0), 24⟩) .l)) 251 (⟨true, 1, .agg [.one (.sl 0 none 0 0)], 24⟩) (.n (.n (.n .l 252 (⟨true, 1, .agg [.one (.sl 0 none 0 0)], 24⟩) .l) 253 (⟨false, 1, .one (.fnn), 8⟩) .l) 254 (⟨false, 1, .one (.fnn), 8⟩) (.n .l 255 (⟨false, 1, .one (.sl 0 none 0 0), 24⟩) .l))) 256 (⟨true, 45, .agg [.one (.sl 0 none 0 0), .one (.sl 0 none 0 0), .one (.sl 0 none 0 0), .one (.sl 0 none 0 0), .one (.i .i64 0), .one (.i .i64 0), .one (.i .i64 0), .one (.sl 0 none 0 0), .hash hz, .one (.sl 0 none 0 0), .one (.sl 0 none 0 0), .one (.sl 0 none 0 0), .one (.sl 0 none 0 0), .one (.b false)], 280⟩) (.n (.n (.n (.n .l 257 (⟨true, 45, .agg [.one (.sl 0 none 0 0), .one (.sl 0 none 0 0), .one (.sl 0 none 0 0), .one (.sl 0 none 0 0), .one (.i .i64 0), .one (.i .i64 0), .one (.i .i64 0), .one (.sl 0 none 0 0), .hash hz, .one (.sl 0 none 0 0), .one (.sl 0 none 0 0), .one (.sl 0 none 0 0), .one (.sl 0 none 0 0), .one (.b false)], 280⟩) .l) 258 (⟨false, 1, .one (.fnn), 8⟩) .l) 259 (⟨false, 1, .one (.fnn), 8⟩) (.n (.n .l 260 (⟨false, 1, .one (.sl 0 none 0 0), 24⟩) .l) 261 (⟨true, 67, .agg [.hash hz, .one (.i .i64 0), .one (.i .i64 0), .hash hz, .one (.i .u64 0)], 88⟩) .l)) 262 (⟨true, 67, .agg [.hash hz, .one (.i .i64 0), .one (.i .i64 0), .hash hz, .one (.i .u64 0)], 88⟩) (.n (.n (.n .l 263 (⟨true, 68, .agg [.hash hz, .one (.i .i64 0), .one (.i .i64 0), .hash hz, .one (.i .u64 0), .one (.sl 0 none 0 0)], 112⟩) .l) 264 (⟨true, 68, .agg [.hash hz, .one (.i .i64 0), .one (.i .i64 0), .hash hz, .one (.i .u64 0), .one (.sl 0 none 0 0)], 112⟩) .l) 265 (⟨false, 1, .one (.fnn), 8⟩) (.n .l 266 (⟨false, 1, .one (.fnn), 8⟩) .l)))))) 267 (⟨false, 1, .one (.sl 0 none 0 0), 24⟩) (.n (.n (.n (.n (.n (.n (.n .l 268 (⟨true, 12, .agg [.one (.i .i64 0), .one (.i .i64 0), .one (.i .i64 0), .one (.i .i64 0), .one (.i .i64 0), .one (.i .i64 0), .one (.i .i64 0), .one (.i .i64 0), .one (.i .i64 0), .one (.i .i64 0), .one (.i .i64 0), .one (.i .i64 0)], 96⟩) .l) 269 (⟨true, 12, .agg [.one (.i .i64 0), .one (.i .i64 0), .one (.i .i64 0), .one (.i .i64 0), .one (.i .i64 0), .one (.i .i64 0), .one (.i .i64 0), .one (.i .i64 0), .one (.i .i64 0), .one (.i .i64 0), .one (.i .i64 0), .one (.i .i64 0)], 96⟩) .l) 270 (⟨true, 14, .agg [.one (.i .i64 0), .one (.i .i64 0), .one (.i .i64 0), .one (.i .i64 0), .one (.i .i64 0), .one (.i .i64 0), .one (.i .i64 0), .one (.i .i64 0), .one (.i .i64 0), .one (.i .i64 0), .one (.i .i64 0), .one (.i .i64 0), .one (.i .i64 0), .one (.sl 0 none 0 0)], 128⟩) (.n (.n .l 271 (⟨true, 14, .agg [.one (.i .i64 0), .one (.i .i64 0), .one (.i .i64 0), .one (.i .i64 0), .one (.i .i64 0), .one (.i .i64 0), .one (.i .i64 0), .one (.i .i64 0), .one (.i .i64 0), .one (.i .i64 0), .one (.i .i64 0), .one (.i .i64 0), .one (.i .i64 0), .one (.sl 0 none 0 0)], 128⟩) .l) 272 (⟨false, 1, .one (.fnn), 8⟩) .l)) 273 (⟨false, 1, .one (.fnn), 8⟩) (.n (.n (.n .l 274 (⟨false, 1, .one (.sl 0 none 0 0), 24⟩) .l) 275 (⟨true, 5, .agg [.one (.sl 0 none 0 0), .one (.sl 0 none 0 0), .one (.i .i64 0), .one (.i .i64 0), .one (.sl 0 none 0 0)], 88⟩) .l) 276 (⟨true, 5, .agg [.one (.sl 0 none 0 0), .one (.sl 0 none 0 0), .one (.i .i64 0), .one (.i .i64 0), .one (.sl 0 none 0 0)], 88⟩) (.n .l 277 (⟨false, 1, .one (.fnn), 8⟩) .l))) 278 (⟨false, 1, .one (.fnn), 8⟩) (.n (.n (.n (.n .l 279 (⟨false, 1, .one (.sl 0 none 0 0), 24⟩) .l) 280 (⟨false, 1, .one (.i .i64 0), 8⟩) .l) 281 (⟨true, 106, .agg [.hash hz, .hash hz, .one (.i .i64 0), .one (.i .i64 0), .hash hz, .one (.i .u64 0), .one (.sl 0 none 0 0), .one (.i .i64 0), .one (.sl 0 none 0 0), .one (.sl 0 none 0 0), .one (.i .i64 0), .one (.i .i64 0), .one (.sl 0 none 0 0)], 240⟩) (.n (.n .l 282 (⟨true, 106, .agg [.hash hz, .hash hz, .one (.i .i64 0), .one (.i .i64 0), .hash hz, .one (.i .u64 0), .one (.sl 0 none 0 0), .one (.i .i64 0), .one (.sl 0 none 0 0), .one (.sl 0 none 0 0), .one (.i .i64 0), .one (.i .i64 0), .one (.sl 0 none 0 0)], 240⟩) .l) 283 (⟨false, 1, .one (.fnn), 8⟩) .l)) 284 (⟨false, 1, .one (.fnn), 8⟩) (.n (.n (.n .l 285 (⟨false, 1, .one (.sl 0 none 0 0), 24⟩) .l) 286 (⟨true, 182, .agg [.one (.i .i64 0), .one (.i .i64 0), .one (.i .i64 0), .one (.i .i64 0), .one (.i .i64 0), .one (.i .i64 0), .one (.i .i64 0), .one (.i .i64 0), .one (.i .i64 0), .one (.i .i64 0), .one (.i .i64 0), .one (.i .i64 0), .hash hz, .one (.sl 0 none 0 0), .one (.sl 0 none 0 0), .hash hz, .one (.i .i64 0), .one (.i .i64 0), .hash hz, .one (.i .u64 0), .hash hz, .hash hz, .one (.i .i64 0), .one (.i .i64 0), .one (.sl 0 none 0 0), .one (.sl 0 none 0 0), .one (.i .i64 0)], 400⟩) .l) 287 (⟨true, 182, .agg [.one (.i .i64 0), .one (.i .i64 0), .one (.i .i64 0), .one (.i .i64 0), .one (.i .i64 0), .one (.i .i64 0), .one (.i .i64 0), .one (.i .i64 0), .one (.i .i64 0), .one (.i .i64 0), .one (.i .i64 0), .one (.i .i64 0), .hash hz, .one (.sl 0 none 0 0), .one (.sl 0 none 0 0), .hash hz, .one (.i .i64 0), .one (.i .i64 0), .hash hz, .one (.i .u64 0), .hash hz, .hash hz, .one (.i .i64 0), .one (.i .i64 0), .one (.sl 0 none 0 0), .one (.sl 0 none 0 0), .one (.i .i64 0)], 400⟩) (.n .l 288 (⟨false, 1, .one (.fnn), 8⟩) .l)))) 289 (⟨false, 1, .one (.fnn), 8⟩) (.n (.n (.n (.n (.n .l 290 (⟨false, 1, .one (.sl 0 none 0 0), 24⟩) .l) 291 (⟨false, 1, .one (.i .i64 0), 8⟩) .l) 292 (⟨true, 3, .agg [.one (.i .i64 0), .one (.sl 0 none 0 0), .one (.i .i64 0)], 40⟩) (.n (.n .l 293 (⟨true, 3, .agg [.one (.i .i64 0), .one (.sl 0 none 0 0), .one (.i .i64 0)], 40⟩) .l) 294 (⟨false, 1, .one (.fnn), 8⟩) .l)) 295 (⟨false, 1, .one (.fnn), 8⟩) (.n (.n (.n .l 296 (⟨false, 1, .one (.sl 0 none 0 0), 24⟩) .l) 297 (⟨false, 1, .one (.i .i64 0), 8⟩) .l) 298 (⟨false, 1, .one (.i .i64 0), 8⟩) (.n .l 299 (⟨true, 3, .agg [.one (.i .i64 0), .one (.i .i64 0), .one (.i .i64 0)], 24⟩) .l))) 300 (⟨true, 3, .agg [.one (.i .i64 0), .one (.i .i64 0), .one (.i .i64 0)], 24⟩) (.n (.n (.n (.n .l 301 (⟨false, 1, .one (.fnn), 8⟩) .l) 302 (⟨false, 1, .one (.fnn), 8⟩) .l) 303 (⟨false, 1, .one (.fnn), 8⟩) (.n (.n .l 304 (⟨false, 1, .one (.i .i64 0), 8⟩) .l) 306 (⟨false, 1, .one (.fnn), 8⟩) .l)) 307 (⟨false, 1, .one (.fnn), 8⟩) (.n (.n (.n .l 308 (⟨false, 1, .one (.fnn), 8⟩) .l) 310 (⟨false, 1, .one (.fnn), 8⟩) .l) 311 (⟨false, 1, .one (.fnn), 8⟩) (.n .l 312 (⟨false, 1, .one (.fnn), 8⟩) .l))))) 313 (⟨false, 1, .one (.fnn), 8⟩) (.n (.n (.n (.n (.n (.n .l 314 (⟨false, 1, .one (.fnn), 8⟩) .l) 315 (⟨false, 1, .one (.fnn), 8⟩) .l) 316 (⟨false, 1, .one (.fnn), 8⟩) (.n (.n .l 317 (⟨false, 1, .one (.fnn), 8⟩) .l) 318 (⟨false, 1, .one (.fnn), 8⟩) .l)) 319 (⟨false, 1, .one (.fnn), 8⟩) (.n (.n (.n .l 320 (⟨false, 1, .one (.fnn), 8⟩) .l) 321 (⟨false, 1, .one (.fnn), 8⟩) .l) 322 (⟨false, 1, .one (.fnn), 8⟩) (.n .l 323 (⟨false, 1, .one (.fnn), 8⟩) .l))) 324 (⟨false, 1, .one (.fnn), 8⟩) (.n (.n (.n (.n .l 325 (⟨false, 1, .one (.fnn), 8⟩) .l) 326 (⟨false, 1, .one (.fnn), 8⟩) .l) 327 (⟨false, 1, .one (.fnn), 8⟩) (.n (.n .l 328 (⟨false, 1, .one (.fnn), 8⟩) .l) 329 (⟨false, 1, .one (.fnn), 8⟩) .l)) 330 (⟨false, 1, .one (.fnn), 8⟩) (.n (.n (.n .l 331 (⟨false, 1, .one (.i .u64 0), 8⟩) .l) 332 (⟨false, 1, .one (.fnn), 8⟩) .l) 333 (⟨false, 1, .one (.fnn), 8⟩) (.n .l 334 (⟨false, 1, .one (.fnn), 8⟩) .l)))) 335 (⟨false, 1, .one (.pn), 8⟩) (.n (.n (.n (.n (.n .l 336 (⟨false, 1, .one (.fnn), 8⟩) .l) 337 (⟨false, 1, .one (.fnn), 8⟩) .l) 338 (⟨false, 1, .one (.fnn), 8⟩) (.n (.n .l 339 (⟨false, 1, .one (.pn), 8⟩) .l) 341 (⟨false, 1, .one (.fnn), 8⟩) .l)) 342 (⟨false, 1, .one (.fnn), 8⟩) (.n (.n (.n .l 343 (⟨false, 1, .one (.fnn), 8⟩) .l) 344 (⟨true, 4, .agg [.one (.pn), .one (.pn), .one (.pn), .one (.s ⟨#[]⟩)], 40⟩) .l) 345 (⟨true, 4, .agg [.one (.pn), .one (.pn), .one (.pn), .one (.s ⟨#[]⟩)], 40⟩) (.n .l 347 (⟨true, 0, .agg [], 0⟩) .l))) 348 (⟨true, 0, .agg [], 0⟩) (.n (.n (.n (.n .l 349 (⟨false, 1, .one (.fnn), 8⟩) .l) 350 (⟨false, 1, .one (.i .u8 0), 1⟩) .l) 351 (⟨false, 1, .one (.i .u8 0), 1⟩) (.n .l 352 (⟨false, 1, .one (.fnn), 8⟩) .l)) 353 (⟨false, 1, .one (.pn), 8⟩) (.n (.n (.n .l 354 (⟨false, 1, .one (.i .i32 0), 4⟩) .l) 355 (⟨false, 1, .one (.i .i32 0), 4⟩) .l) 356 (⟨true, 11, .agg [.one (.i .u64 0), .one (.i .u64 0), .one (.i .u32 0), .one (.i .u8 0), .one (.i .u8 0), .one (.i .u8 0), .one (.i .u8 0), .one (.fnn), .one (.pn), .one (.i .i32 0), .one (.i .i32 0)], 48⟩) (.n .l 357 (⟨true, 11, .agg [.one (.i .u64 0), .one (.i .u64 0), .one (.i .u32 0), .one (.i .u8 0), .one (.i .u8 0), .one (.i .u8 0), .one (.i .u8 0), .one (.fnn), .one (.pn), .one (.i .i32 0), .one (.i .i32 0)], 48⟩) .l))))))))
instance tbV : Tb Tryz.prog tdV taV := ⟨⟨⟨⟨⟨⟨⟨⟨⟨trivial, ud2.is, trivial⟩, ud3.is, trivial⟩, ud4.is, ⟨⟨trivial, ud5.is, trivial⟩, ud6.is, trivial⟩⟩, TD.St.mk' ⟨⟨by kernel_rfl, by kernel_rfl⟩, ⟨by kernel_rfl, by kernel_rfl⟩, ⟨by kernel_rfl, by kernel_rfl⟩, ⟨by kernel_rfl, by kernel_rfl⟩, trivial⟩ pls7.is, ⟨⟨⟨trivial, TD.St.mk' ⟨⟨by kernel_rfl, by kernel_rfl⟩, ⟨by kernel_rfl, by kernel_rfl⟩, ⟨by kernel_rfl, by kernel_rfl⟩, ⟨by kernel_rfl, by kernel_rfl⟩, trivial⟩ pls8.is, trivial⟩, ud9.is, trivial⟩, ud10.is, ⟨trivial, ud11.is, trivial⟩⟩⟩, ud12.is, ⟨⟨⟨⟨trivial, TD.St.mk' ⟨⟨by kernel_rfl, by kernel_rfl⟩, ⟨by kernel_rfl, by kernel_rfl⟩, trivial⟩ pls13.is, trivial⟩, TD.St.mk' ⟨⟨by kernel_rfl, by kernel_rfl⟩, ⟨by kernel_rfl, by kernel_rfl⟩, trivial⟩ pls14.is, trivial⟩, ud15.is, ⟨⟨trivial, ud16.is, trivial⟩, ud17.is, trivial⟩⟩, TD.St.mk' ⟨⟨by kernel_rfl, by kernel_rfl⟩, trivial⟩ pls18.is, ⟨⟨⟨trivial, TD.St.mk' ⟨⟨by kernel_rfl, by kernel_rfl⟩, trivial⟩ pls19.is, trivial⟩, ifc20, trivial⟩, ud21.is, ⟨trivial, ud22.is, trivial⟩⟩⟩⟩, ud23.is, ⟨⟨⟨⟨⟨trivial, TD.St.mk' ⟨⟨by kernel_rfl, by kernel_rfl⟩, ⟨by kernel_rfl, by kernel_rfl⟩, trivial⟩ pls25.is, trivial⟩, TD.St.mk' ⟨⟨by kernel_rfl, by kernel_rfl⟩, ⟨by kernel_rfl, by kernel_rfl⟩, trivial⟩ pls26.is, trivial⟩, ud33.is, ⟨⟨trivial, TD.St.mk' ⟨⟨by kernel_rfl, by kernel_rfl⟩, ⟨by kernel_rfl, by kernel_rfl⟩, trivial⟩ pls34.is, trivial⟩, TD.St.mk' ⟨⟨by kernel_rfl, by kernel_rfl⟩, ⟨by kernel_rfl, by kernel_rfl⟩, trivial⟩ pls35.is, trivial⟩⟩, ud36.is, ⟨⟨⟨trivial, ud46.is, trivial⟩, ud48.is, trivial⟩, ⟨ud49.is, ht49⟩, ⟨trivial, ⟨ud50.is, ht50⟩, trivial⟩⟩⟩, TD.St.mk' ⟨⟨by kernel_rfl, by kernel_rfl⟩, ⟨by kernel_rfl, by kernel_rfl⟩, ⟨by kernel_rfl, by kernel_rfl⟩, trivial⟩ pls56.is, ⟨⟨⟨⟨trivial, TD.St.mk' ⟨⟨by kernel_rfl, by kernel_rfl⟩, ⟨by kernel_rfl, by kernel_rfl⟩, ⟨by kernel_rfl, by kernel_rfl⟩, trivial⟩ pls57.is, trivial⟩, ud59.is, trivial⟩, ud70.is, ⟨trivial, ud71.is, trivial⟩⟩, TD.St.mk' ⟨⟨by kernel_rfl, by kernel_rfl⟩, ⟨by kernel_rfl, by kernel_rfl⟩, ⟨by kernel_rfl, by kernel_rfl⟩, trivial⟩ pls74.is, ⟨⟨⟨trivial, TD.St.mk' ⟨⟨by kernel_rfl, by kernel_rfl⟩, ⟨by kernel_rfl, by kernel_rfl⟩, ⟨by kernel_rfl, by kernel_rfl⟩, trivial⟩ pls75.is, trivial⟩, ud80.is, trivial⟩, ud84.is, ⟨trivial, ud85.is, trivial⟩⟩⟩⟩⟩, TD.St.mk' ⟨⟨by kernel_rfl, by kernel_rfl⟩, ⟨by kernel_rfl, by kernel_rfl⟩, trivial⟩ pls87.is, ⟨⟨⟨⟨⟨⟨trivial, TD.St.mk' ⟨⟨by kernel_rfl, by kernel_rfl⟩, ⟨by kernel_rfl, by kernel_rfl⟩, trivial⟩ pls88.is, trivial⟩, ud93.is, trivial⟩, ud94.is, ⟨⟨trivial, ud95.is, trivial⟩, ud96.is, trivial⟩⟩, ud97.is, ⟨⟨⟨trivial, ud98.is, trivial⟩, ud99.is, trivial⟩, ud100.is, ⟨trivial, ud101.is, trivial⟩⟩⟩, ud102.is, ⟨⟨⟨⟨trivial, ud103.is, trivial⟩, ud104.is, trivial⟩, ud105.is, ⟨⟨trivial, ud106.is, trivial⟩, ud107.is, trivial⟩⟩, ud108.is, ⟨⟨⟨trivial, ud109.is, trivial⟩, ud110.is, trivial⟩, ud111.is, ⟨trivial, ud112.is, trivial⟩⟩⟩⟩, ud113.is, ⟨⟨⟨⟨⟨trivial, ud114.is, trivial⟩, ud115.is, trivial⟩, ud116.is, ⟨⟨trivial, ud117.is, trivial⟩, ud118.is, trivial⟩⟩, ud119.is, ⟨⟨⟨trivial, ud120.is, trivial⟩, TD.St.mk' ⟨⟨by kernel_rfl, by kernel_rfl⟩, ⟨by kernel_rfl, by kernel_rfl⟩, ⟨by kernel_rfl, by kernel_rfl⟩, ⟨by kernel_rfl, by kernel_rfl⟩, ⟨by kernel_rfl, by kernel_rfl⟩, ⟨by kernel_rfl, by kernel_rfl⟩, ⟨by kernel_rfl, by kernel_rfl⟩, ⟨by kernel_rfl, by kernel_rfl⟩, ⟨by kernel_rfl, by kernel_rfl⟩, ⟨by kernel_rfl, by kernel_rfl⟩, ⟨by kernel_rfl, by kernel_rfl⟩, ⟨by kernel_rfl, by kernel_rfl⟩, ⟨by kernel_rfl, by kernel_rfl⟩, ⟨by kernel_rfl, by kernel_rfl⟩, ⟨by kernel_rfl, by kernel_rfl⟩, ⟨by kernel_rfl, by kernel_rfl⟩, ⟨by kernel_rfl, by kernel_rfl⟩, ⟨by kernel_rfl, by kernel_rfl⟩, ⟨by kernel_rfl, by kernel_rfl⟩, ⟨by kernel_rfl, by kernel_rfl⟩, ⟨by kernel_rfl, by kernel_rfl⟩, ⟨by kernel_rfl, by kernel_rfl⟩, ⟨by kernel_rfl, by kernel_rfl⟩, ⟨by kernel_rfl, by kernel_rfl⟩, ⟨by kernel_rfl, by kernel_rfl⟩, ⟨by kernel_rfl, by kernel_rfl⟩, ⟨by kernel_rfl, by kernel_rfl⟩, ⟨by kernel_rfl, by kernel_rfl⟩, ⟨by kernel_rfl, by kernel_rfl⟩, trivial⟩ pls121.is, trivial⟩, TD.St.mk' ⟨⟨by kernel_rfl, by kernel_rfl⟩, ⟨by kernel_rfl, by kernel_rfl⟩, ⟨by kernel_rfl, by kernel_rfl⟩, ⟨by kernel_rfl, by kernel_rfl⟩, ⟨by kernel_rfl, by kernel_rfl⟩, ⟨by kernel_rfl, by kernel_rfl⟩, ⟨by kernel_rfl, by kernel_rfl⟩, ⟨by kernel_rfl, by kernel_rfl⟩, ⟨by kernel_rfl, by kernel_rfl⟩, ⟨by kernel_rfl, by kernel_rfl⟩, ⟨by kernel_rfl, by kernel_rfl⟩, ⟨by kernel_rfl, by kernel_rfl⟩, ⟨by kernel_rfl, by kernel_rfl⟩, ⟨by kernel_rfl, by kernel_rfl⟩, ⟨by kernel_rfl, by kernel_rfl⟩, ⟨by kernel_rfl, by kernel_rfl⟩, ⟨by kernel_rfl, by kernel_rfl⟩, ⟨by kernel_rfl, by kernel_rfl⟩, ⟨by kernel_rfl, by kernel_rfl⟩, ⟨by kernel_rfl, by kernel_rfl⟩, ⟨by kernel_rfl, by kernel_rfl⟩, ⟨by kernel_rfl, by kernel_rfl⟩, ⟨by kernel_rfl, by kernel_rfl⟩, ⟨by kernel_rfl, by kernel_rfl⟩, ⟨by kernel_rfl, by kernel_rfl⟩, ⟨by kernel_rfl, by kernel_rfl⟩, ⟨by kernel_rfl, by kernel_rfl⟩, ⟨by kernel_rfl, by kernel_rfl⟩, ⟨by kernel_rfl, by kernel_rfl⟩, trivial⟩ pls122.is, ⟨trivial, ud127.is, trivial⟩⟩⟩, TD.St.mk' ⟨⟨by kernel_rfl, by kernel_rfl⟩, ⟨by kernel_rfl, by kernel_rfl⟩, trivial⟩ pls128.is, ⟨⟨⟨⟨trivial, TD.St.mk' ⟨⟨by kernel_rfl, by kernel_rfl⟩, ⟨by kernel_rfl, by kernel_rfl⟩, trivial⟩ pls129.is, trivial⟩, ud135.is, trivial⟩, TD.St.mk' trivial pls144.is, ⟨trivial, TD.St.mk' trivial pls145.is, trivial⟩⟩, ud182.is, ⟨⟨⟨trivial, ud186.is, trivial⟩, ud192.is, trivial⟩, ud193.is, ⟨trivial, ud194.is, trivial⟩⟩⟩⟩⟩⟩, ud196.is, ⟨⟨⟨⟨⟨⟨⟨trivial, ud197.is, trivial⟩, ud199.is, trivial⟩, ud200.is, ⟨⟨trivial, TD.St.mk' ⟨⟨by kernel_rfl, by kernel_rfl⟩, ⟨by kernel_rfl, by kernel_rfl⟩, ⟨by kernel_rfl, by kernel_rfl⟩, ⟨by kernel_rfl, by kernel_rfl⟩, ⟨by kernel_rfl, by kernel_rfl⟩, trivial⟩ pls201.is, trivial⟩, TD.St.mk' ⟨⟨by kernel_rfl, by kernel_rfl⟩, ⟨by kernel_rfl, by kernel_rfl⟩, ⟨by kernel_rfl, by kernel_rfl⟩, ⟨by kernel_rfl, by kernel_rfl⟩, ⟨by kernel_rfl, by kernel_rfl⟩, trivial⟩ pls202.is, trivial⟩⟩, ud204.is, ⟨⟨⟨trivial, TD.St.mk' ⟨⟨by kernel_rfl, by kernel_rfl⟩, trivial⟩ pls205.is, trivial⟩, TD.St.mk' ⟨⟨by kernel_rfl, by kernel_rfl⟩, trivial⟩ pls206.is, trivial⟩, ud209.is, ⟨trivial, TD.St.mk' ⟨⟨by kernel_rfl, by kernel_rfl⟩, ⟨by kernel_rfl, by kernel_rfl⟩, trivial⟩ pls210.is, trivial⟩⟩⟩, TD.St.mk' ⟨⟨by kernel_rfl, by kernel_rfl⟩, ⟨by kernel_rfl, by kernel_rfl⟩, trivial⟩ pls211.is, ⟨⟨⟨⟨trivial, ud212.is, trivial⟩, TD.St.mk' ⟨⟨by kernel_rfl, by kernel_rfl⟩, ⟨by kernel_rfl, by kernel_rfl⟩, ⟨by kernel_rfl, by kernel_rfl⟩, ⟨by kernel_rfl, by kernel_rfl⟩, ⟨by kernel_rfl, by kernel_rfl⟩, trivial⟩ pls213.is, trivial⟩, TD.St.mk' ⟨⟨by kernel_rfl, by kernel_rfl⟩, ⟨by kernel_rfl, by kernel_rfl⟩, ⟨by kernel_rfl, by kernel_rfl⟩, ⟨by kernel_rfl, by kernel_rfl⟩, ⟨by kernel_rfl, by kernel_rfl⟩, trivial⟩ pls214.is, ⟨⟨trivial, ud217.is, trivial⟩, TD.St.mk' ⟨⟨by kernel_rfl, by kernel_rfl⟩, ⟨by kernel_rfl, by kernel_rfl⟩, trivial⟩ pls218.is, trivial⟩⟩, TD.St.mk' ⟨⟨by kernel_rfl, by kernel_rfl⟩, ⟨by kernel_rfl, by kernel_rfl⟩, trivial⟩ pls219.is, ⟨⟨⟨trivial, ud221.is, trivial⟩, TD.St.mk' ⟨⟨by kernel_rfl, by kernel_rfl⟩, ⟨by kernel_rfl, by kernel_rfl⟩, trivial⟩ pls222.is, trivial⟩, TD.St.mk' ⟨⟨by kernel_rfl, by kernel_rfl⟩, ⟨by kernel_rfl, by kernel_rfl⟩, trivial⟩ pls223.is, ⟨trivial, ud226.is, trivial⟩⟩⟩⟩, ud227.is, ⟨⟨⟨⟨⟨trivial, TD.St.mk' ⟨⟨by kernel_rfl, by kernel_rfl⟩, ⟨by kernel_rfl, by kernel_rfl⟩, ⟨by kernel_rfl, by kernel_rfl⟩, ⟨by kernel_rfl, by kernel_rfl⟩, trivial⟩ pls228.is, trivial⟩, TD.St.mk' ⟨⟨by kernel_rfl, by kernel_rfl⟩, ⟨by kernel_rfl, by kernel_rfl⟩, ⟨by kernel_rfl, by kernel_rfl⟩, ⟨by kernel_rfl, by kernel_rfl⟩, trivial⟩ pls229.is, trivial⟩, ud232.is, ⟨⟨trivial, TD.St.mk' ⟨⟨by kernel_rfl, by kernel_rfl⟩, ⟨by kernel_rfl, by kernel_rfl⟩, trivial⟩ pls233.is, trivial⟩, TD.St.mk' ⟨⟨by kernel_rfl, by kernel_rfl⟩, ⟨by kernel_rfl, by kernel_rfl⟩, trivial⟩ pls234.is, trivial⟩⟩, ud237.is, ⟨⟨⟨trivial, ud238.is, trivial⟩, TD.St.mk' ⟨⟨by kernel_rfl, by kernel_rfl⟩, ⟨by kernel_rfl, by kernel_rfl⟩, trivial⟩ pls239.is, trivial⟩, TD.St.mk' ⟨⟨by kernel_rfl, by kernel_rfl⟩, ⟨by kernel_rfl, by kernel_rfl⟩, trivial⟩ pls240.is, ⟨trivial, TD.St.mk' ⟨⟨by kernel_rfl, by kernel_rfl⟩, ⟨by kernel_rfl, by kernel_rfl⟩, ⟨by kernel_rfl, by kernel_rfl⟩, ⟨by kernel_rfl, by kernel_rfl⟩, trivial⟩ pls241.is, trivial⟩⟩⟩, TD.St.mk' ⟨⟨by kernel_rfl, by kernel_rfl⟩, ⟨by kernel_rfl, by kernel_rfl⟩, ⟨by kernel_rfl, by kernel_rfl⟩, ⟨by kernel_rfl, by kernel_rfl⟩, trivial⟩ pls242.is, ⟨⟨⟨⟨trivial, ud245.is, trivial⟩, TD.St.mk' ⟨⟨by kernel_rfl, by kernel_rfl⟩, ⟨by kernel_rfl, by kernel_rfl⟩, ⟨by kernel_rfl, by kernel_rfl⟩, ⟨by kernel_rfl, by kernel_rfl⟩, ⟨by kernel_rfl, by kernel_rfl⟩, ⟨by kernel_rfl, by kernel_rfl⟩, ⟨by kernel_rfl, by kernel_rfl⟩, ⟨by kernel_rfl, by kernel_rfl⟩, ⟨by kernel_rfl, by kernel_rfl⟩, trivial⟩ pls246.is, trivial⟩, TD.St.mk' ⟨⟨by kernel_rfl, by kernel_rfl⟩, ⟨by kernel_rfl, by kernel_rfl⟩, ⟨by kernel_rfl, by kernel_rfl⟩, ⟨by kernel_rfl, by kernel_rfl⟩, ⟨by kernel_rfl, by kernel_rfl⟩, ⟨by kernel_rfl, by kernel_rfl⟩, ⟨by kernel_rfl, by kernel_rfl⟩, ⟨by kernel_rfl, by kernel_rfl⟩, ⟨by kernel_rfl, by kernel_rfl⟩, trivial⟩ pls247.is, ⟨trivial, ud250.is, trivial⟩⟩, TD.St.mk' ⟨⟨by kernel_rfl, by kernel_rfl⟩, trivial⟩ pls251.is, ⟨⟨⟨trivial, TD.St.mk' ⟨⟨by kernel_rfl, by kernel_rfl⟩, trivial⟩ pls252.is, trivial⟩, ud255.is, trivial⟩, TD.St.mk' ⟨⟨by kernel_rfl, by kernel_rfl⟩, ⟨by kernel_rfl, by kernel_rfl⟩, ⟨by kernel_rfl, by kernel_rfl⟩, ⟨by kernel_rfl, by kernel_rfl⟩, ⟨by kernel_rfl, by kernel_rfl⟩, ⟨by kernel_rfl, by kernel_rfl⟩, trivial⟩ pls256.is, ⟨trivial, TD.St.mk' ⟨⟨by kernel_rfl, by kernel_rfl⟩, ⟨by kernel_rfl, by kernel_rfl⟩, ⟨by kernel_rfl, by kernel_rfl⟩, ⟨by kernel_rfl, by kernel_rfl⟩, ⟨by kernel_rfl, by kernel_rfl⟩, ⟨by kernel_rfl, by kernel_rfl⟩, trivial⟩ pls257.is, trivial⟩⟩⟩⟩⟩, ud260.is, ⟨⟨⟨⟨⟨⟨trivial, TD.St.mk' ⟨⟨by kernel_rfl, by kernel_rfl⟩, ⟨by kernel_rfl, by kernel_rfl⟩, ⟨by kernel_rfl, by kernel_rfl⟩, ⟨by kernel_rfl, by kernel_rfl⟩, ⟨by kernel_rfl, by kernel_rfl⟩, trivial⟩ pls261.is, trivial⟩, TD.St.mk' ⟨⟨by kernel_rfl, by kernel_rfl⟩, ⟨by kernel_rfl, by kernel_rfl⟩, ⟨by kernel_rfl, by kernel_rfl⟩, ⟨by kernel_rfl, by kernel_rfl⟩, ⟨by kernel_rfl, by kernel_rfl⟩, trivial⟩ pls262.is, trivial⟩, TD.St.mk' ⟨⟨by kernel_rfl, by kernel_rfl⟩, ⟨by kernel_rfl, by kernel_rfl⟩, trivial⟩ pls263.is, ⟨⟨trivial, TD.St.mk' ⟨⟨by kernel_rfl, by kernel_rfl⟩, ⟨by kernel_rfl, by kernel_rfl⟩, trivial⟩ pls264.is, trivial⟩, ud267.is, trivial⟩⟩, TD.St.mk' ⟨⟨by kernel_rfl, by kernel_rfl⟩, ⟨by kernel_rfl, by kernel_rfl⟩, ⟨by kernel_rfl, by kernel_rfl⟩, ⟨by kernel_rfl, by kernel_rfl⟩, ⟨by kernel_rfl, by kernel_rfl⟩, ⟨by kernel_rfl, by kernel_rfl⟩, ⟨by kernel_rfl, by kernel_rfl⟩, ⟨by kernel_rfl, by kernel_rfl⟩, ⟨by kernel_rfl, by kernel_rfl⟩, ⟨by kernel_rfl, by kernel_rfl⟩, ⟨by kernel_rfl, by kernel_rfl⟩, trivial⟩ pls268.is, ⟨⟨⟨trivial, TD.St.mk' ⟨⟨by kernel_rfl, by kernel_rfl⟩, ⟨by kernel_rfl, by kernel_rfl⟩, ⟨by kernel_rfl, by kernel_rfl⟩, ⟨by kernel_rfl, by kernel_rfl⟩, ⟨by kernel_rfl, by kernel_rfl⟩, ⟨by kernel_rfl, by kernel_rfl⟩, ⟨by kernel_rfl, by kernel_rfl⟩, ⟨by kernel_rfl, by kernel_rfl⟩, ⟨by kernel_rfl, by kernel_rfl⟩, ⟨by kernel_rfl, by kernel_rfl⟩, ⟨by kernel_rfl, by kernel_rfl⟩, trivial⟩ pls269.is, trivial⟩, TD.St.mk' ⟨⟨by kernel_rfl, by kernel_rfl⟩, ⟨by kernel_rfl, by kernel_rfl⟩, ⟨by kernel_rfl, by kernel_rfl⟩, trivial⟩ pls270.is, trivial⟩, TD.St.mk' ⟨⟨by kernel_rfl, by kernel_rfl⟩, ⟨by kernel_rfl, by kernel_rfl⟩, ⟨by kernel_rfl, by kernel_rfl⟩, trivial⟩ pls271.is, ⟨trivial, ud274.is, trivial⟩⟩⟩, TD.St.mk' ⟨⟨by kernel_rfl, by kernel_rfl⟩, ⟨by kernel_rfl, by kernel_rfl⟩, ⟨by kernel_rfl, by kernel_rfl⟩, ⟨by kernel_rfl, by kernel_rfl⟩, ⟨by kernel_rfl, by kernel_rfl⟩, trivial⟩ pls275.is, ⟨⟨⟨⟨trivial, TD.St.mk' ⟨⟨by kernel_rfl, by kernel_rfl⟩, ⟨by kernel_rfl, by kernel_rfl⟩, ⟨by kernel_rfl, by kernel_rfl⟩, ⟨by kernel_rfl, by kernel_rfl⟩, ⟨by kernel_rfl, by kernel_rfl⟩, trivial⟩ pls276.is, trivial⟩, ud279.is, trivial⟩, ud280.is, ⟨⟨trivial, TD.St.mk' ⟨⟨by kernel_rfl, by kernel_rfl⟩, ⟨by kernel_rfl, by kernel_rfl⟩, ⟨by kernel_rfl, by kernel_rfl⟩, ⟨by kernel_rfl, by kernel_rfl⟩, trivial⟩ pls281.is, trivial⟩, TD.St.mk' ⟨⟨by kernel_rfl, by kernel_rfl⟩, ⟨by kernel_rfl, by kernel_rfl⟩, ⟨by kernel_rfl, by kernel_rfl⟩, ⟨by kernel_rfl, by kernel_rfl⟩, trivial⟩ pls282.is, trivial⟩⟩, ud285.is, ⟨⟨⟨trivial, TD.St.mk' ⟨⟨by kernel_rfl, by kernel_rfl⟩, ⟨by kernel_rfl, by kernel_rfl⟩, ⟨by kernel_rfl, by kernel_rfl⟩, ⟨by kernel_rfl, by kernel_rfl⟩, ⟨by kernel_rfl, by kernel_rfl⟩, ⟨by kernel_rfl, by kernel_rfl⟩, ⟨by kernel_rfl, by kernel_rfl⟩, ⟨by kernel_rfl, by kernel_rfl⟩, ⟨by kernel_rfl, by kernel_rfl⟩, ⟨by kernel_rfl, by kernel_rfl⟩, ⟨by kernel_rfl, by kernel_rfl⟩, ⟨by kernel_rfl, by kernel_rfl⟩, trivial⟩ pls286.is, trivial⟩, TD.St.mk' ⟨⟨by kernel_rfl, by kernel_rfl⟩, ⟨by kernel_rfl, by kernel_rfl⟩, ⟨by kernel_rfl, by kernel_rfl⟩, ⟨by kernel_rfl, by kernel_rfl⟩, ⟨by kernel_rfl, by kernel_rfl⟩, ⟨by kernel_rfl, by kernel_rfl⟩, ⟨by kernel_rfl, by kernel_rfl⟩, ⟨by kernel_rfl, by kernel_rfl⟩, ⟨by kernel_rfl, by kernel_rfl⟩, ⟨by kernel_rfl, by kernel_rfl⟩, ⟨by kernel_rfl, by kernel_rfl⟩, ⟨by kernel_rfl, by kernel_rfl⟩, trivial⟩ pls287.is, trivial⟩, ud290.is, ⟨trivial, ud291.is, trivial⟩⟩⟩⟩, TD.St.mk' ⟨⟨by kernel_rfl, by kernel_rfl⟩, ⟨by kernel_rfl, by kernel_rfl⟩, ⟨by kernel_rfl, by kernel_rfl⟩, trivial⟩ pls292.is, ⟨⟨⟨⟨⟨trivial, TD.St.mk' ⟨⟨by kernel_rfl, by kernel_rfl⟩, ⟨by kernel_rfl, by kernel_rfl⟩, ⟨by kernel_rfl, by kernel_rfl⟩, trivial⟩ pls293.is, trivial⟩, ud296.is, trivial⟩, ud297.is, ⟨⟨trivial, ud298.is, trivial⟩, TD.St.mk' ⟨⟨by kernel_rfl, by kernel_rfl⟩, ⟨by kernel_rfl, by kernel_rfl⟩, ⟨by kernel_rfl, by kernel_rfl⟩, trivial⟩ pls299.is, trivial⟩⟩, TD.St.mk' ⟨⟨by kernel_rfl, by kernel_rfl⟩, ⟨by kernel_rfl, by kernel_rfl⟩, ⟨by kernel_rfl, by kernel_rfl⟩, trivial⟩ pls300.is, ⟨⟨⟨trivial, ud304.is, trivial⟩, ud331.is, trivial⟩, ud335.is, ⟨trivial, ud339.is, trivial⟩⟩⟩, TD.St.mk' ⟨⟨by kernel_rfl, by kernel_rfl⟩, ⟨by kernel_rfl, by kernel_rfl⟩, ⟨by kernel_rfl, by kernel_rfl⟩, ⟨by kernel_rfl, by kernel_rfl⟩, trivial⟩ pls344.is, ⟨⟨⟨⟨trivial, TD.St.mk' ⟨⟨by kernel_rfl, by kernel_rfl⟩, ⟨by kernel_rfl, by kernel_rfl⟩, ⟨by kernel_rfl, by kernel_rfl⟩, ⟨by kernel_rfl, by kernel_rfl⟩, trivial⟩ pls345.is, trivial⟩, ud346.is, trivial⟩, ud350.is, ⟨trivial, ud351.is, trivial⟩⟩, ud353.is, ⟨⟨⟨trivial, ud354.is, trivial⟩, ud355.is, trivial⟩, TD.St.mk' ⟨⟨by kernel_rfl, by kernel_rfl⟩, ⟨by kernel_rfl, by kernel_rfl⟩, ⟨by kernel_rfl, by kernel_rfl⟩, ⟨by kernel_rfl, by kernel_rfl⟩, ⟨by kernel_rfl, by kernel_rfl⟩, ⟨by kernel_rfl, by kernel_rfl⟩, ⟨by kernel_rfl, by kernel_rfl⟩, ⟨by kernel_rfl, by kernel_rfl⟩, ⟨by kernel_rfl, by kernel_rfl⟩, ⟨by kernel_rfl, by kernel_rfl⟩, ⟨by kernel_rfl, by kernel_rfl⟩, trivial⟩ pls356.is, ⟨trivial, TD.St.mk' ⟨⟨by kernel_rfl, by kernel_rfl⟩, ⟨by kernel_rfl, by kernel_rfl⟩, ⟨by kernel_rfl, by kernel_rfl⟩, ⟨by kernel_rfl, by kernel_rfl⟩, ⟨by kernel_rfl, by kernel_rfl⟩, ⟨by kernel_rfl, by kernel_rfl⟩, ⟨by kernel_rfl, by kernel_rfl⟩, ⟨by kernel_rfl, by kernel_rfl⟩, ⟨by kernel_rfl, by kernel_rfl⟩, ⟨by kernel_rfl, by kernel_rfl⟩, ⟨by kernel_rfl, by kernel_rfl⟩, trivial⟩ pls357.is, trivial⟩⟩⟩⟩⟩⟩⟩, ⟨⟨⟨⟨⟨⟨⟨⟨⟨trivial, ta1, trivial⟩, ta2, trivial⟩, ta3, ⟨⟨trivial, ta4, trivial⟩, ta5, trivial⟩⟩, ta6, ⟨⟨⟨trivial, ta7, trivial⟩, ta8, trivial⟩, ta9, ⟨trivial, ta10, trivial⟩⟩⟩, ta11, ⟨⟨⟨⟨trivial, ta12, trivial⟩, ta13, trivial⟩, ta14, ⟨⟨trivial, ta15, trivial⟩, ta16, trivial⟩⟩, ta17, ⟨⟨⟨trivial, ta18, trivial⟩, ta19, trivial⟩, ta20, ⟨trivial, ta21, trivial⟩⟩⟩⟩, ta22, ⟨⟨⟨⟨⟨trivial, ta23, trivial⟩, ta24, trivial⟩, ta25, ⟨⟨trivial, ta26, trivial⟩, ta27, trivial⟩⟩, ta28, ⟨⟨⟨trivial, ta29, trivial⟩, ta31, trivial⟩, ta32, ⟨trivial, ta33, trivial⟩⟩⟩, ta34, ⟨⟨⟨⟨trivial, ta35, trivial⟩, ta36, trivial⟩, ta38, ⟨⟨trivial, ta39, trivial⟩, ta40, trivial⟩⟩, ta41, ⟨⟨⟨trivial, ta42, trivial⟩, ta43, trivial⟩, ta44, ⟨trivial, ta45, trivial⟩⟩⟩⟩⟩, ta46, ⟨⟨⟨⟨⟨⟨trivial, ta47, trivial⟩, ta48, trivial⟩, ta49, ⟨⟨trivial, ta50, trivial⟩, ta51, trivial⟩⟩, ta52, ⟨⟨⟨trivial, ta53, trivial⟩, ta54, trivial⟩, ta55, ⟨trivial, ta56, trivial⟩⟩⟩, ta57, ⟨⟨⟨⟨trivial, ta58, trivial⟩, ta59, trivial⟩, ta60, ⟨⟨trivial, ta61, trivial⟩, ta62, trivial⟩⟩, ta63, ⟨⟨⟨trivial, ta64, trivial⟩, ta65, trivial⟩, ta66, ⟨trivial, ta67, trivial⟩⟩⟩⟩, ta68, ⟨⟨⟨⟨⟨trivial, ta69, trivial⟩, ta70, trivial⟩, ta71, ⟨⟨trivial, ta72, trivial⟩, ta73, trivial⟩⟩, ta74, ⟨⟨⟨trivial, ta75, trivial⟩, ta76, trivial⟩, ta77, ⟨trivial, ta78, trivial⟩⟩⟩, ta79, ⟨⟨⟨⟨trivial, ta80, trivial⟩, ta81, trivial⟩, ta82, ⟨⟨trivial, ta83, trivial⟩, ta84, trivial⟩⟩, ta85, ⟨⟨⟨trivial, ta86, trivial⟩, ta87, trivial⟩, ta88, ⟨trivial, ta89, trivial⟩⟩⟩⟩⟩⟩, ta90, ⟨⟨⟨⟨⟨⟨⟨trivial, ta91, trivial⟩, ta92, trivial⟩, ta93, ⟨⟨trivial, ta94, trivial⟩, ta95, trivial⟩⟩, ta96, ⟨⟨⟨trivial, ta97, trivial⟩, ta98, trivial⟩, ta99, ⟨trivial, ta100, trivial⟩⟩⟩, ta101, ⟨⟨⟨⟨trivial, ta102, trivial⟩, ta103, trivial⟩, ta104, ⟨⟨trivial, ta105, trivial⟩, ta106, trivial⟩⟩, ta107, ⟨⟨⟨trivial, ta108, trivial⟩, ta109, trivial⟩, ta110, ⟨trivial, ta111, trivial⟩⟩⟩⟩, ta112, ⟨⟨⟨⟨⟨trivial, ta113, trivial⟩, ta114, trivial⟩, ta115, ⟨⟨trivial, ta116, trivial⟩, ta117, trivial⟩⟩, ta118, ⟨⟨⟨trivial, ta119, trivial⟩, ta120, trivial⟩, ta121, ⟨trivial, ta122, trivial⟩⟩⟩, ta123, ⟨⟨⟨⟨trivial, ta124, trivial⟩, ta125, trivial⟩, ta126, ⟨⟨trivial, ta127, trivial⟩, ta128, trivial⟩⟩, ta129, ⟨⟨⟨trivial, ta130, trivial⟩, ta131, trivial⟩, ta132, ⟨trivial, ta134, trivial⟩⟩⟩⟩⟩, ta135, ⟨⟨⟨⟨⟨⟨trivial, ta136, trivial⟩, ta137, trivial⟩, ta138, ⟨⟨trivial, ta139, trivial⟩, ta140, trivial⟩⟩, ta141, ⟨⟨⟨trivial, ta142, trivial⟩, ta143, trivial⟩, ta144, ⟨trivial, ta145, trivial⟩⟩⟩, ta147, ⟨⟨⟨⟨trivial, ta148, trivial⟩, ta149, trivial⟩, ta150, ⟨⟨trivial, ta151, trivial⟩, ta152, trivial⟩⟩, ta153, ⟨⟨⟨trivial, ta154, trivial⟩, ta155, trivial⟩, ta156, ⟨trivial, ta157, trivial⟩⟩⟩⟩, ta158, ⟨⟨⟨⟨⟨trivial, ta159, trivial⟩, ta160, trivial⟩, ta161, ⟨⟨trivial, ta162, trivial⟩, ta163, trivial⟩⟩, ta164, ⟨⟨⟨trivial, ta165, trivial⟩, ta166, trivial⟩, ta167, ⟨trivial, ta168, trivial⟩⟩⟩, ta169, ⟨⟨⟨⟨trivial, ta170, trivial⟩, ta171, trivial⟩, ta172, ⟨trivial, ta173, trivial⟩⟩, ta174, ⟨⟨⟨trivial, ta175, trivial⟩, ta176, trivial⟩, ta177, ⟨trivial, ta178, trivial⟩⟩⟩⟩⟩⟩⟩, ta179, ⟨⟨⟨⟨⟨⟨⟨⟨trivial, ta180, trivial⟩, ta181, trivial⟩, ta182, ⟨⟨trivial, ta183, trivial⟩, ta184, trivial⟩⟩, ta185, ⟨⟨⟨trivial, ta186, trivial⟩, ta187, trivial⟩, ta188, ⟨trivial, ta189, trivial⟩⟩⟩, ta190, ⟨⟨⟨⟨trivial, ta191, trivial⟩, ta192, trivial⟩, ta193, ⟨⟨trivial, ta194, trivial⟩, ta195, trivial⟩⟩, ta196, ⟨⟨⟨trivial, ta197, trivial⟩, ta198, trivial⟩, ta199, ⟨trivial, ta200, trivial⟩⟩⟩⟩, ta201, ⟨⟨⟨⟨⟨trivial, ta202, trivial⟩, ta203, trivial⟩, ta204, ⟨⟨trivial, ta205, trivial⟩, ta206, trivial⟩⟩, ta207, ⟨⟨⟨trivial, ta208, trivial⟩, ta209, trivial⟩, ta210, ⟨trivial, ta211, trivial⟩⟩⟩, ta212, ⟨⟨⟨⟨trivial, ta213, trivial⟩, ta214, trivial⟩, ta215, ⟨⟨trivial, ta216, trivial⟩, ta217, trivial⟩⟩, ta218, ⟨⟨⟨trivial, ta219, trivial⟩, ta220, trivial⟩, ta221, ⟨trivial, ta222, trivial⟩⟩⟩⟩⟩, ta223, ⟨⟨⟨⟨⟨⟨trivial, ta224, trivial⟩, ta225, trivial⟩, ta226, ⟨⟨trivial, ta227, trivial⟩, ta228, trivial⟩⟩, ta229, ⟨⟨⟨trivial, ta230, trivial⟩, ta231, trivial⟩, ta232, ⟨trivial, ta233, trivial⟩⟩⟩, ta234, ⟨⟨⟨⟨trivial, ta235, trivial⟩, ta236, trivial⟩, ta237, ⟨⟨trivial, ta238, trivial⟩, ta239, trivial⟩⟩, ta240, ⟨⟨⟨trivial, ta241, trivial⟩, ta242, trivial⟩, ta243, ⟨trivial, ta244, trivial⟩⟩⟩⟩, ta245, ⟨⟨⟨⟨⟨trivial, ta246, trivial⟩, ta247, trivial⟩, ta248, ⟨⟨trivial, ta249, trivial⟩, ta250, trivial⟩⟩, ta251, ⟨⟨⟨trivial, ta252, trivial⟩, ta253, trivial⟩, ta254, ⟨trivial, ta255, trivial⟩⟩⟩, ta256, ⟨⟨⟨⟨trivial, ta257, trivial⟩, ta258, trivial⟩, ta259, ⟨⟨trivial, ta260, trivial⟩, ta261, trivial⟩⟩, ta262, ⟨⟨⟨trivial, ta263, trivial⟩, ta264, trivial⟩, ta265, ⟨trivial, ta266, trivial⟩⟩⟩⟩⟩⟩, ta267, ⟨⟨⟨⟨⟨⟨⟨trivial, ta268, trivial⟩, ta269, trivial⟩, ta270, ⟨⟨trivial, ta271, trivial⟩, ta272, trivial⟩⟩, ta273, ⟨⟨⟨trivial, ta274, trivial⟩, ta275, trivial⟩, ta276, ⟨trivial, ta277, trivial⟩⟩⟩, ta278, ⟨⟨⟨⟨trivial, ta279, trivial⟩, ta280, trivial⟩, ta281, ⟨⟨trivial, ta282, trivial⟩, ta283, trivial⟩⟩, ta284, ⟨⟨⟨trivial, ta285, trivial⟩, ta286, trivial⟩, ta287, ⟨trivial, ta288, trivial⟩⟩⟩⟩, ta289, ⟨⟨⟨⟨⟨trivial, ta290, trivial⟩, ta291, trivial⟩, ta292, ⟨⟨trivial, ta293, trivial⟩, ta294, trivial⟩⟩, ta295, ⟨⟨⟨trivial, ta296, trivial⟩, ta297, trivial⟩, ta298, ⟨trivial, ta299, trivial⟩⟩⟩, ta300, ⟨⟨⟨⟨trivial, ta301, trivial⟩, ta302, trivial⟩, ta303, ⟨⟨trivial, ta304, trivial⟩, ta306, trivial⟩⟩, ta307, ⟨⟨⟨trivial, ta308, trivial⟩, ta310, trivial⟩, ta311, ⟨trivial, ta312, trivial⟩⟩⟩⟩⟩, ta313, ⟨⟨⟨⟨⟨⟨trivial, ta314, trivial⟩, ta315, trivial⟩, ta316, ⟨⟨trivial, ta317, trivial⟩, ta318, trivial⟩⟩, ta319, ⟨⟨⟨trivial, ta320, trivial⟩, ta321, trivial⟩, ta322, ⟨trivial, ta323, trivial⟩⟩⟩, ta324, ⟨⟨⟨⟨trivial, ta325, trivial⟩, ta326, trivial⟩, ta327, ⟨⟨trivial, ta328, trivial⟩, ta329, trivial⟩⟩, ta330, ⟨⟨⟨trivial, ta331, trivial⟩, ta332, trivial⟩, ta333, ⟨trivial, ta334, trivial⟩⟩⟩⟩, ta335, ⟨⟨⟨⟨⟨trivial, ta336, trivial⟩, ta337, trivial⟩, ta338, ⟨⟨trivial, ta339, trivial⟩, ta341, trivial⟩⟩, ta342, ⟨⟨⟨trivial, ta343, trivial⟩, ta344, trivial⟩, ta345, ⟨trivial, ta347, trivial⟩⟩⟩, ta348, ⟨⟨⟨⟨trivial, ta349, trivial⟩, ta350, trivial⟩, ta351, ⟨trivial, ta352, trivial⟩⟩, ta353, ⟨⟨⟨trivial, ta354, trivial⟩, ta355, trivial⟩, ta356, ⟨trivial, ta357, trivial⟩⟩⟩⟩⟩⟩⟩⟩⟩
end Go.Proofs.YtlnckcgbpilmdaaGreat
/- Names of assets, rows that rise by names: plain, with no program in sight. -/

set_option linter.unusedVariables false
namespace Go.Proofs.YtlnckcgbpilmdaaGreat
open Go Go.RowKit HL
structure NameP where
  policy : Hash
  name : ByteArray
  deriving DecidableEq
def nord (a b : NameP) : Int := if bcmp a.policy.toList b.policy.toList ≠ 0 then bcmp a.policy.toList b.policy.toList else bcmp a.name.data.toList b.name.data.toList
theorem nord_refl (a : NameP) : nord a a = 0 := by unfold nord; simp [bcmp_refl]
theorem nord_swap (a b : NameP) : nord b a = - nord a b := by
  unfold nord
  have h1 := bcmp_swap a.policy.toList b.policy.toList
  have h2 := bcmp_swap a.name.data.toList b.name.data.toList
  by_cases h : bcmp a.policy.toList b.policy.toList = 0
  · rw [if_neg (by rw [h1, h]; simp), if_neg (by rw [h]; simp), h2]
  · rw [if_pos (by rw [h1]; omega), if_pos h, h1]
theorem nord_eq {a b : NameP} (h : nord a b = 0) : a = b := by
  unfold nord at h
  by_cases h1 : bcmp a.policy.toList b.policy.toList = 0
  · rw [if_neg (by rw [h1]; simp)] at h
    have e1 : a.policy = b.policy := Vector.toList_inj.1 (bcmp_eq h1)
    have e2 : a.name = b.name := by
      have := bcmp_eq h
      exact ByteArray.ext (Array.toList_inj.1 this)
    cases a; cases b; simp_all
  · rw [if_pos h1] at h
    exact absurd h h1
theorem nord_trans {a b c : NameP} (h1 : nord a b < 0) (h2 : nord b c < 0) : nord a c < 0 := by
  unfold nord at *
  by_cases p1 : bcmp a.policy.toList b.policy.toList = 0
  · have e1 := bcmp_eq p1
    rw [if_neg (by rw [p1]; simp)] at h1
    rw [e1]
    by_cases p2 : bcmp b.policy.toList c.policy.toList = 0
    · rw [if_neg (by rw [p2]; simp)] at h2 ⊢
      exact bcmp_trans h1 h2
    · rw [if_pos p2] at h2 ⊢
      exact h2
  · rw [if_pos p1] at h1
    by_cases p2 : bcmp b.policy.toList c.policy.toList = 0
    · have e2 := bcmp_eq p2
      rw [← e2, if_pos p1]
      exact h1
    · rw [if_pos p2] at h2
      have := bcmp_trans h1 h2
      rw [if_pos (by omega)]
      exact this
theorem nord_irrefl {a : NameP} : ¬ nord a a < 0 := by rw [nord_refl]; omega
theorem nord_asymm {a b : NameP} (h : nord a b < 0) : ¬ nord b a < 0 := by rw [nord_swap]; omega
theorem nord_tri (a b : NameP) : nord a b < 0 ∨ a = b ∨ nord b a < 0 := by
  have := nord_swap a b
  by_cases h : nord a b = 0
  · exact .inr (.inl (nord_eq h))
  · omega
def Rise {α : Type} (key : α → NameP) (l : List α) : Prop := l.Pairwise fun a b => nord (key a) (key b) < 0
theorem Rise.nodup {α : Type} {key : α → NameP} {l : List α} (h : Rise key l) : (l.map key).Nodup := by
  unfold Rise at h
  refine List.pairwise_map.2 (h.imp fun {a b} hab he => ?_)
  rw [he] at hab
  exact nord_irrefl hab
theorem rise_ext {α : Type} {key : α → NameP} : ∀ {l m : List α}, Rise key l → Rise key m → (∀ x, x ∈ l ↔ x ∈ m) → l = m
  | [], [], _, _, _ => rfl
  | [], y :: m, _, _, h => absurd ((h y).2 (by simp)) (by simp)
  | x :: l, [], _, _, h => absurd ((h x).1 (by simp)) (by simp)
  | x :: l, y :: m, h1, h2, h => by
    have h1' := List.pairwise_cons.1 h1
    have h2' := List.pairwise_cons.1 h2
    have e : x = y := by
      rcases List.mem_cons.1 ((h x).1 (List.mem_cons_self ..)) with e | hx
      · exact e
      · rcases List.mem_cons.1 ((h y).2 (List.mem_cons_self ..)) with e | hy
        · exact e.symm
        · exact absurd (h1'.1 y hy) (nord_asymm (h2'.1 x hx))
    subst e
    congr 1
    refine rise_ext h1'.2 h2'.2 fun z => ?_
    have hz := h z
    simp only [List.mem_cons] at hz
    constructor
    · intro hl
      rcases hz.1 (.inr hl) with e | hm
      · subst e; exact absurd (h1'.1 _ hl) nord_irrefl
      · exact hm
    · intro hm
      rcases hz.2 (.inr hm) with e | hl
      · subst e; exact absurd (h2'.1 _ hm) nord_irrefl
      · exact hl
def atN {α : Type} (key : α → NameP) (l : List α) (n : NameP) : Option α := l.find? fun x => decide (key x = n)
theorem atN_of {α : Type} {key : α → NameP} : ∀ {l : List α}, Rise key l → ∀ {x : α}, x ∈ l → atN key l (key x) = some x
  | [], _, x, h => by cases h
  | y :: l, h, x, hx => by
    have h' := List.pairwise_cons.1 h
    unfold atN
    rcases List.mem_cons.1 hx with rfl | hx
    · rw [List.find?_cons]; simp
    · have hne : ¬ key y = key x := fun e => by
        have := h'.1 x hx
        rw [e] at this
        exact nord_irrefl this
      rw [List.find?_cons, decide_eq_false hne]
      exact atN_of h'.2 hx
end Go.Proofs.YtlnckcgbpilmdaaGreat
/- Bundles in memory: how they lie; comparing. -/



set_option linter.unusedVariables false
set_option linter.unusedSimpArgs false
set_option maxRecDepth 100000
namespace Go.Proofs.YtlnckcgbpilmdaaGreat
open Go Go.RowKit HL
structure AssetP where
  policy : Hash
  name : ByteArray
  amount : Int
  deriving DecidableEq
def asset0 : AssetP := ⟨hz, ⟨#[]⟩, 0⟩
instance : Df AssetP asset0 := ⟨⟩
def assetEn : En AssetP := ⟨fun x => .agg [.hash x.policy, .one (.s x.name), .one (.i .i64 x.amount)], true, 34, fun _ => ⟨rfl, rfl⟩, by decide⟩
def AssetP.key (x : AssetP) : NameP := ⟨x.policy, x.name⟩
structure ValueM where
  coin : Int
  A : Option Addr
  c : Nat
  assets : List AssetP
def value0 : ValueM := ⟨0, none, 0, []⟩
instance : Df ValueM value0 := ⟨⟩
def valueEn : En ValueM := ⟨fun v => .agg [.one (.i .i64 v.coin), .one (.sl 0 v.A v.assets.length v.c)], true, 2, fun _ => ⟨rfl, rfl⟩, by decide⟩
def valueS (v : ValueM) (_ : Nat) : RS := .rd asset0 v.A assetEn v.assets
abbrev rdValues (A : Option Addr) (l : List ValueM) : Res := (RS.rdn value0 A valueEn l 1 valueS).den
def nameEn : En NameP := ⟨fun x => .agg [.hash x.policy, .one (.s x.name)], true, 33, fun _ => ⟨rfl, rfl⟩, by decide⟩
instance : Df NameP ⟨hz, ⟨#[]⟩⟩ := ⟨⟩
theorem run_ext {a : Act} {w : World} {F : FuncId} {args : Array Value} {v : Value} {xs : Array Operand} {tys : Array TypeId} {dst : Option Tmp} {ty : TypeId} {pos : String} {af : Array Edge} {gd : Option (Nat × Bool)} (ha : xs.map a.eval = args) (h : (callFunc F args).run Tryz.prog w = .ok (.value v) w) : (execOp a.eval ⟨dst, .call { callee := .value (.func F), args := xs, argTypes := tys }, ty, pos, af, gd⟩).run Tryz.prog w = .ok (.value v) w := by
  unfold execOp
  have e : a.eval (.func F) = .func (.func F) #[] #[] := rfl
  simp only [resolve, e, Deferred.ofValue, Sem.run_bind, Sem.run_pure, Result.andThen, invoke, ha, Array.empty_append, Array.append_empty, h]
theorem run_compare {a : Act} {w : World} {x y : Operand} {A B : Option Addr} {xs ys : List UInt8} {c d : Nat} {tys : Array TypeId} {dst : Option Tmp} {ty : TypeId} {pos : String} {af : Array Edge} {gd : Option (Nat × Bool)} (h1 : a.eval x = .slice A xs.length c) (h2 : a.eval y = .slice B ys.length d) (hA : RdS w A (bcells xs)) (hB : RdS w B (bcells ys)) : (execOp a.eval ⟨dst, .call { callee := .value (.func 174), args := #[x, y], argTypes := tys }, ty, pos, af, gd⟩).run Tryz.prog w = .ok (.value (vint (bcmp xs ys)).den) w := by
  refine run_ext (args := #[.slice A xs.length c, .slice B ys.length d]) (by simp [h1, h2]) ?_
  refine run_stand Tryz.func174 (by kernel_rfl) rfl (by kernel_rfl) (e := Extern.BytealgCompare.compare) (by kernel_rfl) ?_
  rw [show Extern.BytealgCompare.compare #[.slice A xs.length c, .slice B ys.length d] = (do pure (goInt (Extern.BytealgCompare.cmp (← Extern.Bytes.bytesOf (.slice A xs.length c)) (← Extern.Bytes.bytesOf (.slice B ys.length d))))) from rfl]
  simp [run_bytesOf hA, run_bytesOf hB, cmp_ba]
  rfl
theorem cmp_str (p q : ByteArray) : Extern.BytealgCompare.cmp p q = bcmp p.data.toList q.data.toList := by
  have := cmp_ba p.data.toList q.data.toList
  rwa [ba_of, ba_of] at this
theorem run_compareS {a : Act} {w : World} {x y : Operand} {p q : ByteArray} {tys : Array TypeId} {dst : Option Tmp} {ty : TypeId} {pos : String} {af : Array Edge} {gd : Option (Nat × Bool)} (h1 : a.eval x = .string p) (h2 : a.eval y = .string q) : (execOp a.eval ⟨dst, .call { callee := .value (.func 207), args := #[x, y], argTypes := tys }, ty, pos, af, gd⟩).run Tryz.prog w = .ok (.value (vint (bcmp p.data.toList q.data.toList)).den) w := by
  refine run_ext (args := #[.string p, .string q]) (by simp [h1, h2]) ?_
  refine run_stand Tryz.func207 (by kernel_rfl) rfl (by kernel_rfl) (e := Extern.BytealgCompare.compare) (by kernel_rfl) ?_
  rw [show Extern.BytealgCompare.compare #[.string p, .string q] = (do pure (goInt (Extern.BytealgCompare.cmp (← Extern.Bytes.bytesOf (.string p)) (← Extern.Bytes.bytesOf (.string q))))) from rfl]
  simp [Extern.Bytes.bytesOf, cmp_str, Sem.run_bind]
  rfl
theorem cmpBytes_spec (A B : Option Addr) (xs ys : List UInt8) (m k c d : Nat) (hm : m = xs.length) (hk : k = ys.length) : CSpec Tryz.prog 131 [.one (.sl 0 A m c), .one (.sl 1 B k d)] [(0, Res.rd A byteEn xs), (1, Res.rd B byteEn ys)] [] fun o L => o = .ret (vint (bcmp xs ys)) ∧ L = [] := by
  subst hm
  subst hk
  refine v_enter Tryz.func131 (h := fun w0 => ?_)
  refine v_code [] (hk := ?_)
  refine l_rd (v := vint (bcmp xs ys)) (fun a w ht hf => ?_) ?_
  · have hA := rd_reads (hf 0 _ rfl)
    have hB := rd_reads (hf 1 _ rfl)
    rw [dens_byte] at hA hB
    have h1 : a.eval (.tmp 5) = .slice A xs.length c := ev_sound (v := vsl 0 A xs.length c) ht rfl
    have h2 : a.eval (.tmp 6) = .slice B ys.length d := ev_sound (v := vsl 1 B ys.length d) ht rfl
    exact run_compare h1 h2 hA hB
  refine v_ops [] (hk := ?_)
  refine v_ret rfl [] (.cons (.tmp rfl) .nil) (h := ?_)
  exact ⟨rfl, rfl⟩
theorem cmpStr0_spec (p q : ByteArray) : CSpec Tryz.prog 175 [.one (.s p), .one (.s q)] [] [] fun o L => o = .ret (vint (bcmp p.data.toList q.data.toList)) ∧ L = [] := by
  refine v_enter Tryz.func175 (h := fun w0 => ?_)
  refine v_code [] (hk := ?_)
  refine l_rd (v := vint (bcmp p.data.toList q.data.toList)) (fun a w ht hf => run_compareS (ev_sound (v := vs p) ht rfl) (ev_sound (v := vs q) ht rfl)) ?_
  refine v_ops [] (hk := ?_)
  refine v_ret rfl [] (.cons (.tmp rfl) .nil) (h := ?_)
  exact ⟨rfl, rfl⟩
theorem cmpStr_spec (p q : ByteArray) : CSpec Tryz.prog 132 [.one (.s p), .one (.s q)] [] [] fun o L => o = .ret (vint (bcmp p.data.toList q.data.toList)) ∧ L = [] := by
  refine v_enter Tryz.func132 (h := fun w0 => ?_)
  refine v_code [] (hk := ?_)
  refine v_call 20350 [] (cmpStr0_spec p q) Tryz.func175 (h := ?_)
  rintro _ _ (⟨rfl, rfl⟩)
  refine v_ops [] (hk := ?_)
  refine v_ret rfl [] (.cons (.tmp rfl) .nil) (h := ?_)
  exact ⟨rfl, rfl⟩
theorem cmpOr_spec (A : Option Addr) (l : List Int) (c : Nat) (hl : l.length ≤ 1048576) : CSpec Tryz.prog 81 [.one (.sl 0 A l.length c)] [(0, Res.rd A (intEn .i64) l)] [] fun o L => o = .ret (vint ((l.find? fun x => decide (x ≠ 0)).getD 0)) ∧ L = [] := by
  refine v_enter Tryz.func81 (h := fun w0 => ?_)
  refine v_code [] (hk := ?_)
  refine v_loop (fun m E H => ∃ (k : Nat), E = [(8, vn k)] ∧ H = [] ∧ m = l.length - k ∧ k ≤ l.length ∧ (∀ x ∈ l.take k, x = 0)) [3, 6, 7, 17] (l.length) ([(8, vn 0)]) ([]) (h0 := ⟨0, rfl, rfl, by omega, by omega, by simp⟩) (hr := ?_)
  rintro _ _ _ ⟨k, rfl, rfl, hmk, hk, hik0⟩
  refine v_code [] (hk := ?_)
  first | refine c_ifd rfl (fun h9 => ?_) (fun h9 => ?_) | refine c_ifn rfl (fun h9 => ?_) (fun h9 => ?_) | refine c_if rfl (fun h9 => ?_) (fun h9 => ?_)
  · refine v_code [] (hk := ?_)
    first | refine c_ifd rfl (fun h14 => ?_) (fun h14 => ?_) | refine c_ifn rfl (fun h14 => ?_) (fun h14 => ?_) | refine c_if rfl (fun h14 => ?_) (fun h14 => ?_)
    · refine v_code [] (hk := ?_)
      refine v_ret rfl [] (.cons (.tmp rfl) .nil) (h := ?_)
      refine ⟨?_, rfl⟩
      rw [find_atD (d := 0) h9 (fun y hy => by simp [hik0 y hy]) (by simpa using h14)]
      rfl
    · refine v_code [] (hk := ?_)
      refine v_again (l.length - (k + 1)) ⟨k + 1, rfl, rfl, by omega, by omega, all_takeD hik0 h9 h14⟩
  · refine v_code [] (hk := ?_)
    refine v_ret rfl [] (.cons (.tmp rfl) .nil) (h := ?_)
    rw [take_all' h9] at hik0
    refine ⟨?_, rfl⟩
    rw [find_no (fun y hy => by simp [hik0 y hy])]
    rfl
instance : ElT Tryz.prog 3 (intEn .i64) := ⟨⟩
instance : ElT Tryz.prog 57 assetEn := ⟨⟩
instance : ElT Tryz.prog 26 valueEn := ⟨⟩
theorem order_spec (n m : NameP) : CSpec Tryz.prog 84 [.agg [.hash n.policy, .one (.s n.name)], .agg [.hash m.policy, .one (.s m.name)]] [] [] fun o L => o = .ret (vint (nord n m)) ∧ L = [] := by
  refine v_enter Tryz.func84 (h := fun w0 => ?_)
  refine v_code [] (hk := ?_)
  refine l_do d_box (fun g2 => ?_)
  refine l_do d_box (fun g3 => ?_)
  refine v_ops [] (hk := ?_)
  refine v_draw (.q 0 (.q 1 (.q 2 (.q 3 (.q 5 (.q 6 (.q 7 (.q 8 (.s 4 (.s 9 (.s 10 (.s 11 (.q 12 .nil))))))))))))) [10002, 10003, 20450, 20451, 20452, 20453, 20700, 20701, 20702, 20703, 10015, 20800, 20801, 20802, 20803] (hm := by kernel_rfl) (hs := by kernel_rfl) (hk := by kernel_rfl) (h := ?_)
  refine v_sch [] (hk := ?_)
  refine v_callS rfl 20450 [] (cmpBytes_spec (some ⟨g2, 0, none⟩) (some ⟨g3, 0, none⟩) n.policy.toList m.policy.toList 32 32 32 32 (by simp) (by simp)) Tryz.func131 (h := ?_)
  rintro _ _ (⟨rfl, rfl⟩)
  refine ⟨cov_of (by repeat (first | exact trivial | refine ⟨rfl, ?_⟩)), ?_⟩
  refine v_callS rfl 20700 [] (cmpStr_spec n.name m.name) Tryz.func132 (h := ?_)
  rintro _ _ (⟨rfl, rfl⟩)
  refine ⟨cov_of (by repeat (first | exact trivial | refine ⟨rfl, ?_⟩)), ?_⟩
  refine s_do rfl (d_bslice [_, _]) (fun B15 => ?_)
  refine v_callS rfl 20800 [] (cmpOr_spec B15 [bcmp n.policy.toList m.policy.toList, bcmp n.name.data.toList m.name.data.toList] 2 (by simp)) Tryz.func81 (h := ?_)
  rintro _ _ (⟨rfl, rfl⟩)
  refine ⟨cov_of (by repeat (first | exact trivial | refine ⟨rfl, ?_⟩)), ?_⟩
  refine v_sch [] (hk := ?_)
  refine v_ret rfl [] (.cons (.tmp rfl) .nil) (h := ?_)
  refine ⟨?_, rfl⟩
  unfold nord
  by_cases h1 : bcmp n.policy.toList m.policy.toList = 0
  · by_cases h2 : bcmp n.name.data.toList m.name.data.toList = 0
    · simp [h1, h2]; rfl
    · simp [h1, h2]; rfl
  · simp [h1]; rfl
theorem nameof_spec (x : AssetP) : CSpec Tryz.prog 57 [.agg [.hash x.policy, .one (.s x.name), .one (.i .i64 x.amount)]] [] [] fun o L => o = .ret (.s (.agg [.hash x.policy, .one (.s x.name)])) ∧ L = [] := by
  refine v_enter Tryz.func57 (h := fun w0 => ?_)
  refine v_code [] (hk := ?_)
  refine l_do d_box (fun g1 => ?_)
  refine l_do d_alloc (fun g2 => ?_)
  refine v_ops [] (hk := ?_)
  refine v_ret rfl [] (.cons (.cell inferInstance rfl rfl rfl rfl) .nil) (h := ?_)
  exact ⟨rfl, rfl⟩
end Go.Proofs.YtlnckcgbpilmdaaGreat
/- Bundles: rising, right, how much there is. -/

set_option linter.unusedVariables false
set_option linter.unusedSimpArgs false
set_option maxRecDepth 100000
namespace Go.Proofs.YtlnckcgbpilmdaaGreat
open Go Go.RowKit HL
instance {α : Type} {key : α → NameP} {l : List α} : Decidable (Rise key l) := by unfold Rise; infer_instance
def Rising (l : List AssetP) : Prop := (∀ x ∈ l, x.name.size ≤ 32) ∧ Rise AssetP.key l ∧ l.length ≤ 30
instance {l : List AssetP} : Decidable (Rising l) := by unfold Rising; infer_instance
theorem rise_snoc {α : Type} {key : α → NameP} {l : List α} {x : α} : Rise key (l ++ [x]) ↔ Rise key l ∧ ∀ y ∈ l, nord (key y) (key x) < 0 := by
  unfold Rise
  rw [List.pairwise_append]
  constructor
  · rintro ⟨h1, _, h3⟩
    exact ⟨h1, fun y hy => h3 y hy x (List.mem_singleton.2 rfl)⟩
  · rintro ⟨h1, h2⟩
    exact ⟨h1, List.pairwise_singleton .., fun y hy z hz => by rw [List.mem_singleton.1 hz]; exact h2 y hy⟩
theorem rise_step {α : Type} {key : α → NameP} {l : List α} {k : Nat} {d : α} (hk : k < l.length) (h : Rise key (l.take k)) (h1 : 0 < k → nord (key (l.getD (k - 1) d)) (key (l.getD k d)) < 0) : Rise key (l.take (k + 1)) := by
  rw [take_getD (d := d) hk]
  refine rise_snoc.2 ⟨h, fun y hy => ?_⟩
  cases k with
  | zero => simp at hy
  | succ k =>
    have h1 := h1 (by omega)
    simp only [Nat.add_sub_cancel] at h1
    rw [take_getD (d := d) (by omega)] at h hy
    rcases List.mem_append.1 hy with hy | hy
    · exact nord_trans ((rise_snoc.1 h).2 y hy) h1
    · rw [List.mem_singleton.1 hy]
      exact h1
theorem rise_not {α : Type} {key : α → NameP} {l : List α} {k : Nat} {d : α} (hk : k < l.length) (h0 : 0 < k) (h1 : ¬ nord (key (l.getD (k - 1) d)) (key (l.getD k d)) < 0) : ¬ Rise key l := fun h => by
  have := (List.pairwise_iff_getElem.1 h) (k - 1) k (by omega) hk (by omega)
  rw [List.getD_eq_getElem?_getD, List.getD_eq_getElem?_getD, List.getElem?_eq_getElem hk, List.getElem?_eq_getElem (by omega)] at h1
  exact h1 this
theorem outB {b c : Bool} (h : b = c) : Out.ret (vb b) = Out.ret (vb c) := by rw [h]
def unrising (l : List AssetP) (k : Nat) : Bool := decide (32 < (l.getD k asset0).name.size) || decide (0 < k) && decide (((0 : Nat) : Int) ≤ nord (l.getD ((k : Int) - ((1 : Nat) : Int)).toNat asset0).key (l.getD k asset0).key)
theorem rising_more {l : List AssetP} {k : Nat} (h : unrising l k = false) : (l.getD k asset0).name.size ≤ 32 ∧ (0 < k → nord (l.getD (k - 1) asset0).key (l.getD k asset0).key < 0) := by
  have e : ((k : Int) - ((1 : Nat) : Int)).toNat = k - 1 := by omega
  unfold unrising at h
  rw [e] at h
  simp only [Bool.or_eq_false_iff, Bool.and_eq_false_imp, decide_eq_false_iff_not, decide_eq_true_eq] at h
  exact ⟨by omega, fun h0 => by have := h.2 h0; omega⟩
theorem rising_less {l : List AssetP} {k : Nat} (hk : k < l.length) (h : unrising l k = true) : ¬ Rising l := by
  have e : ((k : Int) - ((1 : Nat) : Int)).toNat = k - 1 := by omega
  unfold unrising at h
  rw [e] at h
  simp only [Bool.or_eq_true, Bool.and_eq_true, decide_eq_true_eq] at h
  rintro ⟨h1, h2, h3⟩
  rcases h with h | ⟨h0, h⟩
  · have := h1 _ (getD_mem (d := asset0) hk)
    omega
  · exact rise_not (d := asset0) hk h0 (by omega) h2
theorem rising_spec (A : Option Addr) (l : List AssetP) (c : Nat) (hl : l.length ≤ 1048576) : CSpec Tryz.prog 71 [.one (.sl 0 A l.length c)] [(0, Res.rd A assetEn l)] [] fun o L => o = .ret (vb (decide (Rising l))) ∧ L = [] := by
  refine v_enter Tryz.func71 (h := fun w0 => ?_)
  refine v_code [] (hk := ?_)
  refine v_loop (fun m E H => ∃ (k : Nat), E = [(7, vn k)] ∧ H = [] ∧ m = l.length - k ∧ k ≤ l.length ∧ (∀ x ∈ l.take k, x.name.size ≤ 32) ∧ (Rise AssetP.key (l.take k))) [0, 5, 6, 33, 34, 35] (l.length) ([(7, vn 0)]) ([]) (h0 := ⟨0, rfl, rfl, by omega, by omega, by simp, List.Pairwise.nil⟩) (hr := ?_)
  rintro _ _ _ ⟨k, rfl, rfl, hmk, hk, hik0, hik1⟩
  refine v_code [] (hk := ?_)
  first | refine c_ifd rfl (fun h8 => ?_) (fun h8 => ?_) | refine c_ifn rfl (fun h8 => ?_) (fun h8 => ?_) | refine c_if rfl (fun h8 => ?_) (fun h8 => ?_)
  · refine v_code [] (hk := ?_)
    refine l_do d_alloc (fun g4 => ?_)
    refine v_ops [] (hk := ?_)
    refine v_draw (.q 0 (.q 1 (.q 2 (.q 3 (.q 4 (.q 5 (.q 6 (.q 7 (.q 8 (.q 9 (.q 10 (.q 11 (.q 12 (.q 14 (.s 13 (.s 15 (.s 16 (.q 17 (.q 18 (.q 19 .nil)))))))))))))))))))) [10006, 10004, 10014, 21250, 21251, 21252, 21253, 21350, 21351, 21352, 21353, 21400, 21401, 21402, 21403, 10034] (hm := by kernel_rfl) (hs := by kernel_rfl) (hk := by kernel_rfl) (h := ?_)
    refine v_sch [] (hk := ?_)
    refine s_callG rfl [] [24] ⟨_, _, ⟨_, .inl ⟨rfl, rfl⟩⟩, rfl, rfl⟩ (fun hg => nameof_spec (l.getD ((k : Int) - ((1 : Nat) : Int)).toNat asset0)) Tryz.func57 (h := ?_)
    refine s_callG rfl [] [26] ⟨_, _, ⟨_, .inl ⟨rfl, rfl⟩⟩, rfl, rfl⟩ (fun hg => nameof_spec (l.getD k asset0)) Tryz.func57 (h := ?_)
    refine s_callG rfl [] [25, 27] ⟨_, _, ⟨_, .inl ⟨rfl, rfl⟩⟩, ⟨_, _, ⟨_, .inl ⟨rfl, rfl⟩⟩, rfl, rfl⟩, rfl⟩ (fun hg => order_spec (l.getD ((k : Int) - ((1 : Nat) : Int)).toNat asset0).key (l.getD k asset0).key) Tryz.func84 (h := ?_)
    refine v_sch [] (hk := ?_)
    first | refine c_ifd rfl (fun h31 => ?_) (fun h31 => ?_) | refine c_ifn rfl (fun h31 => ?_) (fun h31 => ?_) | refine c_if rfl (fun h31 => ?_) (fun h31 => ?_)
    · refine v_code [] (hk := ?_)
      refine v_ret rfl [] (.cons (.tmp rfl) .nil) (h := ?_)
      exact ⟨outB (decide_eq_false (rising_less h8 h31)).symm, rfl⟩
    · refine v_code [] (hk := ?_)
      refine v_again (l.length - (k + 1)) ⟨k + 1, rfl, rfl, by omega, by omega, (all_takeD hik0 h8 (rising_more h31).1), (rise_step h8 hik1 (rising_more h31).2)⟩
  · refine v_code [] (hk := ?_)
    refine v_ret rfl [] (.cons (.tmp rfl) .nil) (h := ?_)
    rw [take_all' h8] at hik0 hik1
    exact ⟨outB (decide_eq_decide.2 ⟨fun h => ⟨hik0, hik1, h⟩, fun h => h.2.2⟩), rfl⟩
theorem right1_spec (x : AssetP) : CSpec Tryz.prog 73 [.agg [.hash x.policy, .one (.s x.name), .one (.i .i64 x.amount)]] [] [] fun o L => o = .ret (vb (decide (x.amount < 1))) ∧ L = [] := by
  refine v_enter Tryz.func73 (h := fun w0 => ?_)
  refine v_code [] (hk := ?_)
  refine l_do d_box (fun g1 => ?_)
  refine v_ops [] (hk := ?_)
  refine v_ret rfl [] (.cons (.tmp rfl) .nil) (h := ?_)
  exact ⟨rfl, rfl⟩
theorem index1_spec (A : Option Addr) (l : List AssetP) (c : Nat) (hl : l.length ≤ 1048576) : CSpec Tryz.prog 76 [.one (.sl 0 A l.length c), .one (.fn 73 [] [])] [(0, Res.rd A assetEn l)] [] fun o L => (∃ k : Nat, k < l.length ∧ (l.getD k asset0).amount < 1 ∧ o = .ret (vint k) ∧ L = []) ∨ (∀ x ∈ l, ¬ x.amount < 1) ∧ o = .ret (vint (-1)) ∧ L = [] := by
  refine v_enter Tryz.func76 (h := fun w0 => ?_)
  refine v_code [] (hk := ?_)
  refine v_loop (fun m E H => ∃ (k : Nat), E = [(8, vn k)] ∧ H = [] ∧ m = l.length - k ∧ k ≤ l.length ∧ (∀ x ∈ l.take k, ¬ x.amount < 1)) [0, 1, 7] (l.length) ([(8, vn 0)]) ([]) (h0 := ⟨0, rfl, rfl, by omega, by omega, by simp⟩) (hr := ?_)
  rintro _ _ _ ⟨k, rfl, rfl, hmk, hk, hik0⟩
  refine v_code [] (hk := ?_)
  first | refine c_ifd rfl (fun h9 => ?_) (fun h9 => ?_) | refine c_ifn rfl (fun h9 => ?_) (fun h9 => ?_) | refine c_if rfl (fun h9 => ?_) (fun h9 => ?_)
  · refine v_code [] (hk := ?_)
    refine v_call 20800 [] (right1_spec (l.getD k asset0)) Tryz.func73 (h := ?_)
    rintro _ _ (⟨rfl, rfl⟩)
    refine v_ops [] (hk := ?_)
    first | refine c_ifd rfl (fun h16 => ?_) (fun h16 => ?_) | refine c_ifn rfl (fun h16 => ?_) (fun h16 => ?_) | refine c_if rfl (fun h16 => ?_) (fun h16 => ?_)
    · refine v_code [] (hk := ?_)
      refine v_ret rfl [] (.cons (.tmp rfl) .nil) (h := ?_)
      exact .inl ⟨k, h9, h16, rfl, rfl⟩
    · refine v_code [] (hk := ?_)
      refine v_again (l.length - (k + 1)) ⟨k + 1, rfl, rfl, by omega, by omega, (all_takeD hik0 h9 h16)⟩
  · refine v_code [] (hk := ?_)
    refine v_ret rfl [] (.cons (.tmp rfl) .nil) (h := ?_)
    rw [take_all' h9] at hik0
    exact .inr ⟨hik0, rfl, rfl⟩
theorem contains1_spec (A : Option Addr) (l : List AssetP) (c : Nat) (hl : l.length ≤ 1048576) : CSpec Tryz.prog 72 [.one (.sl 0 A l.length c), .one (.fn 73 [] [])] [(0, Res.rd A assetEn l)] [] fun o L => o = .ret (vb (l.any fun x => decide (x.amount < 1))) ∧ L = [] := by
  refine v_enter Tryz.func72 (h := fun w0 => ?_)
  refine v_code [] (hk := ?_)
  refine v_call 20350 [] (index1_spec A l c hl) Tryz.func76 (h := ?_)
  rintro _ _ (⟨k, hk, hx, rfl, rfl⟩ | ⟨hno, rfl, rfl⟩)
  · refine v_ops [] (hk := ?_)
    refine v_ret rfl [] (.cons (.tmp rfl) .nil) (h := ?_)
    refine ⟨outB ?_, rfl⟩
    rw [List.any_eq_true.2 ⟨_, getD_mem hk, decide_eq_true hx⟩]
    exact decide_eq_true (by omega)
  · refine v_ops [] (hk := ?_)
    refine v_ret rfl [] (.cons (.tmp rfl) .nil) (h := ?_)
    refine ⟨outB ?_, rfl⟩
    rw [List.any_eq_false.2 fun x hx => by simpa using hno x hx]
    rfl
def RightV (coin : Int) (l : List AssetP) : Prop := 0 ≤ coin ∧ Rising l ∧ ∀ x ∈ l, 1 ≤ x.amount
instance {coin : Int} {l : List AssetP} : Decidable (RightV coin l) := by unfold RightV; infer_instance
theorem right_spec (coin : Int) (A : Option Addr) (l : List AssetP) (c : Nat) (hl : l.length ≤ 1048576) : CSpec Tryz.prog 27 [.agg [.one (.i .i64 coin), .one (.sl 101 A l.length c)]] [(101, Res.rd A assetEn l)] [] fun o L => o = .ret (vb (decide (RightV coin l))) ∧ L = [] := by
  refine v_enter Tryz.func27 (h := fun w0 => ?_)
  refine v_code [] (hk := ?_)
  refine l_do d_box (fun g1 => ?_)
  refine v_ops [] (hk := ?_)
  refine l_callG [] [8] ⟨_, _, ⟨_, .inl ⟨rfl, rfl⟩⟩, rfl, rfl⟩ (fun hg => rising_spec A l c hl) Tryz.func71 (h := ?_)
  refine v_ops [] (hk := ?_)
  refine l_callG [] [13] ⟨_, _, ⟨_, .inl ⟨rfl, rfl⟩⟩, rfl, rfl⟩ (fun hg => contains1_spec A l c hl) Tryz.func72 (h := ?_)
  refine v_ops [] (hk := ?_)
  refine v_ret rfl [] (.cons (.tmp rfl) .nil) (h := ?_)
  refine ⟨outB ?_, rfl⟩
  rw [Bool.eq_iff_iff, decide_eq_true_iff]
  simp only [Bool.and_eq_true, decide_eq_true_eq, Bool.not_eq_true', List.any_eq_false]
  unfold RightV
  exact ⟨fun h => ⟨by have := h.1.1; omega, h.1.2, fun x hx => by have := h.2 x hx; omega⟩, fun h => ⟨⟨by have := h.1; omega, h.2.1⟩, fun x hx => by have := h.2.2 x hx; omega⟩⟩
end Go.Proofs.YtlnckcgbpilmdaaGreat
/- Bundles: how much there is of an asset; the same; how great. -/

set_option linter.unusedVariables false
set_option linter.unusedSimpArgs false
set_option maxRecDepth 100000
namespace Go.Proofs.YtlnckcgbpilmdaaGreat
open Go Go.RowKit HL
theorem fits_i64 (T : TypeId) {bytes : Nat} {z : SV} [TyA Tryz.prog T false 1 z bytes] (b : Int) : Fits Tryz.prog T (.int .i64 b) := fits_sv (P := Tryz.prog) (T := T) (v := .one (.i .i64 b)) rfl rfl
theorem fits_str (T : TypeId) {bytes : Nat} {z : SV} [TyA Tryz.prog T false 1 z bytes] (b : ByteArray) : Fits Tryz.prog T (.string b) := fits_sv (P := Tryz.prog) (T := T) (v := .one (.s b)) rfl rfl
theorem fits_hash (h : Hash) : Fits Tryz.prog 50 (hval h) := fits_sv (P := Tryz.prog) (T := 50) (v := .agg [.hash h]) rfl rfl
theorem ba_beq (x y : ByteArray) : (x == y) = decide (x = y) := by
  cases x with
  | mk a => cases y with
    | mk b =>
      show (a == b) = _
      by_cases h : a = b
      · subst h; simp
      · rw [decide_eq_false (fun e => h (by injection e))]
        simpa using h
theorem eqTy_str {T : TypeId} (hu : Tryz.prog.underlying T = some .string) : EqTy Tryz.prog T Value.string 1 where
  eq d hd x y w := by
    obtain ⟨d, rfl⟩ : ∃ m, d = m + 1 := ⟨d - 1, by omega⟩
    simp only [Op.equalIn, Sem.run_bind, run_underlying hu, Result.andThen_ok, Sem.run_pure]
    congr 1
    exact ba_beq x y
  chk d hd em x w := by
    obtain ⟨d, rfl⟩ : ∃ m, d = m + 1 := ⟨d - 1, by omega⟩
    rw [Instr.checkKey]
    simp [Sem.run_bind, run_underlying hu, Result.andThen_ok]
instance eqE_asset : EqE Tryz.prog 57 assetEn := ⟨⟨3, by omega, eqV_struct
    [⟨Hash, inferInstance, hval, 2, AssetP.policy, 50, 32, (HashT.key (P := Tryz.prog) (T := 50)).eq.v, fits_hash, size_hval⟩, ⟨ByteArray, inferInstance, Value.string, 1, AssetP.name, 9, 1, (eqTy_str (UD.is (P := Tryz.prog) (T := 9))).v, fits_str _, fun _ => rfl⟩,
      ⟨Int, inferInstance, Value.int .i64, 1, AssetP.amount, 2, 1, (eqTy_int (UD.is (P := Tryz.prog) (T := 2))).v, fits_i64 _, fun _ => rfl⟩]
    Tryz.underlying57 (by kernel_rfl) (by kernel_rfl) (by kernel_rfl) (by intro F hF; simp at hF; rcases hF with rfl | rfl | rfl <;> simp) (fun x => SV.den_agg _) (fun x y => by cases x; cases y; simp [FE.same, Bool.decide_and])⟩, by kernel_rfl, rfl⟩
instance eqE_name : EqE Tryz.prog 88 nameEn := ⟨⟨3, by omega, eqV_struct
    [⟨Hash, inferInstance, hval, 2, NameP.policy, 50, 32, (HashT.key (P := Tryz.prog) (T := 50)).eq.v, fits_hash, size_hval⟩, ⟨ByteArray, inferInstance, Value.string, 1, NameP.name, 9, 1, (eqTy_str (UD.is (P := Tryz.prog) (T := 9))).v, fits_str _, fun _ => rfl⟩]
    Tryz.underlying88 (by kernel_rfl) (by kernel_rfl) (by kernel_rfl) (by intro F hF; simp at hF; rcases hF with rfl | rfl <;> simp) (fun x => SV.den_agg _) (fun x y => by cases x; cases y; simp [FE.same, Bool.decide_and])⟩, by kernel_rfl, rfl⟩
theorem sameAssets_spec (A B : Option Addr) (l l2 : List AssetP) (c d : Nat) (hl : l.length ≤ 1048576) : CSpec Tryz.prog 61 [.one (.sl 0 A l.length c), .one (.sl 1 B l2.length d)] [(0, Res.rd A assetEn l), (1, Res.rd B assetEn l2)] [] fun o L => o = .ret (vb (decide (l = l2))) ∧ L = [] := by
  refine v_enter Tryz.func61 (h := fun w0 => ?_)
  refine v_code [] (hk := ?_)
  first | refine c_ifd rfl (fun h10 => ?_) (fun h10 => ?_) | refine c_ifn rfl (fun h10 => ?_) (fun h10 => ?_) | refine c_if rfl (fun h10 => ?_) (fun h10 => ?_)
  · refine v_code [] (hk := ?_)
    refine v_ret rfl [] (.cons (.tmp rfl) .nil) (h := ?_)
    exact ⟨outB (decide_eq_false (fun e => h10 (by rw [e]))).symm, rfl⟩
  · refine v_code [] (hk := ?_)
    refine v_loop (fun m E H => ∃ (k : Nat), E = [(5, vn k)] ∧ H = [] ∧ m = l.length - k ∧ k ≤ l.length ∧ (l.take k = l2.take k)) [0, 1] (l.length) ([(5, vn 0)]) ([]) (h0 := ⟨0, rfl, rfl, by omega, by omega, rfl⟩) (hr := ?_)
    rintro _ _ _ ⟨k, rfl, rfl, hmk, hk, hik0⟩
    refine v_code [] (hk := ?_)
    first | refine c_ifd rfl (fun h14 => ?_) (fun h14 => ?_) | refine c_ifn rfl (fun h14 => ?_) (fun h14 => ?_) | refine c_if rfl (fun h14 => ?_) (fun h14 => ?_)
    · refine v_code [] (hk := ?_)
      refine v_draw (.q 0 (.q 1 (.q 2 (.q 3 (.q 4 (.q 5 (.q 6 (.q 7 (.q 8 .nil))))))))) [10007, 10009, 10013] (hm := by kernel_rfl) (hs := by kernel_rfl) (hk := by kernel_rfl) (h := ?_)
      refine v_sch [] (hk := ?_)
      refine q_rd rfl (r_neSt (u := l.getD k asset0) (v := l2.getD k asset0)) ?_
      refine v_sch [] (hk := ?_)
      first | refine c_ifd rfl (fun h25 => ?_) (fun h25 => ?_) | refine c_ifn rfl (fun h25 => ?_) (fun h25 => ?_) | refine c_if rfl (fun h25 => ?_) (fun h25 => ?_)
      · refine v_code [] (hk := ?_)
        refine v_ret rfl [] (.cons (.tmp rfl) .nil) (h := ?_)
        exact ⟨outB (decide_eq_false (fun e => h25 (by rw [e]))).symm, rfl⟩
      · refine v_code [] (hk := ?_)
        refine v_again (l.length - (k + 1)) ⟨k + 1, rfl, rfl, by omega, by omega, by rw [take_getD (d := asset0) h14, take_getD (d := asset0) (by omega), hik0, h25]⟩
    · refine v_code [] (hk := ?_)
      refine v_ret rfl [] (.cons (.tmp rfl) .nil) (h := ?_)
      rw [take_all' h14, take_all' (by omega)] at hik0
      exact ⟨outB (decide_eq_true hik0).symm, rfl⟩
theorem sameValue_spec (a b : ValueM) (hl : a.assets.length ≤ 1048576) : CSpec Tryz.prog 15 [.agg [.one (.i .i64 a.coin), .one (.sl 101 a.A a.assets.length a.c)], .agg [.one (.i .i64 b.coin), .one (.sl 201 b.A b.assets.length b.c)]] [(101, Res.rd a.A assetEn a.assets), (201, Res.rd b.A assetEn b.assets)] [] fun o L => o = .ret (vb (decide (a.coin = b.coin ∧ a.assets = b.assets))) ∧ L = [] := by
  refine v_enter Tryz.func15 (h := fun w0 => ?_)
  refine v_code [] (hk := ?_)
  refine l_do d_box (fun g2 => ?_)
  refine l_do d_box (fun g3 => ?_)
  refine v_ops [] (hk := ?_)
  refine l_callG [] [12, 14] ⟨_, _, ⟨_, .inl ⟨rfl, rfl⟩⟩, ⟨_, _, ⟨_, .inl ⟨rfl, rfl⟩⟩, rfl, rfl⟩, rfl⟩ (fun hg => sameAssets_spec a.A b.A a.assets b.assets a.c b.c hl) Tryz.func61 (h := ?_)
  refine v_ops [] (hk := ?_)
  refine v_ret rfl [] (.cons (.tmp rfl) .nil) (h := ?_)
  exact ⟨outB (by rw [Bool.decide_and]), rfl⟩
theorem of1_spec (g0 g1 : Nat) (n : NameP) (x : AssetP) : CSpec Tryz.prog 77 [.agg [.hash x.policy, .one (.s x.name), .one (.i .i64 x.amount)], .one (.ptr 1 ⟨g0, 0, none⟩), .one (.ptr 2 ⟨g1, 0, none⟩)] [(1, Res.va g0 50 [.hash n.policy]), (2, Res.va g1 9 [.one (.s n.name)])] [] fun o L => o = .ret (vb (decide (x.key = n))) ∧ L = [] := by
  refine v_enter Tryz.func77 (h := fun w0 => ?_)
  refine v_code [] (hk := ?_)
  refine l_do d_box (fun g3 => ?_)
  refine v_ops [] (hk := ?_)
  refine v_draw (.q 0 (.q 2 (.q 3 (.q 4 (.s 1 (.q 5 (.q 6 .nil))))))) [10003, 20300, 20301, 20302, 20303] (hm := by kernel_rfl) (hs := by kernel_rfl) (hk := by kernel_rfl) (h := ?_)
  refine v_sch [] (hk := ?_)
  refine v_callS rfl 20300 [] (nameof_spec x) Tryz.func57 (h := ?_)
  rintro _ _ (⟨rfl, rfl⟩)
  refine ⟨cov_of (by repeat (first | exact trivial | refine ⟨rfl, ?_⟩)), ?_⟩
  refine q_rd rfl (r_eqSt (u := x.key) (v := n)) ?_
  refine v_sch [] (hk := ?_)
  refine v_ret rfl [] (.cons (.tmp rfl) .nil) (h := ?_)
  exact ⟨rfl, rfl⟩
theorem indexOf_spec (A : Option Addr) (l : List AssetP) (c : Nat) (g0 g1 : Nat) (n : NameP) (hl : l.length ≤ 1048576) : CSpec Tryz.prog 76 [.one (.sl 0 A l.length c), .one (.fn 77 [.pointer (some ⟨g0, 0, none⟩), .pointer (some ⟨g1, 0, none⟩)] [7, 8])] [(0, Res.rd A assetEn l), (7, Res.va g0 50 [.hash n.policy]), (8, Res.va g1 9 [.one (.s n.name)])] [] fun o L => (∃ k : Nat, k < l.length ∧ atN AssetP.key l n = some (l.getD k asset0) ∧ o = .ret (vint k) ∧ L = []) ∨ atN AssetP.key l n = none ∧ o = .ret (vint (-1)) ∧ L = [] := by
  refine v_enter Tryz.func76 (h := fun w0 => ?_)
  refine v_code [] (hk := ?_)
  refine v_loop (fun m E H => ∃ (k : Nat), E = [(8, vn k)] ∧ H = [] ∧ m = l.length - k ∧ k ≤ l.length ∧ (∀ x ∈ l.take k, ¬ x.key = n)) [0, 1, 7] (l.length) ([(8, vn 0)]) ([]) (h0 := ⟨0, rfl, rfl, by omega, by omega, by simp⟩) (hr := ?_)
  rintro _ _ _ ⟨k, rfl, rfl, hmk, hk, hik0⟩
  refine v_code [] (hk := ?_)
  first | refine c_ifd rfl (fun h9 => ?_) (fun h9 => ?_) | refine c_ifn rfl (fun h9 => ?_) (fun h9 => ?_) | refine c_if rfl (fun h9 => ?_) (fun h9 => ?_)
  · refine v_code [] (hk := ?_)
    refine v_call 20800 [(1, 7), (2, 8)] (of1_spec g0 g1 n (l.getD k asset0)) Tryz.func77 (h := ?_)
    rintro _ _ (⟨rfl, rfl⟩)
    refine v_ops [] (hk := ?_)
    first | refine c_ifd rfl (fun h16 => ?_) (fun h16 => ?_) | refine c_ifn rfl (fun h16 => ?_) (fun h16 => ?_) | refine c_if rfl (fun h16 => ?_) (fun h16 => ?_)
    · refine v_code [] (hk := ?_)
      refine v_ret rfl [] (.cons (.tmp rfl) .nil) (h := ?_)
      exact .inl ⟨k, h9, find_atD h9 (fun y hy => by simpa using hik0 y hy) (by simpa using h16), rfl, rfl⟩
    · refine v_code [] (hk := ?_)
      refine v_again (l.length - (k + 1)) ⟨k + 1, rfl, rfl, by omega, by omega, (all_takeD hik0 h9 h16)⟩
  · refine v_code [] (hk := ?_)
    refine v_ret rfl [] (.cons (.tmp rfl) .nil) (h := ?_)
    rw [take_all' h9] at hik0
    exact .inr ⟨find_no (fun y hy => by simpa using hik0 y hy), rfl, rfl⟩
def amt (l : List AssetP) (n : NameP) : Int := ((atN AssetP.key l n).map AssetP.amount).getD 0
theorem of_spec (v : ValueM) (n : NameP) (hl : v.assets.length ≤ 1048576) : CSpec Tryz.prog 31 [.agg [.one (.i .i64 v.coin), .one (.sl 101 v.A v.assets.length v.c)], .agg [.hash n.policy], .one (.s n.name)] [(101, Res.rd v.A assetEn v.assets)] [] fun o L => o = .ret (vint (amt v.assets n)) ∧ L = [] := by
  refine v_enter Tryz.func31 (h := fun w0 => ?_)
  refine v_code [] (hk := ?_)
  refine l_do d_box (fun g3 => ?_)
  refine l_do d_box (fun g4 => ?_)
  refine l_do d_box (fun g5 => ?_)
  refine v_ops [] (hk := ?_)
  refine v_call 20550 [(7, 10004), (8, 10005)] (indexOf_spec v.A v.assets v.c g4 g5 n hl) Tryz.func76 (h := ?_)
  rintro _ _ (⟨k, hk, hx, rfl, rfl⟩ | ⟨hno, rfl, rfl⟩)
  · refine v_ops [] (hk := ?_)
    first | refine c_ifd rfl (fun h13 => ?_) (fun h13 => ?_) | refine c_ifn rfl (fun h13 => ?_) (fun h13 => ?_) | refine c_if rfl (fun h13 => ?_) (fun h13 => ?_)
    · refine v_code [] (hk := ?_)
      refine v_ret rfl [] (.cons (.tmp rfl) .nil) (h := ?_)
      exfalso
      omega
    · refine v_code [] (hk := ?_)
      refine v_ret rfl [] (.cons (.tmp rfl) .nil) (h := ?_)
      refine ⟨?_, rfl⟩
      unfold amt
      rw [hx]
      rfl
  · refine v_ops [] (hk := ?_)
    first | refine c_ifd rfl (fun h13 => ?_) (fun h13 => ?_) | refine c_ifn rfl (fun h13 => ?_) (fun h13 => ?_) | refine c_if rfl (fun h13 => ?_) (fun h13 => ?_)
    · refine v_code [] (hk := ?_)
      refine v_ret rfl [] (.cons (.tmp rfl) .nil) (h := ?_)
      refine ⟨?_, rfl⟩
      unfold amt
      rw [hno]
      rfl
    · refine v_code [] (hk := ?_)
      refine v_ret rfl [] (.cons (.tmp rfl) .nil) (h := ?_)
      exfalso
      omega
end Go.Proofs.YtlnckcgbpilmdaaGreat
/- Bundles: copies; how great. -/

set_option linter.unusedVariables false
set_option linter.unusedSimpArgs false
set_option maxRecDepth 100000
namespace Go.Proofs.YtlnckcgbpilmdaaGreat
open Go Go.RowKit HL
def Short (l : List AssetP) : Prop := ∀ x ∈ l, x.name.size ≤ 1048576
theorem assetsOf_spec (A : Option Addr) (l : List AssetP) (c most : Nat) (hl : l.length ≤ 1048576) (hs : Short l) (hm : most ≤ 1048576) : CSpec Tryz.prog 134 [.one (.sl 0 A l.length c), .one (.i .i64 most)] [(0, Res.rd A assetEn l)] [] fun o L => ∃ n : Nat, o = .ret (vint n) ∧ n ≤ 2097152 ∧ (n ≤ most → l.length ≤ n) ∧ L = [] := by
  refine v_enter Tryz.func134 (h := fun w0 => ?_)
  refine v_code [] (hk := ?_)
  refine v_loop (fun m E H => ∃ (k : Nat) (n : Nat), E = [(6, vn k), (5, vn n)] ∧ H = [] ∧ m = l.length - k ∧ k ≤ l.length ∧ (n ≤ 2097152) ∧ (k ≤ n)) [0, 1, 4, 28] (l.length) ([(6, vn 0), (5, vn (0))]) ([]) (h0 := ⟨0, 0, rfl, rfl, by omega, by omega, by omega, by omega⟩) (hr := ?_)
  rintro _ _ _ ⟨k, n, rfl, rfl, hmk, hk, hik0, hik1⟩
  refine v_code [] (hk := ?_)
  first | refine c_ifd rfl (fun h15 => ?_) (fun h15 => ?_) | refine c_ifn rfl (fun h15 => ?_) (fun h15 => ?_) | refine c_if rfl (fun h15 => ?_) (fun h15 => ?_)
  · simp only [Bool.and_eq_true, decide_eq_true_eq] at h15
    have hsz := hs _ (getD_mem (d := asset0) h15.1)
    refine v_code [] (hk := ?_)
    refine v_again (l.length - (k + 1)) ⟨k + 1, n + 1 + (l.getD k asset0).name.size / 16, rfl, rfl, by omega, by omega, by omega, by omega⟩
  · simp only [Bool.and_eq_false_imp, decide_eq_true_eq, decide_eq_false_iff_not] at h15
    refine v_code [] (hk := ?_)
    refine v_ret rfl [] (.cons (.tmp rfl) .nil) (h := ?_)
    refine ⟨n, rfl, hik0, fun h => ?_, rfl⟩
    by_cases hkk : k < l.length
    · have := h15 hkk; omega
    · omega
theorem valueOf_spec (v : ValueM) (most : Nat) (hl : v.assets.length ≤ 1048576) (hs : Short v.assets) (hm : most ≤ 1048576) : CSpec Tryz.prog 87 [.agg [.one (.i .i64 v.coin), .one (.sl 101 v.A v.assets.length v.c)], .one (.i .i64 most)] [(101, Res.rd v.A assetEn v.assets)] [] fun o L => ∃ n : Nat, o = .ret (vint n) ∧ n ≤ 2097153 ∧ (n ≤ most → v.assets.length + 1 ≤ n) ∧ 1 ≤ n ∧ L = [] := by
  refine v_enter Tryz.func87 (h := fun w0 => ?_)
  refine v_code [] (hk := ?_)
  refine l_do d_box (fun g2 => ?_)
  refine v_ops [] (hk := ?_)
  refine v_call 20400 [] (assetsOf_spec v.A v.assets v.c most hl hs hm) Tryz.func134 (h := ?_)
  rintro _ _ (⟨n, rfl, hn, hn2, rfl⟩)
  refine v_ops [] (hk := ?_)
  refine v_ret rfl [] (.cons (.tmp rfl) .nil) (h := ?_)
  exact ⟨1 + n, rfl, by omega, fun h => by have := hn2 (by omega); omega, by omega, rfl⟩
def Shorts (l : List ValueM) : Prop := ∀ v ∈ l, v.assets.length ≤ 1048576 ∧ Short v.assets
theorem valuesOf_spec (A : Option Addr) (l : List ValueM) (c most : Nat) (hl : l.length ≤ 1048576) (hs : Shorts l) (hm : most ≤ 1048576) : CSpec Tryz.prog 48 [.one (.sl 0 A l.length c), .one (.i .i64 most)] [(0, rdValues A l)] [] fun o L => ∃ n : Nat, o = .ret (vint n) ∧ n ≤ 4194304 ∧ (n ≤ most → l.length ≤ n ∧ ∀ v ∈ l, v.assets.length ≤ most) ∧ L = [] := by
  refine v_enter Tryz.func48 (h := fun w0 => ?_)
  refine v_code [] (hk := ?_)
  refine v_loop (fun m E H => ∃ (k : Nat) (n : Nat), E = [(6, vn k), (5, vn n)] ∧ H = [] ∧ m = l.length - k ∧ k ≤ l.length ∧ (n ≤ 4194304) ∧ (k ≤ n) ∧ (n ≤ most → ∀ v ∈ l.take k, v.assets.length ≤ most)) [0, 1, 4, 26] (l.length) ([(6, vn 0), (5, vn (0))]) ([]) (h0 := ⟨0, 0, rfl, rfl, by omega, by omega, by omega, by omega, by simp⟩) (hr := ?_)
  rintro _ _ _ ⟨k, n, rfl, rfl, hmk, hk, hik0, hik1, hik2⟩
  refine v_code [] (hk := ?_)
  first | refine c_ifd rfl (fun h15 => ?_) (fun h15 => ?_) | refine c_ifn rfl (fun h15 => ?_) (fun h15 => ?_) | refine c_if rfl (fun h15 => ?_) (fun h15 => ?_)
  · simp only [Bool.and_eq_true, decide_eq_true_eq] at h15
    have hsz := hs _ (getD_mem (d := value0) h15.1)
    refine v_code [] (hk := ?_)
    refine v_call 21200 [] (valueOf_spec (l.getD k value0) most hsz.1 hsz.2 hm) Tryz.func87 (h := ?_)
    rintro _ _ (⟨x, rfl, hx, hx2, hx3, rfl⟩)
    refine v_ops [] (hk := ?_)
    refine v_again (l.length - (k + 1)) ⟨k + 1, n + x, rfl, rfl, by omega, by omega, by omega, by omega, fun h => all_takeD (d := value0) (hik2 (by omega)) h15.1 (by have := hx2 (by omega); omega)⟩
  · simp only [Bool.and_eq_false_imp, decide_eq_true_eq, decide_eq_false_iff_not] at h15
    refine v_code [] (hk := ?_)
    refine v_ret rfl [] (.cons (.tmp rfl) .nil) (h := ?_)
    refine ⟨n, rfl, hik0, fun h => ?_, rfl⟩
    by_cases hkk : k < l.length
    · have := h15 hkk; omega
    · rw [take_all' hkk] at hik2
      exact ⟨by omega, hik2 h⟩
end Go.Proofs.YtlnckcgbpilmdaaGreat
/- Bundles: more than are gone through; sums of two; what is thrown. -/


set_option linter.unusedVariables false
set_option linter.unusedSimpArgs false
set_option maxRecDepth 100000
namespace Go.Proofs.YtlnckcgbpilmdaaGreat
open Go Go.RowKit HL
structure SlV where
  A : Option Addr
  c : Nat
  l : List ValueM
def slv0 : SlV := ⟨none, 0, []⟩
instance : Df SlV slv0 := ⟨⟩
def slvEn : En SlV := ⟨fun v => .one (.sl 0 v.A v.l.length v.c), false, 1, fun _ => ⟨rfl, rfl⟩, by decide⟩
def slvS (v : SlV) (_ : Nat) : RS := .rdn value0 v.A valueEn v.l 1 valueS
instance : ElT Tryz.prog 22 slvEn := ⟨⟩
theorem great_spec (A : Option Addr) (l : List SlV) (c : Nat) (hl : l.length ≤ 1048576) (hs : ∀ x ∈ l, x.l.length ≤ 1048576 ∧ Shorts x.l) : CSpec Tryz.prog 7 [.one (.sl 0 A l.length c)] [(0, (RS.rdn slv0 A slvEn l 1 slvS).den)] [] fun o L => ∃ b : Bool, o = .ret (vb b) ∧ (b = false → ∀ x ∈ l, x.l.length ≤ 200 ∧ ∀ v ∈ x.l, v.assets.length ≤ 200) ∧ L = [] := by
  refine v_enter Tryz.func7 (h := fun w0 => ?_)
  refine v_code [] (hk := ?_)
  refine v_loop (fun m E H => ∃ (k : Nat) (n : Nat), E = [(4, vn k), (3, vn n)] ∧ H = [] ∧ m = l.length - k ∧ k ≤ l.length ∧ (n ≤ 4194304 * k) ∧ (n ≤ 200 → ∀ x ∈ l.take k, x.l.length ≤ 200 ∧ ∀ v ∈ x.l, v.assets.length ≤ 200)) [0, 2, 18, 19] (l.length) ([(4, vn 0), (3, vn (0))]) ([]) (h0 := ⟨0, 0, rfl, rfl, by omega, by omega, by omega, by simp⟩) (hr := ?_)
  rintro _ _ _ ⟨k, n, rfl, rfl, hmk, hk, hik0, hik1⟩
  refine v_code [] (hk := ?_)
  first | refine c_ifd rfl (fun h8 => ?_) (fun h8 => ?_) | refine c_ifn rfl (fun h8 => ?_) (fun h8 => ?_) | refine c_if rfl (fun h8 => ?_) (fun h8 => ?_)
  · have hsz := hs _ (getD_mem (d := slv0) h8)
    refine v_code [] (hk := ?_)
    refine v_call 20800 [] (valuesOf_spec (l.getD k slv0).A (l.getD k slv0).l (l.getD k slv0).c 200 hsz.1 hsz.2 (by omega)) Tryz.func48 (h := ?_)
    rintro _ _ (⟨x, rfl, hx, hx2, rfl⟩)
    refine v_ops [] (hk := ?_)
    refine v_again (l.length - (k + 1)) ⟨k + 1, n + x, rfl, rfl, by omega, by omega, by omega, fun h => all_takeD (d := slv0) (hik1 (by omega)) h8 (by obtain ⟨q1, q2⟩ := hx2 (by omega); exact ⟨by omega, q2⟩)⟩
  · refine v_code [] (hk := ?_)
    refine v_ret rfl [] (.cons (.tmp rfl) .nil) (h := ?_)
    exact ⟨_, rfl, fun h => by simp only [decide_eq_false_iff_not] at h; rw [take_all' h8] at hik1; exact hik1 (by omega), rfl⟩
abbrev thrown : List PanicEntry := [{ v := .iface 145 (SV.agg []).den, recovered := false }]
instance : NoI Tryz.prog 145 := ⟨by kernel_rfl⟩
theorem must_spec (b : Bool) : CSpec Tryz.prog 68 [.one (.b b)] [] [] fun o L => (b = true ∧ o = .ret (.tup []) ∧ L = []) ∨ (b = false ∧ o = .pan thrown ∧ L = []) := by
  refine v_enter Tryz.func68 (h := fun w0 => ?_)
  refine v_code [] (hk := ?_)
  first | refine c_ifd rfl (fun h3 => ?_) (fun h3 => ?_) | refine c_ifn rfl (fun h3 => ?_) (fun h3 => ?_) | refine c_if rfl (fun h3 => ?_) (fun h3 => ?_)
  · refine v_code [] (hk := ?_)
    refine l_rd r_iface ?_
    refine l_panic (h := ?_)
    refine v_ex [] (hk := ?_)
    refine k_pan [] (h := ?_)
    exact .inr ⟨by simpa using h3, rfl, rfl⟩
  · refine v_code [] (hk := ?_)
    refine v_ret rfl [] .nil (h := ?_)
    exact .inl ⟨by simpa using h3, rfl, rfl⟩
theorem more_spec (ad : Addr) (a b : Int) (hb : 0 ≤ b ∧ b ≤ 9223372036854775807) (ha : -9223372036854775808 ≤ a ∧ a ≤ 9223372036854775807) : CSpec Tryz.prog 91 [.one (.ptr 0 ad), .one (.i .i64 a), .one (.i .i64 b)] [] [] fun o L => (a + b ≤ 9223372036854775807 ∧ o = .ret (vi .i64 (a + b)) ∧ L = []) ∨ (¬ a + b ≤ 9223372036854775807 ∧ o = .pan thrown ∧ L = []) := by
  refine v_enter Tryz.func91 (h := fun w0 => ?_)
  refine v_code [] (hk := ?_)
  refine v_call 20550 [] (must_spec (decide (a ≤ 9223372036854775807 - b))) Tryz.func68 (h := ?_)
  rintro _ _ (⟨hm, rfl, rfl⟩ | ⟨hm, rfl, rfl⟩)
  · simp only [decide_eq_true_eq] at hm
    refine v_ops [] (hk := ?_)
    refine v_ret rfl [] (.cons (.tmp rfl) .nil) (h := ?_)
    exact .inl ⟨by omega, rfl, rfl⟩
  · simp only [decide_eq_false_iff_not] at hm
    refine v_ex [] (hk := ?_)
    refine k_pan [] (h := ?_)
    exact .inr ⟨by omega, rfl, rfl⟩
theorem less_spec (ad : Addr) (a b : Int) (hb : 0 ≤ b ∧ b ≤ 9223372036854775807) (ha : -9223372036854775808 ≤ a ∧ a ≤ 9223372036854775807) : CSpec Tryz.prog 69 [.one (.ptr 0 ad), .one (.i .i64 a), .one (.i .i64 b)] [] [] fun o L => (b ≤ a ∧ o = .ret (vi .i64 (a - b)) ∧ L = []) ∨ (¬ b ≤ a ∧ o = .pan thrown ∧ L = []) := by
  refine v_enter Tryz.func69 (h := fun w0 => ?_)
  refine v_code [] (hk := ?_)
  refine v_call 20500 [] (must_spec (decide (a ≥ b))) Tryz.func68 (h := ?_)
  rintro _ _ (⟨hm, rfl, rfl⟩ | ⟨hm, rfl, rfl⟩)
  · simp only [decide_eq_true_eq] at hm
    refine v_ops [] (hk := ?_)
    refine v_ret rfl [] (.cons (.tmp rfl) .nil) (h := ?_)
    exact .inl ⟨by omega, rfl, rfl⟩
  · simp only [decide_eq_false_iff_not] at hm
    refine v_ex [] (hk := ?_)
    refine k_pan [] (h := ?_)
    exact .inr ⟨by omega, rfl, rfl⟩
end Go.Proofs.YtlnckcgbpilmdaaGreat
/- What is tried: what is thrown is caught. -/

set_option linter.unusedVariables false
set_option linter.unusedSimpArgs false
set_option maxRecDepth 100000
namespace Go.Proofs.YtlnckcgbpilmdaaGreat
open Go Go.RowKit HL
theorem tried1_ret (g0 g1 : Nat) (xs ys : List At) : CSpecD Tryz.prog 90 [.one (.ptr 0 ⟨g0, 0, none⟩), .one (.ptr 1 ⟨g1, 0, none⟩)] [] [(0, Res.va g0 26 xs), (1, Res.va g1 4 ys)] .returning fun o u L => o = .ret (.tup []) ∧ u = .returning ∧ L = [Res.va g0 26 xs, Res.va g1 4 ys] := by
  refine d_enter Tryz.func90 (h := fun w0 c₀ cs0 hu => ?_)
  refine d_seq ?_
  refine d_region ?_
  refine d_norecover hu (h := ?_)
  refine v_ops [] (hk := ?_)
  refine d_ret rfl [0, 1] (.tup []) .nil (h := ?_)
  exact ⟨rfl, rfl, rfl⟩
theorem tried1_pan (g0 g1 : Nat) (c : Int) (A : Option Addr) (k d : Nat) (b : Bool) : CSpecD Tryz.prog 90 [.one (.ptr 0 ⟨g0, 0, none⟩), .one (.ptr 1 ⟨g1, 0, none⟩)] [] [(0, Res.va g0 26 [.one (.i .i64 c), .one (.sl 0 A k d)]), (1, Res.va g1 4 [.one (.b b)])] (.panicking thrown) fun o u L => o = .ret (.tup []) ∧ settle u = .returning ∧ L = [Res.va g0 26 [.one (.i .i64 0), .one (.sl 0 none 0 0)], Res.va g1 4 [.one (.b false)]] := by
  refine d_enter Tryz.func90 (h := fun w0 c₀ cs0 hu => ?_)
  refine d_seq ?_
  refine d_region ?_
  refine d_recover (.s (.one (.ifv 145 (SV.agg []).den))) rfl hu (h := ?_)
  refine v_ops [] (hk := ?_)
  refine l_rd r_assertY ?_
  refine v_ops [] (hk := ?_)
  refine l_do d_alloc (fun g3 => ?_)
  refine v_ops [] (hk := ?_)
  refine v_know 14 false rfl rfl ?_
  refine v_code [] (hk := ?_)
  refine d_ret rfl [0, 1] (.tup []) .nil (h := ?_)
  exact ⟨rfl, rfl, rfl⟩
end Go.Proofs.YtlnckcgbpilmdaaGreat
/- Purses: maps from names. -/

set_option linter.unusedVariables false
set_option linter.unusedSimpArgs false
set_option maxRecDepth 100000
namespace Go.Proofs.YtlnckcgbpilmdaaGreat
open Go Go.RowKit HL
def nameFs : List (FE Tryz.prog NameP) := [⟨Hash, inferInstance, hval, 2, NameP.policy, 50, 32, (HashT.key (P := Tryz.prog) (T := 50)).eq.v, fits_hash, size_hval⟩, ⟨ByteArray, inferInstance, Value.string, 1, NameP.name, 9, 1, (eqTy_str (UD.is (P := Tryz.prog) (T := 9))).v, fits_str _, fun _ => rfl⟩]
theorem nameEn_den (x : NameP) : kdn nameEn x = mkS (FE.vals nameFs x) := SV.den_agg _
theorem sameBits_intsL (m : Nat) : ∀ (l : List UInt8), ((l.map fun b => Value.int .u8 b.toNat).zip (l.map fun b => Value.int .u8 b.toNat)).all (fun (x, y) => Instr.sameBits m x y) = true
  | [] => rfl
  | b :: l => by
    have := sameBits_intsL m l
    simp only [List.map_cons, List.zip_cons_cons, List.all_cons, this, Bool.and_true]
    cases m <;> simp [Instr.sameBits]
theorem sameBits_ba (m : Nat) (x : ByteArray) : Instr.sameBits m (.string x) (.string x) = true := by
  cases m <;> simp [Instr.sameBits, ba_beq]
theorem keyTy_name : KeyTy Tryz.prog 88 (kdn nameEn) 3 where
  eq := eqTy_struct nameFs Tryz.underlying88 (by kernel_rfl) (by kernel_rfl) (by kernel_rfl) (by intro F hF; simp [nameFs] at hF; rcases hF with rfl | rfl <;> simp) nameEn_den (fun x y => by cases x; cases y; simp [FE.same, nameFs, Bool.decide_and]) (by
    intro F hF
    simp [nameFs] at hF
    rcases hF with rfl | rfl
    · exact ⟨fun d hd em x w => (HashT.key (P := Tryz.prog) (T := 50)).eq.chk d hd em x w, fun k x hk => by
        obtain ⟨k, rfl⟩ : ∃ m, k = m + 1 := ⟨k - 1, by simp at hk; omega⟩
        show Instr.sameBits (k + 1) (hval x) (hval x) = true
        unfold hval
        rw [Instr.sameBits]
        simp only [beq_self_eq_true, Bool.true_and]
        exact sameBits_intsL k x.toList⟩
    · exact ⟨fun d hd em x w => (eqTy_str (UD.is (P := Tryz.prog) (T := 9))).chk d hd em x w, fun k x hk => sameBits_ba k x⟩)
  le := by omega
  wide := ⟨_, Tryz.underlying88, rfl⟩
  same x := by
    rw [nameEn_den]
    unfold mkS
    rw [show (10000 : Nat) = 9999 + 1 from rfl, Instr.sameBits]
    simp only [beq_self_eq_true, Bool.true_and]
    refine sameBits_flat x nameFs fun F hF c hc => ?_
    simp [nameFs] at hF
    rcases hF with rfl | rfl
    · have hc' : c ∈ (hcells x.policy) := by simpa using hc
      obtain ⟨b, -, rfl⟩ := List.mem_map.1 hc'
      simp [Instr.sameBits]
    · have hc' : c = Value.string x.name := by simpa [Value.cells] using hc
      subst hc'
      exact sameBits_ba _ _
instance : KeyT Tryz.prog 88 nameEn := ⟨keyTy_name.ok⟩
end Go.Proofs.YtlnckcgbpilmdaaGreat
/- Sums by names, kept in maps: plain, with no program in sight. -/

set_option linter.unusedVariables false
namespace Go.Proofs.YtlnckcgbpilmdaaGreat
open Go Go.RowKit HL
section
variable {κ ν : Type} [DecidableEq κ]
theorem mlook_app (l m : List (κ × ν × Nat)) (n : κ) : mlook (l ++ m) n = (mlook l n).or (mlook m n) := by
  unfold mlook
  rw [List.find?_append]
  cases l.find? (fun x => decide (x.1 = n)) <;> simp
theorem mlook_mset (k : κ) (v : ν) (n : κ) : ∀ (l : List (κ × ν × Nat)), mlook (mset l k v) n = if n = k ∧ mhas l k = true then some v else mlook l n
  | [] => by simp [mset, mlook, mhas]
  | x :: l => by
    have ih := mlook_mset k v n l
    unfold mset
    by_cases h : x.1 = k
    · rw [if_pos h]
      by_cases hn : n = k
      · subst hn
        simp [mlook, mhas, h]
      · have : ¬ x.1 = n := fun e => hn (e.symm.trans h)
        simp [mlook, this, hn]
    · rw [if_neg h]
      by_cases hn : x.1 = n
      · have : ¬ n = k := fun e => h (hn.trans e)
        simp [mlook, hn, this]
      · have e1 : mlook (x :: mset l k v) n = mlook (mset l k v) n := by simp [mlook, hn]
        have e2 : mlook (x :: l) n = mlook l n := by simp [mlook, hn]
        have e3 : mhas (x :: l) k = mhas l k := by simp [mhas, mlook, h]
        rw [e1, e2, e3, ih]
theorem mlook_put (l : List (κ × ν × Nat)) (c : Nat) (k : κ) (v : ν) (n : κ) : mlook (mput l c k v) n = if n = k then some v else mlook l n := by
  unfold mput
  by_cases h : mhas l k = true
  · rw [if_pos h, mlook_mset]
    simp [h]
  · rw [if_neg h, mlook_app]
    have h0 : mlook l k = none := by simpa [mhas] using h
    by_cases hn : n = k
    · subst hn
      rw [h0]
      simp [mlook]
    · have : ¬ k = n := fun e => hn e.symm
      simp [mlook, hn, this]
theorem mput_len (l : List (κ × ν × Nat)) (c : Nat) (k : κ) (v : ν) : (mput l c k v).length ≤ l.length + 1 := by
  unfold mput
  split
  · have := congrArg List.length (mset_born k v l)
    simp only [List.length_map] at this
    omega
  · simp
end
def tot (P : List AssetP) (n : NameP) : Int := ((P.filter fun x => decide (x.key = n)).map AssetP.amount).sum
theorem tot_nil (n : NameP) : tot [] n = 0 := rfl
theorem tot_app (P Q : List AssetP) (n : NameP) : tot (P ++ Q) n = tot P n + tot Q n := by
  unfold tot
  rw [List.filter_append, List.map_append, List.sum_append_int]
theorem tot_one (x : AssetP) (n : NameP) : tot [x] n = if n = x.key then x.amount else 0 := by
  unfold tot
  by_cases h : x.key = n
  · simp [h]
  · have : ¬ n = x.key := fun e => h e.symm
    simp [h, this]
theorem tot_cons (x : AssetP) (P : List AssetP) (n : NameP) : tot (x :: P) n = (if n = x.key then x.amount else 0) + tot P n := by
  rw [show x :: P = [x] ++ P from rfl, tot_app, tot_one]
theorem tot_nonneg : ∀ {P : List AssetP} (n : NameP), (∀ x ∈ P, 1 ≤ x.amount) → 0 ≤ tot P n
  | [], n, _ => by rw [tot_nil]; omega
  | x :: P, n, h => by
    rw [tot_cons]
    have h1 := h x (List.mem_cons_self ..)
    have h2 := tot_nonneg n fun y hy => h y (List.mem_cons_of_mem _ hy)
    split <;> omega
theorem tot_mem {n : NameP} : ∀ {P : List AssetP}, tot P n ≠ 0 → ∃ x ∈ P, x.key = n
  | [], h => absurd (tot_nil n) h
  | x :: P, h => by
    by_cases e : x.key = n
    · exact ⟨x, List.mem_cons_self .., e⟩
    · rw [tot_cons, if_neg (fun e' => e e'.symm)] at h
      obtain ⟨y, hy, q⟩ := tot_mem (P := P) (fun e => h (by rw [e]; rfl))
      exact ⟨y, List.mem_cons_of_mem _ hy, q⟩
abbrev Max : Int := 9223372036854775807
structure PJ (P : List AssetP) (m : List (NameP × Int × Nat)) (c : Nat) : Prop where
  wf : MWf m c
  look : ∀ n, (mlook m n).getD 0 = tot P n
  pos : ∀ x ∈ P, 1 ≤ x.amount
  le : ∀ n, tot P n ≤ Max
  len : m.length ≤ P.length
theorem PJ.nil : PJ [] [] 0 := ⟨MWf.nil, fun n => by simp [mlook, tot_nil], by simp, fun n => by rw [tot_nil]; decide, by simp⟩
theorem PJ.range {P : List AssetP} {m : List (NameP × Int × Nat)} {c : Nat} (h : PJ P m c) (n : NameP) : 0 ≤ (mlook m n).getD 0 ∧ (mlook m n).getD 0 ≤ Max := by
  rw [h.look]
  exact ⟨tot_nonneg n h.pos, h.le n⟩
theorem PJ.put {P : List AssetP} {m : List (NameP × Int × Nat)} {c : Nat} (h : PJ P m c) {x : AssetP} (hx : 1 ≤ x.amount) (hle : (mlook m x.key).getD 0 + x.amount ≤ Max) : PJ (P ++ [x]) (mput m c x.key ((mlook m x.key).getD 0 + x.amount)) (mclk m c x.key) where
  wf := h.wf.put _ _
  look n := by
    rw [mlook_put, tot_app, tot_one, ← h.look n]
    by_cases e : n = x.key
    · subst e; simp
    · rw [if_neg e, if_neg e]; omega
  pos y hy := by
    rcases List.mem_append.1 hy with hy | hy
    · exact h.pos y hy
    · rw [List.mem_singleton.1 hy]; exact hx
  le n := by
    rw [tot_app, tot_one]
    by_cases e : n = x.key
    · subst e; rw [if_pos rfl, ← h.look]; exact hle
    · rw [if_neg e]; have := h.le n; omega
  len := by
    have := h.len
    have h2 := mput_len m c x.key ((mlook m x.key).getD 0 + x.amount)
    rw [List.length_append, List.length_singleton]
    omega
theorem PJ.over {P : List AssetP} {m : List (NameP × Int × Nat)} {c : Nat} (h : PJ P m c) {x : AssetP} (hle : ¬ (mlook m x.key).getD 0 + x.amount ≤ Max) {Q : List AssetP} (hQ : ∀ y ∈ Q, 1 ≤ y.amount) : ¬ ∀ n, tot (P ++ ([x] ++ Q)) n ≤ Max := fun hn => by
  have := hn x.key
  rw [tot_app, tot_app, tot_one, if_pos rfl, ← h.look] at this
  have := tot_nonneg x.key hQ
  omega
def AL (l : List ValueM) : List AssetP := l.flatMap ValueM.assets
def csum (l : List ValueM) : Int := (l.map ValueM.coin).sum
theorem AL_app (l m : List ValueM) : AL (l ++ m) = AL l ++ AL m := by unfold AL; rw [List.flatMap_append]
theorem csum_app (l m : List ValueM) : csum (l ++ m) = csum l + csum m := by unfold csum; rw [List.map_append, List.sum_append_int]
theorem AL_one (v : ValueM) : AL [v] = v.assets := by unfold AL; simp
theorem csum_one (v : ValueM) : csum [v] = v.coin := by unfold csum; simp
def Rights (l : List ValueM) : Prop := ∀ v ∈ l, RightV v.coin v.assets
theorem Rights.pos {l : List ValueM} (h : Rights l) : ∀ x ∈ AL l, 1 ≤ x.amount := fun x hx => by
  obtain ⟨v, hv, hx⟩ := List.mem_flatMap.1 hx
  exact (h v hv).2.2 x hx
theorem Rights.csum : ∀ {l : List ValueM}, Rights l → 0 ≤ csum l
  | [], _ => by decide
  | v :: l, h => by
    rw [show v :: l = [v] ++ l from rfl, csum_app, csum_one]
    have h1 := (h v (List.mem_cons_self ..)).1
    have h2 := Rights.csum (l := l) fun y hy => h y (List.mem_cons_of_mem _ hy)
    omega
theorem AL_len : ∀ {l : List ValueM}, Rights l → (AL l).length ≤ 30 * l.length
  | [], _ => by simp [AL]
  | v :: l, h => by
    rw [show v :: l = [v] ++ l from rfl, AL_app, AL_one, List.length_append, List.length_append]
    have h1 := (h v (List.mem_cons_self ..)).2.1.2.2
    have h2 := AL_len (l := l) fun y hy => h y (List.mem_cons_of_mem _ hy)
    simp only [List.length_singleton]
    omega
def FillOk (l : List ValueM) : Prop := Rights l ∧ csum l ≤ Max ∧ ∀ n, tot (AL l) n ≤ Max
structure PI (l : List ValueM) (co : Int) (m : List (NameP × Int × Nat)) (c : Nat) : Prop where
  r : Rights l
  sum : co = csum l
  le : co ≤ Max
  j : PJ (AL l) m c
theorem PI.nil : PI [] 0 [] 0 := ⟨fun v hv => (by cases hv), rfl, by decide, PJ.nil⟩
theorem PI.ok {l : List ValueM} {co : Int} {m : List (NameP × Int × Nat)} {c : Nat} (h : PI l co m c) : FillOk l := ⟨h.r, by rw [← h.sum]; exact h.le, h.j.le⟩
theorem fill_not {l : List ValueM} {k : Nat} {d : ValueM} (hk : k < l.length) (h : ¬ RightV (l.getD k d).coin (l.getD k d).assets) : ¬ FillOk l := fun hf => h (hf.1 _ (getD_mem hk))
theorem split_at {α : Type} {l : List α} {k : Nat} {d : α} (hk : k < l.length) : l = l.take k ++ ([l.getD k d] ++ l.drop (k + 1)) := by
  rw [← List.append_assoc, ← take_getD hk, List.take_append_drop]
theorem fill_coin {l : List ValueM} {k : Nat} {d : ValueM} (hk : k < l.length) {co : Int} {m : List (NameP × Int × Nat)} {c : Nat} (h : PI (l.take k) co m c) (ho : ¬ co + (l.getD k d).coin ≤ Max) : ¬ FillOk l := fun hf => by
  have h1 := hf.2.1
  rw [split_at (d := d) hk, csum_app, csum_app, csum_one, ← h.sum] at h1
  have h2 := Rights.csum (l := l.drop (k + 1)) fun v hv => hf.1 v (List.mem_of_mem_drop hv)
  omega
theorem fill_over {l : List ValueM} {k j : Nat} {d : ValueM} {e : AssetP} (hk : k < l.length) (hj : j < (l.getD k d).assets.length) {m : List (NameP × Int × Nat)} {c : Nat} (h : PJ (AL (l.take k) ++ (l.getD k d).assets.take j) m c) (ho : ¬ (mlook m ((l.getD k d).assets.getD j e).key).getD 0 + ((l.getD k d).assets.getD j e).amount ≤ Max) : ¬ FillOk l := fun hf => by
  have h3 := hf.1.pos
  have e1 : AL l = (AL (l.take k) ++ (l.getD k d).assets.take j) ++ ([(l.getD k d).assets.getD j e] ++ ((l.getD k d).assets.drop (j + 1) ++ AL (l.drop (k + 1)))) := by
    conv => lhs; rw [split_at (d := d) hk, AL_app, AL_app, AL_one, split_at (d := e) hj]
    simp only [List.append_assoc]
  refine h.over ho (Q := (l.getD k d).assets.drop (j + 1) ++ AL (l.drop (k + 1))) (fun y hy => h3 y ?_) ?_
  · rw [e1]
    exact List.mem_append_right _ (List.mem_append_right _ hy)
  · rw [← e1]
    exact hf.2.2
theorem PI.snoc {l : List ValueM} {k : Nat} {d : ValueM} (hk : k < l.length) {co : Int} {m m' : List (NameP × Int × Nat)} {c c' : Nat} (h : PI (l.take k) co m c) (hr : RightV (l.getD k d).coin (l.getD k d).assets) (hle : co + (l.getD k d).coin ≤ Max) (hj : PJ (AL (l.take k) ++ (l.getD k d).assets) m' c') : PI (l.take (k + 1)) (co + (l.getD k d).coin) m' c' where
  r v hv := all_takeD (d := d) h.r hk hr v hv
  sum := by rw [take_getD (d := d) hk, csum_app, csum_one, ← h.sum]
  le := hle
  j := by rw [take_getD (d := d) hk, AL_app, AL_one]; exact hj
theorem PJ.snoc {P Q : List AssetP} {k : Nat} {d : AssetP} (hk : k < Q.length) {m : List (NameP × Int × Nat)} {c : Nat} (h : PJ (P ++ Q.take k) m c) (hx : 1 ≤ (Q.getD k d).amount) (hle : (mlook m (Q.getD k d).key).getD 0 + (Q.getD k d).amount ≤ Max) : PJ (P ++ Q.take (k + 1)) (mput m c (Q.getD k d).key ((mlook m (Q.getD k d).key).getD 0 + (Q.getD k d).amount)) (mclk m c (Q.getD k d).key) := by
  rw [take_getD (d := d) hk, ← List.append_assoc]
  exact h.put hx hle
end Go.Proofs.YtlnckcgbpilmdaaGreat
