/- Lemmas and walks: Vt, N1, W1, W2, W3, W4, W5, W6, W7, N2, W8, N3. -/
import Derived.Test.YtlnckcgbpilmdaaZ3
import Derived.Test.YtlnckcgbpilmdaaProg
import Derived.KernelRfl
/- What is known of this seat's types: closed facts and tables, printed by my own facts3.py. -/



namespace Go.Proofs.Ytlnckcgbpilmdaa
open Go HL
set_option maxRecDepth 100000
instance ta1 : TyA Try.prog 1 false 1 (.one (.fnn)) 8 := ⟨⟨by kernel_rfl, by kernel_rfl⟩, rfl, rfl⟩
instance noi1 : NoI Try.prog 1 := ⟨by kernel_rfl⟩
instance ta2 : TyA Try.prog 2 false 1 (.one (.i .i64 0)) 8 := ⟨⟨by kernel_rfl, by kernel_rfl⟩, rfl, rfl⟩
instance noi2 : NoI Try.prog 2 := ⟨by kernel_rfl⟩
instance ud2 : UD Try.prog 2 (.int .i64) := ⟨by kernel_rfl⟩
instance ta3 : TyA Try.prog 3 false 1 (.one (.i .i64 0)) 8 := ⟨⟨by kernel_rfl, by kernel_rfl⟩, rfl, rfl⟩
instance noi3 : NoI Try.prog 3 := ⟨by kernel_rfl⟩
instance ud3 : UD Try.prog 3 (.int .i64) := ⟨by kernel_rfl⟩
instance ta4 : TyA Try.prog 4 false 1 (.one (.b false)) 1 := ⟨⟨by kernel_rfl, by kernel_rfl⟩, rfl, rfl⟩
instance noi4 : NoI Try.prog 4 := ⟨by kernel_rfl⟩
instance ud4 : UD Try.prog 4 (.bool) := ⟨by kernel_rfl⟩
instance ta5 : TyA Try.prog 5 false 1 (.one (.i .u8 0)) 1 := ⟨⟨by kernel_rfl, by kernel_rfl⟩, rfl, rfl⟩
instance noi5 : NoI Try.prog 5 := ⟨by kernel_rfl⟩
instance ud5 : UD Try.prog 5 (.int .u8) := ⟨by kernel_rfl⟩
instance ta6 : TyA Try.prog 6 false 1 (.one (.i .u8 0)) 1 := ⟨⟨by kernel_rfl, by kernel_rfl⟩, rfl, rfl⟩
instance noi6 : NoI Try.prog 6 := ⟨by kernel_rfl⟩
instance ud6 : UD Try.prog 6 (.int .u8) := ⟨by kernel_rfl⟩
instance ta7 : TyA Try.prog 7 true 4 (.agg [.one (.i .i64 0), .one (.i .i64 0), .one (.b false), .one (.i .u8 0)]) 24 := ⟨⟨by kernel_rfl, by kernel_rfl⟩, rfl, rfl⟩
instance noi7 : NoI Try.prog 7 := ⟨by kernel_rfl⟩
instance fa7_0 : FA Try.prog 7 0 0 := ⟨by kernel_rfl⟩
instance ft7_0 : FT Try.prog 7 0 2 0 := ⟨by kernel_rfl⟩
instance fa7_1 : FA Try.prog 7 1 1 := ⟨by kernel_rfl⟩
instance ft7_1 : FT Try.prog 7 1 3 1 := ⟨by kernel_rfl⟩
instance fa7_2 : FA Try.prog 7 2 2 := ⟨by kernel_rfl⟩
instance ft7_2 : FT Try.prog 7 2 4 2 := ⟨by kernel_rfl⟩
instance fa7_3 : FA Try.prog 7 3 3 := ⟨by kernel_rfl⟩
instance ft7_3 : FT Try.prog 7 3 6 3 := ⟨by kernel_rfl⟩
instance pls7 : PLS Try.prog 7 [.one (.i .i64 0), .one (.i .i64 0), .one (.b false), .one (.i .u8 0)] := ⟨by kernel_rfl⟩
instance ta8 : TyA Try.prog 8 true 4 (.agg [.one (.i .i64 0), .one (.i .i64 0), .one (.b false), .one (.i .u8 0)]) 24 := ⟨⟨by kernel_rfl, by kernel_rfl⟩, rfl, rfl⟩
instance noi8 : NoI Try.prog 8 := ⟨by kernel_rfl⟩
instance fa8_0 : FA Try.prog 8 0 0 := ⟨by kernel_rfl⟩
instance ft8_0 : FT Try.prog 8 0 2 0 := ⟨by kernel_rfl⟩
instance fa8_1 : FA Try.prog 8 1 1 := ⟨by kernel_rfl⟩
instance ft8_1 : FT Try.prog 8 1 3 1 := ⟨by kernel_rfl⟩
instance fa8_2 : FA Try.prog 8 2 2 := ⟨by kernel_rfl⟩
instance ft8_2 : FT Try.prog 8 2 4 2 := ⟨by kernel_rfl⟩
instance fa8_3 : FA Try.prog 8 3 3 := ⟨by kernel_rfl⟩
instance ft8_3 : FT Try.prog 8 3 6 3 := ⟨by kernel_rfl⟩
instance pls8 : PLS Try.prog 8 [.one (.i .i64 0), .one (.i .i64 0), .one (.b false), .one (.i .u8 0)] := ⟨by kernel_rfl⟩
instance ta9 : TyA Try.prog 9 false 1 (.one (.s ⟨#[]⟩)) 16 := ⟨⟨by kernel_rfl, by kernel_rfl⟩, rfl, rfl⟩
instance noi9 : NoI Try.prog 9 := ⟨by kernel_rfl⟩
instance ud9 : UD Try.prog 9 (.string) := ⟨by kernel_rfl⟩
instance ta10 : TyA Try.prog 10 false 1 (.one (.s ⟨#[]⟩)) 16 := ⟨⟨by kernel_rfl, by kernel_rfl⟩, rfl, rfl⟩
instance noi10 : NoI Try.prog 10 := ⟨by kernel_rfl⟩
instance ud10 : UD Try.prog 10 (.string) := ⟨by kernel_rfl⟩
instance ta11 : TyA Try.prog 11 false 1 (.one (.s ⟨#[]⟩)) 16 := ⟨⟨by kernel_rfl, by kernel_rfl⟩, rfl, rfl⟩
instance noi11 : NoI Try.prog 11 := ⟨by kernel_rfl⟩
instance ud11 : UD Try.prog 11 (.string) := ⟨by kernel_rfl⟩
instance ta12 : TyA Try.prog 12 false 1 (.one (.i .u64 0)) 8 := ⟨⟨by kernel_rfl, by kernel_rfl⟩, rfl, rfl⟩
instance noi12 : NoI Try.prog 12 := ⟨by kernel_rfl⟩
instance ud12 : UD Try.prog 12 (.int .u64) := ⟨by kernel_rfl⟩
instance ta13 : TyA Try.prog 13 true 2 (.agg [.one (.s ⟨#[]⟩), .one (.i .u64 0)]) 24 := ⟨⟨by kernel_rfl, by kernel_rfl⟩, rfl, rfl⟩
instance noi13 : NoI Try.prog 13 := ⟨by kernel_rfl⟩
instance fa13_0 : FA Try.prog 13 0 0 := ⟨by kernel_rfl⟩
instance ft13_0 : FT Try.prog 13 0 9 0 := ⟨by kernel_rfl⟩
instance fa13_1 : FA Try.prog 13 1 1 := ⟨by kernel_rfl⟩
instance ft13_1 : FT Try.prog 13 1 12 1 := ⟨by kernel_rfl⟩
instance pls13 : PLS Try.prog 13 [.one (.s ⟨#[]⟩), .one (.i .u64 0)] := ⟨by kernel_rfl⟩
instance ta14 : TyA Try.prog 14 true 2 (.agg [.one (.s ⟨#[]⟩), .one (.i .u64 0)]) 24 := ⟨⟨by kernel_rfl, by kernel_rfl⟩, rfl, rfl⟩
instance noi14 : NoI Try.prog 14 := ⟨by kernel_rfl⟩
instance fa14_0 : FA Try.prog 14 0 0 := ⟨by kernel_rfl⟩
instance ft14_0 : FT Try.prog 14 0 9 0 := ⟨by kernel_rfl⟩
instance fa14_1 : FA Try.prog 14 1 1 := ⟨by kernel_rfl⟩
instance ft14_1 : FT Try.prog 14 1 12 1 := ⟨by kernel_rfl⟩
instance pls14 : PLS Try.prog 14 [.one (.s ⟨#[]⟩), .one (.i .u64 0)] := ⟨by kernel_rfl⟩
instance ta15 : TyA Try.prog 15 false 1 (.one (.pn)) 8 := ⟨⟨by kernel_rfl, by kernel_rfl⟩, rfl, rfl⟩
instance noi15 : NoI Try.prog 15 := ⟨by kernel_rfl⟩
instance ud15 : UD Try.prog 15 (.pointer 135) := ⟨by kernel_rfl⟩
instance ta16 : TyA Try.prog 16 false 1 (.one (.pn)) 8 := ⟨⟨by kernel_rfl, by kernel_rfl⟩, rfl, rfl⟩
instance noi16 : NoI Try.prog 16 := ⟨by kernel_rfl⟩
instance ud16 : UD Try.prog 16 (.pointer 138) := ⟨by kernel_rfl⟩
instance ta17 : TyA Try.prog 17 false 1 (.one (.pn)) 8 := ⟨⟨by kernel_rfl, by kernel_rfl⟩, rfl, rfl⟩
instance noi17 : NoI Try.prog 17 := ⟨by kernel_rfl⟩
instance ud17 : UD Try.prog 17 (.pointer 147) := ⟨by kernel_rfl⟩
instance ta18 : TyA Try.prog 18 true 1 (.agg [.one (.pn)]) 8 := ⟨⟨by kernel_rfl, by kernel_rfl⟩, rfl, rfl⟩
instance noi18 : NoI Try.prog 18 := ⟨by kernel_rfl⟩
instance fa18_0 : FA Try.prog 18 0 0 := ⟨by kernel_rfl⟩
instance ft18_0 : FT Try.prog 18 0 17 0 := ⟨by kernel_rfl⟩
instance pls18 : PLS Try.prog 18 [.one (.pn)] := ⟨by kernel_rfl⟩
instance ta19 : TyA Try.prog 19 true 1 (.agg [.one (.pn)]) 8 := ⟨⟨by kernel_rfl, by kernel_rfl⟩, rfl, rfl⟩
instance noi19 : NoI Try.prog 19 := ⟨by kernel_rfl⟩
instance fa19_0 : FA Try.prog 19 0 0 := ⟨by kernel_rfl⟩
instance ft19_0 : FT Try.prog 19 0 17 0 := ⟨by kernel_rfl⟩
instance pls19 : PLS Try.prog 19 [.one (.pn)] := ⟨by kernel_rfl⟩
instance ta20 : TyA Try.prog 20 false 1 (.one (.ifn)) 16 := ⟨⟨by kernel_rfl, by kernel_rfl⟩, rfl, rfl⟩
theorem ifc20 : isIfc (Try.prog.underlying 20) = true := by kernel_rfl
instance ta21 : TyA Try.prog 21 false 1 (.one (.i .i32 0)) 4 := ⟨⟨by kernel_rfl, by kernel_rfl⟩, rfl, rfl⟩
instance noi21 : NoI Try.prog 21 := ⟨by kernel_rfl⟩
instance ud21 : UD Try.prog 21 (.int .i32) := ⟨by kernel_rfl⟩
instance ta22 : TyA Try.prog 22 false 1 (.one (.sl 0 none 0 0)) 24 := ⟨⟨by kernel_rfl, by kernel_rfl⟩, rfl, rfl⟩
instance noi22 : NoI Try.prog 22 := ⟨by kernel_rfl⟩
instance ud22 : UD Try.prog 22 (.slice 54) := ⟨by kernel_rfl⟩
instance ta23 : TyA Try.prog 23 true 2 (.agg [.one (.i .i64 0), .one (.sl 0 none 0 0)]) 32 := ⟨⟨by kernel_rfl, by kernel_rfl⟩, rfl, rfl⟩
instance noi23 : NoI Try.prog 23 := ⟨by kernel_rfl⟩
instance fa23_0 : FA Try.prog 23 0 0 := ⟨by kernel_rfl⟩
instance ft23_0 : FT Try.prog 23 0 2 0 := ⟨by kernel_rfl⟩
instance fa23_1 : FA Try.prog 23 1 1 := ⟨by kernel_rfl⟩
instance ft23_1 : FT Try.prog 23 1 22 1 := ⟨by kernel_rfl⟩
instance pls23 : PLS Try.prog 23 [.one (.i .i64 0), .one (.sl 0 none 0 0)] := ⟨by kernel_rfl⟩
instance ta24 : TyA Try.prog 24 true 2 (.agg [.one (.i .i64 0), .one (.sl 0 none 0 0)]) 32 := ⟨⟨by kernel_rfl, by kernel_rfl⟩, rfl, rfl⟩
instance noi24 : NoI Try.prog 24 := ⟨by kernel_rfl⟩
instance fa24_0 : FA Try.prog 24 0 0 := ⟨by kernel_rfl⟩
instance ft24_0 : FT Try.prog 24 0 2 0 := ⟨by kernel_rfl⟩
instance fa24_1 : FA Try.prog 24 1 1 := ⟨by kernel_rfl⟩
instance ft24_1 : FT Try.prog 24 1 22 1 := ⟨by kernel_rfl⟩
instance pls24 : PLS Try.prog 24 [.one (.i .i64 0), .one (.sl 0 none 0 0)] := ⟨by kernel_rfl⟩
instance ta25 : TyA Try.prog 25 true 32 (.agg [.hash hz]) 32 := ⟨⟨by kernel_rfl, by kernel_rfl⟩, rfl, rfl⟩
instance noi25 : NoI Try.prog 25 := ⟨by kernel_rfl⟩
instance ud25 : UD Try.prog 25 (.array 32 5) := ⟨by kernel_rfl⟩
instance ht25 : HashT Try.prog 25 := ⟨keyTy_hash ud25.is ud5.is ta5.is, by kernel_rfl⟩
instance ta26 : TyA Try.prog 26 true 32 (.agg [.hash hz]) 32 := ⟨⟨by kernel_rfl, by kernel_rfl⟩, rfl, rfl⟩
instance noi26 : NoI Try.prog 26 := ⟨by kernel_rfl⟩
instance ud26 : UD Try.prog 26 (.array 32 5) := ⟨by kernel_rfl⟩
instance ht26 : HashT Try.prog 26 := ⟨keyTy_hash ud26.is ud5.is ta5.is, by kernel_rfl⟩
instance ta27 : TyA Try.prog 27 false 1 (.one (.fnn)) 8 := ⟨⟨by kernel_rfl, by kernel_rfl⟩, rfl, rfl⟩
instance noi27 : NoI Try.prog 27 := ⟨by kernel_rfl⟩
instance ta28 : TyA Try.prog 28 false 1 (.one (.fnn)) 8 := ⟨⟨by kernel_rfl, by kernel_rfl⟩, rfl, rfl⟩
instance noi28 : NoI Try.prog 28 := ⟨by kernel_rfl⟩
instance ta29 : TyA Try.prog 29 false 1 (.one (.sl 0 none 0 0)) 24 := ⟨⟨by kernel_rfl, by kernel_rfl⟩, rfl, rfl⟩
instance noi29 : NoI Try.prog 29 := ⟨by kernel_rfl⟩
instance ud29 : UD Try.prog 29 (.slice 24) := ⟨by kernel_rfl⟩
instance ta31 : TyA Try.prog 31 false 1 (.one (.fnn)) 8 := ⟨⟨by kernel_rfl, by kernel_rfl⟩, rfl, rfl⟩
instance noi31 : NoI Try.prog 31 := ⟨by kernel_rfl⟩
instance ta32 : TyA Try.prog 32 false 1 (.one (.fnn)) 8 := ⟨⟨by kernel_rfl, by kernel_rfl⟩, rfl, rfl⟩
instance noi32 : NoI Try.prog 32 := ⟨by kernel_rfl⟩
instance ta33 : TyA Try.prog 33 false 1 (.one (.fnn)) 8 := ⟨⟨by kernel_rfl, by kernel_rfl⟩, rfl, rfl⟩
instance noi33 : NoI Try.prog 33 := ⟨by kernel_rfl⟩
instance ta34 : TyA Try.prog 34 false 1 (.one (.fnn)) 8 := ⟨⟨by kernel_rfl, by kernel_rfl⟩, rfl, rfl⟩
instance noi34 : NoI Try.prog 34 := ⟨by kernel_rfl⟩
instance ta35 : TyA Try.prog 35 false 1 (.one (.fnn)) 8 := ⟨⟨by kernel_rfl, by kernel_rfl⟩, rfl, rfl⟩
instance noi35 : NoI Try.prog 35 := ⟨by kernel_rfl⟩
instance ta36 : TyA Try.prog 36 false 1 (.one (.fnn)) 8 := ⟨⟨by kernel_rfl, by kernel_rfl⟩, rfl, rfl⟩
instance noi36 : NoI Try.prog 36 := ⟨by kernel_rfl⟩
instance ta37 : TyA Try.prog 37 false 1 (.one (.i .u64 0)) 8 := ⟨⟨by kernel_rfl, by kernel_rfl⟩, rfl, rfl⟩
instance noi37 : NoI Try.prog 37 := ⟨by kernel_rfl⟩
instance ud37 : UD Try.prog 37 (.int .u64) := ⟨by kernel_rfl⟩
instance ta38 : TyA Try.prog 38 true 2 (.agg [.one (.i .i64 0), .one (.i .u64 0)]) 16 := ⟨⟨by kernel_rfl, by kernel_rfl⟩, rfl, rfl⟩
instance noi38 : NoI Try.prog 38 := ⟨by kernel_rfl⟩
instance fa38_0 : FA Try.prog 38 0 0 := ⟨by kernel_rfl⟩
instance ft38_0 : FT Try.prog 38 0 2 0 := ⟨by kernel_rfl⟩
instance fa38_1 : FA Try.prog 38 1 1 := ⟨by kernel_rfl⟩
instance ft38_1 : FT Try.prog 38 1 37 1 := ⟨by kernel_rfl⟩
instance pls38 : PLS Try.prog 38 [.one (.i .i64 0), .one (.i .u64 0)] := ⟨by kernel_rfl⟩
instance ta39 : TyA Try.prog 39 true 2 (.agg [.one (.i .i64 0), .one (.i .u64 0)]) 16 := ⟨⟨by kernel_rfl, by kernel_rfl⟩, rfl, rfl⟩
instance noi39 : NoI Try.prog 39 := ⟨by kernel_rfl⟩
instance fa39_0 : FA Try.prog 39 0 0 := ⟨by kernel_rfl⟩
instance ft39_0 : FT Try.prog 39 0 2 0 := ⟨by kernel_rfl⟩
instance fa39_1 : FA Try.prog 39 1 1 := ⟨by kernel_rfl⟩
instance ft39_1 : FT Try.prog 39 1 37 1 := ⟨by kernel_rfl⟩
instance pls39 : PLS Try.prog 39 [.one (.i .i64 0), .one (.i .u64 0)] := ⟨by kernel_rfl⟩
instance ta40 : TyA Try.prog 40 false 1 (.one (.sl 0 none 0 0)) 24 := ⟨⟨by kernel_rfl, by kernel_rfl⟩, rfl, rfl⟩
instance noi40 : NoI Try.prog 40 := ⟨by kernel_rfl⟩
instance ud40 : UD Try.prog 40 (.slice 48) := ⟨by kernel_rfl⟩
instance ta42 : TyA Try.prog 42 false 1 (.one (.fnn)) 8 := ⟨⟨by kernel_rfl, by kernel_rfl⟩, rfl, rfl⟩
instance noi42 : NoI Try.prog 42 := ⟨by kernel_rfl⟩
instance ta43 : TyA Try.prog 43 false 1 (.one (.sl 0 none 0 0)) 24 := ⟨⟨by kernel_rfl, by kernel_rfl⟩, rfl, rfl⟩
instance noi43 : NoI Try.prog 43 := ⟨by kernel_rfl⟩
instance ud43 : UD Try.prog 43 (.slice 40) := ⟨by kernel_rfl⟩
instance ta44 : TyA Try.prog 44 false 1 (.one (.fnn)) 8 := ⟨⟨by kernel_rfl, by kernel_rfl⟩, rfl, rfl⟩
instance noi44 : NoI Try.prog 44 := ⟨by kernel_rfl⟩
instance ta45 : TyA Try.prog 45 false 1 (.one (.fnn)) 8 := ⟨⟨by kernel_rfl, by kernel_rfl⟩, rfl, rfl⟩
instance noi45 : NoI Try.prog 45 := ⟨by kernel_rfl⟩
instance ta46 : TyA Try.prog 46 false 1 (.one (.fnn)) 8 := ⟨⟨by kernel_rfl, by kernel_rfl⟩, rfl, rfl⟩
instance noi46 : NoI Try.prog 46 := ⟨by kernel_rfl⟩
instance ta47 : TyA Try.prog 47 true 35 (.agg [.hash hz, .one (.s ⟨#[]⟩), .one (.i .i64 0), .one (.i .u64 0)]) 64 := ⟨⟨by kernel_rfl, by kernel_rfl⟩, rfl, rfl⟩
instance noi47 : NoI Try.prog 47 := ⟨by kernel_rfl⟩
instance fa47_0 : FA Try.prog 47 0 0 := ⟨by kernel_rfl⟩
instance ft47_0 : FT Try.prog 47 0 26 0 := ⟨by kernel_rfl⟩
instance fa47_1 : FA Try.prog 47 1 32 := ⟨by kernel_rfl⟩
instance ft47_1 : FT Try.prog 47 1 9 32 := ⟨by kernel_rfl⟩
instance fa47_2 : FA Try.prog 47 2 33 := ⟨by kernel_rfl⟩
instance ft47_2 : FT Try.prog 47 2 39 33 := ⟨by kernel_rfl⟩
instance pls47 : PLS Try.prog 47 [.agg [.hash hz], .one (.s ⟨#[]⟩), .agg [.one (.i .i64 0), .one (.i .u64 0)]] := ⟨by kernel_rfl⟩
instance ta48 : TyA Try.prog 48 true 35 (.agg [.hash hz, .one (.s ⟨#[]⟩), .one (.i .i64 0), .one (.i .u64 0)]) 64 := ⟨⟨by kernel_rfl, by kernel_rfl⟩, rfl, rfl⟩
instance noi48 : NoI Try.prog 48 := ⟨by kernel_rfl⟩
instance fa48_0 : FA Try.prog 48 0 0 := ⟨by kernel_rfl⟩
instance ft48_0 : FT Try.prog 48 0 26 0 := ⟨by kernel_rfl⟩
instance fa48_1 : FA Try.prog 48 1 32 := ⟨by kernel_rfl⟩
instance ft48_1 : FT Try.prog 48 1 9 32 := ⟨by kernel_rfl⟩
instance fa48_2 : FA Try.prog 48 2 33 := ⟨by kernel_rfl⟩
instance ft48_2 : FT Try.prog 48 2 39 33 := ⟨by kernel_rfl⟩
instance pls48 : PLS Try.prog 48 [.agg [.hash hz], .one (.s ⟨#[]⟩), .agg [.one (.i .i64 0), .one (.i .u64 0)]] := ⟨by kernel_rfl⟩
instance ta49 : TyA Try.prog 49 false 1 (.one (.fnn)) 8 := ⟨⟨by kernel_rfl, by kernel_rfl⟩, rfl, rfl⟩
instance noi49 : NoI Try.prog 49 := ⟨by kernel_rfl⟩
instance ta50 : TyA Try.prog 50 false 1 (.one (.fnn)) 8 := ⟨⟨by kernel_rfl, by kernel_rfl⟩, rfl, rfl⟩
instance noi50 : NoI Try.prog 50 := ⟨by kernel_rfl⟩
instance ta51 : TyA Try.prog 51 false 1 (.one (.fnn)) 8 := ⟨⟨by kernel_rfl, by kernel_rfl⟩, rfl, rfl⟩
instance noi51 : NoI Try.prog 51 := ⟨by kernel_rfl⟩
instance ta52 : TyA Try.prog 52 false 1 (.one (.fnn)) 8 := ⟨⟨by kernel_rfl, by kernel_rfl⟩, rfl, rfl⟩
instance noi52 : NoI Try.prog 52 := ⟨by kernel_rfl⟩
instance ta53 : TyA Try.prog 53 true 34 (.agg [.hash hz, .one (.s ⟨#[]⟩), .one (.i .i64 0)]) 56 := ⟨⟨by kernel_rfl, by kernel_rfl⟩, rfl, rfl⟩
instance noi53 : NoI Try.prog 53 := ⟨by kernel_rfl⟩
instance fa53_0 : FA Try.prog 53 0 0 := ⟨by kernel_rfl⟩
instance ft53_0 : FT Try.prog 53 0 26 0 := ⟨by kernel_rfl⟩
instance fa53_1 : FA Try.prog 53 1 32 := ⟨by kernel_rfl⟩
instance ft53_1 : FT Try.prog 53 1 9 32 := ⟨by kernel_rfl⟩
instance fa53_2 : FA Try.prog 53 2 33 := ⟨by kernel_rfl⟩
instance ft53_2 : FT Try.prog 53 2 2 33 := ⟨by kernel_rfl⟩
instance pls53 : PLS Try.prog 53 [.agg [.hash hz], .one (.s ⟨#[]⟩), .one (.i .i64 0)] := ⟨by kernel_rfl⟩
instance ta54 : TyA Try.prog 54 true 34 (.agg [.hash hz, .one (.s ⟨#[]⟩), .one (.i .i64 0)]) 56 := ⟨⟨by kernel_rfl, by kernel_rfl⟩, rfl, rfl⟩
instance noi54 : NoI Try.prog 54 := ⟨by kernel_rfl⟩
instance fa54_0 : FA Try.prog 54 0 0 := ⟨by kernel_rfl⟩
instance ft54_0 : FT Try.prog 54 0 26 0 := ⟨by kernel_rfl⟩
instance fa54_1 : FA Try.prog 54 1 32 := ⟨by kernel_rfl⟩
instance ft54_1 : FT Try.prog 54 1 9 32 := ⟨by kernel_rfl⟩
instance fa54_2 : FA Try.prog 54 2 33 := ⟨by kernel_rfl⟩
instance ft54_2 : FT Try.prog 54 2 2 33 := ⟨by kernel_rfl⟩
instance pls54 : PLS Try.prog 54 [.agg [.hash hz], .one (.s ⟨#[]⟩), .one (.i .i64 0)] := ⟨by kernel_rfl⟩
instance ta55 : TyA Try.prog 55 false 1 (.one (.fnn)) 8 := ⟨⟨by kernel_rfl, by kernel_rfl⟩, rfl, rfl⟩
instance noi55 : NoI Try.prog 55 := ⟨by kernel_rfl⟩
instance ta56 : TyA Try.prog 56 false 1 (.one (.sl 0 none 0 0)) 24 := ⟨⟨by kernel_rfl, by kernel_rfl⟩, rfl, rfl⟩
instance noi56 : NoI Try.prog 56 := ⟨by kernel_rfl⟩
instance ud56 : UD Try.prog 56 (.slice 29) := ⟨by kernel_rfl⟩
instance ta57 : TyA Try.prog 57 false 1 (.one (.fnn)) 8 := ⟨⟨by kernel_rfl, by kernel_rfl⟩, rfl, rfl⟩
instance noi57 : NoI Try.prog 57 := ⟨by kernel_rfl⟩
instance ta58 : TyA Try.prog 58 false 1 (.one (.fnn)) 8 := ⟨⟨by kernel_rfl, by kernel_rfl⟩, rfl, rfl⟩
instance noi58 : NoI Try.prog 58 := ⟨by kernel_rfl⟩
instance ta59 : TyA Try.prog 59 false 1 (.one (.pn)) 8 := ⟨⟨by kernel_rfl, by kernel_rfl⟩, rfl, rfl⟩
instance noi59 : NoI Try.prog 59 := ⟨by kernel_rfl⟩
instance ud59 : UD Try.prog 59 (.pointer 70) := ⟨by kernel_rfl⟩
instance ta60 : TyA Try.prog 60 false 1 (.one (.fnn)) 8 := ⟨⟨by kernel_rfl, by kernel_rfl⟩, rfl, rfl⟩
instance noi60 : NoI Try.prog 60 := ⟨by kernel_rfl⟩
instance ta61 : TyA Try.prog 61 false 1 (.one (.fnn)) 8 := ⟨⟨by kernel_rfl, by kernel_rfl⟩, rfl, rfl⟩
instance noi61 : NoI Try.prog 61 := ⟨by kernel_rfl⟩
instance ta62 : TyA Try.prog 62 false 1 (.one (.fnn)) 8 := ⟨⟨by kernel_rfl, by kernel_rfl⟩, rfl, rfl⟩
instance noi62 : NoI Try.prog 62 := ⟨by kernel_rfl⟩
instance ta63 : TyA Try.prog 63 false 1 (.one (.fnn)) 8 := ⟨⟨by kernel_rfl, by kernel_rfl⟩, rfl, rfl⟩
instance noi63 : NoI Try.prog 63 := ⟨by kernel_rfl⟩
instance ta64 : TyA Try.prog 64 false 1 (.one (.fnn)) 8 := ⟨⟨by kernel_rfl, by kernel_rfl⟩, rfl, rfl⟩
instance noi64 : NoI Try.prog 64 := ⟨by kernel_rfl⟩
instance ta65 : TyA Try.prog 65 false 1 (.one (.fnn)) 8 := ⟨⟨by kernel_rfl, by kernel_rfl⟩, rfl, rfl⟩
instance noi65 : NoI Try.prog 65 := ⟨by kernel_rfl⟩
instance ta66 : TyA Try.prog 66 false 1 (.one (.fnn)) 8 := ⟨⟨by kernel_rfl, by kernel_rfl⟩, rfl, rfl⟩
instance noi66 : NoI Try.prog 66 := ⟨by kernel_rfl⟩
instance ta67 : TyA Try.prog 67 false 1 (.one (.fnn)) 8 := ⟨⟨by kernel_rfl, by kernel_rfl⟩, rfl, rfl⟩
instance noi67 : NoI Try.prog 67 := ⟨by kernel_rfl⟩
instance ta68 : TyA Try.prog 68 false 1 (.one (.mn)) 8 := ⟨⟨by kernel_rfl, by kernel_rfl⟩, rfl, rfl⟩
instance noi68 : NoI Try.prog 68 := ⟨by kernel_rfl⟩
instance ud68 : UD Try.prog 68 (.map 72 2) := ⟨by kernel_rfl⟩
instance ta69 : TyA Try.prog 69 true 2 (.agg [.one (.i .i64 0), .one (.mn)]) 16 := ⟨⟨by kernel_rfl, by kernel_rfl⟩, rfl, rfl⟩
instance noi69 : NoI Try.prog 69 := ⟨by kernel_rfl⟩
instance fa69_0 : FA Try.prog 69 0 0 := ⟨by kernel_rfl⟩
instance ft69_0 : FT Try.prog 69 0 2 0 := ⟨by kernel_rfl⟩
instance fa69_1 : FA Try.prog 69 1 1 := ⟨by kernel_rfl⟩
instance ft69_1 : FT Try.prog 69 1 68 1 := ⟨by kernel_rfl⟩
instance pls69 : PLS Try.prog 69 [.one (.i .i64 0), .one (.mn)] := ⟨by kernel_rfl⟩
instance ta70 : TyA Try.prog 70 true 2 (.agg [.one (.i .i64 0), .one (.mn)]) 16 := ⟨⟨by kernel_rfl, by kernel_rfl⟩, rfl, rfl⟩
instance noi70 : NoI Try.prog 70 := ⟨by kernel_rfl⟩
instance fa70_0 : FA Try.prog 70 0 0 := ⟨by kernel_rfl⟩
instance ft70_0 : FT Try.prog 70 0 2 0 := ⟨by kernel_rfl⟩
instance fa70_1 : FA Try.prog 70 1 1 := ⟨by kernel_rfl⟩
instance ft70_1 : FT Try.prog 70 1 68 1 := ⟨by kernel_rfl⟩
instance pls70 : PLS Try.prog 70 [.one (.i .i64 0), .one (.mn)] := ⟨by kernel_rfl⟩
instance ta71 : TyA Try.prog 71 true 33 (.agg [.hash hz, .one (.s ⟨#[]⟩)]) 48 := ⟨⟨by kernel_rfl, by kernel_rfl⟩, rfl, rfl⟩
instance noi71 : NoI Try.prog 71 := ⟨by kernel_rfl⟩
instance fa71_0 : FA Try.prog 71 0 0 := ⟨by kernel_rfl⟩
instance ft71_0 : FT Try.prog 71 0 26 0 := ⟨by kernel_rfl⟩
instance fa71_1 : FA Try.prog 71 1 32 := ⟨by kernel_rfl⟩
instance ft71_1 : FT Try.prog 71 1 9 32 := ⟨by kernel_rfl⟩
instance pls71 : PLS Try.prog 71 [.agg [.hash hz], .one (.s ⟨#[]⟩)] := ⟨by kernel_rfl⟩
instance ta72 : TyA Try.prog 72 true 33 (.agg [.hash hz, .one (.s ⟨#[]⟩)]) 48 := ⟨⟨by kernel_rfl, by kernel_rfl⟩, rfl, rfl⟩
instance noi72 : NoI Try.prog 72 := ⟨by kernel_rfl⟩
instance fa72_0 : FA Try.prog 72 0 0 := ⟨by kernel_rfl⟩
instance ft72_0 : FT Try.prog 72 0 26 0 := ⟨by kernel_rfl⟩
instance fa72_1 : FA Try.prog 72 1 32 := ⟨by kernel_rfl⟩
instance ft72_1 : FT Try.prog 72 1 9 32 := ⟨by kernel_rfl⟩
instance pls72 : PLS Try.prog 72 [.agg [.hash hz], .one (.s ⟨#[]⟩)] := ⟨by kernel_rfl⟩
instance ta73 : TyA Try.prog 73 false 1 (.one (.fnn)) 8 := ⟨⟨by kernel_rfl, by kernel_rfl⟩, rfl, rfl⟩
instance noi73 : NoI Try.prog 73 := ⟨by kernel_rfl⟩
instance ta74 : TyA Try.prog 74 false 1 (.one (.fnn)) 8 := ⟨⟨by kernel_rfl, by kernel_rfl⟩, rfl, rfl⟩
instance noi74 : NoI Try.prog 74 := ⟨by kernel_rfl⟩
instance ta75 : TyA Try.prog 75 false 1 (.one (.mn)) 8 := ⟨⟨by kernel_rfl, by kernel_rfl⟩, rfl, rfl⟩
instance noi75 : NoI Try.prog 75 := ⟨by kernel_rfl⟩
instance ud75 : UD Try.prog 75 (.map 72 39) := ⟨by kernel_rfl⟩
instance ta76 : TyA Try.prog 76 false 1 (.one (.mn)) 8 := ⟨⟨by kernel_rfl, by kernel_rfl⟩, rfl, rfl⟩
instance noi76 : NoI Try.prog 76 := ⟨by kernel_rfl⟩
instance ud76 : UD Try.prog 76 (.map 72 39) := ⟨by kernel_rfl⟩
instance ta77 : TyA Try.prog 77 false 1 (.one (.fnn)) 8 := ⟨⟨by kernel_rfl, by kernel_rfl⟩, rfl, rfl⟩
instance noi77 : NoI Try.prog 77 := ⟨by kernel_rfl⟩
instance ta78 : TyA Try.prog 78 false 1 (.one (.fnn)) 8 := ⟨⟨by kernel_rfl, by kernel_rfl⟩, rfl, rfl⟩
instance noi78 : NoI Try.prog 78 := ⟨by kernel_rfl⟩
instance ta79 : TyA Try.prog 79 false 1 (.one (.fnn)) 8 := ⟨⟨by kernel_rfl, by kernel_rfl⟩, rfl, rfl⟩
instance noi79 : NoI Try.prog 79 := ⟨by kernel_rfl⟩
instance ta80 : TyA Try.prog 80 false 1 (.one (.sl 0 none 0 0)) 24 := ⟨⟨by kernel_rfl, by kernel_rfl⟩, rfl, rfl⟩
instance noi80 : NoI Try.prog 80 := ⟨by kernel_rfl⟩
instance ud80 : UD Try.prog 80 (.slice 39) := ⟨by kernel_rfl⟩
instance ta82 : TyA Try.prog 82 false 1 (.one (.fnn)) 8 := ⟨⟨by kernel_rfl, by kernel_rfl⟩, rfl, rfl⟩
instance noi82 : NoI Try.prog 82 := ⟨by kernel_rfl⟩
instance ta83 : TyA Try.prog 83 false 1 (.one (.fnn)) 8 := ⟨⟨by kernel_rfl, by kernel_rfl⟩, rfl, rfl⟩
instance noi83 : NoI Try.prog 83 := ⟨by kernel_rfl⟩
instance ta84 : TyA Try.prog 84 false 1 (.one (.fnn)) 8 := ⟨⟨by kernel_rfl, by kernel_rfl⟩, rfl, rfl⟩
instance noi84 : NoI Try.prog 84 := ⟨by kernel_rfl⟩
instance ta85 : TyA Try.prog 85 true 0 (.agg []) 0 := ⟨⟨by kernel_rfl, by kernel_rfl⟩, rfl, rfl⟩
instance noi85 : NoI Try.prog 85 := ⟨by kernel_rfl⟩
instance pls85 : PLS Try.prog 85 [] := ⟨by kernel_rfl⟩
instance ta86 : TyA Try.prog 86 true 0 (.agg []) 0 := ⟨⟨by kernel_rfl, by kernel_rfl⟩, rfl, rfl⟩
instance noi86 : NoI Try.prog 86 := ⟨by kernel_rfl⟩
instance pls86 : PLS Try.prog 86 [] := ⟨by kernel_rfl⟩
instance ta88 : TyA Try.prog 88 false 1 (.one (.fnn)) 8 := ⟨⟨by kernel_rfl, by kernel_rfl⟩, rfl, rfl⟩
instance noi88 : NoI Try.prog 88 := ⟨by kernel_rfl⟩
instance ta89 : TyA Try.prog 89 false 1 (.one (.fnn)) 8 := ⟨⟨by kernel_rfl, by kernel_rfl⟩, rfl, rfl⟩
instance noi89 : NoI Try.prog 89 := ⟨by kernel_rfl⟩
instance ta90 : TyA Try.prog 90 false 1 (.one (.fnn)) 8 := ⟨⟨by kernel_rfl, by kernel_rfl⟩, rfl, rfl⟩
instance noi90 : NoI Try.prog 90 := ⟨by kernel_rfl⟩
instance ta91 : TyA Try.prog 91 false 1 (.one (.i .u64 0)) 8 := ⟨⟨by kernel_rfl, by kernel_rfl⟩, rfl, rfl⟩
instance noi91 : NoI Try.prog 91 := ⟨by kernel_rfl⟩
instance ud91 : UD Try.prog 91 (.int .u64) := ⟨by kernel_rfl⟩
instance ta92 : TyA Try.prog 92 false 1 (.one (.fnn)) 8 := ⟨⟨by kernel_rfl, by kernel_rfl⟩, rfl, rfl⟩
instance noi92 : NoI Try.prog 92 := ⟨by kernel_rfl⟩
instance ta93 : TyA Try.prog 93 false 1 (.one (.fnn)) 8 := ⟨⟨by kernel_rfl, by kernel_rfl⟩, rfl, rfl⟩
instance noi93 : NoI Try.prog 93 := ⟨by kernel_rfl⟩
instance ta94 : TyA Try.prog 94 false 1 (.one (.fnn)) 8 := ⟨⟨by kernel_rfl, by kernel_rfl⟩, rfl, rfl⟩
instance noi94 : NoI Try.prog 94 := ⟨by kernel_rfl⟩
instance ta95 : TyA Try.prog 95 false 1 (.one (.fnn)) 8 := ⟨⟨by kernel_rfl, by kernel_rfl⟩, rfl, rfl⟩
instance noi95 : NoI Try.prog 95 := ⟨by kernel_rfl⟩
instance ta96 : TyA Try.prog 96 false 1 (.one (.fnn)) 8 := ⟨⟨by kernel_rfl, by kernel_rfl⟩, rfl, rfl⟩
instance noi96 : NoI Try.prog 96 := ⟨by kernel_rfl⟩
instance ta97 : TyA Try.prog 97 false 1 (.one (.fnn)) 8 := ⟨⟨by kernel_rfl, by kernel_rfl⟩, rfl, rfl⟩
instance noi97 : NoI Try.prog 97 := ⟨by kernel_rfl⟩
instance ta98 : TyA Try.prog 98 false 1 (.one (.fnn)) 8 := ⟨⟨by kernel_rfl, by kernel_rfl⟩, rfl, rfl⟩
instance noi98 : NoI Try.prog 98 := ⟨by kernel_rfl⟩
instance ta99 : TyA Try.prog 99 false 1 (.one (.fnn)) 8 := ⟨⟨by kernel_rfl, by kernel_rfl⟩, rfl, rfl⟩
instance noi99 : NoI Try.prog 99 := ⟨by kernel_rfl⟩
instance ta100 : TyA Try.prog 100 false 1 (.one (.fnn)) 8 := ⟨⟨by kernel_rfl, by kernel_rfl⟩, rfl, rfl⟩
instance noi100 : NoI Try.prog 100 := ⟨by kernel_rfl⟩
instance ta101 : TyA Try.prog 101 false 1 (.one (.sl 0 none 0 0)) 24 := ⟨⟨by kernel_rfl, by kernel_rfl⟩, rfl, rfl⟩
instance noi101 : NoI Try.prog 101 := ⟨by kernel_rfl⟩
instance ud101 : UD Try.prog 101 (.slice 5) := ⟨by kernel_rfl⟩
instance ta102 : TyA Try.prog 102 false 1 (.one (.fnn)) 8 := ⟨⟨by kernel_rfl, by kernel_rfl⟩, rfl, rfl⟩
instance noi102 : NoI Try.prog 102 := ⟨by kernel_rfl⟩
instance ta103 : TyA Try.prog 103 false 1 (.one (.fnn)) 8 := ⟨⟨by kernel_rfl, by kernel_rfl⟩, rfl, rfl⟩
instance noi103 : NoI Try.prog 103 := ⟨by kernel_rfl⟩
instance ta104 : TyA Try.prog 104 false 1 (.one (.fnn)) 8 := ⟨⟨by kernel_rfl, by kernel_rfl⟩, rfl, rfl⟩
instance noi104 : NoI Try.prog 104 := ⟨by kernel_rfl⟩
instance ta105 : TyA Try.prog 105 false 1 (.one (.i .i64 0)) 8 := ⟨⟨by kernel_rfl, by kernel_rfl⟩, rfl, rfl⟩
instance noi105 : NoI Try.prog 105 := ⟨by kernel_rfl⟩
instance ud105 : UD Try.prog 105 (.int .i64) := ⟨by kernel_rfl⟩
instance ta107 : TyA Try.prog 107 false 1 (.one (.fnn)) 8 := ⟨⟨by kernel_rfl, by kernel_rfl⟩, rfl, rfl⟩
instance noi107 : NoI Try.prog 107 := ⟨by kernel_rfl⟩
instance ta108 : TyA Try.prog 108 false 1 (.one (.fnn)) 8 := ⟨⟨by kernel_rfl, by kernel_rfl⟩, rfl, rfl⟩
instance noi108 : NoI Try.prog 108 := ⟨by kernel_rfl⟩
instance ta109 : TyA Try.prog 109 false 1 (.one (.fnn)) 8 := ⟨⟨by kernel_rfl, by kernel_rfl⟩, rfl, rfl⟩
instance noi109 : NoI Try.prog 109 := ⟨by kernel_rfl⟩
instance ta111 : TyA Try.prog 111 false 1 (.one (.fnn)) 8 := ⟨⟨by kernel_rfl, by kernel_rfl⟩, rfl, rfl⟩
instance noi111 : NoI Try.prog 111 := ⟨by kernel_rfl⟩
instance ta112 : TyA Try.prog 112 false 1 (.one (.fnn)) 8 := ⟨⟨by kernel_rfl, by kernel_rfl⟩, rfl, rfl⟩
instance noi112 : NoI Try.prog 112 := ⟨by kernel_rfl⟩
instance ta113 : TyA Try.prog 113 false 1 (.one (.i .u32 0)) 4 := ⟨⟨by kernel_rfl, by kernel_rfl⟩, rfl, rfl⟩
instance noi113 : NoI Try.prog 113 := ⟨by kernel_rfl⟩
instance ud113 : UD Try.prog 113 (.int .u32) := ⟨by kernel_rfl⟩
instance ta114 : TyA Try.prog 114 false 1 (.one (.fnn)) 8 := ⟨⟨by kernel_rfl, by kernel_rfl⟩, rfl, rfl⟩
instance noi114 : NoI Try.prog 114 := ⟨by kernel_rfl⟩
instance ta115 : TyA Try.prog 115 false 1 (.one (.sl 0 none 0 0)) 24 := ⟨⟨by kernel_rfl, by kernel_rfl⟩, rfl, rfl⟩
instance noi115 : NoI Try.prog 115 := ⟨by kernel_rfl⟩
instance ud115 : UD Try.prog 115 (.slice 3) := ⟨by kernel_rfl⟩
instance ta116 : TyA Try.prog 116 false 1 (.one (.fnn)) 8 := ⟨⟨by kernel_rfl, by kernel_rfl⟩, rfl, rfl⟩
instance noi116 : NoI Try.prog 116 := ⟨by kernel_rfl⟩
instance ta117 : TyA Try.prog 117 false 1 (.one (.fnn)) 8 := ⟨⟨by kernel_rfl, by kernel_rfl⟩, rfl, rfl⟩
instance noi117 : NoI Try.prog 117 := ⟨by kernel_rfl⟩
instance ta118 : TyA Try.prog 118 false 1 (.one (.fnn)) 8 := ⟨⟨by kernel_rfl, by kernel_rfl⟩, rfl, rfl⟩
instance noi118 : NoI Try.prog 118 := ⟨by kernel_rfl⟩
instance ta119 : TyA Try.prog 119 false 1 (.one (.fnn)) 8 := ⟨⟨by kernel_rfl, by kernel_rfl⟩, rfl, rfl⟩
instance noi119 : NoI Try.prog 119 := ⟨by kernel_rfl⟩
instance ta120 : TyA Try.prog 120 false 1 (.one (.fnn)) 8 := ⟨⟨by kernel_rfl, by kernel_rfl⟩, rfl, rfl⟩
instance noi120 : NoI Try.prog 120 := ⟨by kernel_rfl⟩
instance ta121 : TyA Try.prog 121 false 1 (.one (.i .u64 0)) 8 := ⟨⟨by kernel_rfl, by kernel_rfl⟩, rfl, rfl⟩
instance noi121 : NoI Try.prog 121 := ⟨by kernel_rfl⟩
instance ud121 : UD Try.prog 121 (.int .u64) := ⟨by kernel_rfl⟩
instance ta122 : TyA Try.prog 122 false 1 (.one (.fnn)) 8 := ⟨⟨by kernel_rfl, by kernel_rfl⟩, rfl, rfl⟩
instance noi122 : NoI Try.prog 122 := ⟨by kernel_rfl⟩
instance ta123 : TyA Try.prog 123 false 1 (.one (.fnn)) 8 := ⟨⟨by kernel_rfl, by kernel_rfl⟩, rfl, rfl⟩
instance noi123 : NoI Try.prog 123 := ⟨by kernel_rfl⟩
instance ta124 : TyA Try.prog 124 false 1 (.one (.fnn)) 8 := ⟨⟨by kernel_rfl, by kernel_rfl⟩, rfl, rfl⟩
instance noi124 : NoI Try.prog 124 := ⟨by kernel_rfl⟩
instance ta125 : TyA Try.prog 125 false 1 (.one (.pn)) 8 := ⟨⟨by kernel_rfl, by kernel_rfl⟩, rfl, rfl⟩
instance noi125 : NoI Try.prog 125 := ⟨by kernel_rfl⟩
instance ud125 : UD Try.prog 125 (.pointer 3) := ⟨by kernel_rfl⟩
instance ta126 : TyA Try.prog 126 false 1 (.one (.fnn)) 8 := ⟨⟨by kernel_rfl, by kernel_rfl⟩, rfl, rfl⟩
instance noi126 : NoI Try.prog 126 := ⟨by kernel_rfl⟩
instance ta127 : TyA Try.prog 127 false 1 (.one (.fnn)) 8 := ⟨⟨by kernel_rfl, by kernel_rfl⟩, rfl, rfl⟩
instance noi127 : NoI Try.prog 127 := ⟨by kernel_rfl⟩
instance ta128 : TyA Try.prog 128 false 1 (.one (.fnn)) 8 := ⟨⟨by kernel_rfl, by kernel_rfl⟩, rfl, rfl⟩
instance noi128 : NoI Try.prog 128 := ⟨by kernel_rfl⟩
instance ta129 : TyA Try.prog 129 false 1 (.one (.pn)) 8 := ⟨⟨by kernel_rfl, by kernel_rfl⟩, rfl, rfl⟩
instance noi129 : NoI Try.prog 129 := ⟨by kernel_rfl⟩
instance ud129 : UD Try.prog 129 (.pointer 121) := ⟨by kernel_rfl⟩
instance ta131 : TyA Try.prog 131 false 1 (.one (.fnn)) 8 := ⟨⟨by kernel_rfl, by kernel_rfl⟩, rfl, rfl⟩
instance noi131 : NoI Try.prog 131 := ⟨by kernel_rfl⟩
instance ta132 : TyA Try.prog 132 false 1 (.one (.fnn)) 8 := ⟨⟨by kernel_rfl, by kernel_rfl⟩, rfl, rfl⟩
instance noi132 : NoI Try.prog 132 := ⟨by kernel_rfl⟩
instance ta133 : TyA Try.prog 133 false 1 (.one (.fnn)) 8 := ⟨⟨by kernel_rfl, by kernel_rfl⟩, rfl, rfl⟩
instance noi133 : NoI Try.prog 133 := ⟨by kernel_rfl⟩
instance ta134 : TyA Try.prog 134 true 4 (.agg [.one (.pn), .one (.pn), .one (.pn), .one (.s ⟨#[]⟩)]) 40 := ⟨⟨by kernel_rfl, by kernel_rfl⟩, rfl, rfl⟩
instance noi134 : NoI Try.prog 134 := ⟨by kernel_rfl⟩
instance fa134_0 : FA Try.prog 134 0 0 := ⟨by kernel_rfl⟩
instance ft134_0 : FT Try.prog 134 0 17 0 := ⟨by kernel_rfl⟩
instance fa134_1 : FA Try.prog 134 1 1 := ⟨by kernel_rfl⟩
instance ft134_1 : FT Try.prog 134 1 17 1 := ⟨by kernel_rfl⟩
instance fa134_2 : FA Try.prog 134 2 2 := ⟨by kernel_rfl⟩
instance ft134_2 : FT Try.prog 134 2 17 2 := ⟨by kernel_rfl⟩
instance fa134_3 : FA Try.prog 134 3 3 := ⟨by kernel_rfl⟩
instance ft134_3 : FT Try.prog 134 3 9 3 := ⟨by kernel_rfl⟩
instance pls134 : PLS Try.prog 134 [.one (.pn), .one (.pn), .one (.pn), .one (.s ⟨#[]⟩)] := ⟨by kernel_rfl⟩
instance ta135 : TyA Try.prog 135 true 4 (.agg [.one (.pn), .one (.pn), .one (.pn), .one (.s ⟨#[]⟩)]) 40 := ⟨⟨by kernel_rfl, by kernel_rfl⟩, rfl, rfl⟩
instance noi135 : NoI Try.prog 135 := ⟨by kernel_rfl⟩
instance fa135_0 : FA Try.prog 135 0 0 := ⟨by kernel_rfl⟩
instance ft135_0 : FT Try.prog 135 0 17 0 := ⟨by kernel_rfl⟩
instance fa135_1 : FA Try.prog 135 1 1 := ⟨by kernel_rfl⟩
instance ft135_1 : FT Try.prog 135 1 17 1 := ⟨by kernel_rfl⟩
instance fa135_2 : FA Try.prog 135 2 2 := ⟨by kernel_rfl⟩
instance ft135_2 : FT Try.prog 135 2 17 2 := ⟨by kernel_rfl⟩
instance fa135_3 : FA Try.prog 135 3 3 := ⟨by kernel_rfl⟩
instance ft135_3 : FT Try.prog 135 3 9 3 := ⟨by kernel_rfl⟩
instance pls135 : PLS Try.prog 135 [.one (.pn), .one (.pn), .one (.pn), .one (.s ⟨#[]⟩)] := ⟨by kernel_rfl⟩
instance noi136 : NoI Try.prog 136 := ⟨by kernel_rfl⟩
instance ud136 : UD Try.prog 136 (.array 0 16) := ⟨by kernel_rfl⟩
instance ta137 : TyA Try.prog 137 true 0 (.agg []) 0 := ⟨⟨by kernel_rfl, by kernel_rfl⟩, rfl, rfl⟩
instance noi137 : NoI Try.prog 137 := ⟨by kernel_rfl⟩
instance pls137 : PLS Try.prog 137 [.agg []] := ⟨by kernel_rfl⟩
instance ta138 : TyA Try.prog 138 true 0 (.agg []) 0 := ⟨⟨by kernel_rfl, by kernel_rfl⟩, rfl, rfl⟩
instance noi138 : NoI Try.prog 138 := ⟨by kernel_rfl⟩
instance pls138 : PLS Try.prog 138 [.agg []] := ⟨by kernel_rfl⟩
instance ta139 : TyA Try.prog 139 false 1 (.one (.fnn)) 8 := ⟨⟨by kernel_rfl, by kernel_rfl⟩, rfl, rfl⟩
instance noi139 : NoI Try.prog 139 := ⟨by kernel_rfl⟩
instance ta140 : TyA Try.prog 140 false 1 (.one (.i .u8 0)) 1 := ⟨⟨by kernel_rfl, by kernel_rfl⟩, rfl, rfl⟩
instance noi140 : NoI Try.prog 140 := ⟨by kernel_rfl⟩
instance ud140 : UD Try.prog 140 (.int .u8) := ⟨by kernel_rfl⟩
instance ta141 : TyA Try.prog 141 false 1 (.one (.i .u8 0)) 1 := ⟨⟨by kernel_rfl, by kernel_rfl⟩, rfl, rfl⟩
instance noi141 : NoI Try.prog 141 := ⟨by kernel_rfl⟩
instance ud141 : UD Try.prog 141 (.int .u8) := ⟨by kernel_rfl⟩
instance ta142 : TyA Try.prog 142 false 1 (.one (.fnn)) 8 := ⟨⟨by kernel_rfl, by kernel_rfl⟩, rfl, rfl⟩
instance noi142 : NoI Try.prog 142 := ⟨by kernel_rfl⟩
instance ta143 : TyA Try.prog 143 false 1 (.one (.pn)) 8 := ⟨⟨by kernel_rfl, by kernel_rfl⟩, rfl, rfl⟩
instance noi143 : NoI Try.prog 143 := ⟨by kernel_rfl⟩
instance ud143 : UD Try.prog 143 (.pointer 5) := ⟨by kernel_rfl⟩
instance ta144 : TyA Try.prog 144 false 1 (.one (.i .i32 0)) 4 := ⟨⟨by kernel_rfl, by kernel_rfl⟩, rfl, rfl⟩
instance noi144 : NoI Try.prog 144 := ⟨by kernel_rfl⟩
instance ud144 : UD Try.prog 144 (.int .i32) := ⟨by kernel_rfl⟩
instance ta145 : TyA Try.prog 145 false 1 (.one (.i .i32 0)) 4 := ⟨⟨by kernel_rfl, by kernel_rfl⟩, rfl, rfl⟩
instance noi145 : NoI Try.prog 145 := ⟨by kernel_rfl⟩
instance ud145 : UD Try.prog 145 (.int .i32) := ⟨by kernel_rfl⟩
instance ta146 : TyA Try.prog 146 true 11 (.agg [.one (.i .u64 0), .one (.i .u64 0), .one (.i .u32 0), .one (.i .u8 0), .one (.i .u8 0), .one (.i .u8 0), .one (.i .u8 0), .one (.fnn), .one (.pn), .one (.i .i32 0), .one (.i .i32 0)]) 48 := ⟨⟨by kernel_rfl, by kernel_rfl⟩, rfl, rfl⟩
instance noi146 : NoI Try.prog 146 := ⟨by kernel_rfl⟩
instance fa146_0 : FA Try.prog 146 0 0 := ⟨by kernel_rfl⟩
instance ft146_0 : FT Try.prog 146 0 12 0 := ⟨by kernel_rfl⟩
instance fa146_1 : FA Try.prog 146 1 1 := ⟨by kernel_rfl⟩
instance ft146_1 : FT Try.prog 146 1 12 1 := ⟨by kernel_rfl⟩
instance fa146_2 : FA Try.prog 146 2 2 := ⟨by kernel_rfl⟩
instance ft146_2 : FT Try.prog 146 2 113 2 := ⟨by kernel_rfl⟩
instance fa146_3 : FA Try.prog 146 3 3 := ⟨by kernel_rfl⟩
instance ft146_3 : FT Try.prog 146 3 140 3 := ⟨by kernel_rfl⟩
instance fa146_4 : FA Try.prog 146 4 4 := ⟨by kernel_rfl⟩
instance ft146_4 : FT Try.prog 146 4 5 4 := ⟨by kernel_rfl⟩
instance fa146_5 : FA Try.prog 146 5 5 := ⟨by kernel_rfl⟩
instance ft146_5 : FT Try.prog 146 5 5 5 := ⟨by kernel_rfl⟩
instance fa146_6 : FA Try.prog 146 6 6 := ⟨by kernel_rfl⟩
instance ft146_6 : FT Try.prog 146 6 141 6 := ⟨by kernel_rfl⟩
instance fa146_7 : FA Try.prog 146 7 7 := ⟨by kernel_rfl⟩
instance ft146_7 : FT Try.prog 146 7 142 7 := ⟨by kernel_rfl⟩
instance fa146_8 : FA Try.prog 146 8 8 := ⟨by kernel_rfl⟩
instance ft146_8 : FT Try.prog 146 8 143 8 := ⟨by kernel_rfl⟩
instance fa146_9 : FA Try.prog 146 9 9 := ⟨by kernel_rfl⟩
instance ft146_9 : FT Try.prog 146 9 144 9 := ⟨by kernel_rfl⟩
instance fa146_10 : FA Try.prog 146 10 10 := ⟨by kernel_rfl⟩
instance ft146_10 : FT Try.prog 146 10 145 10 := ⟨by kernel_rfl⟩
instance pls146 : PLS Try.prog 146 [.one (.i .u64 0), .one (.i .u64 0), .one (.i .u32 0), .one (.i .u8 0), .one (.i .u8 0), .one (.i .u8 0), .one (.i .u8 0), .one (.fnn), .one (.pn), .one (.i .i32 0), .one (.i .i32 0)] := ⟨by kernel_rfl⟩
instance ta147 : TyA Try.prog 147 true 11 (.agg [.one (.i .u64 0), .one (.i .u64 0), .one (.i .u32 0), .one (.i .u8 0), .one (.i .u8 0), .one (.i .u8 0), .one (.i .u8 0), .one (.fnn), .one (.pn), .one (.i .i32 0), .one (.i .i32 0)]) 48 := ⟨⟨by kernel_rfl, by kernel_rfl⟩, rfl, rfl⟩
instance noi147 : NoI Try.prog 147 := ⟨by kernel_rfl⟩
instance fa147_0 : FA Try.prog 147 0 0 := ⟨by kernel_rfl⟩
instance ft147_0 : FT Try.prog 147 0 12 0 := ⟨by kernel_rfl⟩
instance fa147_1 : FA Try.prog 147 1 1 := ⟨by kernel_rfl⟩
instance ft147_1 : FT Try.prog 147 1 12 1 := ⟨by kernel_rfl⟩
instance fa147_2 : FA Try.prog 147 2 2 := ⟨by kernel_rfl⟩
instance ft147_2 : FT Try.prog 147 2 113 2 := ⟨by kernel_rfl⟩
instance fa147_3 : FA Try.prog 147 3 3 := ⟨by kernel_rfl⟩
instance ft147_3 : FT Try.prog 147 3 140 3 := ⟨by kernel_rfl⟩
instance fa147_4 : FA Try.prog 147 4 4 := ⟨by kernel_rfl⟩
instance ft147_4 : FT Try.prog 147 4 5 4 := ⟨by kernel_rfl⟩
instance fa147_5 : FA Try.prog 147 5 5 := ⟨by kernel_rfl⟩
instance ft147_5 : FT Try.prog 147 5 5 5 := ⟨by kernel_rfl⟩
instance fa147_6 : FA Try.prog 147 6 6 := ⟨by kernel_rfl⟩
instance ft147_6 : FT Try.prog 147 6 141 6 := ⟨by kernel_rfl⟩
instance fa147_7 : FA Try.prog 147 7 7 := ⟨by kernel_rfl⟩
instance ft147_7 : FT Try.prog 147 7 142 7 := ⟨by kernel_rfl⟩
instance fa147_8 : FA Try.prog 147 8 8 := ⟨by kernel_rfl⟩
instance ft147_8 : FT Try.prog 147 8 143 8 := ⟨by kernel_rfl⟩
instance fa147_9 : FA Try.prog 147 9 9 := ⟨by kernel_rfl⟩
instance ft147_9 : FT Try.prog 147 9 144 9 := ⟨by kernel_rfl⟩
instance fa147_10 : FA Try.prog 147 10 10 := ⟨by kernel_rfl⟩
instance ft147_10 : FT Try.prog 147 10 145 10 := ⟨by kernel_rfl⟩
instance pls147 : PLS Try.prog 147 [.one (.i .u64 0), .one (.i .u64 0), .one (.i .u32 0), .one (.i .u8 0), .one (.i .u8 0), .one (.i .u8 0), .one (.i .u8 0), .one (.fnn), .one (.pn), .one (.i .i32 0), .one (.i .i32 0)] := ⟨by kernel_rfl⟩
def tdV : Bt TD := (.n (.n (.n (.n (.n (.n (.n .l 2 (.int .i64) .l) 3 (.int .i64) .l) 4 (.bool) (.n .l 5 (.int .u8) .l)) 6 (.int .u8) (.n (.n .l 7 (.st [(2, 0), (3, 1), (4, 2), (6, 3)] [.one (.i .i64 0), .one (.i .i64 0), .one (.b false), .one (.i .u8 0)]) .l) 8 (.st [(2, 0), (3, 1), (4, 2), (6, 3)] [.one (.i .i64 0), .one (.i .i64 0), .one (.b false), .one (.i .u8 0)]) (.n .l 9 (.str) .l))) 10 (.str) (.n (.n (.n .l 11 (.str) .l) 12 (.int .u64) (.n .l 13 (.st [(9, 0), (12, 1)] [.one (.s ⟨#[]⟩), .one (.i .u64 0)]) .l)) 14 (.st [(9, 0), (12, 1)] [.one (.s ⟨#[]⟩), .one (.i .u64 0)]) (.n (.n .l 15 (.ptr 135) .l) 16 (.ptr 138) (.n .l 17 (.ptr 147) .l)))) 18 (.st [(17, 0)] [.one (.pn)]) (.n (.n (.n (.n .l 19 (.st [(17, 0)] [.one (.pn)]) .l) 20 (.ifc) (.n .l 21 (.int .i32) .l)) 22 (.slice 54) (.n (.n .l 23 (.st [(2, 0), (22, 1)] [.one (.i .i64 0), .one (.sl 0 none 0 0)]) .l) 24 (.st [(2, 0), (22, 1)] [.one (.i .i64 0), .one (.sl 0 none 0 0)]) (.n .l 25 (.hash 5) .l))) 26 (.hash 5) (.n (.n (.n .l 29 (.slice 24) .l) 37 (.int .u64) (.n .l 38 (.st [(2, 0), (37, 1)] [.one (.i .i64 0), .one (.i .u64 0)]) .l)) 39 (.st [(2, 0), (37, 1)] [.one (.i .i64 0), .one (.i .u64 0)]) (.n (.n .l 40 (.slice 48) .l) 43 (.slice 40) (.n .l 47 (.st [(26, 0), (9, 32), (39, 33)] [.agg [.hash hz], .one (.s ⟨#[]⟩), .agg [.one (.i .i64 0), .one (.i .u64 0)]]) .l))))) 48 (.st [(26, 0), (9, 32), (39, 33)] [.agg [.hash hz], .one (.s ⟨#[]⟩), .agg [.one (.i .i64 0), .one (.i .u64 0)]]) (.n (.n (.n (.n (.n (.n .l 53 (.st [(26, 0), (9, 32), (2, 33)] [.agg [.hash hz], .one (.s ⟨#[]⟩), .one (.i .i64 0)]) .l) 54 (.st [(26, 0), (9, 32), (2, 33)] [.agg [.hash hz], .one (.s ⟨#[]⟩), .one (.i .i64 0)]) .l) 56 (.slice 29) (.n .l 59 (.ptr 70) .l)) 68 (.map 72 2) (.n (.n .l 69 (.st [(2, 0), (68, 1)] [.one (.i .i64 0), .one (.mn)]) .l) 70 (.st [(2, 0), (68, 1)] [.one (.i .i64 0), .one (.mn)]) (.n .l 71 (.st [(26, 0), (9, 32)] [.agg [.hash hz], .one (.s ⟨#[]⟩)]) .l))) 72 (.st [(26, 0), (9, 32)] [.agg [.hash hz], .one (.s ⟨#[]⟩)]) (.n (.n (.n .l 75 (.map 72 39) .l) 76 (.map 72 39) (.n .l 80 (.slice 39) .l)) 85 (.st [] []) (.n (.n .l 86 (.st [] []) .l) 91 (.int .u64) (.n .l 101 (.slice 5) .l)))) 105 (.int .i64) (.n (.n (.n (.n .l 113 (.int .u32) .l) 115 (.slice 3) (.n .l 121 (.int .u64) .l)) 125 (.ptr 3) (.n (.n .l 129 (.ptr 121) .l) 134 (.st [(17, 0), (17, 1), (17, 2), (9, 3)] [.one (.pn), .one (.pn), .one (.pn), .one (.s ⟨#[]⟩)]) (.n .l 135 (.st [(17, 0), (17, 1), (17, 2), (9, 3)] [.one (.pn), .one (.pn), .one (.pn), .one (.s ⟨#[]⟩)]) .l))) 136 (.arr 0 16) (.n (.n (.n .l 140 (.int .u8) .l) 141 (.int .u8) (.n .l 143 (.ptr 5) .l)) 144 (.int .i32) (.n (.n .l 145 (.int .i32) .l) 146 (.st [(12, 0), (12, 1), (113, 2), (140, 3), (5, 4), (5, 5), (141, 6), (142, 7), (143, 8), (144, 9), (145, 10)] [.one (.i .u64 0), .one (.i .u64 0), .one (.i .u32 0), .one (.i .u8 0), .one (.i .u8 0), .one (.i .u8 0), .one (.i .u8 0), .one (.fnn), .one (.pn), .one (.i .i32 0), .one (.i .i32 0)]) (.n .l 147 (.st [(12, 0), (12, 1), (113, 2), (140, 3), (5, 4), (5, 5), (141, 6), (142, 7), (143, 8), (144, 9), (145, 10)] [.one (.i .u64 0), .one (.i .u64 0), .one (.i .u32 0), .one (.i .u8 0), .one (.i .u8 0), .one (.i .u8 0), .one (.i .u8 0), .one (.fnn), .one (.pn), .one (.i .i32 0), .one (.i .i32 0)]) .l))))))
def taV : Bt TA := (.n (.n (.n (.n (.n (.n (.n (.n .l 1 (⟨false, 1, .one (.fnn), 8⟩) .l) 2 (⟨false, 1, .one (.i .i64 0), 8⟩) .l) 3 (⟨false, 1, .one (.i .i64 0), 8⟩) (.n .l 4 (⟨false, 1, .one (.b false), 1⟩) .l)) 5 (⟨false, 1, .one (.i .u8 0), 1⟩) (.n (.n .l 6 (⟨false, 1, .one (.i .u8 0), 1⟩) .l) 7 (⟨true, 4, .agg [.one (.i .i64 0), .one (.i .i64 0), .one (.b false), .one (.i .u8 0)], 24⟩) (.n .l 8 (⟨true, 4, .agg [.one (.i .i64 0), .one (.i .i64 0), .one (.b false), .one (.i .u8 0)], 24⟩) .l))) 9 (⟨false, 1, .one (.s ⟨#[]⟩), 16⟩) (.n (.n (.n (.n .l 10 (⟨false, 1, .one (.s ⟨#[]⟩), 16⟩) .l) 11 (⟨false, 1, .one (.s ⟨#[]⟩), 16⟩) .l) 12 (⟨false, 1, .one (.i .u64 0), 8⟩) (.n .l 13 (⟨true, 2, .agg [.one (.s ⟨#[]⟩), .one (.i .u64 0)], 24⟩) .l)) 14 (⟨true, 2, .agg [.one (.s ⟨#[]⟩), .one (.i .u64 0)], 24⟩) (.n (.n .l 15 (⟨false, 1, .one (.pn), 8⟩) .l) 16 (⟨false, 1, .one (.pn), 8⟩) (.n .l 17 (⟨false, 1, .one (.pn), 8⟩) .l)))) 18 (⟨true, 1, .agg [.one (.pn)], 8⟩) (.n (.n (.n (.n (.n .l 19 (⟨true, 1, .agg [.one (.pn)], 8⟩) .l) 20 (⟨false, 1, .one (.ifn), 16⟩) .l) 21 (⟨false, 1, .one (.i .i32 0), 4⟩) (.n .l 22 (⟨false, 1, .one (.sl 0 none 0 0), 24⟩) .l)) 23 (⟨true, 2, .agg [.one (.i .i64 0), .one (.sl 0 none 0 0)], 32⟩) (.n (.n .l 24 (⟨true, 2, .agg [.one (.i .i64 0), .one (.sl 0 none 0 0)], 32⟩) .l) 25 (⟨true, 32, .agg [.hash hz], 32⟩) (.n .l 26 (⟨true, 32, .agg [.hash hz], 32⟩) .l))) 27 (⟨false, 1, .one (.fnn), 8⟩) (.n (.n (.n .l 28 (⟨false, 1, .one (.fnn), 8⟩) .l) 29 (⟨false, 1, .one (.sl 0 none 0 0), 24⟩) (.n .l 31 (⟨false, 1, .one (.fnn), 8⟩) .l)) 32 (⟨false, 1, .one (.fnn), 8⟩) (.n (.n .l 33 (⟨false, 1, .one (.fnn), 8⟩) .l) 34 (⟨false, 1, .one (.fnn), 8⟩) (.n .l 35 (⟨false, 1, .one (.fnn), 8⟩) .l))))) 36 (⟨false, 1, .one (.fnn), 8⟩) (.n (.n (.n (.n (.n (.n .l 37 (⟨false, 1, .one (.i .u64 0), 8⟩) .l) 38 (⟨true, 2, .agg [.one (.i .i64 0), .one (.i .u64 0)], 16⟩) .l) 39 (⟨true, 2, .agg [.one (.i .i64 0), .one (.i .u64 0)], 16⟩) (.n .l 40 (⟨false, 1, .one (.sl 0 none 0 0), 24⟩) .l)) 42 (⟨false, 1, .one (.fnn), 8⟩) (.n (.n .l 43 (⟨false, 1, .one (.sl 0 none 0 0), 24⟩) .l) 44 (⟨false, 1, .one (.fnn), 8⟩) (.n .l 45 (⟨false, 1, .one (.fnn), 8⟩) .l))) 46 (⟨false, 1, .one (.fnn), 8⟩) (.n (.n (.n (.n .l 47 (⟨true, 35, .agg [.hash hz, .one (.s ⟨#[]⟩), .one (.i .i64 0), .one (.i .u64 0)], 64⟩) .l) 48 (⟨true, 35, .agg [.hash hz, .one (.s ⟨#[]⟩), .one (.i .i64 0), .one (.i .u64 0)], 64⟩) .l) 49 (⟨false, 1, .one (.fnn), 8⟩) (.n .l 50 (⟨false, 1, .one (.fnn), 8⟩) .l)) 51 (⟨false, 1, .one (.fnn), 8⟩) (.n (.n .l 52 (⟨false, 1, .one (.fnn), 8⟩) .l) 53 (⟨true, 34, .agg [.hash hz, .one (.s ⟨#[]⟩), .one (.i .i64 0)], 56⟩) (.n .l 54 (⟨true, 34, .agg [.hash hz, .one (.s ⟨#[]⟩), .one (.i .i64 0)], 56⟩) .l)))) 55 (⟨false, 1, .one (.fnn), 8⟩) (.n (.n (.n (.n (.n .l 56 (⟨false, 1, .one (.sl 0 none 0 0), 24⟩) .l) 57 (⟨false, 1, .one (.fnn), 8⟩) .l) 58 (⟨false, 1, .one (.fnn), 8⟩) (.n .l 59 (⟨false, 1, .one (.pn), 8⟩) .l)) 60 (⟨false, 1, .one (.fnn), 8⟩) (.n (.n .l 61 (⟨false, 1, .one (.fnn), 8⟩) .l) 62 (⟨false, 1, .one (.fnn), 8⟩) (.n .l 63 (⟨false, 1, .one (.fnn), 8⟩) .l))) 64 (⟨false, 1, .one (.fnn), 8⟩) (.n (.n (.n .l 65 (⟨false, 1, .one (.fnn), 8⟩) .l) 66 (⟨false, 1, .one (.fnn), 8⟩) (.n .l 67 (⟨false, 1, .one (.fnn), 8⟩) .l)) 68 (⟨false, 1, .one (.mn), 8⟩) (.n (.n .l 69 (⟨true, 2, .agg [.one (.i .i64 0), .one (.mn)], 16⟩) .l) 70 (⟨true, 2, .agg [.one (.i .i64 0), .one (.mn)], 16⟩) (.n .l 71 (⟨true, 33, .agg [.hash hz, .one (.s ⟨#[]⟩)], 48⟩) .l)))))) 72 (⟨true, 33, .agg [.hash hz, .one (.s ⟨#[]⟩)], 48⟩) (.n (.n (.n (.n (.n (.n (.n .l 73 (⟨false, 1, .one (.fnn), 8⟩) .l) 74 (⟨false, 1, .one (.fnn), 8⟩) .l) 75 (⟨false, 1, .one (.mn), 8⟩) (.n .l 76 (⟨false, 1, .one (.mn), 8⟩) .l)) 77 (⟨false, 1, .one (.fnn), 8⟩) (.n (.n .l 78 (⟨false, 1, .one (.fnn), 8⟩) .l) 79 (⟨false, 1, .one (.fnn), 8⟩) (.n .l 80 (⟨false, 1, .one (.sl 0 none 0 0), 24⟩) .l))) 82 (⟨false, 1, .one (.fnn), 8⟩) (.n (.n (.n (.n .l 83 (⟨false, 1, .one (.fnn), 8⟩) .l) 84 (⟨false, 1, .one (.fnn), 8⟩) .l) 85 (⟨true, 0, .agg [], 0⟩) (.n .l 86 (⟨true, 0, .agg [], 0⟩) .l)) 88 (⟨false, 1, .one (.fnn), 8⟩) (.n (.n .l 89 (⟨false, 1, .one (.fnn), 8⟩) .l) 90 (⟨false, 1, .one (.fnn), 8⟩) (.n .l 91 (⟨false, 1, .one (.i .u64 0), 8⟩) .l)))) 92 (⟨false, 1, .one (.fnn), 8⟩) (.n (.n (.n (.n (.n .l 93 (⟨false, 1, .one (.fnn), 8⟩) .l) 94 (⟨false, 1, .one (.fnn), 8⟩) .l) 95 (⟨false, 1, .one (.fnn), 8⟩) (.n .l 96 (⟨false, 1, .one (.fnn), 8⟩) .l)) 97 (⟨false, 1, .one (.fnn), 8⟩) (.n (.n .l 98 (⟨false, 1, .one (.fnn), 8⟩) .l) 99 (⟨false, 1, .one (.fnn), 8⟩) (.n .l 100 (⟨false, 1, .one (.fnn), 8⟩) .l))) 101 (⟨false, 1, .one (.sl 0 none 0 0), 24⟩) (.n (.n (.n .l 102 (⟨false, 1, .one (.fnn), 8⟩) .l) 103 (⟨false, 1, .one (.fnn), 8⟩) (.n .l 104 (⟨false, 1, .one (.fnn), 8⟩) .l)) 105 (⟨false, 1, .one (.i .i64 0), 8⟩) (.n (.n .l 107 (⟨false, 1, .one (.fnn), 8⟩) .l) 108 (⟨false, 1, .one (.fnn), 8⟩) (.n .l 109 (⟨false, 1, .one (.fnn), 8⟩) .l))))) 111 (⟨false, 1, .one (.fnn), 8⟩) (.n (.n (.n (.n (.n (.n .l 112 (⟨false, 1, .one (.fnn), 8⟩) .l) 113 (⟨false, 1, .one (.i .u32 0), 4⟩) .l) 114 (⟨false, 1, .one (.fnn), 8⟩) (.n .l 115 (⟨false, 1, .one (.sl 0 none 0 0), 24⟩) .l)) 116 (⟨false, 1, .one (.fnn), 8⟩) (.n (.n .l 117 (⟨false, 1, .one (.fnn), 8⟩) .l) 118 (⟨false, 1, .one (.fnn), 8⟩) (.n .l 119 (⟨false, 1, .one (.fnn), 8⟩) .l))) 120 (⟨false, 1, .one (.fnn), 8⟩) (.n (.n (.n (.n .l 121 (⟨false, 1, .one (.i .u64 0), 8⟩) .l) 122 (⟨false, 1, .one (.fnn), 8⟩) .l) 123 (⟨false, 1, .one (.fnn), 8⟩) (.n .l 124 (⟨false, 1, .one (.fnn), 8⟩) .l)) 125 (⟨false, 1, .one (.pn), 8⟩) (.n (.n .l 126 (⟨false, 1, .one (.fnn), 8⟩) .l) 127 (⟨false, 1, .one (.fnn), 8⟩) (.n .l 128 (⟨false, 1, .one (.fnn), 8⟩) .l)))) 129 (⟨false, 1, .one (.pn), 8⟩) (.n (.n (.n (.n (.n .l 131 (⟨false, 1, .one (.fnn), 8⟩) .l) 132 (⟨false, 1, .one (.fnn), 8⟩) .l) 133 (⟨false, 1, .one (.fnn), 8⟩) (.n .l 134 (⟨true, 4, .agg [.one (.pn), .one (.pn), .one (.pn), .one (.s ⟨#[]⟩)], 40⟩) .l)) 135 (⟨true, 4, .agg [.one (.pn), .one (.pn), .one (.pn), .one (.s ⟨#[]⟩)], 40⟩) (.n (.n .l 137 (⟨true, 0, .agg [], 0⟩) .l) 138 (⟨true, 0, .agg [], 0⟩) (.n .l 139 (⟨false, 1, .one (.fnn), 8⟩) .l))) 140 (⟨false, 1, .one (.i .u8 0), 1⟩) (.n (.n (.n .l 141 (⟨false, 1, .one (.i .u8 0), 1⟩) .l) 142 (⟨false, 1, .one (.fnn), 8⟩) (.n .l 143 (⟨false, 1, .one (.pn), 8⟩) .l)) 144 (⟨false, 1, .one (.i .i32 0), 4⟩) (.n (.n .l 145 (⟨false, 1, .one (.i .i32 0), 4⟩) .l) 146 (⟨true, 11, .agg [.one (.i .u64 0), .one (.i .u64 0), .one (.i .u32 0), .one (.i .u8 0), .one (.i .u8 0), .one (.i .u8 0), .one (.i .u8 0), .one (.fnn), .one (.pn), .one (.i .i32 0), .one (.i .i32 0)], 48⟩) (.n .l 147 (⟨true, 11, .agg [.one (.i .u64 0), .one (.i .u64 0), .one (.i .u32 0), .one (.i .u8 0), .one (.i .u8 0), .one (.i .u8 0), .one (.i .u8 0), .one (.fnn), .one (.pn), .one (.i .i32 0), .one (.i .i32 0)], 48⟩) .l)))))))
instance tbV : Tb Try.prog tdV taV := ⟨⟨⟨⟨⟨⟨⟨⟨trivial, ud2.is, trivial⟩, ud3.is, trivial⟩, ud4.is, ⟨trivial, ud5.is, trivial⟩⟩, ud6.is, ⟨⟨trivial, TD.St.mk' ⟨⟨by kernel_rfl, by kernel_rfl⟩, ⟨by kernel_rfl, by kernel_rfl⟩, ⟨by kernel_rfl, by kernel_rfl⟩, ⟨by kernel_rfl, by kernel_rfl⟩, trivial⟩ pls7.is, trivial⟩, TD.St.mk' ⟨⟨by kernel_rfl, by kernel_rfl⟩, ⟨by kernel_rfl, by kernel_rfl⟩, ⟨by kernel_rfl, by kernel_rfl⟩, ⟨by kernel_rfl, by kernel_rfl⟩, trivial⟩ pls8.is, ⟨trivial, ud9.is, trivial⟩⟩⟩, ud10.is, ⟨⟨⟨trivial, ud11.is, trivial⟩, ud12.is, ⟨trivial, TD.St.mk' ⟨⟨by kernel_rfl, by kernel_rfl⟩, ⟨by kernel_rfl, by kernel_rfl⟩, trivial⟩ pls13.is, trivial⟩⟩, TD.St.mk' ⟨⟨by kernel_rfl, by kernel_rfl⟩, ⟨by kernel_rfl, by kernel_rfl⟩, trivial⟩ pls14.is, ⟨⟨trivial, ud15.is, trivial⟩, ud16.is, ⟨trivial, ud17.is, trivial⟩⟩⟩⟩, TD.St.mk' ⟨⟨by kernel_rfl, by kernel_rfl⟩, trivial⟩ pls18.is, ⟨⟨⟨⟨trivial, TD.St.mk' ⟨⟨by kernel_rfl, by kernel_rfl⟩, trivial⟩ pls19.is, trivial⟩, ifc20, ⟨trivial, ud21.is, trivial⟩⟩, ud22.is, ⟨⟨trivial, TD.St.mk' ⟨⟨by kernel_rfl, by kernel_rfl⟩, ⟨by kernel_rfl, by kernel_rfl⟩, trivial⟩ pls23.is, trivial⟩, TD.St.mk' ⟨⟨by kernel_rfl, by kernel_rfl⟩, ⟨by kernel_rfl, by kernel_rfl⟩, trivial⟩ pls24.is, ⟨trivial, ⟨ud25.is, ht25⟩, trivial⟩⟩⟩, ⟨ud26.is, ht26⟩, ⟨⟨⟨trivial, ud29.is, trivial⟩, ud37.is, ⟨trivial, TD.St.mk' ⟨⟨by kernel_rfl, by kernel_rfl⟩, ⟨by kernel_rfl, by kernel_rfl⟩, trivial⟩ pls38.is, trivial⟩⟩, TD.St.mk' ⟨⟨by kernel_rfl, by kernel_rfl⟩, ⟨by kernel_rfl, by kernel_rfl⟩, trivial⟩ pls39.is, ⟨⟨trivial, ud40.is, trivial⟩, ud43.is, ⟨trivial, TD.St.mk' ⟨⟨by kernel_rfl, by kernel_rfl⟩, ⟨by kernel_rfl, by kernel_rfl⟩, ⟨by kernel_rfl, by kernel_rfl⟩, trivial⟩ pls47.is, trivial⟩⟩⟩⟩⟩, TD.St.mk' ⟨⟨by kernel_rfl, by kernel_rfl⟩, ⟨by kernel_rfl, by kernel_rfl⟩, ⟨by kernel_rfl, by kernel_rfl⟩, trivial⟩ pls48.is, ⟨⟨⟨⟨⟨⟨trivial, TD.St.mk' ⟨⟨by kernel_rfl, by kernel_rfl⟩, ⟨by kernel_rfl, by kernel_rfl⟩, ⟨by kernel_rfl, by kernel_rfl⟩, trivial⟩ pls53.is, trivial⟩, TD.St.mk' ⟨⟨by kernel_rfl, by kernel_rfl⟩, ⟨by kernel_rfl, by kernel_rfl⟩, ⟨by kernel_rfl, by kernel_rfl⟩, trivial⟩ pls54.is, trivial⟩, ud56.is, ⟨trivial, ud59.is, trivial⟩⟩, ud68.is, ⟨⟨trivial, TD.St.mk' ⟨⟨by kernel_rfl, by kernel_rfl⟩, ⟨by kernel_rfl, by kernel_rfl⟩, trivial⟩ pls69.is, trivial⟩, TD.St.mk' ⟨⟨by kernel_rfl, by kernel_rfl⟩, ⟨by kernel_rfl, by kernel_rfl⟩, trivial⟩ pls70.is, ⟨trivial, TD.St.mk' ⟨⟨by kernel_rfl, by kernel_rfl⟩, ⟨by kernel_rfl, by kernel_rfl⟩, trivial⟩ pls71.is, trivial⟩⟩⟩, TD.St.mk' ⟨⟨by kernel_rfl, by kernel_rfl⟩, ⟨by kernel_rfl, by kernel_rfl⟩, trivial⟩ pls72.is, ⟨⟨⟨trivial, ud75.is, trivial⟩, ud76.is, ⟨trivial, ud80.is, trivial⟩⟩, TD.St.mk' trivial pls85.is, ⟨⟨trivial, TD.St.mk' trivial pls86.is, trivial⟩, ud91.is, ⟨trivial, ud101.is, trivial⟩⟩⟩⟩, ud105.is, ⟨⟨⟨⟨trivial, ud113.is, trivial⟩, ud115.is, ⟨trivial, ud121.is, trivial⟩⟩, ud125.is, ⟨⟨trivial, ud129.is, trivial⟩, TD.St.mk' ⟨⟨by kernel_rfl, by kernel_rfl⟩, ⟨by kernel_rfl, by kernel_rfl⟩, ⟨by kernel_rfl, by kernel_rfl⟩, ⟨by kernel_rfl, by kernel_rfl⟩, trivial⟩ pls134.is, ⟨trivial, TD.St.mk' ⟨⟨by kernel_rfl, by kernel_rfl⟩, ⟨by kernel_rfl, by kernel_rfl⟩, ⟨by kernel_rfl, by kernel_rfl⟩, ⟨by kernel_rfl, by kernel_rfl⟩, trivial⟩ pls135.is, trivial⟩⟩⟩, ud136.is, ⟨⟨⟨trivial, ud140.is, trivial⟩, ud141.is, ⟨trivial, ud143.is, trivial⟩⟩, ud144.is, ⟨⟨trivial, ud145.is, trivial⟩, TD.St.mk' ⟨⟨by kernel_rfl, by kernel_rfl⟩, ⟨by kernel_rfl, by kernel_rfl⟩, ⟨by kernel_rfl, by kernel_rfl⟩, ⟨by kernel_rfl, by kernel_rfl⟩, ⟨by kernel_rfl, by kernel_rfl⟩, ⟨by kernel_rfl, by kernel_rfl⟩, ⟨by kernel_rfl, by kernel_rfl⟩, ⟨by kernel_rfl, by kernel_rfl⟩, ⟨by kernel_rfl, by kernel_rfl⟩, ⟨by kernel_rfl, by kernel_rfl⟩, ⟨by kernel_rfl, by kernel_rfl⟩, trivial⟩ pls146.is, ⟨trivial, TD.St.mk' ⟨⟨by kernel_rfl, by kernel_rfl⟩, ⟨by kernel_rfl, by kernel_rfl⟩, ⟨by kernel_rfl, by kernel_rfl⟩, ⟨by kernel_rfl, by kernel_rfl⟩, ⟨by kernel_rfl, by kernel_rfl⟩, ⟨by kernel_rfl, by kernel_rfl⟩, ⟨by kernel_rfl, by kernel_rfl⟩, ⟨by kernel_rfl, by kernel_rfl⟩, ⟨by kernel_rfl, by kernel_rfl⟩, ⟨by kernel_rfl, by kernel_rfl⟩, ⟨by kernel_rfl, by kernel_rfl⟩, trivial⟩ pls147.is, trivial⟩⟩⟩⟩⟩⟩, ⟨⟨⟨⟨⟨⟨⟨⟨trivial, ta1, trivial⟩, ta2, trivial⟩, ta3, ⟨trivial, ta4, trivial⟩⟩, ta5, ⟨⟨trivial, ta6, trivial⟩, ta7, ⟨trivial, ta8, trivial⟩⟩⟩, ta9, ⟨⟨⟨⟨trivial, ta10, trivial⟩, ta11, trivial⟩, ta12, ⟨trivial, ta13, trivial⟩⟩, ta14, ⟨⟨trivial, ta15, trivial⟩, ta16, ⟨trivial, ta17, trivial⟩⟩⟩⟩, ta18, ⟨⟨⟨⟨⟨trivial, ta19, trivial⟩, ta20, trivial⟩, ta21, ⟨trivial, ta22, trivial⟩⟩, ta23, ⟨⟨trivial, ta24, trivial⟩, ta25, ⟨trivial, ta26, trivial⟩⟩⟩, ta27, ⟨⟨⟨trivial, ta28, trivial⟩, ta29, ⟨trivial, ta31, trivial⟩⟩, ta32, ⟨⟨trivial, ta33, trivial⟩, ta34, ⟨trivial, ta35, trivial⟩⟩⟩⟩⟩, ta36, ⟨⟨⟨⟨⟨⟨trivial, ta37, trivial⟩, ta38, trivial⟩, ta39, ⟨trivial, ta40, trivial⟩⟩, ta42, ⟨⟨trivial, ta43, trivial⟩, ta44, ⟨trivial, ta45, trivial⟩⟩⟩, ta46, ⟨⟨⟨⟨trivial, ta47, trivial⟩, ta48, trivial⟩, ta49, ⟨trivial, ta50, trivial⟩⟩, ta51, ⟨⟨trivial, ta52, trivial⟩, ta53, ⟨trivial, ta54, trivial⟩⟩⟩⟩, ta55, ⟨⟨⟨⟨⟨trivial, ta56, trivial⟩, ta57, trivial⟩, ta58, ⟨trivial, ta59, trivial⟩⟩, ta60, ⟨⟨trivial, ta61, trivial⟩, ta62, ⟨trivial, ta63, trivial⟩⟩⟩, ta64, ⟨⟨⟨trivial, ta65, trivial⟩, ta66, ⟨trivial, ta67, trivial⟩⟩, ta68, ⟨⟨trivial, ta69, trivial⟩, ta70, ⟨trivial, ta71, trivial⟩⟩⟩⟩⟩⟩, ta72, ⟨⟨⟨⟨⟨⟨⟨trivial, ta73, trivial⟩, ta74, trivial⟩, ta75, ⟨trivial, ta76, trivial⟩⟩, ta77, ⟨⟨trivial, ta78, trivial⟩, ta79, ⟨trivial, ta80, trivial⟩⟩⟩, ta82, ⟨⟨⟨⟨trivial, ta83, trivial⟩, ta84, trivial⟩, ta85, ⟨trivial, ta86, trivial⟩⟩, ta88, ⟨⟨trivial, ta89, trivial⟩, ta90, ⟨trivial, ta91, trivial⟩⟩⟩⟩, ta92, ⟨⟨⟨⟨⟨trivial, ta93, trivial⟩, ta94, trivial⟩, ta95, ⟨trivial, ta96, trivial⟩⟩, ta97, ⟨⟨trivial, ta98, trivial⟩, ta99, ⟨trivial, ta100, trivial⟩⟩⟩, ta101, ⟨⟨⟨trivial, ta102, trivial⟩, ta103, ⟨trivial, ta104, trivial⟩⟩, ta105, ⟨⟨trivial, ta107, trivial⟩, ta108, ⟨trivial, ta109, trivial⟩⟩⟩⟩⟩, ta111, ⟨⟨⟨⟨⟨⟨trivial, ta112, trivial⟩, ta113, trivial⟩, ta114, ⟨trivial, ta115, trivial⟩⟩, ta116, ⟨⟨trivial, ta117, trivial⟩, ta118, ⟨trivial, ta119, trivial⟩⟩⟩, ta120, ⟨⟨⟨⟨trivial, ta121, trivial⟩, ta122, trivial⟩, ta123, ⟨trivial, ta124, trivial⟩⟩, ta125, ⟨⟨trivial, ta126, trivial⟩, ta127, ⟨trivial, ta128, trivial⟩⟩⟩⟩, ta129, ⟨⟨⟨⟨⟨trivial, ta131, trivial⟩, ta132, trivial⟩, ta133, ⟨trivial, ta134, trivial⟩⟩, ta135, ⟨⟨trivial, ta137, trivial⟩, ta138, ⟨trivial, ta139, trivial⟩⟩⟩, ta140, ⟨⟨⟨trivial, ta141, trivial⟩, ta142, ⟨trivial, ta143, trivial⟩⟩, ta144, ⟨⟨trivial, ta145, trivial⟩, ta146, ⟨trivial, ta147, trivial⟩⟩⟩⟩⟩⟩⟩⟩
end Go.Proofs.Ytlnckcgbpilmdaa
/- Names of assets, rows that rise by names: plain, with no program in sight. -/

set_option linter.unusedVariables false
namespace Go.Proofs.Ytlnckcgbpilmdaa
open Go Go.RowKit HL
structure NameP where
  policy : Hash
  name : ByteArray
  deriving DecidableEq
def nord (a b : NameP) : Int := if bcmp a.policy.toList b.policy.toList ≠ 0 then bcmp a.policy.toList b.policy.toList else bcmp a.name.data.toList b.name.data.toList
theorem nord_refl (a : NameP) : nord a a = 0 := by unfold nord; simp [bcmp_refl]
theorem nord_swap (a b : NameP) : nord b a = - nord a b := by
  unfold nord
  have h1 := bcmp_swap a.policy.toList b.policy.toList
  have h2 := bcmp_swap a.name.data.toList b.name.data.toList
  by_cases h : bcmp a.policy.toList b.policy.toList = 0
  · rw [if_neg (by rw [h1, h]; simp), if_neg (by rw [h]; simp), h2]
  · rw [if_pos (by rw [h1]; omega), if_pos h, h1]
theorem nord_eq {a b : NameP} (h : nord a b = 0) : a = b := by
  unfold nord at h
  by_cases h1 : bcmp a.policy.toList b.policy.toList = 0
  · rw [if_neg (by rw [h1]; simp)] at h
    have e1 : a.policy = b.policy := Vector.toList_inj.1 (bcmp_eq h1)
    have e2 : a.name = b.name := by
      have := bcmp_eq h
      exact ByteArray.ext (Array.toList_inj.1 this)
    cases a; cases b; simp_all
  · rw [if_pos h1] at h
    exact absurd h h1
theorem nord_trans {a b c : NameP} (h1 : nord a b < 0) (h2 : nord b c < 0) : nord a c < 0 := by
  unfold nord at *
  by_cases p1 : bcmp a.policy.toList b.policy.toList = 0
  · have e1 := bcmp_eq p1
    rw [if_neg (by rw [p1]; simp)] at h1
    rw [e1]
    by_cases p2 : bcmp b.policy.toList c.policy.toList = 0
    · rw [if_neg (by rw [p2]; simp)] at h2 ⊢
      exact bcmp_trans h1 h2
    · rw [if_pos p2] at h2 ⊢
      exact h2
  · rw [if_pos p1] at h1
    by_cases p2 : bcmp b.policy.toList c.policy.toList = 0
    · have e2 := bcmp_eq p2
      rw [← e2, if_pos p1]
      exact h1
    · rw [if_pos p2] at h2
      have := bcmp_trans h1 h2
      rw [if_pos (by omega)]
      exact this
theorem nord_irrefl {a : NameP} : ¬ nord a a < 0 := by rw [nord_refl]; omega
theorem nord_asymm {a b : NameP} (h : nord a b < 0) : ¬ nord b a < 0 := by rw [nord_swap]; omega
theorem nord_tri (a b : NameP) : nord a b < 0 ∨ a = b ∨ nord b a < 0 := by
  have := nord_swap a b
  by_cases h : nord a b = 0
  · exact .inr (.inl (nord_eq h))
  · omega
def Rise {α : Type} (key : α → NameP) (l : List α) : Prop := l.Pairwise fun a b => nord (key a) (key b) < 0
theorem Rise.nodup {α : Type} {key : α → NameP} {l : List α} (h : Rise key l) : (l.map key).Nodup := by
  unfold Rise at h
  refine List.pairwise_map.2 (h.imp fun {a b} hab he => ?_)
  rw [he] at hab
  exact nord_irrefl hab
theorem rise_ext {α : Type} {key : α → NameP} : ∀ {l m : List α}, Rise key l → Rise key m → (∀ x, x ∈ l ↔ x ∈ m) → l = m
  | [], [], _, _, _ => rfl
  | [], y :: m, _, _, h => absurd ((h y).2 (by simp)) (by simp)
  | x :: l, [], _, _, h => absurd ((h x).1 (by simp)) (by simp)
  | x :: l, y :: m, h1, h2, h => by
    have h1' := List.pairwise_cons.1 h1
    have h2' := List.pairwise_cons.1 h2
    have e : x = y := by
      rcases List.mem_cons.1 ((h x).1 (List.mem_cons_self ..)) with e | hx
      · exact e
      · rcases List.mem_cons.1 ((h y).2 (List.mem_cons_self ..)) with e | hy
        · exact e.symm
        · exact absurd (h1'.1 y hy) (nord_asymm (h2'.1 x hx))
    subst e
    congr 1
    refine rise_ext h1'.2 h2'.2 fun z => ?_
    have hz := h z
    simp only [List.mem_cons] at hz
    constructor
    · intro hl
      rcases hz.1 (.inr hl) with e | hm
      · subst e; exact absurd (h1'.1 _ hl) nord_irrefl
      · exact hm
    · intro hm
      rcases hz.2 (.inr hm) with e | hl
      · subst e; exact absurd (h2'.1 _ hm) nord_irrefl
      · exact hl
def atN {α : Type} (key : α → NameP) (l : List α) (n : NameP) : Option α := l.find? fun x => decide (key x = n)
theorem atN_of {α : Type} {key : α → NameP} : ∀ {l : List α}, Rise key l → ∀ {x : α}, x ∈ l → atN key l (key x) = some x
  | [], _, x, h => by cases h
  | y :: l, h, x, hx => by
    have h' := List.pairwise_cons.1 h
    unfold atN
    rcases List.mem_cons.1 hx with rfl | hx
    · rw [List.find?_cons]; simp
    · have hne : ¬ key y = key x := fun e => by
        have := h'.1 x hx
        rw [e] at this
        exact nord_irrefl this
      rw [List.find?_cons, decide_eq_false hne]
      exact atN_of h'.2 hx
end Go.Proofs.Ytlnckcgbpilmdaa
/- Bundles in memory: how they lie; comparing. -/



set_option linter.unusedVariables false
set_option linter.unusedSimpArgs false
set_option maxRecDepth 100000
namespace Go.Proofs.Ytlnckcgbpilmdaa
open Go Go.RowKit HL
structure AssetP where
  policy : Hash
  name : ByteArray
  amount : Int
  deriving DecidableEq
def asset0 : AssetP := ⟨hz, ⟨#[]⟩, 0⟩
instance : Df AssetP asset0 := ⟨⟩
def assetEn : En AssetP := ⟨fun x => .agg [.hash x.policy, .one (.s x.name), .one (.i .i64 x.amount)], true, 34, fun _ => ⟨rfl, rfl⟩, by decide⟩
def AssetP.key (x : AssetP) : NameP := ⟨x.policy, x.name⟩
structure ValueM where
  coin : Int
  A : Option Addr
  c : Nat
  assets : List AssetP
def value0 : ValueM := ⟨0, none, 0, []⟩
instance : Df ValueM value0 := ⟨⟩
def valueEn : En ValueM := ⟨fun v => .agg [.one (.i .i64 v.coin), .one (.sl 0 v.A v.assets.length v.c)], true, 2, fun _ => ⟨rfl, rfl⟩, by decide⟩
def valueS (v : ValueM) (_ : Nat) : RS := .rd asset0 v.A assetEn v.assets
abbrev rdValues (A : Option Addr) (l : List ValueM) : Res := (RS.rdn value0 A valueEn l 1 valueS).den
def nameEn : En NameP := ⟨fun x => .agg [.hash x.policy, .one (.s x.name)], true, 33, fun _ => ⟨rfl, rfl⟩, by decide⟩
instance : Df NameP ⟨hz, ⟨#[]⟩⟩ := ⟨⟩
theorem run_ext {a : Act} {w : World} {F : FuncId} {args : Array Value} {v : Value} {xs : Array Operand} {tys : Array TypeId} {dst : Option Tmp} {ty : TypeId} {pos : String} {af : Array Edge} {gd : Option (Nat × Bool)} (ha : xs.map a.eval = args) (h : (callFunc F args).run Try.prog w = .ok (.value v) w) : (execOp a.eval ⟨dst, .call { callee := .value (.func F), args := xs, argTypes := tys }, ty, pos, af, gd⟩).run Try.prog w = .ok (.value v) w := by
  unfold execOp
  have e : a.eval (.func F) = .func (.func F) #[] #[] := rfl
  simp only [resolve, e, Deferred.ofValue, Sem.run_bind, Sem.run_pure, Result.andThen, invoke, ha, Array.empty_append, Array.append_empty, h]
theorem run_compare {a : Act} {w : World} {x y : Operand} {A B : Option Addr} {xs ys : List UInt8} {c d : Nat} {tys : Array TypeId} {dst : Option Tmp} {ty : TypeId} {pos : String} {af : Array Edge} {gd : Option (Nat × Bool)} (h1 : a.eval x = .slice A xs.length c) (h2 : a.eval y = .slice B ys.length d) (hA : RdS w A (bcells xs)) (hB : RdS w B (bcells ys)) : (execOp a.eval ⟨dst, .call { callee := .value (.func 71), args := #[x, y], argTypes := tys }, ty, pos, af, gd⟩).run Try.prog w = .ok (.value (vint (bcmp xs ys)).den) w := by
  refine run_ext (args := #[.slice A xs.length c, .slice B ys.length d]) (by simp [h1, h2]) ?_
  refine run_stand Try.func71 (by kernel_rfl) rfl (by kernel_rfl) (e := Extern.BytealgCompare.compare) (by kernel_rfl) ?_
  rw [show Extern.BytealgCompare.compare #[.slice A xs.length c, .slice B ys.length d] = (do pure (goInt (Extern.BytealgCompare.cmp (← Extern.Bytes.bytesOf (.slice A xs.length c)) (← Extern.Bytes.bytesOf (.slice B ys.length d))))) from rfl]
  simp [run_bytesOf hA, run_bytesOf hB, cmp_ba]
  rfl
theorem cmp_str (p q : ByteArray) : Extern.BytealgCompare.cmp p q = bcmp p.data.toList q.data.toList := by
  have := cmp_ba p.data.toList q.data.toList
  rwa [ba_of, ba_of] at this
theorem run_compareS {a : Act} {w : World} {x y : Operand} {p q : ByteArray} {tys : Array TypeId} {dst : Option Tmp} {ty : TypeId} {pos : String} {af : Array Edge} {gd : Option (Nat × Bool)} (h1 : a.eval x = .string p) (h2 : a.eval y = .string q) : (execOp a.eval ⟨dst, .call { callee := .value (.func 86), args := #[x, y], argTypes := tys }, ty, pos, af, gd⟩).run Try.prog w = .ok (.value (vint (bcmp p.data.toList q.data.toList)).den) w := by
  refine run_ext (args := #[.string p, .string q]) (by simp [h1, h2]) ?_
  refine run_stand Try.func86 (by kernel_rfl) rfl (by kernel_rfl) (e := Extern.BytealgCompare.compare) (by kernel_rfl) ?_
  rw [show Extern.BytealgCompare.compare #[.string p, .string q] = (do pure (goInt (Extern.BytealgCompare.cmp (← Extern.Bytes.bytesOf (.string p)) (← Extern.Bytes.bytesOf (.string q))))) from rfl]
  simp [Extern.Bytes.bytesOf, cmp_str, Sem.run_bind]
  rfl
theorem cmpBytes_spec (A B : Option Addr) (xs ys : List UInt8) (m k c d : Nat) (hm : m = xs.length) (hk : k = ys.length) : CSpec Try.prog 58 [.one (.sl 0 A m c), .one (.sl 1 B k d)] [(0, Res.rd A byteEn xs), (1, Res.rd B byteEn ys)] [] fun o L => o = .ret (vint (bcmp xs ys)) ∧ L = [] := by
  subst hm
  subst hk
  refine v_enter Try.func58 (h := fun w0 => ?_)
  refine v_code [] (hk := ?_)
  refine l_rd (v := vint (bcmp xs ys)) (fun a w ht hf => ?_) ?_
  · have hA := rd_reads (hf 0 _ rfl)
    have hB := rd_reads (hf 1 _ rfl)
    rw [dens_byte] at hA hB
    have h1 : a.eval (.tmp 5) = .slice A xs.length c := ev_sound (v := vsl 0 A xs.length c) ht rfl
    have h2 : a.eval (.tmp 6) = .slice B ys.length d := ev_sound (v := vsl 1 B ys.length d) ht rfl
    exact run_compare h1 h2 hA hB
  refine v_ops [] (hk := ?_)
  refine v_ret rfl [] (.cons (.tmp rfl) .nil) (h := ?_)
  exact ⟨rfl, rfl⟩
theorem cmpStr0_spec (p q : ByteArray) : CSpec Try.prog 72 [.one (.s p), .one (.s q)] [] [] fun o L => o = .ret (vint (bcmp p.data.toList q.data.toList)) ∧ L = [] := by
  refine v_enter Try.func72 (h := fun w0 => ?_)
  refine v_code [] (hk := ?_)
  refine l_rd (v := vint (bcmp p.data.toList q.data.toList)) (fun a w ht hf => run_compareS (ev_sound (v := vs p) ht rfl) (ev_sound (v := vs q) ht rfl)) ?_
  refine v_ops [] (hk := ?_)
  refine v_ret rfl [] (.cons (.tmp rfl) .nil) (h := ?_)
  exact ⟨rfl, rfl⟩
theorem cmpStr_spec (p q : ByteArray) : CSpec Try.prog 59 [.one (.s p), .one (.s q)] [] [] fun o L => o = .ret (vint (bcmp p.data.toList q.data.toList)) ∧ L = [] := by
  refine v_enter Try.func59 (h := fun w0 => ?_)
  refine v_code [] (hk := ?_)
  refine v_call 20350 [] (cmpStr0_spec p q) Try.func72 (h := ?_)
  rintro _ _ (⟨rfl, rfl⟩)
  refine v_ops [] (hk := ?_)
  refine v_ret rfl [] (.cons (.tmp rfl) .nil) (h := ?_)
  exact ⟨rfl, rfl⟩
theorem cmpOr_spec (A : Option Addr) (l : List Int) (c : Nat) (hl : l.length ≤ 1048576) : CSpec Try.prog 57 [.one (.sl 0 A l.length c)] [(0, Res.rd A (intEn .i64) l)] [] fun o L => o = .ret (vint ((l.find? fun x => decide (x ≠ 0)).getD 0)) ∧ L = [] := by
  refine v_enter Try.func57 (h := fun w0 => ?_)
  refine v_code [] (hk := ?_)
  refine v_loop (fun m E H => ∃ (k : Nat), E = [(8, vn k)] ∧ H = [] ∧ m = l.length - k ∧ k ≤ l.length ∧ (∀ x ∈ l.take k, x = 0)) [3, 6, 7, 17] (l.length) ([(8, vn 0)]) ([]) (h0 := ⟨0, rfl, rfl, by omega, by omega, by simp⟩) (hr := ?_)
  rintro _ _ _ ⟨k, rfl, rfl, hmk, hk, hik0⟩
  refine v_code [] (hk := ?_)
  first | refine c_ifd rfl (fun h9 => ?_) (fun h9 => ?_) | refine c_ifn rfl (fun h9 => ?_) (fun h9 => ?_) | refine c_if rfl (fun h9 => ?_) (fun h9 => ?_)
  · refine v_code [] (hk := ?_)
    first | refine c_ifd rfl (fun h14 => ?_) (fun h14 => ?_) | refine c_ifn rfl (fun h14 => ?_) (fun h14 => ?_) | refine c_if rfl (fun h14 => ?_) (fun h14 => ?_)
    · refine v_code [] (hk := ?_)
      refine v_ret rfl [] (.cons (.tmp rfl) .nil) (h := ?_)
      refine ⟨?_, rfl⟩
      rw [find_atD (d := 0) h9 (fun y hy => by simp [hik0 y hy]) (by simpa using h14)]
      rfl
    · refine v_code [] (hk := ?_)
      refine v_again (l.length - (k + 1)) ⟨k + 1, rfl, rfl, by omega, by omega, all_takeD hik0 h9 h14⟩
  · refine v_code [] (hk := ?_)
    refine v_ret rfl [] (.cons (.tmp rfl) .nil) (h := ?_)
    rw [take_all' h9] at hik0
    refine ⟨?_, rfl⟩
    rw [find_no (fun y hy => by simp [hik0 y hy])]
    rfl
instance : ElT Try.prog 3 (intEn .i64) := ⟨⟩
instance : ElT Try.prog 54 assetEn := ⟨⟩
instance : ElT Try.prog 24 valueEn := ⟨⟩
theorem order_spec (n m : NameP) : CSpec Try.prog 49 [.agg [.hash n.policy, .one (.s n.name)], .agg [.hash m.policy, .one (.s m.name)]] [] [] fun o L => o = .ret (vint (nord n m)) ∧ L = [] := by
  refine v_enter Try.func49 (h := fun w0 => ?_)
  refine v_code [] (hk := ?_)
  refine l_do d_box (fun g2 => ?_)
  refine l_do d_box (fun g3 => ?_)
  refine v_ops [] (hk := ?_)
  refine v_draw (.q 0 (.q 1 (.q 2 (.q 3 (.q 5 (.q 6 (.q 7 (.q 8 (.s 4 (.s 9 (.s 10 (.s 11 (.q 12 .nil))))))))))))) [10002, 10003, 20450, 20451, 20452, 20453, 20700, 20701, 20702, 20703, 10015, 20800, 20801, 20802, 20803] (hm := by kernel_rfl) (hs := by kernel_rfl) (hk := by kernel_rfl) (h := ?_)
  refine v_sch [] (hk := ?_)
  refine v_callS rfl 20450 [] (cmpBytes_spec (some ⟨g2, 0, none⟩) (some ⟨g3, 0, none⟩) n.policy.toList m.policy.toList 32 32 32 32 (by simp) (by simp)) Try.func58 (h := ?_)
  rintro _ _ (⟨rfl, rfl⟩)
  refine ⟨cov_of (by repeat (first | exact trivial | refine ⟨rfl, ?_⟩)), ?_⟩
  refine v_callS rfl 20700 [] (cmpStr_spec n.name m.name) Try.func59 (h := ?_)
  rintro _ _ (⟨rfl, rfl⟩)
  refine ⟨cov_of (by repeat (first | exact trivial | refine ⟨rfl, ?_⟩)), ?_⟩
  refine s_do rfl (d_bslice [_, _]) (fun B15 => ?_)
  refine v_callS rfl 20800 [] (cmpOr_spec B15 [bcmp n.policy.toList m.policy.toList, bcmp n.name.data.toList m.name.data.toList] 2 (by simp)) Try.func57 (h := ?_)
  rintro _ _ (⟨rfl, rfl⟩)
  refine ⟨cov_of (by repeat (first | exact trivial | refine ⟨rfl, ?_⟩)), ?_⟩
  refine v_sch [] (hk := ?_)
  refine v_ret rfl [] (.cons (.tmp rfl) .nil) (h := ?_)
  refine ⟨?_, rfl⟩
  unfold nord
  by_cases h1 : bcmp n.policy.toList m.policy.toList = 0
  · by_cases h2 : bcmp n.name.data.toList m.name.data.toList = 0
    · simp [h1, h2]; rfl
    · simp [h1, h2]; rfl
  · simp [h1]; rfl
theorem nameof_spec (x : AssetP) : CSpec Try.prog 33 [.agg [.hash x.policy, .one (.s x.name), .one (.i .i64 x.amount)]] [] [] fun o L => o = .ret (.s (.agg [.hash x.policy, .one (.s x.name)])) ∧ L = [] := by
  refine v_enter Try.func33 (h := fun w0 => ?_)
  refine v_code [] (hk := ?_)
  refine l_do d_box (fun g1 => ?_)
  refine l_do d_alloc (fun g2 => ?_)
  refine v_ops [] (hk := ?_)
  refine v_ret rfl [] (.cons (.cell inferInstance rfl rfl rfl rfl) .nil) (h := ?_)
  exact ⟨rfl, rfl⟩
end Go.Proofs.Ytlnckcgbpilmdaa
/- Bundles: rising, right, how much there is. -/

set_option linter.unusedVariables false
set_option linter.unusedSimpArgs false
set_option maxRecDepth 100000
namespace Go.Proofs.Ytlnckcgbpilmdaa
open Go Go.RowKit HL
instance {α : Type} {key : α → NameP} {l : List α} : Decidable (Rise key l) := by unfold Rise; infer_instance
def Rising (l : List AssetP) : Prop := (∀ x ∈ l, x.name.size ≤ 32) ∧ Rise AssetP.key l ∧ l.length ≤ 30
instance {l : List AssetP} : Decidable (Rising l) := by unfold Rising; infer_instance
theorem rise_snoc {α : Type} {key : α → NameP} {l : List α} {x : α} : Rise key (l ++ [x]) ↔ Rise key l ∧ ∀ y ∈ l, nord (key y) (key x) < 0 := by
  unfold Rise
  rw [List.pairwise_append]
  constructor
  · rintro ⟨h1, _, h3⟩
    exact ⟨h1, fun y hy => h3 y hy x (List.mem_singleton.2 rfl)⟩
  · rintro ⟨h1, h2⟩
    exact ⟨h1, List.pairwise_singleton .., fun y hy z hz => by rw [List.mem_singleton.1 hz]; exact h2 y hy⟩
theorem rise_step {α : Type} {key : α → NameP} {l : List α} {k : Nat} {d : α} (hk : k < l.length) (h : Rise key (l.take k)) (h1 : 0 < k → nord (key (l.getD (k - 1) d)) (key (l.getD k d)) < 0) : Rise key (l.take (k + 1)) := by
  rw [take_getD (d := d) hk]
  refine rise_snoc.2 ⟨h, fun y hy => ?_⟩
  cases k with
  | zero => simp at hy
  | succ k =>
    have h1 := h1 (by omega)
    simp only [Nat.add_sub_cancel] at h1
    rw [take_getD (d := d) (by omega)] at h hy
    rcases List.mem_append.1 hy with hy | hy
    · exact nord_trans ((rise_snoc.1 h).2 y hy) h1
    · rw [List.mem_singleton.1 hy]
      exact h1
theorem rise_not {α : Type} {key : α → NameP} {l : List α} {k : Nat} {d : α} (hk : k < l.length) (h0 : 0 < k) (h1 : ¬ nord (key (l.getD (k - 1) d)) (key (l.getD k d)) < 0) : ¬ Rise key l := fun h => by
  have := (List.pairwise_iff_getElem.1 h) (k - 1) k (by omega) hk (by omega)
  rw [List.getD_eq_getElem?_getD, List.getD_eq_getElem?_getD, List.getElem?_eq_getElem hk, List.getElem?_eq_getElem (by omega)] at h1
  exact h1 this
theorem outB {b c : Bool} (h : b = c) : Out.ret (vb b) = Out.ret (vb c) := by rw [h]
def unrising (l : List AssetP) (k : Nat) : Bool := decide (32 < (l.getD k asset0).name.size) || decide (0 < k) && decide (((0 : Nat) : Int) ≤ nord (l.getD ((k : Int) - ((1 : Nat) : Int)).toNat asset0).key (l.getD k asset0).key)
theorem rising_more {l : List AssetP} {k : Nat} (h : unrising l k = false) : (l.getD k asset0).name.size ≤ 32 ∧ (0 < k → nord (l.getD (k - 1) asset0).key (l.getD k asset0).key < 0) := by
  have e : ((k : Int) - ((1 : Nat) : Int)).toNat = k - 1 := by omega
  unfold unrising at h
  rw [e] at h
  simp only [Bool.or_eq_false_iff, Bool.and_eq_false_imp, decide_eq_false_iff_not, decide_eq_true_eq] at h
  exact ⟨by omega, fun h0 => by have := h.2 h0; omega⟩
theorem rising_less {l : List AssetP} {k : Nat} (hk : k < l.length) (h : unrising l k = true) : ¬ Rising l := by
  have e : ((k : Int) - ((1 : Nat) : Int)).toNat = k - 1 := by omega
  unfold unrising at h
  rw [e] at h
  simp only [Bool.or_eq_true, Bool.and_eq_true, decide_eq_true_eq] at h
  rintro ⟨h1, h2, h3⟩
  rcases h with h | ⟨h0, h⟩
  · have := h1 _ (getD_mem (d := asset0) hk)
    omega
  · exact rise_not (d := asset0) hk h0 (by omega) h2
theorem rising_spec (A : Option Addr) (l : List AssetP) (c : Nat) (hl : l.length ≤ 1048576) : CSpec Try.prog 27 [.one (.sl 0 A l.length c)] [(0, Res.rd A assetEn l)] [] fun o L => o = .ret (vb (decide (Rising l))) ∧ L = [] := by
  refine v_enter Try.func27 (h := fun w0 => ?_)
  refine v_code [] (hk := ?_)
  refine v_loop (fun m E H => ∃ (k : Nat), E = [(7, vn k)] ∧ H = [] ∧ m = l.length - k ∧ k ≤ l.length ∧ (∀ x ∈ l.take k, x.name.size ≤ 32) ∧ (Rise AssetP.key (l.take k))) [0, 5, 6, 33, 34, 35] (l.length) ([(7, vn 0)]) ([]) (h0 := ⟨0, rfl, rfl, by omega, by omega, by simp, List.Pairwise.nil⟩) (hr := ?_)
  rintro _ _ _ ⟨k, rfl, rfl, hmk, hk, hik0, hik1⟩
  refine v_code [] (hk := ?_)
  first | refine c_ifd rfl (fun h8 => ?_) (fun h8 => ?_) | refine c_ifn rfl (fun h8 => ?_) (fun h8 => ?_) | refine c_if rfl (fun h8 => ?_) (fun h8 => ?_)
  · refine v_code [] (hk := ?_)
    refine l_do d_alloc (fun g4 => ?_)
    refine v_ops [] (hk := ?_)
    refine v_draw (.q 0 (.q 1 (.q 2 (.q 3 (.q 4 (.q 5 (.q 6 (.q 7 (.q 8 (.q 9 (.q 10 (.q 11 (.q 12 (.q 14 (.s 13 (.s 15 (.s 16 (.q 17 (.q 18 (.q 19 .nil)))))))))))))))))))) [10006, 10004, 10014, 21250, 21251, 21252, 21253, 21350, 21351, 21352, 21353, 21400, 21401, 21402, 21403, 10034] (hm := by kernel_rfl) (hs := by kernel_rfl) (hk := by kernel_rfl) (h := ?_)
    refine v_sch [] (hk := ?_)
    refine s_callG rfl [] [24] ⟨_, _, ⟨_, .inl ⟨rfl, rfl⟩⟩, rfl, rfl⟩ (fun hg => nameof_spec (l.getD ((k : Int) - ((1 : Nat) : Int)).toNat asset0)) Try.func33 (h := ?_)
    refine s_callG rfl [] [26] ⟨_, _, ⟨_, .inl ⟨rfl, rfl⟩⟩, rfl, rfl⟩ (fun hg => nameof_spec (l.getD k asset0)) Try.func33 (h := ?_)
    refine s_callG rfl [] [25, 27] ⟨_, _, ⟨_, .inl ⟨rfl, rfl⟩⟩, ⟨_, _, ⟨_, .inl ⟨rfl, rfl⟩⟩, rfl, rfl⟩, rfl⟩ (fun hg => order_spec (l.getD ((k : Int) - ((1 : Nat) : Int)).toNat asset0).key (l.getD k asset0).key) Try.func49 (h := ?_)
    refine v_sch [] (hk := ?_)
    first | refine c_ifd rfl (fun h31 => ?_) (fun h31 => ?_) | refine c_ifn rfl (fun h31 => ?_) (fun h31 => ?_) | refine c_if rfl (fun h31 => ?_) (fun h31 => ?_)
    · refine v_code [] (hk := ?_)
      refine v_ret rfl [] (.cons (.tmp rfl) .nil) (h := ?_)
      exact ⟨outB (decide_eq_false (rising_less h8 h31)).symm, rfl⟩
    · refine v_code [] (hk := ?_)
      refine v_again (l.length - (k + 1)) ⟨k + 1, rfl, rfl, by omega, by omega, (all_takeD hik0 h8 (rising_more h31).1), (rise_step h8 hik1 (rising_more h31).2)⟩
  · refine v_code [] (hk := ?_)
    refine v_ret rfl [] (.cons (.tmp rfl) .nil) (h := ?_)
    rw [take_all' h8] at hik0 hik1
    exact ⟨outB (decide_eq_decide.2 ⟨fun h => ⟨hik0, hik1, h⟩, fun h => h.2.2⟩), rfl⟩
theorem right1_spec (x : AssetP) : CSpec Try.prog 29 [.agg [.hash x.policy, .one (.s x.name), .one (.i .i64 x.amount)]] [] [] fun o L => o = .ret (vb (decide (x.amount < 1))) ∧ L = [] := by
  refine v_enter Try.func29 (h := fun w0 => ?_)
  refine v_code [] (hk := ?_)
  refine l_do d_box (fun g1 => ?_)
  refine v_ops [] (hk := ?_)
  refine v_ret rfl [] (.cons (.tmp rfl) .nil) (h := ?_)
  exact ⟨rfl, rfl⟩
theorem index1_spec (A : Option Addr) (l : List AssetP) (c : Nat) (hl : l.length ≤ 1048576) : CSpec Try.prog 34 [.one (.sl 0 A l.length c), .one (.fn 29 [] [])] [(0, Res.rd A assetEn l)] [] fun o L => (∃ k : Nat, k < l.length ∧ (l.getD k asset0).amount < 1 ∧ o = .ret (vint k) ∧ L = []) ∨ (∀ x ∈ l, ¬ x.amount < 1) ∧ o = .ret (vint (-1)) ∧ L = [] := by
  refine v_enter Try.func34 (h := fun w0 => ?_)
  refine v_code [] (hk := ?_)
  refine v_loop (fun m E H => ∃ (k : Nat), E = [(8, vn k)] ∧ H = [] ∧ m = l.length - k ∧ k ≤ l.length ∧ (∀ x ∈ l.take k, ¬ x.amount < 1)) [0, 1, 7] (l.length) ([(8, vn 0)]) ([]) (h0 := ⟨0, rfl, rfl, by omega, by omega, by simp⟩) (hr := ?_)
  rintro _ _ _ ⟨k, rfl, rfl, hmk, hk, hik0⟩
  refine v_code [] (hk := ?_)
  first | refine c_ifd rfl (fun h9 => ?_) (fun h9 => ?_) | refine c_ifn rfl (fun h9 => ?_) (fun h9 => ?_) | refine c_if rfl (fun h9 => ?_) (fun h9 => ?_)
  · refine v_code [] (hk := ?_)
    refine v_call 20800 [] (right1_spec (l.getD k asset0)) Try.func29 (h := ?_)
    rintro _ _ (⟨rfl, rfl⟩)
    refine v_ops [] (hk := ?_)
    first | refine c_ifd rfl (fun h16 => ?_) (fun h16 => ?_) | refine c_ifn rfl (fun h16 => ?_) (fun h16 => ?_) | refine c_if rfl (fun h16 => ?_) (fun h16 => ?_)
    · refine v_code [] (hk := ?_)
      refine v_ret rfl [] (.cons (.tmp rfl) .nil) (h := ?_)
      exact .inl ⟨k, h9, h16, rfl, rfl⟩
    · refine v_code [] (hk := ?_)
      refine v_again (l.length - (k + 1)) ⟨k + 1, rfl, rfl, by omega, by omega, (all_takeD hik0 h9 h16)⟩
  · refine v_code [] (hk := ?_)
    refine v_ret rfl [] (.cons (.tmp rfl) .nil) (h := ?_)
    rw [take_all' h9] at hik0
    exact .inr ⟨hik0, rfl, rfl⟩
theorem contains1_spec (A : Option Addr) (l : List AssetP) (c : Nat) (hl : l.length ≤ 1048576) : CSpec Try.prog 28 [.one (.sl 0 A l.length c), .one (.fn 29 [] [])] [(0, Res.rd A assetEn l)] [] fun o L => o = .ret (vb (l.any fun x => decide (x.amount < 1))) ∧ L = [] := by
  refine v_enter Try.func28 (h := fun w0 => ?_)
  refine v_code [] (hk := ?_)
  refine v_call 20350 [] (index1_spec A l c hl) Try.func34 (h := ?_)
  rintro _ _ (⟨k, hk, hx, rfl, rfl⟩ | ⟨hno, rfl, rfl⟩)
  · refine v_ops [] (hk := ?_)
    refine v_ret rfl [] (.cons (.tmp rfl) .nil) (h := ?_)
    refine ⟨outB ?_, rfl⟩
    rw [List.any_eq_true.2 ⟨_, getD_mem hk, decide_eq_true hx⟩]
    exact decide_eq_true (by omega)
  · refine v_ops [] (hk := ?_)
    refine v_ret rfl [] (.cons (.tmp rfl) .nil) (h := ?_)
    refine ⟨outB ?_, rfl⟩
    rw [List.any_eq_false.2 fun x hx => by simpa using hno x hx]
    rfl
def RightV (coin : Int) (l : List AssetP) : Prop := 0 ≤ coin ∧ Rising l ∧ ∀ x ∈ l, 1 ≤ x.amount
instance {coin : Int} {l : List AssetP} : Decidable (RightV coin l) := by unfold RightV; infer_instance
theorem right_spec (coin : Int) (A : Option Addr) (l : List AssetP) (c : Nat) (hl : l.length ≤ 1048576) : CSpec Try.prog 9 [.agg [.one (.i .i64 coin), .one (.sl 101 A l.length c)]] [(101, Res.rd A assetEn l)] [] fun o L => o = .ret (vb (decide (RightV coin l))) ∧ L = [] := by
  refine v_enter Try.func9 (h := fun w0 => ?_)
  refine v_code [] (hk := ?_)
  refine l_do d_box (fun g1 => ?_)
  refine v_ops [] (hk := ?_)
  refine l_callG [] [8] ⟨_, _, ⟨_, .inl ⟨rfl, rfl⟩⟩, rfl, rfl⟩ (fun hg => rising_spec A l c hl) Try.func27 (h := ?_)
  refine v_ops [] (hk := ?_)
  refine l_callG [] [13] ⟨_, _, ⟨_, .inl ⟨rfl, rfl⟩⟩, rfl, rfl⟩ (fun hg => contains1_spec A l c hl) Try.func28 (h := ?_)
  refine v_ops [] (hk := ?_)
  refine v_ret rfl [] (.cons (.tmp rfl) .nil) (h := ?_)
  refine ⟨outB ?_, rfl⟩
  rw [Bool.eq_iff_iff, decide_eq_true_iff]
  simp only [Bool.and_eq_true, decide_eq_true_eq, Bool.not_eq_true', List.any_eq_false]
  unfold RightV
  exact ⟨fun h => ⟨by have := h.1.1; omega, h.1.2, fun x hx => by have := h.2 x hx; omega⟩, fun h => ⟨⟨by have := h.1; omega, h.2.1⟩, fun x hx => by have := h.2.2 x hx; omega⟩⟩
end Go.Proofs.Ytlnckcgbpilmdaa
/- Bundles: how much there is of an asset; the same; how great. -/

set_option linter.unusedVariables false
set_option linter.unusedSimpArgs false
set_option maxRecDepth 100000
namespace Go.Proofs.Ytlnckcgbpilmdaa
open Go Go.RowKit HL
theorem fits_i64 (T : TypeId) {bytes : Nat} {z : SV} [TyA Try.prog T false 1 z bytes] (b : Int) : Fits Try.prog T (.int .i64 b) := fits_sv (P := Try.prog) (T := T) (v := .one (.i .i64 b)) rfl rfl
theorem fits_str (T : TypeId) {bytes : Nat} {z : SV} [TyA Try.prog T false 1 z bytes] (b : ByteArray) : Fits Try.prog T (.string b) := fits_sv (P := Try.prog) (T := T) (v := .one (.s b)) rfl rfl
theorem fits_hash (h : Hash) : Fits Try.prog 26 (hval h) := fits_sv (P := Try.prog) (T := 26) (v := .agg [.hash h]) rfl rfl
theorem ba_beq (x y : ByteArray) : (x == y) = decide (x = y) := by
  cases x with
  | mk a => cases y with
    | mk b =>
      show (a == b) = _
      by_cases h : a = b
      · subst h; simp
      · rw [decide_eq_false (fun e => h (by injection e))]
        simpa using h
theorem eqTy_str {T : TypeId} (hu : Try.prog.underlying T = some .string) : EqTy Try.prog T Value.string 1 where
  eq d hd x y w := by
    obtain ⟨d, rfl⟩ : ∃ m, d = m + 1 := ⟨d - 1, by omega⟩
    simp only [Op.equalIn, Sem.run_bind, run_underlying hu, Result.andThen_ok, Sem.run_pure]
    congr 1
    exact ba_beq x y
  chk d hd em x w := by
    obtain ⟨d, rfl⟩ : ∃ m, d = m + 1 := ⟨d - 1, by omega⟩
    rw [Instr.checkKey]
    simp [Sem.run_bind, run_underlying hu, Result.andThen_ok]
instance eqE_asset : EqE Try.prog 54 assetEn := ⟨⟨3, by omega, eqV_struct
    [⟨Hash, inferInstance, hval, 2, AssetP.policy, 26, 32, (HashT.key (P := Try.prog) (T := 26)).eq.v, fits_hash, size_hval⟩, ⟨ByteArray, inferInstance, Value.string, 1, AssetP.name, 9, 1, (eqTy_str (UD.is (P := Try.prog) (T := 9))).v, fits_str _, fun _ => rfl⟩,
      ⟨Int, inferInstance, Value.int .i64, 1, AssetP.amount, 2, 1, (eqTy_int (UD.is (P := Try.prog) (T := 2))).v, fits_i64 _, fun _ => rfl⟩]
    Try.underlying54 (by kernel_rfl) (by kernel_rfl) (by kernel_rfl) (by intro F hF; simp at hF; rcases hF with rfl | rfl | rfl <;> simp) (fun x => SV.den_agg _) (fun x y => by cases x; cases y; simp [FE.same, Bool.decide_and])⟩, by kernel_rfl, rfl⟩
instance eqE_name : EqE Try.prog 72 nameEn := ⟨⟨3, by omega, eqV_struct
    [⟨Hash, inferInstance, hval, 2, NameP.policy, 26, 32, (HashT.key (P := Try.prog) (T := 26)).eq.v, fits_hash, size_hval⟩, ⟨ByteArray, inferInstance, Value.string, 1, NameP.name, 9, 1, (eqTy_str (UD.is (P := Try.prog) (T := 9))).v, fits_str _, fun _ => rfl⟩]
    Try.underlying72 (by kernel_rfl) (by kernel_rfl) (by kernel_rfl) (by intro F hF; simp at hF; rcases hF with rfl | rfl <;> simp) (fun x => SV.den_agg _) (fun x y => by cases x; cases y; simp [FE.same, Bool.decide_and])⟩, by kernel_rfl, rfl⟩
theorem sameAssets_spec (A B : Option Addr) (l l2 : List AssetP) (c d : Nat) (hl : l.length ≤ 1048576) : CSpec Try.prog 26 [.one (.sl 0 A l.length c), .one (.sl 1 B l2.length d)] [(0, Res.rd A assetEn l), (1, Res.rd B assetEn l2)] [] fun o L => o = .ret (vb (decide (l = l2))) ∧ L = [] := by
  refine v_enter Try.func26 (h := fun w0 => ?_)
  refine v_code [] (hk := ?_)
  first | refine c_ifd rfl (fun h10 => ?_) (fun h10 => ?_) | refine c_ifn rfl (fun h10 => ?_) (fun h10 => ?_) | refine c_if rfl (fun h10 => ?_) (fun h10 => ?_)
  · refine v_code [] (hk := ?_)
    refine v_ret rfl [] (.cons (.tmp rfl) .nil) (h := ?_)
    exact ⟨outB (decide_eq_false (fun e => h10 (by rw [e]))).symm, rfl⟩
  · refine v_code [] (hk := ?_)
    refine v_loop (fun m E H => ∃ (k : Nat), E = [(5, vn k)] ∧ H = [] ∧ m = l.length - k ∧ k ≤ l.length ∧ (l.take k = l2.take k)) [0, 1] (l.length) ([(5, vn 0)]) ([]) (h0 := ⟨0, rfl, rfl, by omega, by omega, rfl⟩) (hr := ?_)
    rintro _ _ _ ⟨k, rfl, rfl, hmk, hk, hik0⟩
    refine v_code [] (hk := ?_)
    first | refine c_ifd rfl (fun h14 => ?_) (fun h14 => ?_) | refine c_ifn rfl (fun h14 => ?_) (fun h14 => ?_) | refine c_if rfl (fun h14 => ?_) (fun h14 => ?_)
    · refine v_code [] (hk := ?_)
      refine v_draw (.q 0 (.q 1 (.q 2 (.q 3 (.q 4 (.q 5 (.q 6 (.q 7 (.q 8 .nil))))))))) [10007, 10009, 10013] (hm := by kernel_rfl) (hs := by kernel_rfl) (hk := by kernel_rfl) (h := ?_)
      refine v_sch [] (hk := ?_)
      refine q_rd rfl (r_neSt (u := l.getD k asset0) (v := l2.getD k asset0)) ?_
      refine v_sch [] (hk := ?_)
      first | refine c_ifd rfl (fun h25 => ?_) (fun h25 => ?_) | refine c_ifn rfl (fun h25 => ?_) (fun h25 => ?_) | refine c_if rfl (fun h25 => ?_) (fun h25 => ?_)
      · refine v_code [] (hk := ?_)
        refine v_ret rfl [] (.cons (.tmp rfl) .nil) (h := ?_)
        exact ⟨outB (decide_eq_false (fun e => h25 (by rw [e]))).symm, rfl⟩
      · refine v_code [] (hk := ?_)
        refine v_again (l.length - (k + 1)) ⟨k + 1, rfl, rfl, by omega, by omega, by rw [take_getD (d := asset0) h14, take_getD (d := asset0) (by omega), hik0, h25]⟩
    · refine v_code [] (hk := ?_)
      refine v_ret rfl [] (.cons (.tmp rfl) .nil) (h := ?_)
      rw [take_all' h14, take_all' (by omega)] at hik0
      exact ⟨outB (decide_eq_true hik0).symm, rfl⟩
theorem sameValue_spec (a b : ValueM) (hl : a.assets.length ≤ 1048576) : CSpec Try.prog 8 [.agg [.one (.i .i64 a.coin), .one (.sl 101 a.A a.assets.length a.c)], .agg [.one (.i .i64 b.coin), .one (.sl 201 b.A b.assets.length b.c)]] [(101, Res.rd a.A assetEn a.assets), (201, Res.rd b.A assetEn b.assets)] [] fun o L => o = .ret (vb (decide (a.coin = b.coin ∧ a.assets = b.assets))) ∧ L = [] := by
  refine v_enter Try.func8 (h := fun w0 => ?_)
  refine v_code [] (hk := ?_)
  refine l_do d_box (fun g2 => ?_)
  refine l_do d_box (fun g3 => ?_)
  refine v_ops [] (hk := ?_)
  refine l_callG [] [12, 14] ⟨_, _, ⟨_, .inl ⟨rfl, rfl⟩⟩, ⟨_, _, ⟨_, .inl ⟨rfl, rfl⟩⟩, rfl, rfl⟩, rfl⟩ (fun hg => sameAssets_spec a.A b.A a.assets b.assets a.c b.c hl) Try.func26 (h := ?_)
  refine v_ops [] (hk := ?_)
  refine v_ret rfl [] (.cons (.tmp rfl) .nil) (h := ?_)
  exact ⟨outB (by rw [Bool.decide_and]), rfl⟩
def amt (l : List AssetP) (n : NameP) : Int := ((atN AssetP.key l n).map AssetP.amount).getD 0
end Go.Proofs.Ytlnckcgbpilmdaa
/- Bundles: copies; how great. -/

set_option linter.unusedVariables false
set_option linter.unusedSimpArgs false
set_option maxRecDepth 100000
namespace Go.Proofs.Ytlnckcgbpilmdaa
open Go Go.RowKit HL
theorem copyAssets_spec (A : Option Addr) (l : List AssetP) (c : Nat) (hl : l.length ≤ 1048576) : CSpec Try.prog 53 [.one (.sl 0 A l.length c)] [(0, Res.rd A assetEn l)] [] fun o L => ∃ B d, o = .ret (vsl 0 B l.length d) ∧ L = [Res.rows B d 54 assetEn l] := by
  refine v_enter Try.func53 (h := fun w0 => ?_)
  refine v_code [] (hk := ?_)
  refine l_do d_append0 (fun p6 => ?_)
  refine v_ops [] (hk := ?_)
  refine k_ret [10006] (vsl 0 p6.1 l.length p6.2) (.cons (.tmp rfl) .nil) (h := ?_)
  exact ⟨p6.1, p6.2, rfl, rfl⟩
theorem copyValue_spec (v : ValueM) (hl : v.assets.length ≤ 1048576) : CSpec Try.prog 43 [.agg [.one (.i .i64 v.coin), .one (.sl 101 v.A v.assets.length v.c)]] [(101, Res.rd v.A assetEn v.assets)] [] fun o L => ∃ B d, o = .ret (.s (.agg [.one (.i .i64 v.coin), .one (.sl 0 B v.assets.length d)])) ∧ L = [Res.rows B d 54 assetEn v.assets] := by
  refine v_enter Try.func43 (h := fun w0 => ?_)
  refine v_code [] (hk := ?_)
  refine l_do d_box (fun g1 => ?_)
  refine l_do d_alloc (fun g2 => ?_)
  refine v_ops [] (hk := ?_)
  refine v_call 20250 [] (copyAssets_spec v.A v.assets v.c hl) Try.func53 (h := ?_)
  rintro _ _ (⟨B, d, rfl, rfl⟩)
  refine v_ops [] (hk := ?_)
  refine k_ret [20250] (.s (.agg [.one (.i .i64 v.coin), .one (.sl 0 B v.assets.length d)])) (.cons (.cell inferInstance rfl rfl rfl rfl) .nil) (h := ?_)
  exact ⟨B, d, rfl, rfl⟩
def Short (l : List AssetP) : Prop := ∀ x ∈ l, x.name.size ≤ 1048576
theorem assetsOf_spec (A : Option Addr) (l : List AssetP) (c most : Nat) (hl : l.length ≤ 1048576) (hs : Short l) (hm : most ≤ 1048576) : CSpec Try.prog 54 [.one (.sl 0 A l.length c), .one (.i .i64 most)] [(0, Res.rd A assetEn l)] [] fun o L => ∃ n : Nat, o = .ret (vint n) ∧ n ≤ 2097152 ∧ (n ≤ most → l.length ≤ n) ∧ L = [] := by
  refine v_enter Try.func54 (h := fun w0 => ?_)
  refine v_code [] (hk := ?_)
  refine v_loop (fun m E H => ∃ (k : Nat) (n : Nat), E = [(6, vn k), (5, vn n)] ∧ H = [] ∧ m = l.length - k ∧ k ≤ l.length ∧ (n ≤ 2097152) ∧ (k ≤ n)) [0, 1, 4, 28] (l.length) ([(6, vn 0), (5, vn (0))]) ([]) (h0 := ⟨0, 0, rfl, rfl, by omega, by omega, by omega, by omega⟩) (hr := ?_)
  rintro _ _ _ ⟨k, n, rfl, rfl, hmk, hk, hik0, hik1⟩
  refine v_code [] (hk := ?_)
  first | refine c_ifd rfl (fun h15 => ?_) (fun h15 => ?_) | refine c_ifn rfl (fun h15 => ?_) (fun h15 => ?_) | refine c_if rfl (fun h15 => ?_) (fun h15 => ?_)
  · simp only [Bool.and_eq_true, decide_eq_true_eq] at h15
    have hsz := hs _ (getD_mem (d := asset0) h15.1)
    refine v_code [] (hk := ?_)
    refine v_again (l.length - (k + 1)) ⟨k + 1, n + 1 + (l.getD k asset0).name.size / 16, rfl, rfl, by omega, by omega, by omega, by omega⟩
  · simp only [Bool.and_eq_false_imp, decide_eq_true_eq, decide_eq_false_iff_not] at h15
    refine v_code [] (hk := ?_)
    refine v_ret rfl [] (.cons (.tmp rfl) .nil) (h := ?_)
    refine ⟨n, rfl, hik0, fun h => ?_, rfl⟩
    by_cases hkk : k < l.length
    · have := h15 hkk; omega
    · omega
theorem valueOf_spec (v : ValueM) (most : Nat) (hl : v.assets.length ≤ 1048576) (hs : Short v.assets) (hm : most ≤ 1048576) : CSpec Try.prog 44 [.agg [.one (.i .i64 v.coin), .one (.sl 101 v.A v.assets.length v.c)], .one (.i .i64 most)] [(101, Res.rd v.A assetEn v.assets)] [] fun o L => ∃ n : Nat, o = .ret (vint n) ∧ n ≤ 2097153 ∧ (n ≤ most → v.assets.length + 1 ≤ n) ∧ 1 ≤ n ∧ L = [] := by
  refine v_enter Try.func44 (h := fun w0 => ?_)
  refine v_code [] (hk := ?_)
  refine l_do d_box (fun g2 => ?_)
  refine v_ops [] (hk := ?_)
  refine v_call 20400 [] (assetsOf_spec v.A v.assets v.c most hl hs hm) Try.func54 (h := ?_)
  rintro _ _ (⟨n, rfl, hn, hn2, rfl⟩)
  refine v_ops [] (hk := ?_)
  refine v_ret rfl [] (.cons (.tmp rfl) .nil) (h := ?_)
  exact ⟨1 + n, rfl, by omega, fun h => by have := hn2 (by omega); omega, by omega, rfl⟩
def Shorts (l : List ValueM) : Prop := ∀ v ∈ l, v.assets.length ≤ 1048576 ∧ Short v.assets
theorem valuesOf_spec (A : Option Addr) (l : List ValueM) (c most : Nat) (hl : l.length ≤ 1048576) (hs : Shorts l) (hm : most ≤ 1048576) : CSpec Try.prog 21 [.one (.sl 0 A l.length c), .one (.i .i64 most)] [(0, rdValues A l)] [] fun o L => ∃ n : Nat, o = .ret (vint n) ∧ n ≤ 4194304 ∧ (n ≤ most → l.length ≤ n ∧ ∀ v ∈ l, v.assets.length ≤ most) ∧ L = [] := by
  refine v_enter Try.func21 (h := fun w0 => ?_)
  refine v_code [] (hk := ?_)
  refine v_loop (fun m E H => ∃ (k : Nat) (n : Nat), E = [(6, vn k), (5, vn n)] ∧ H = [] ∧ m = l.length - k ∧ k ≤ l.length ∧ (n ≤ 4194304) ∧ (k ≤ n) ∧ (n ≤ most → ∀ v ∈ l.take k, v.assets.length ≤ most)) [0, 1, 4, 26] (l.length) ([(6, vn 0), (5, vn (0))]) ([]) (h0 := ⟨0, 0, rfl, rfl, by omega, by omega, by omega, by omega, by simp⟩) (hr := ?_)
  rintro _ _ _ ⟨k, n, rfl, rfl, hmk, hk, hik0, hik1, hik2⟩
  refine v_code [] (hk := ?_)
  first | refine c_ifd rfl (fun h15 => ?_) (fun h15 => ?_) | refine c_ifn rfl (fun h15 => ?_) (fun h15 => ?_) | refine c_if rfl (fun h15 => ?_) (fun h15 => ?_)
  · simp only [Bool.and_eq_true, decide_eq_true_eq] at h15
    have hsz := hs _ (getD_mem (d := value0) h15.1)
    refine v_code [] (hk := ?_)
    refine v_call 21200 [] (valueOf_spec (l.getD k value0) most hsz.1 hsz.2 hm) Try.func44 (h := ?_)
    rintro _ _ (⟨x, rfl, hx, hx2, hx3, rfl⟩)
    refine v_ops [] (hk := ?_)
    refine v_again (l.length - (k + 1)) ⟨k + 1, n + x, rfl, rfl, by omega, by omega, by omega, by omega, fun h => all_takeD (d := value0) (hik2 (by omega)) h15.1 (by have := hx2 (by omega); omega)⟩
  · simp only [Bool.and_eq_false_imp, decide_eq_true_eq, decide_eq_false_iff_not] at h15
    refine v_code [] (hk := ?_)
    refine v_ret rfl [] (.cons (.tmp rfl) .nil) (h := ?_)
    refine ⟨n, rfl, hik0, fun h => ?_, rfl⟩
    by_cases hkk : k < l.length
    · have := h15 hkk; omega
    · rw [take_all' hkk] at hik2
      exact ⟨by omega, hik2 h⟩
end Go.Proofs.Ytlnckcgbpilmdaa
/- Bundles: more than are gone through; sums of two; what is thrown. -/


set_option linter.unusedVariables false
set_option linter.unusedSimpArgs false
set_option maxRecDepth 100000
namespace Go.Proofs.Ytlnckcgbpilmdaa
open Go Go.RowKit HL
structure SlV where
  A : Option Addr
  c : Nat
  l : List ValueM
def slv0 : SlV := ⟨none, 0, []⟩
instance : Df SlV slv0 := ⟨⟩
def slvEn : En SlV := ⟨fun v => .one (.sl 0 v.A v.l.length v.c), false, 1, fun _ => ⟨rfl, rfl⟩, by decide⟩
def slvS (v : SlV) (_ : Nat) : RS := .rdn value0 v.A valueEn v.l 1 valueS
instance : ElT Try.prog 29 slvEn := ⟨⟩
theorem great_spec (A : Option Addr) (l : List SlV) (c : Nat) (hl : l.length ≤ 1048576) (hs : ∀ x ∈ l, x.l.length ≤ 1048576 ∧ Shorts x.l) : CSpec Try.prog 6 [.one (.sl 0 A l.length c)] [(0, (RS.rdn slv0 A slvEn l 1 slvS).den)] [] fun o L => ∃ b : Bool, o = .ret (vb b) ∧ (b = false → ∀ x ∈ l, x.l.length ≤ 200 ∧ ∀ v ∈ x.l, v.assets.length ≤ 200) ∧ L = [] := by
  refine v_enter Try.func6 (h := fun w0 => ?_)
  refine v_code [] (hk := ?_)
  refine v_loop (fun m E H => ∃ (k : Nat) (n : Nat), E = [(4, vn k), (3, vn n)] ∧ H = [] ∧ m = l.length - k ∧ k ≤ l.length ∧ (n ≤ 4194304 * k) ∧ (n ≤ 200 → ∀ x ∈ l.take k, x.l.length ≤ 200 ∧ ∀ v ∈ x.l, v.assets.length ≤ 200)) [0, 2, 18, 19] (l.length) ([(4, vn 0), (3, vn (0))]) ([]) (h0 := ⟨0, 0, rfl, rfl, by omega, by omega, by omega, by simp⟩) (hr := ?_)
  rintro _ _ _ ⟨k, n, rfl, rfl, hmk, hk, hik0, hik1⟩
  refine v_code [] (hk := ?_)
  first | refine c_ifd rfl (fun h8 => ?_) (fun h8 => ?_) | refine c_ifn rfl (fun h8 => ?_) (fun h8 => ?_) | refine c_if rfl (fun h8 => ?_) (fun h8 => ?_)
  · have hsz := hs _ (getD_mem (d := slv0) h8)
    refine v_code [] (hk := ?_)
    refine v_call 20800 [] (valuesOf_spec (l.getD k slv0).A (l.getD k slv0).l (l.getD k slv0).c 200 hsz.1 hsz.2 (by omega)) Try.func21 (h := ?_)
    rintro _ _ (⟨x, rfl, hx, hx2, rfl⟩)
    refine v_ops [] (hk := ?_)
    refine v_again (l.length - (k + 1)) ⟨k + 1, n + x, rfl, rfl, by omega, by omega, by omega, fun h => all_takeD (d := slv0) (hik1 (by omega)) h8 (by obtain ⟨q1, q2⟩ := hx2 (by omega); exact ⟨by omega, q2⟩)⟩
  · refine v_code [] (hk := ?_)
    refine v_ret rfl [] (.cons (.tmp rfl) .nil) (h := ?_)
    exact ⟨_, rfl, fun h => by simp only [decide_eq_false_iff_not] at h; rw [take_all' h8] at hik1; exact hik1 (by omega), rfl⟩
abbrev thrown : List PanicEntry := [{ v := .iface 86 (SV.agg []).den, recovered := false }]
instance : NoI Try.prog 86 := ⟨by kernel_rfl⟩
theorem must_spec (b : Bool) : CSpec Try.prog 31 [.one (.b b)] [] [] fun o L => (b = true ∧ o = .ret (.tup []) ∧ L = []) ∨ (b = false ∧ o = .pan thrown ∧ L = []) := by
  refine v_enter Try.func31 (h := fun w0 => ?_)
  refine v_code [] (hk := ?_)
  first | refine c_ifd rfl (fun h3 => ?_) (fun h3 => ?_) | refine c_ifn rfl (fun h3 => ?_) (fun h3 => ?_) | refine c_if rfl (fun h3 => ?_) (fun h3 => ?_)
  · refine v_code [] (hk := ?_)
    refine l_rd r_iface ?_
    refine l_panic (h := ?_)
    refine v_ex [] (hk := ?_)
    refine k_pan [] (h := ?_)
    exact .inr ⟨by simpa using h3, rfl, rfl⟩
  · refine v_code [] (hk := ?_)
    refine v_ret rfl [] .nil (h := ?_)
    exact .inl ⟨by simpa using h3, rfl, rfl⟩
theorem more_spec (ad : Addr) (a b : Int) (hb : 0 ≤ b ∧ b ≤ 9223372036854775807) (ha : -9223372036854775808 ≤ a ∧ a ≤ 9223372036854775807) : CSpec Try.prog 46 [.one (.ptr 0 ad), .one (.i .i64 a), .one (.i .i64 b)] [] [] fun o L => (a + b ≤ 9223372036854775807 ∧ o = .ret (vi .i64 (a + b)) ∧ L = []) ∨ (¬ a + b ≤ 9223372036854775807 ∧ o = .pan thrown ∧ L = []) := by
  refine v_enter Try.func46 (h := fun w0 => ?_)
  refine v_code [] (hk := ?_)
  refine v_call 20550 [] (must_spec (decide (a ≤ 9223372036854775807 - b))) Try.func31 (h := ?_)
  rintro _ _ (⟨hm, rfl, rfl⟩ | ⟨hm, rfl, rfl⟩)
  · simp only [decide_eq_true_eq] at hm
    refine v_ops [] (hk := ?_)
    refine v_ret rfl [] (.cons (.tmp rfl) .nil) (h := ?_)
    exact .inl ⟨by omega, rfl, rfl⟩
  · simp only [decide_eq_false_iff_not] at hm
    refine v_ex [] (hk := ?_)
    refine k_pan [] (h := ?_)
    exact .inr ⟨by omega, rfl, rfl⟩
theorem less_spec (ad : Addr) (a b : Int) (hb : 0 ≤ b ∧ b ≤ 9223372036854775807) (ha : -9223372036854775808 ≤ a ∧ a ≤ 9223372036854775807) : CSpec Try.prog 32 [.one (.ptr 0 ad), .one (.i .i64 a), .one (.i .i64 b)] [] [] fun o L => (b ≤ a ∧ o = .ret (vi .i64 (a - b)) ∧ L = []) ∨ (¬ b ≤ a ∧ o = .pan thrown ∧ L = []) := by
  refine v_enter Try.func32 (h := fun w0 => ?_)
  refine v_code [] (hk := ?_)
  refine v_call 20500 [] (must_spec (decide (a ≥ b))) Try.func31 (h := ?_)
  rintro _ _ (⟨hm, rfl, rfl⟩ | ⟨hm, rfl, rfl⟩)
  · simp only [decide_eq_true_eq] at hm
    refine v_ops [] (hk := ?_)
    refine v_ret rfl [] (.cons (.tmp rfl) .nil) (h := ?_)
    exact .inl ⟨by omega, rfl, rfl⟩
  · simp only [decide_eq_false_iff_not] at hm
    refine v_ex [] (hk := ?_)
    refine k_pan [] (h := ?_)
    exact .inr ⟨by omega, rfl, rfl⟩
end Go.Proofs.Ytlnckcgbpilmdaa
/- What is tried: what is thrown is caught. -/

set_option linter.unusedVariables false
set_option linter.unusedSimpArgs false
set_option maxRecDepth 100000
namespace Go.Proofs.Ytlnckcgbpilmdaa
open Go Go.RowKit HL
theorem tried1_ret (g0 g1 : Nat) (xs ys : List At) : CSpecD Try.prog 45 [.one (.ptr 0 ⟨g0, 0, none⟩), .one (.ptr 1 ⟨g1, 0, none⟩)] [] [(0, Res.va g0 24 xs), (1, Res.va g1 4 ys)] .returning fun o u L => o = .ret (.tup []) ∧ u = .returning ∧ L = [Res.va g0 24 xs, Res.va g1 4 ys] := by
  refine d_enter Try.func45 (h := fun w0 c₀ cs0 hu => ?_)
  refine d_seq ?_
  refine d_region ?_
  refine d_norecover hu (h := ?_)
  refine v_ops [] (hk := ?_)
  refine d_ret rfl [0, 1] (.tup []) .nil (h := ?_)
  exact ⟨rfl, rfl, rfl⟩
theorem tried1_pan (g0 g1 : Nat) (c : Int) (A : Option Addr) (k d : Nat) (b : Bool) : CSpecD Try.prog 45 [.one (.ptr 0 ⟨g0, 0, none⟩), .one (.ptr 1 ⟨g1, 0, none⟩)] [] [(0, Res.va g0 24 [.one (.i .i64 c), .one (.sl 0 A k d)]), (1, Res.va g1 4 [.one (.b b)])] (.panicking thrown) fun o u L => o = .ret (.tup []) ∧ settle u = .returning ∧ L = [Res.va g0 24 [.one (.i .i64 0), .one (.sl 0 none 0 0)], Res.va g1 4 [.one (.b false)]] := by
  refine d_enter Try.func45 (h := fun w0 c₀ cs0 hu => ?_)
  refine d_seq ?_
  refine d_region ?_
  refine d_recover (.s (.one (.ifv 86 (SV.agg []).den))) rfl hu (h := ?_)
  refine v_ops [] (hk := ?_)
  refine l_rd r_assertY ?_
  refine v_ops [] (hk := ?_)
  refine l_do d_alloc (fun g3 => ?_)
  refine v_ops [] (hk := ?_)
  refine v_know 14 false rfl rfl ?_
  refine v_code [] (hk := ?_)
  refine d_ret rfl [0, 1] (.tup []) .nil (h := ?_)
  exact ⟨rfl, rfl, rfl⟩
end Go.Proofs.Ytlnckcgbpilmdaa
/- Purses: maps from names. -/

set_option linter.unusedVariables false
set_option linter.unusedSimpArgs false
set_option maxRecDepth 100000
namespace Go.Proofs.Ytlnckcgbpilmdaa
open Go Go.RowKit HL
def nameFs : List (FE Try.prog NameP) := [⟨Hash, inferInstance, hval, 2, NameP.policy, 26, 32, (HashT.key (P := Try.prog) (T := 26)).eq.v, fits_hash, size_hval⟩, ⟨ByteArray, inferInstance, Value.string, 1, NameP.name, 9, 1, (eqTy_str (UD.is (P := Try.prog) (T := 9))).v, fits_str _, fun _ => rfl⟩]
theorem nameEn_den (x : NameP) : kdn nameEn x = mkS (FE.vals nameFs x) := SV.den_agg _
theorem sameBits_intsL (m : Nat) : ∀ (l : List UInt8), ((l.map fun b => Value.int .u8 b.toNat).zip (l.map fun b => Value.int .u8 b.toNat)).all (fun (x, y) => Instr.sameBits m x y) = true
  | [] => rfl
  | b :: l => by
    have := sameBits_intsL m l
    simp only [List.map_cons, List.zip_cons_cons, List.all_cons, this, Bool.and_true]
    cases m <;> simp [Instr.sameBits]
theorem sameBits_ba (m : Nat) (x : ByteArray) : Instr.sameBits m (.string x) (.string x) = true := by
  cases m <;> simp [Instr.sameBits, ba_beq]
theorem keyTy_name : KeyTy Try.prog 72 (kdn nameEn) 3 where
  eq := eqTy_struct nameFs Try.underlying72 (by kernel_rfl) (by kernel_rfl) (by kernel_rfl) (by intro F hF; simp [nameFs] at hF; rcases hF with rfl | rfl <;> simp) nameEn_den (fun x y => by cases x; cases y; simp [FE.same, nameFs, Bool.decide_and]) (by
    intro F hF
    simp [nameFs] at hF
    rcases hF with rfl | rfl
    · exact ⟨fun d hd em x w => (HashT.key (P := Try.prog) (T := 26)).eq.chk d hd em x w, fun k x hk => by
        obtain ⟨k, rfl⟩ : ∃ m, k = m + 1 := ⟨k - 1, by simp at hk; omega⟩
        show Instr.sameBits (k + 1) (hval x) (hval x) = true
        unfold hval
        rw [Instr.sameBits]
        simp only [beq_self_eq_true, Bool.true_and]
        exact sameBits_intsL k x.toList⟩
    · exact ⟨fun d hd em x w => (eqTy_str (UD.is (P := Try.prog) (T := 9))).chk d hd em x w, fun k x hk => sameBits_ba k x⟩)
  le := by omega
  wide := ⟨_, Try.underlying72, rfl⟩
  same x := by
    rw [nameEn_den]
    unfold mkS
    rw [show (10000 : Nat) = 9999 + 1 from rfl, Instr.sameBits]
    simp only [beq_self_eq_true, Bool.true_and]
    refine sameBits_flat x nameFs fun F hF c hc => ?_
    simp [nameFs] at hF
    rcases hF with rfl | rfl
    · have hc' : c ∈ (hcells x.policy) := by simpa using hc
      obtain ⟨b, -, rfl⟩ := List.mem_map.1 hc'
      simp [Instr.sameBits]
    · have hc' : c = Value.string x.name := by simpa [Value.cells] using hc
      subst hc'
      exact sameBits_ba _ _
instance : KeyT Try.prog 72 nameEn := ⟨keyTy_name.ok⟩
end Go.Proofs.Ytlnckcgbpilmdaa
/- Sums by names, kept in maps: plain, with no program in sight. -/

set_option linter.unusedVariables false
namespace Go.Proofs.Ytlnckcgbpilmdaa
open Go Go.RowKit HL
section
variable {κ ν : Type} [DecidableEq κ]
theorem mlook_app (l m : List (κ × ν × Nat)) (n : κ) : mlook (l ++ m) n = (mlook l n).or (mlook m n) := by
  unfold mlook
  rw [List.find?_append]
  cases l.find? (fun x => decide (x.1 = n)) <;> simp
theorem mlook_mset (k : κ) (v : ν) (n : κ) : ∀ (l : List (κ × ν × Nat)), mlook (mset l k v) n = if n = k ∧ mhas l k = true then some v else mlook l n
  | [] => by simp [mset, mlook, mhas]
  | x :: l => by
    have ih := mlook_mset k v n l
    unfold mset
    by_cases h : x.1 = k
    · rw [if_pos h]
      by_cases hn : n = k
      · subst hn
        simp [mlook, mhas, h]
      · have : ¬ x.1 = n := fun e => hn (e.symm.trans h)
        simp [mlook, this, hn]
    · rw [if_neg h]
      by_cases hn : x.1 = n
      · have : ¬ n = k := fun e => h (hn.trans e)
        simp [mlook, hn, this]
      · have e1 : mlook (x :: mset l k v) n = mlook (mset l k v) n := by simp [mlook, hn]
        have e2 : mlook (x :: l) n = mlook l n := by simp [mlook, hn]
        have e3 : mhas (x :: l) k = mhas l k := by simp [mhas, mlook, h]
        rw [e1, e2, e3, ih]
theorem mlook_put (l : List (κ × ν × Nat)) (c : Nat) (k : κ) (v : ν) (n : κ) : mlook (mput l c k v) n = if n = k then some v else mlook l n := by
  unfold mput
  by_cases h : mhas l k = true
  · rw [if_pos h, mlook_mset]
    simp [h]
  · rw [if_neg h, mlook_app]
    have h0 : mlook l k = none := by simpa [mhas] using h
    by_cases hn : n = k
    · subst hn
      rw [h0]
      simp [mlook]
    · have : ¬ k = n := fun e => hn e.symm
      simp [mlook, hn, this]
theorem mput_len (l : List (κ × ν × Nat)) (c : Nat) (k : κ) (v : ν) : (mput l c k v).length ≤ l.length + 1 := by
  unfold mput
  split
  · have := congrArg List.length (mset_born k v l)
    simp only [List.length_map] at this
    omega
  · simp
end
def tot (P : List AssetP) (n : NameP) : Int := ((P.filter fun x => decide (x.key = n)).map AssetP.amount).sum
theorem tot_nil (n : NameP) : tot [] n = 0 := rfl
theorem tot_app (P Q : List AssetP) (n : NameP) : tot (P ++ Q) n = tot P n + tot Q n := by
  unfold tot
  rw [List.filter_append, List.map_append, List.sum_append_int]
theorem tot_one (x : AssetP) (n : NameP) : tot [x] n = if n = x.key then x.amount else 0 := by
  unfold tot
  by_cases h : x.key = n
  · simp [h]
  · have : ¬ n = x.key := fun e => h e.symm
    simp [h, this]
theorem tot_cons (x : AssetP) (P : List AssetP) (n : NameP) : tot (x :: P) n = (if n = x.key then x.amount else 0) + tot P n := by
  rw [show x :: P = [x] ++ P from rfl, tot_app, tot_one]
theorem tot_nonneg : ∀ {P : List AssetP} (n : NameP), (∀ x ∈ P, 1 ≤ x.amount) → 0 ≤ tot P n
  | [], n, _ => by rw [tot_nil]; omega
  | x :: P, n, h => by
    rw [tot_cons]
    have h1 := h x (List.mem_cons_self ..)
    have h2 := tot_nonneg n fun y hy => h y (List.mem_cons_of_mem _ hy)
    split <;> omega
theorem tot_mem {n : NameP} : ∀ {P : List AssetP}, tot P n ≠ 0 → ∃ x ∈ P, x.key = n
  | [], h => absurd (tot_nil n) h
  | x :: P, h => by
    by_cases e : x.key = n
    · exact ⟨x, List.mem_cons_self .., e⟩
    · rw [tot_cons, if_neg (fun e' => e e'.symm)] at h
      obtain ⟨y, hy, q⟩ := tot_mem (P := P) (fun e => h (by rw [e]; rfl))
      exact ⟨y, List.mem_cons_of_mem _ hy, q⟩
abbrev Max : Int := 9223372036854775807
structure PJ (P : List AssetP) (m : List (NameP × Int × Nat)) (c : Nat) : Prop where
  wf : MWf m c
  look : ∀ n, (mlook m n).getD 0 = tot P n
  pos : ∀ x ∈ P, 1 ≤ x.amount
  le : ∀ n, tot P n ≤ Max
  len : m.length ≤ P.length
theorem PJ.nil : PJ [] [] 0 := ⟨MWf.nil, fun n => by simp [mlook, tot_nil], by simp, fun n => by rw [tot_nil]; decide, by simp⟩
theorem PJ.range {P : List AssetP} {m : List (NameP × Int × Nat)} {c : Nat} (h : PJ P m c) (n : NameP) : 0 ≤ (mlook m n).getD 0 ∧ (mlook m n).getD 0 ≤ Max := by
  rw [h.look]
  exact ⟨tot_nonneg n h.pos, h.le n⟩
theorem PJ.put {P : List AssetP} {m : List (NameP × Int × Nat)} {c : Nat} (h : PJ P m c) {x : AssetP} (hx : 1 ≤ x.amount) (hle : (mlook m x.key).getD 0 + x.amount ≤ Max) : PJ (P ++ [x]) (mput m c x.key ((mlook m x.key).getD 0 + x.amount)) (mclk m c x.key) where
  wf := h.wf.put _ _
  look n := by
    rw [mlook_put, tot_app, tot_one, ← h.look n]
    by_cases e : n = x.key
    · subst e; simp
    · rw [if_neg e, if_neg e]; omega
  pos y hy := by
    rcases List.mem_append.1 hy with hy | hy
    · exact h.pos y hy
    · rw [List.mem_singleton.1 hy]; exact hx
  le n := by
    rw [tot_app, tot_one]
    by_cases e : n = x.key
    · subst e; rw [if_pos rfl, ← h.look]; exact hle
    · rw [if_neg e]; have := h.le n; omega
  len := by
    have := h.len
    have h2 := mput_len m c x.key ((mlook m x.key).getD 0 + x.amount)
    rw [List.length_append, List.length_singleton]
    omega
theorem PJ.over {P : List AssetP} {m : List (NameP × Int × Nat)} {c : Nat} (h : PJ P m c) {x : AssetP} (hle : ¬ (mlook m x.key).getD 0 + x.amount ≤ Max) {Q : List AssetP} (hQ : ∀ y ∈ Q, 1 ≤ y.amount) : ¬ ∀ n, tot (P ++ ([x] ++ Q)) n ≤ Max := fun hn => by
  have := hn x.key
  rw [tot_app, tot_app, tot_one, if_pos rfl, ← h.look] at this
  have := tot_nonneg x.key hQ
  omega
def AL (l : List ValueM) : List AssetP := l.flatMap ValueM.assets
def csum (l : List ValueM) : Int := (l.map ValueM.coin).sum
theorem AL_app (l m : List ValueM) : AL (l ++ m) = AL l ++ AL m := by unfold AL; rw [List.flatMap_append]
theorem csum_app (l m : List ValueM) : csum (l ++ m) = csum l + csum m := by unfold csum; rw [List.map_append, List.sum_append_int]
theorem AL_one (v : ValueM) : AL [v] = v.assets := by unfold AL; simp
theorem csum_one (v : ValueM) : csum [v] = v.coin := by unfold csum; simp
def Rights (l : List ValueM) : Prop := ∀ v ∈ l, RightV v.coin v.assets
theorem Rights.pos {l : List ValueM} (h : Rights l) : ∀ x ∈ AL l, 1 ≤ x.amount := fun x hx => by
  obtain ⟨v, hv, hx⟩ := List.mem_flatMap.1 hx
  exact (h v hv).2.2 x hx
theorem Rights.csum : ∀ {l : List ValueM}, Rights l → 0 ≤ csum l
  | [], _ => by decide
  | v :: l, h => by
    rw [show v :: l = [v] ++ l from rfl, csum_app, csum_one]
    have h1 := (h v (List.mem_cons_self ..)).1
    have h2 := Rights.csum (l := l) fun y hy => h y (List.mem_cons_of_mem _ hy)
    omega
theorem AL_len : ∀ {l : List ValueM}, Rights l → (AL l).length ≤ 30 * l.length
  | [], _ => by simp [AL]
  | v :: l, h => by
    rw [show v :: l = [v] ++ l from rfl, AL_app, AL_one, List.length_append, List.length_append]
    have h1 := (h v (List.mem_cons_self ..)).2.1.2.2
    have h2 := AL_len (l := l) fun y hy => h y (List.mem_cons_of_mem _ hy)
    simp only [List.length_singleton]
    omega
def FillOk (l : List ValueM) : Prop := Rights l ∧ csum l ≤ Max ∧ ∀ n, tot (AL l) n ≤ Max
structure PI (l : List ValueM) (co : Int) (m : List (NameP × Int × Nat)) (c : Nat) : Prop where
  r : Rights l
  sum : co = csum l
  le : co ≤ Max
  j : PJ (AL l) m c
theorem PI.nil : PI [] 0 [] 0 := ⟨fun v hv => (by cases hv), rfl, by decide, PJ.nil⟩
theorem PI.ok {l : List ValueM} {co : Int} {m : List (NameP × Int × Nat)} {c : Nat} (h : PI l co m c) : FillOk l := ⟨h.r, by rw [← h.sum]; exact h.le, h.j.le⟩
theorem fill_not {l : List ValueM} {k : Nat} {d : ValueM} (hk : k < l.length) (h : ¬ RightV (l.getD k d).coin (l.getD k d).assets) : ¬ FillOk l := fun hf => h (hf.1 _ (getD_mem hk))
theorem split_at {α : Type} {l : List α} {k : Nat} {d : α} (hk : k < l.length) : l = l.take k ++ ([l.getD k d] ++ l.drop (k + 1)) := by
  rw [← List.append_assoc, ← take_getD hk, List.take_append_drop]
theorem fill_coin {l : List ValueM} {k : Nat} {d : ValueM} (hk : k < l.length) {co : Int} {m : List (NameP × Int × Nat)} {c : Nat} (h : PI (l.take k) co m c) (ho : ¬ co + (l.getD k d).coin ≤ Max) : ¬ FillOk l := fun hf => by
  have h1 := hf.2.1
  rw [split_at (d := d) hk, csum_app, csum_app, csum_one, ← h.sum] at h1
  have h2 := Rights.csum (l := l.drop (k + 1)) fun v hv => hf.1 v (List.mem_of_mem_drop hv)
  omega
theorem fill_over {l : List ValueM} {k j : Nat} {d : ValueM} {e : AssetP} (hk : k < l.length) (hj : j < (l.getD k d).assets.length) {m : List (NameP × Int × Nat)} {c : Nat} (h : PJ (AL (l.take k) ++ (l.getD k d).assets.take j) m c) (ho : ¬ (mlook m ((l.getD k d).assets.getD j e).key).getD 0 + ((l.getD k d).assets.getD j e).amount ≤ Max) : ¬ FillOk l := fun hf => by
  have h3 := hf.1.pos
  have e1 : AL l = (AL (l.take k) ++ (l.getD k d).assets.take j) ++ ([(l.getD k d).assets.getD j e] ++ ((l.getD k d).assets.drop (j + 1) ++ AL (l.drop (k + 1)))) := by
    conv => lhs; rw [split_at (d := d) hk, AL_app, AL_app, AL_one, split_at (d := e) hj]
    simp only [List.append_assoc]
  refine h.over ho (Q := (l.getD k d).assets.drop (j + 1) ++ AL (l.drop (k + 1))) (fun y hy => h3 y ?_) ?_
  · rw [e1]
    exact List.mem_append_right _ (List.mem_append_right _ hy)
  · rw [← e1]
    exact hf.2.2
theorem PI.snoc {l : List ValueM} {k : Nat} {d : ValueM} (hk : k < l.length) {co : Int} {m m' : List (NameP × Int × Nat)} {c c' : Nat} (h : PI (l.take k) co m c) (hr : RightV (l.getD k d).coin (l.getD k d).assets) (hle : co + (l.getD k d).coin ≤ Max) (hj : PJ (AL (l.take k) ++ (l.getD k d).assets) m' c') : PI (l.take (k + 1)) (co + (l.getD k d).coin) m' c' where
  r v hv := all_takeD (d := d) h.r hk hr v hv
  sum := by rw [take_getD (d := d) hk, csum_app, csum_one, ← h.sum]
  le := hle
  j := by rw [take_getD (d := d) hk, AL_app, AL_one]; exact hj
theorem PJ.snoc {P Q : List AssetP} {k : Nat} {d : AssetP} (hk : k < Q.length) {m : List (NameP × Int × Nat)} {c : Nat} (h : PJ (P ++ Q.take k) m c) (hx : 1 ≤ (Q.getD k d).amount) (hle : (mlook m (Q.getD k d).key).getD 0 + (Q.getD k d).amount ≤ Max) : PJ (P ++ Q.take (k + 1)) (mput m c (Q.getD k d).key ((mlook m (Q.getD k d).key).getD 0 + (Q.getD k d).amount)) (mclk m c (Q.getD k d).key) := by
  rw [take_getD (d := d) hk, ← List.append_assoc]
  exact h.put hx hle
end Go.Proofs.Ytlnckcgbpilmdaa
/- Purses are filled. -/

set_option linter.unusedVariables false
set_option linter.unusedSimpArgs false
set_option maxRecDepth 100000
namespace Go.Proofs.Ytlnckcgbpilmdaa
open Go Go.RowKit HL
def Fits64 (x : Int) : Prop := -9223372036854775808 ≤ x ∧ x ≤ 9223372036854775807
def FitV (v : ValueM) : Prop := v.assets.length ≤ 1048576 ∧ Fits64 v.coin ∧ ∀ x ∈ v.assets, Fits64 x.amount
theorem filled_spec (i : Nat) (A : Option Addr) (l : List ValueM) (c : Nat) (hl : l.length ≤ 1048576) (hf : ∀ v ∈ l, FitV v) : CSpec Try.prog 24 [.one (.sl 0 A l.length c)] [(0, rdValues A l)] [] fun o L => (∃ g gm co m cl, PI l co m cl ∧ o = .ret (.s (.one (.ptr 0 ⟨g, 0, none⟩))) ∧ L = [Res.va g 70 [.one (.i .i64 co), .one (.mp i gm)], Res.mp gm nameEn (intEn .i64) m cl]) ∨ (¬ FillOk l ∧ o = .pan thrown ∧ L = []) := by
  refine v_enter Try.func24 (h := fun w0 => ?_)
  refine v_code [] (hk := ?_)
  refine l_do (d_makeMap nameEn (intEn .i64)) (fun g8 => ?_)
  refine v_ops [] (hk := ?_)
  refine l_do d_box (fun g10 => ?_)
  refine v_ops [] (hk := ?_)
  refine v_loop (fun m E H => ∃ (k : Nat) (co : Int) (m0 : List (NameP × Int × Nat)) (cl0 : Nat), E = [(13, vn k)] ∧ H = [(10010, Res.va g10 70 [.one (.i .i64 co), .one (.mp 10008 g8)]), (10008, Res.mp g8 nameEn (intEn .i64) m0 cl0)] ∧ m = l.length - k ∧ k ≤ l.length ∧ (PI (l.take k) co m0 cl0)) [2, 3, 11, 12, 57] (l.length) ([(13, vn 0)]) ([(10010, Res.va g10 70 [.one (.i .i64 (0)), .one (.mp 10008 g8)]), (10008, Res.mp g8 nameEn (intEn .i64) ([]) (0))]) (h0 := ⟨0, 0, [], 0, rfl, rfl, by omega, by omega, PI.nil⟩) (hr := ?_)
  rintro _ _ _ ⟨k, co, m0, cl0, rfl, rfl, hmk, hk, hik0⟩
  refine v_code [] (hk := ?_)
  first | refine c_ifd rfl (fun h14 => ?_) (fun h14 => ?_) | refine c_ifn rfl (fun h14 => ?_) (fun h14 => ?_) | refine c_if rfl (fun h14 => ?_) (fun h14 => ?_)
  · have hv := hf _ (getD_mem (d := value0) h14)
    refine v_code [] (hk := ?_)
    refine l_do d_alloc (fun g5 => ?_)
    refine v_ops [] (hk := ?_)
    refine v_call 20900 [] (right_spec (l.getD k value0).coin (l.getD k value0).A (l.getD k value0).assets (l.getD k value0).c hv.1) Try.func9 (h := ?_)
    rintro _ _ (⟨rfl, rfl⟩)
    refine v_call 20950 [] (must_spec (decide (RightV (l.getD k value0).coin (l.getD k value0).assets))) Try.func31 (h := ?_)
    rintro _ _ (⟨hr, rfl, rfl⟩ | ⟨hr, rfl, rfl⟩)
    · simp only [decide_eq_true_eq] at hr
      refine v_ops [] (hk := ?_)
      refine v_draw (.q 0 (.q 1 (.q 2 (.q 3 (.q 4 (.q 6 (.q 7 (.s 5 (.s 8 (.q 9 (.q 10 (.s 11 .nil)))))))))))) [10008, 10012, 10005, 20900, 20901, 20902, 20903, 20950, 20951, 20952, 20953, 21400, 21401, 21402, 21403, 10033, 10007, 22150, 22151, 22152, 22153, 22500, 22501, 22502, 22503, 22700, 22701, 22702, 22703] (hm := by kernel_rfl) (hs := by kernel_rfl) (hk := by kernel_rfl) (h := ?_)
      refine v_sch [] (hk := ?_)
      refine v_callS rfl 21400 [] (more_spec ⟨g10, 0, none⟩ co (l.getD k value0).coin ⟨hr.1, hv.2.1.2⟩ ⟨by have := hik0.r.csum; have := hik0.sum; omega, hik0.le⟩) Try.func46 (h := ?_)
      rintro _ _ (⟨hc, rfl, rfl⟩ | ⟨hc, rfl, rfl⟩)
      · refine ⟨cov_of (by repeat (first | exact trivial | refine ⟨rfl, ?_⟩)), ?_⟩
        refine v_sch [] (hk := ?_)
        refine v_loop (fun m E H => ∃ (j : Nat) (mm : List (NameP × Int × Nat)) (cl : Nat), E = [(34, vn j)] ∧ H = [(10008, Res.mp g8 nameEn (intEn .i64) mm cl)] ∧ m = (l.getD k value0).assets.length - j ∧ j ≤ (l.getD k value0).assets.length ∧ (PJ (AL (l.take k) ++ (l.getD k value0).assets.take j) mm cl)) [2, 3, 5, 11, 12, 13, 14, 15, 16, 17, 18, 20, 21, 22, 23, 24, 25, 26, 27, 28, 29, 30, 31, 32, 33, 56, 57] ((l.getD k value0).assets.length) ([(34, vn 0)]) ([(10008, Res.mp g8 nameEn (intEn .i64) (m0) (cl0))]) (h0 := ⟨0, m0, cl0, rfl, rfl, by omega, by omega, by simpa using hik0.j⟩) (hr := ?_)
        rintro _ _ _ ⟨j, mm, cl, rfl, rfl, hmj, hj, hij0⟩
        refine v_code [] (hk := ?_)
        first | refine c_ifd rfl (fun h35 => ?_) (fun h35 => ?_) | refine c_ifn rfl (fun h35 => ?_) (fun h35 => ?_) | refine c_if rfl (fun h35 => ?_) (fun h35 => ?_)
        · have hl2 : (l.getD k value0).assets.length ≤ 1048576 := hv.1
          have hx := hv.2.2 _ (getD_mem (d := asset0) h35)
          refine v_code [] (hk := ?_)
          refine l_do d_alloc (fun g7 => ?_)
          refine v_ops [] (hk := ?_)
          refine v_draw (.q 0 (.q 1 (.q 2 (.q 3 (.q 4 (.q 6 (.q 7 (.q 8 (.q 9 (.q 10 (.q 11 (.q 14 (.q 15 (.s 5 (.s 12 (.s 13 (.s 16 (.s 17 .nil)))))))))))))))))) [10010, 10005, 10007] (hm := by kernel_rfl) (hs := by kernel_rfl) (hk := by kernel_rfl) (h := ?_)
          refine v_sch [] (hk := ?_)
          refine v_callS rfl 22150 [] (nameof_spec ((l.getD k value0).assets.getD j asset0)) Try.func33 (h := ?_)
          rintro _ _ (⟨rfl, rfl⟩)
          refine ⟨cov_of (by repeat (first | exact trivial | refine ⟨rfl, ?_⟩)), ?_⟩
          refine v_callS rfl 22500 [] (nameof_spec ((l.getD k value0).assets.getD j asset0)) Try.func33 (h := ?_)
          rintro _ _ (⟨rfl, rfl⟩)
          refine ⟨cov_of (by repeat (first | exact trivial | refine ⟨rfl, ?_⟩)), ?_⟩
          refine s_rd rfl (r_lookup1 (k := ((l.getD k value0).assets.getD j asset0).key)) ?_
          refine v_callS rfl 22700 [] (more_spec ⟨g10, 0, none⟩ ((mlook mm ((l.getD k value0).assets.getD j asset0).key).getD 0) ((l.getD k value0).assets.getD j asset0).amount ⟨by have := hr.2.2 _ (getD_mem (d := asset0) h35); omega, hx.2⟩ ⟨by have := (hij0.range ((l.getD k value0).assets.getD j asset0).key).1; omega, (hij0.range _).2⟩) Try.func46 (h := ?_)
          rintro _ _ (⟨hc2, rfl, rfl⟩ | ⟨hc2, rfl, rfl⟩)
          · refine ⟨cov_of (by repeat (first | exact trivial | refine ⟨rfl, ?_⟩)), ?_⟩
            refine s_do1 rfl (d_mapUpdate (k := ((l.getD k value0).assets.getD j asset0).key)) ?_
            refine v_sch [] (hk := ?_)
            refine v_again ((l.getD k value0).assets.length - (j + 1)) ⟨j + 1, mput mm cl ((l.getD k value0).assets.getD j asset0).key ((mlook mm ((l.getD k value0).assets.getD j asset0).key).getD 0 + ((l.getD k value0).assets.getD j asset0).amount), mclk mm cl ((l.getD k value0).assets.getD j asset0).key, rfl, rfl, by omega, by omega, hij0.snoc h35 (hr.2.2 _ (getD_mem (d := asset0) h35)) hc2⟩
          · refine v_ex [] (hk := ?_)
            refine k_pan [] (h := ?_)
            exact .inr ⟨fill_over h14 h35 hij0 hc2, rfl, rfl⟩
        · refine v_code [] (hk := ?_)
          refine v_again (l.length - (k + 1)) ⟨k + 1, co + (l.getD k value0).coin, mm, cl, rfl, rfl, by omega, by omega, hik0.snoc h14 hr hc (by rw [take_all' h35] at hij0; exact hij0)⟩
      · refine v_ex [] (hk := ?_)
        refine k_pan [] (h := ?_)
        exact .inr ⟨fill_coin h14 hik0 hc, rfl, rfl⟩
    · simp only [decide_eq_false_iff_not] at hr
      refine v_ex [] (hk := ?_)
      refine k_pan [] (h := ?_)
      exact .inr ⟨fill_not h14 hr, rfl, rfl⟩
  · refine v_code [] (hk := ?_)
    refine k_ret [10010, 10008] (.s (.one (.ptr 0 ⟨g10, 0, none⟩))) (.cons (.tmp rfl) .nil) (h := ?_)
    refine .inl ⟨g10, g8, co, m0, cl0, ?_, rfl, rfl⟩
    rw [take_all' h14] at hik0
    exact hik0
end Go.Proofs.Ytlnckcgbpilmdaa
/- The bundle of a sum: plain. -/

set_option linter.unusedVariables false
namespace Go.Proofs.Ytlnckcgbpilmdaa
open Go Go.RowKit HL
structure PM (f : NameP → Int) (m : List (NameP × Int × Nat)) (c : Nat) : Prop where
  wf : MWf m c
  look : ∀ n, (mlook m n).getD 0 = f n
  rng : ∀ n, 0 ≤ f n ∧ f n ≤ Max
theorem PJ.pm {P : List AssetP} {m : List (NameP × Int × Nat)} {c : Nat} (h : PJ P m c) : PM (tot P) m c := ⟨h.wf, h.look, fun n => ⟨tot_nonneg n h.pos, h.le n⟩⟩
theorem PM.less {a P : List AssetP} {m : List (NameP × Int × Nat)} {c : Nat} (h : PM (fun n => tot a n - tot P n) m c) {x : AssetP} (hx : 1 ≤ x.amount) (hle : x.amount ≤ (mlook m x.key).getD 0) : PM (fun n => tot a n - tot (P ++ [x]) n) (mput m c x.key ((mlook m x.key).getD 0 - x.amount)) (mclk m c x.key) where
  wf := h.wf.put _ _
  look n := by
    rw [mlook_put, tot_app, tot_one]
    have h1 := h.look n
    by_cases e : n = x.key
    · subst e
      rw [if_pos rfl, if_pos rfl]
      simp only [Option.getD_some]
      rw [h1]
      omega
    · rw [if_neg e, if_neg e]; omega
  rng n := by
    rw [tot_app, tot_one]
    have h1 := h.rng n
    have h2 := h.look n
    by_cases e : n = x.key
    · subst e; rw [if_pos rfl]; rw [h2] at hle; omega
    · rw [if_neg e]; omega
def IsB (f : NameP → Int) (al : List AssetP) : Prop := Rise AssetP.key al ∧ ∀ x, x ∈ al ↔ 1 ≤ x.amount ∧ f x.key = x.amount
theorem IsB.unique {f : NameP → Int} {al bs : List AssetP} (h1 : IsB f al) (h2 : IsB f bs) : al = bs := rise_ext h1.1 h2.1 fun x => by rw [h1.2, h2.2]
theorem atN_none {α : Type} {key : α → NameP} {l : List α} {n : NameP} (h : ∀ x ∈ l, key x ≠ n) : atN key l n = none := by
  unfold atN
  rw [List.find?_eq_none]
  intro x hx
  simpa using h x hx
theorem IsB.amt {f : NameP → Int} {al : List AssetP} (h : IsB f al) {n : NameP} (hp : 0 ≤ f n) : amt al n = f n := by
  unfold Proofs.Ytlnckcgbpilmdaa.amt
  by_cases h0 : f n = 0
  · rw [h0, atN_none]
    · rfl
    · rintro x hx rfl
      have := (h.2 x).1 hx
      omega
  · have hx : (⟨n.policy, n.name, f n⟩ : AssetP) ∈ al := (h.2 _).2 ⟨by show 1 ≤ f n; omega, rfl⟩
    have := atN_of h.1 hx
    have e : AssetP.key ⟨n.policy, n.name, f n⟩ = n := rfl
    rw [e] at this
    rw [this]
    rfl
def mkA (e : NameP × Int × Nat) : AssetP := ⟨e.1.policy, e.1.name, e.2.1⟩
def asF (done : List (NameP × Int × Nat)) : List AssetP := (done.filter fun e => decide (0 < e.2.1)).map mkA
theorem asF_yes {done : List (NameP × Int × Nat)} {e : NameP × Int × Nat} (h : 0 < e.2.1) : asF (done ++ [e]) = asF done ++ [mkA e] := by
  unfold asF
  rw [List.filter_append, List.map_append]
  simp [h]
theorem asF_no {done : List (NameP × Int × Nat)} {e : NameP × Int × Nat} (h : ¬ 0 < e.2.1) : asF (done ++ [e]) = asF done := by
  unfold asF
  rw [List.filter_append, List.map_append]
  simp [h]
theorem asF_len (done : List (NameP × Int × Nat)) : (asF done).length ≤ done.length := by
  unfold asF
  rw [List.length_map]
  exact List.length_filter_le _ _
theorem inj_keys {ν : Type} : ∀ {l : List (NameP × ν × Nat)}, (l.map (·.1)).Nodup → ∀ {x y}, x ∈ l → y ∈ l → x.1 = y.1 → x = y
  | [], _, x, y, hx, _, _ => by cases hx
  | z :: l, h, x, y, hx, hy, he => by
    rw [List.map_cons, List.nodup_cons] at h
    rcases List.mem_cons.1 hx with e1 | hx' <;> rcases List.mem_cons.1 hy with e2 | hy'
    · rw [e1, e2]
    · exact absurd (by rw [← e1, he]; exact List.mem_map_of_mem hy') h.1
    · exact absurd (by rw [← e2, ← he]; exact List.mem_map_of_mem hx') h.1
    · exact inj_keys h.2 hx' hy' he
theorem keys_done {ν : Type} {m done : List (NameP × ν × Nat)} {c : Nat} (hw : MWf m c) (hs : ∀ e ∈ done, e ∈ m) (hn : done.Nodup) : (done.map (·.1)).Nodup :=
  List.pairwise_map.2 (hn.imp_of_mem fun {a b} ha hb hab he => hab (inj_keys hw.keys (hs a ha) (hs b hb) he))
theorem asF_keys {m done : List (NameP × Int × Nat)} {c : Nat} (hw : MWf m c) (hs : ∀ e ∈ done, e ∈ m) (hn : done.Nodup) : ((asF done).map AssetP.key).Nodup := by
  unfold asF
  rw [List.map_map]
  have h := keys_done hw (done := done.filter fun e => decide (0 < e.2.1)) (fun e he => hs e ((List.mem_filter.1 he).1)) (hn.filter _)
  exact h
theorem mlook_mem {ν : Type} {m : List (NameP × ν × Nat)} {c : Nat} (hw : MWf m c) {e : NameP × ν × Nat} (he : e ∈ m) : mlook m e.1 = some e.2.1 := by
  unfold mlook
  cases hf : m.find? (fun x => decide (x.1 = e.1)) with
  | none => rw [List.find?_eq_none] at hf; exact absurd (hf e he) (by simp)
  | some f =>
    have h1 := List.mem_of_find?_eq_some hf
    have h2 : f.1 = e.1 := by simpa using List.find?_some hf
    rw [inj_keys hw.keys h1 he h2]
    rfl
theorem mem_mlook {ν : Type} {m : List (NameP × ν × Nat)} {n : NameP} {v : ν} (h : mlook m n = some v) : ∃ b, (n, v, b) ∈ m := by
  unfold mlook at h
  obtain ⟨f, hf, rfl⟩ := Option.map_eq_some_iff.1 h
  have h1 := List.mem_of_find?_eq_some hf
  have h2 : f.1 = n := by simpa using List.find?_some hf
  subst h2
  exact ⟨f.2.2, h1⟩
theorem asF_mem {f : NameP → Int} {m done : List (NameP × Int × Nat)} {c : Nat} (hj : PM f m c) (hs : ∀ e ∈ done, e ∈ m) (ha : ∀ e ∈ m, e ∈ done) (x : AssetP) : x ∈ asF done ↔ 1 ≤ x.amount ∧ f x.key = x.amount := by
  unfold asF
  constructor
  · intro hx
    obtain ⟨e, he, rfl⟩ := List.mem_map.1 hx
    obtain ⟨he, hp⟩ := List.mem_filter.1 he
    have hp' : 0 < e.2.1 := by simpa using hp
    have := hj.look e.1
    rw [mlook_mem hj.wf (hs e he)] at this
    exact ⟨hp', this.symm⟩
  · rintro ⟨h1, h2⟩
    have := hj.look x.key
    rw [h2] at this
    cases hm : mlook m x.key with
    | none => rw [hm] at this; simp at this; omega
    | some v =>
      rw [hm] at this
      obtain ⟨b, hb⟩ := mem_mlook hm
      have hv : v = x.amount := this
      refine List.mem_map.2 ⟨(x.key, v, b), List.mem_filter.2 ⟨ha _ hb, ?_⟩, ?_⟩
      · simp; omega
      · subst hv; rfl
theorem isB_perm {f : NameP → Int} {al bs : List AssetP} (hr : Rise AssetP.key al) (hp : al.Perm bs) (hm : ∀ x, x ∈ bs ↔ 1 ≤ x.amount ∧ f x.key = x.amount) : IsB f al := ⟨hr, fun x => by rw [hp.mem_iff, hm]⟩
theorem isB_len {f : NameP → Int} {al bs : List AssetP} (h : IsB f al) (hn : (bs.map AssetP.key).Nodup) (hm : ∀ x, x ∈ bs ↔ 1 ≤ x.amount ∧ f x.key = x.amount) : al.length = bs.length :=
  (perm_same (nodup_of_map h.1.nodup) (nodup_of_map hn) fun x => by rw [h.2, hm]).length_eq
end Go.Proofs.Ytlnckcgbpilmdaa
