/- The functions of this seat, as the logic sees them (printed by program). -/
import Derived.Test.YtpmgmingjggegaaAlX
import Derived.Test.YtpmgmingjggegaaChecked
namespace Go.Proofs.Ytpmgmingjggegaa.AL
open Go
set_option maxRecDepth 100000
-- f0 main.main: no body
-- f1 gosem.cut: no body
-- gosem.cut.init  slots [] names []
abbrev c2_0 : ACode := .reg false [⟨.call (.f 1) [], none, .b⟩] []
abbrev c2 : ACode := c2_0
theorem k2 : FnOk Try.prog 2 [] [] c2 [] 0 := .of Try.func2 (by kernel_rfl)
-- reef/reeflaw33.SetupMixes  slots [0, 1, 2, 6, 7, 8, 10, 11, 13, 34, 35, 36, 37, 38, 52, 56, 57, 58, 59, 73] names [a, b, seed, , m, i, s, k, s, , , , , , , , , , , ]
abbrev c3_0 : ACode := .reg false [⟨.mv (.c (.bool false)), none, .b⟩] [(3, 0)]
abbrev c3_1 : ACode := .reg false [⟨.mv (.s 0), none, .b⟩,
  ⟨.mv (.s 1), none, .b⟩,
  ⟨.mv (.s 2), none, .b⟩,
  ⟨.call (.f 5) [(.r 2), (.r 1), (.r 0)], none, .b⟩,
  ⟨.mv (.r 0), none, .b⟩] [(4, 0)]
abbrev c3_2 : ACode := .reg false [⟨.mv (.s 4), none, .b⟩,
  ⟨.mv (.s 0), none, .b⟩,
  ⟨.mv (.s 1), none, .b⟩,
  ⟨.mv (.s 2), none, .b⟩,
  ⟨.call (.f 7) [(.r 2), (.r 1), (.r 0)], none, .b⟩,
  ⟨.call (.f 6) [(.r 4), (.r 0)], none, .b⟩,
  ⟨.un .not (.r 0), none, .b⟩,
  ⟨.mv (.r 0), none, .b⟩,
  ⟨.mv (.s 4), some (0, false), .b⟩,
  ⟨.len false (.r 0), some (1, false), .b⟩,
  ⟨.mv (.s 0), some (2, false), .b⟩,
  ⟨.len false (.r 0), some (3, false), .b⟩,
  ⟨.mv (.s 1), some (4, false), .b⟩,
  ⟨.len false (.r 0), some (5, false), .b⟩,
  ⟨.bin .add (.r 2) (.r 0), some (6, false), .b⟩,
  ⟨.bin .neq (.r 5) (.r 0), some (7, false), .b⟩,
  ⟨.pick (.r 8) (.c (.bool true)) (.r 0), none, .b⟩] [(9, 0)]
abbrev c3_3 : ACode := .reg false [⟨.mv (.c (.bool false)), none, .b⟩] [(3, 0)]
abbrev c3_4 : ACode := .seq c3_3 .ret
abbrev c3_5 : ACode := .cond (.s 9) c3_4 .skip
abbrev c3_6 : ACode := .seq c3_2 c3_5
abbrev c3_7 : ACode := .reg false [⟨.mv (.c (.int .i64 (0))), none, .b⟩] [(5, 0)]
abbrev c3_8 : ACode := .reg false [⟨.mv (.s 4), none, .b⟩,
  ⟨.len false (.r 0), none, .b⟩,
  ⟨.mv (.c (.int .i64 (0))), none, .b⟩] [(10, 2), (11, 1), (12, 0)]
abbrev c3_9 : ACode := .reg false [⟨.bin .lss (.s 12) (.s 11), none, .b⟩] [(13, 0)]
abbrev c3_10 : ACode := .cond (.s 13) .skip (.exit 0)
abbrev c3_11 : ACode := .reg false [⟨.ixs 33 (.s 10) (.s 12), none, .b⟩,
  ⟨.load 33 true (.r 0), none, .b⟩,
  ⟨.alloc [(.lit (.int .i64 (0))), (.lit (.int .i64 (0))), (.lit (.int .i64 (0))), (.lit (.int .i64 (0))), (.lit (.int .i64 (0))), (.lit (.int .i64 (0))), (.lit (.int .u64 (0))), (.lit (.int .i64 (0))), (.lit (.int .i64 (0))), (.lit (.int .i64 (0))), (.lit (.int .i64 (0))), (.lit (.int .i64 (0))), (.lit (.int .i64 (0))), (.lit (.int .i64 (0))), (.lit (.int .i64 (0))), (.lit (.int .i64 (0))), (.lit (.int .i64 (0))), (.lit (.string ⟨#[]⟩)), (.lit (.int .i64 (0))), (.lit (.int .i64 (0))), (.lit (.string ⟨#[]⟩)), (.lit (.string ⟨#[]⟩)), (.lit (.int .i64 (0))), (.lit (.int .i64 (0))), (.lit (.int .i64 (0))), (.lit (.string ⟨#[]⟩)), (.lit (.bool false)), (.lit (.int .i64 (0))), (.sl 0 []), (.lit (.string ⟨#[]⟩)), (.lit (.int .i64 (0))), (.lit (.int .i64 (0))), (.lit (.int .i64 (0)))], none, .b⟩,
  ⟨.store 33 (.r 0) (.r 1), none, .b⟩] [(6, 1)]
abbrev c3_12 : ACode := .reg true [⟨.mv (.s 5), none, .p 0 0⟩,
  ⟨.mv (.s 0), none, .p 0 0⟩,
  ⟨.len false (.r 0), none, .p 0 0⟩,
  ⟨.bin .lss (.r 2) (.r 0), none, .b⟩,
  ⟨.mv (.r 0), none, .b⟩,
  ⟨.load 33 true (.s 6), some (0, true), .p 0 0⟩,
  ⟨.mv (.s 0), some (1, true), .p 0 0⟩,
  ⟨.mv (.s 5), some (2, true), .p 0 0⟩,
  ⟨.ixs 33 (.r 1) (.r 0), some (3, true), .p 0 0⟩,
  ⟨.load 33 true (.r 0), some (4, true), .p 0 0⟩,
  ⟨.call (.f 8) [(.r 4), (.r 0)], some (5, true), .b⟩,
  ⟨.pick (.r 6) (.r 0) (.c (.bool false)), none, .b⟩] [(14, 0)]
abbrev c3_13 : ACode := .reg false [⟨.mv (.s 5), none, .b⟩,
  ⟨.bin .add (.r 0) (.c (.int .i64 (1))), none, .b⟩,
  ⟨.mv (.r 0), none, .b⟩] [(5, 0)]
abbrev c3_14 : ACode := .cond (.s 14) c3_13 .skip
abbrev c3_15 : ACode := .seq c3_12 c3_14
abbrev c3_16 : ACode := .seq c3_11 c3_15
abbrev c3_17 : ACode := .block 1 c3_16
abbrev c3_18 : ACode := .reg false [⟨.bin .add (.s 12) (.c (.int .i64 (1))), none, .b⟩,
  ⟨.mv (.r 0), none, .b⟩] [(12, 0)]
abbrev c3_19 : ACode := .seq c3_17 c3_18
abbrev c3_20 : ACode := .seq c3_10 c3_19
abbrev c3_21 : ACode := .seq c3_9 c3_20
abbrev c3_22 : ACode := .loop c3_21
abbrev c3_23 : ACode := .block 0 c3_22
abbrev c3_24 : ACode := .seq c3_8 c3_23
abbrev c3_25 : ACode := .reg false [⟨.mv (.c (.int .i64 (0))), none, .b⟩] [(7, 0)]
abbrev c3_26 : ACode := .reg false [⟨.mv (.s 4), none, .b⟩,
  ⟨.len false (.r 0), none, .b⟩,
  ⟨.mv (.c (.int .i64 (0))), none, .b⟩] [(15, 2), (16, 1), (17, 0)]
abbrev c3_27 : ACode := .reg false [⟨.bin .lss (.s 17) (.s 16), none, .b⟩] [(18, 0)]
abbrev c3_28 : ACode := .cond (.s 18) .skip (.exit 2)
abbrev c3_29 : ACode := .reg false [⟨.ixs 33 (.s 15) (.s 17), none, .b⟩,
  ⟨.load 33 true (.r 0), none, .b⟩,
  ⟨.alloc [(.lit (.int .i64 (0))), (.lit (.int .i64 (0))), (.lit (.int .i64 (0))), (.lit (.int .i64 (0))), (.lit (.int .i64 (0))), (.lit (.int .i64 (0))), (.lit (.int .u64 (0))), (.lit (.int .i64 (0))), (.lit (.int .i64 (0))), (.lit (.int .i64 (0))), (.lit (.int .i64 (0))), (.lit (.int .i64 (0))), (.lit (.int .i64 (0))), (.lit (.int .i64 (0))), (.lit (.int .i64 (0))), (.lit (.int .i64 (0))), (.lit (.int .i64 (0))), (.lit (.string ⟨#[]⟩)), (.lit (.int .i64 (0))), (.lit (.int .i64 (0))), (.lit (.string ⟨#[]⟩)), (.lit (.string ⟨#[]⟩)), (.lit (.int .i64 (0))), (.lit (.int .i64 (0))), (.lit (.int .i64 (0))), (.lit (.string ⟨#[]⟩)), (.lit (.bool false)), (.lit (.int .i64 (0))), (.sl 0 []), (.lit (.string ⟨#[]⟩)), (.lit (.int .i64 (0))), (.lit (.int .i64 (0))), (.lit (.int .i64 (0)))], none, .b⟩,
  ⟨.store 33 (.r 0) (.r 1), none, .b⟩] [(8, 1)]
abbrev c3_30 : ACode := .reg true [⟨.mv (.s 7), none, .p 0 0⟩,
  ⟨.mv (.s 1), none, .p 0 0⟩,
  ⟨.len false (.r 0), none, .p 0 0⟩,
  ⟨.bin .lss (.r 2) (.r 0), none, .b⟩,
  ⟨.mv (.r 0), none, .b⟩,
  ⟨.load 33 true (.s 8), some (0, true), .p 0 0⟩,
  ⟨.mv (.s 1), some (1, true), .p 0 0⟩,
  ⟨.mv (.s 7), some (2, true), .p 0 0⟩,
  ⟨.ixs 33 (.r 1) (.r 0), some (3, true), .p 0 0⟩,
  ⟨.load 33 true (.r 0), some (4, true), .p 0 0⟩,
  ⟨.call (.f 8) [(.r 4), (.r 0)], some (5, true), .b⟩,
  ⟨.pick (.r 6) (.r 0) (.c (.bool false)), none, .b⟩] [(19, 0)]
abbrev c3_31 : ACode := .reg false [⟨.mv (.s 7), none, .b⟩,
  ⟨.bin .add (.r 0) (.c (.int .i64 (1))), none, .b⟩,
  ⟨.mv (.r 0), none, .b⟩] [(7, 0)]
abbrev c3_32 : ACode := .cond (.s 19) c3_31 .skip
abbrev c3_33 : ACode := .seq c3_30 c3_32
abbrev c3_34 : ACode := .seq c3_29 c3_33
abbrev c3_35 : ACode := .block 3 c3_34
abbrev c3_36 : ACode := .reg false [⟨.bin .add (.s 17) (.c (.int .i64 (1))), none, .b⟩,
  ⟨.mv (.r 0), none, .b⟩] [(17, 0)]
abbrev c3_37 : ACode := .seq c3_35 c3_36
abbrev c3_38 : ACode := .seq c3_28 c3_37
abbrev c3_39 : ACode := .seq c3_27 c3_38
abbrev c3_40 : ACode := .loop c3_39
abbrev c3_41 : ACode := .block 2 c3_40
abbrev c3_42 : ACode := .seq c3_26 c3_41
abbrev c3_43 : ACode := .reg false [⟨.mv (.s 5), none, .b⟩,
  ⟨.mv (.s 0), none, .b⟩,
  ⟨.len false (.r 0), none, .b⟩,
  ⟨.bin .eql (.r 2) (.r 0), none, .b⟩,
  ⟨.mv (.r 0), none, .b⟩,
  ⟨.mv (.s 7), some (0, true), .b⟩,
  ⟨.mv (.s 1), some (1, true), .b⟩,
  ⟨.len false (.r 0), some (2, true), .b⟩,
  ⟨.bin .eql (.r 2) (.r 0), some (3, true), .b⟩,
  ⟨.pick (.r 4) (.r 0) (.c (.bool false)), none, .b⟩,
  ⟨.mv (.r 0), none, .b⟩,
  ⟨.call (.f 9) [], some (0, true), .b⟩,
  ⟨.pick (.r 1) (.r 0) (.c (.bool false)), none, .b⟩,
  ⟨.mv (.r 0), none, .b⟩] [(3, 0)]
abbrev c3_44 : ACode := .seq c3_43 .ret
abbrev c3_45 : ACode := .seq c3_42 c3_44
abbrev c3_46 : ACode := .seq c3_25 c3_45
abbrev c3_47 : ACode := .seq c3_24 c3_46
abbrev c3_48 : ACode := .seq c3_7 c3_47
abbrev c3_49 : ACode := .seq c3_6 c3_48
abbrev c3_50 : ACode := .seq c3_1 c3_49
abbrev c3_51 : ACode := .seq c3_0 c3_50
abbrev c3 : ACode := c3_51
theorem k3 : FnOk Try.prog 3 [] [0, 1, 2, 6, 7, 8, 10, 11, 13, 34, 35, 36, 37, 38, 52, 56, 57, 58, 59, 73] c3 [.t 3] 3 := .of Try.func3 (by kernel_rfl)
-- reef/reeflaw33.SetupSteps  slots [0, 1, 2, 3, 6, 7, 9, 38, 39, 40, 41, 46] names [c, seed, n, c, , all, s, , , , , ]
abbrev c4_0 : ACode := .reg false [⟨.box 4 (.s 0), none, .b⟩,
  ⟨.mv (.c (.bool false)), none, .b⟩] [(3, 1), (4, 0)]
abbrev c4_1 : ACode := .reg false [⟨.mv (.c (.slice none 0 0)), none, .b⟩] [(5, 0)]
abbrev c4_2 : ACode := .reg false [⟨.mv (.s 5), none, .b⟩,
  ⟨.load 4 true (.s 3), none, .b⟩,
  ⟨.build [(.lit (.int .i64 (0))), (.lit (.int .i64 (0))), (.lit (.int .i64 (0))), (.lit (.int .i64 (0)))] [(0, 1, (.c (.int .i64 (1)))), (1, 1, (.c (.int .i64 (1)))), (2, 1, (.c (.int .i64 (1)))), (3, 1, (.c (.int .i64 (1))))], none, .b⟩,
  ⟨.bsl false [(.lit (.int .i64 (0))), (.lit (.int .i64 (0))), (.lit (.int .i64 (0))), (.lit (.int .i64 (0)))] 1 [(0, (.r 0))], none, .b⟩,
  ⟨.call (.f 10) [(.r 2), (.r 0)], none, .b⟩,
  ⟨.app 33 320 (.r 4) (.r 0), none, .b⟩,
  ⟨.mv (.r 0), none, .b⟩] [(5, 0)]
abbrev c4_3 : ACode := .reg false [⟨.mv (.s 5), none, .b⟩,
  ⟨.load 4 true (.s 3), none, .b⟩,
  ⟨.mv (.s 1), none, .b⟩,
  ⟨.mv (.s 2), none, .b⟩,
  ⟨.call (.f 11) [(.r 2), (.c (.int .i64 (0))), (.r 1), (.r 0)], none, .b⟩,
  ⟨.app 33 320 (.r 4) (.r 0), none, .b⟩,
  ⟨.mv (.r 0), none, .b⟩] [(5, 0)]
abbrev c4_4 : ACode := .reg false [⟨.mv (.s 5), none, .b⟩,
  ⟨.load 4 true (.s 3), none, .b⟩,
  ⟨.mv (.s 1), none, .b⟩,
  ⟨.mv (.s 2), none, .b⟩,
  ⟨.call (.f 12) [(.r 2), (.r 1), (.r 0)], none, .b⟩,
  ⟨.app 33 320 (.r 4) (.r 0), none, .b⟩,
  ⟨.mv (.r 0), none, .b⟩] [(5, 0)]
abbrev c4_5 : ACode := .reg false [⟨.mv (.s 5), none, .b⟩,
  ⟨.load 4 true (.s 3), none, .b⟩,
  ⟨.call (.f 13) [(.r 0)], none, .b⟩,
  ⟨.app 33 320 (.r 2) (.r 0), none, .b⟩,
  ⟨.mv (.r 0), none, .b⟩] [(5, 0)]
abbrev c4_6 : ACode := .reg false [⟨.mv (.s 5), none, .b⟩,
  ⟨.load 4 true (.s 3), none, .b⟩,
  ⟨.mv (.s 1), none, .b⟩,
  ⟨.mv (.s 2), none, .b⟩,
  ⟨.call (.f 14) [(.r 2), (.c (.string ⟨#[105, 109, 103]⟩)), (.r 1), (.r 0)], none, .b⟩,
  ⟨.app 33 320 (.r 4) (.r 0), none, .b⟩,
  ⟨.mv (.r 0), none, .b⟩] [(5, 0)]
abbrev c4_7 : ACode := .reg false [⟨.mv (.s 5), none, .b⟩,
  ⟨.len false (.r 0), none, .b⟩,
  ⟨.mv (.c (.int .i64 (0))), none, .b⟩] [(7, 2), (8, 1), (9, 0)]
abbrev c4_8 : ACode := .reg false [⟨.bin .lss (.s 9) (.s 8), none, .b⟩] [(10, 0)]
abbrev c4_9 : ACode := .cond (.s 10) .skip (.exit 0)
abbrev c4_10 : ACode := .reg false [⟨.ixs 33 (.s 7) (.s 9), none, .b⟩,
  ⟨.load 33 true (.r 0), none, .b⟩,
  ⟨.alloc [(.lit (.int .i64 (0))), (.lit (.int .i64 (0))), (.lit (.int .i64 (0))), (.lit (.int .i64 (0))), (.lit (.int .i64 (0))), (.lit (.int .i64 (0))), (.lit (.int .u64 (0))), (.lit (.int .i64 (0))), (.lit (.int .i64 (0))), (.lit (.int .i64 (0))), (.lit (.int .i64 (0))), (.lit (.int .i64 (0))), (.lit (.int .i64 (0))), (.lit (.int .i64 (0))), (.lit (.int .i64 (0))), (.lit (.int .i64 (0))), (.lit (.int .i64 (0))), (.lit (.string ⟨#[]⟩)), (.lit (.int .i64 (0))), (.lit (.int .i64 (0))), (.lit (.string ⟨#[]⟩)), (.lit (.string ⟨#[]⟩)), (.lit (.int .i64 (0))), (.lit (.int .i64 (0))), (.lit (.int .i64 (0))), (.lit (.string ⟨#[]⟩)), (.lit (.bool false)), (.lit (.int .i64 (0))), (.sl 0 []), (.lit (.string ⟨#[]⟩)), (.lit (.int .i64 (0))), (.lit (.int .i64 (0))), (.lit (.int .i64 (0)))], none, .b⟩,
  ⟨.store 33 (.r 0) (.r 1), none, .b⟩] [(6, 1)]
abbrev c4_11 : ACode := .reg false [⟨.load 33 true (.s 6), none, .b⟩,
  ⟨.call (.f 15) [(.r 0)], none, .b⟩,
  ⟨.un .not (.r 0), none, .b⟩] [(11, 0)]
abbrev c4_12 : ACode := .reg false [⟨.mv (.c (.bool false)), none, .b⟩] [(4, 0)]
abbrev c4_13 : ACode := .seq c4_12 .ret
abbrev c4_14 : ACode := .cond (.s 11) c4_13 .skip
abbrev c4_15 : ACode := .seq c4_11 c4_14
abbrev c4_16 : ACode := .seq c4_10 c4_15
abbrev c4_17 : ACode := .block 1 c4_16
abbrev c4_18 : ACode := .reg false [⟨.bin .add (.s 9) (.c (.int .i64 (1))), none, .b⟩,
  ⟨.mv (.r 0), none, .b⟩] [(9, 0)]
abbrev c4_19 : ACode := .seq c4_17 c4_18
abbrev c4_20 : ACode := .seq c4_9 c4_19
abbrev c4_21 : ACode := .seq c4_8 c4_20
abbrev c4_22 : ACode := .loop c4_21
abbrev c4_23 : ACode := .block 0 c4_22
abbrev c4_24 : ACode := .seq c4_7 c4_23
abbrev c4_25 : ACode := .reg false [⟨.call (.f 9) [], none, .b⟩,
  ⟨.mv (.r 0), none, .b⟩] [(4, 0)]
abbrev c4_26 : ACode := .seq c4_25 .ret
abbrev c4_27 : ACode := .seq c4_24 c4_26
abbrev c4_28 : ACode := .seq c4_6 c4_27
abbrev c4_29 : ACode := .seq c4_5 c4_28
abbrev c4_30 : ACode := .seq c4_4 c4_29
abbrev c4_31 : ACode := .seq c4_3 c4_30
abbrev c4_32 : ACode := .seq c4_2 c4_31
abbrev c4_33 : ACode := .seq c4_1 c4_32
abbrev c4_34 : ACode := .seq c4_0 c4_33
abbrev c4 : ACode := c4_34
theorem k4 : FnOk Try.prog 4 [] [0, 1, 2, 3, 6, 7, 9, 38, 39, 40, 41, 46] c4 [.t 4] 3 := .of Try.func4 (by kernel_rfl)
-- reef/setup.Mix  slots [0, 1, 2, 3, 4, 6, 7] names [a, b, seed, a, b, , out]
abbrev c5_0 : ACode := .reg false [⟨.box 1 (.s 0), none, .b⟩,
  ⟨.box 1 (.s 1), none, .b⟩,
  ⟨.mv (.c (.slice none 0 0)), none, .b⟩] [(3, 2), (4, 1), (5, 0)]
abbrev c5_1 : ACode := .reg false [⟨.alloc [(.sl 0 [])], none, .b⟩] [(6, 0)]
abbrev c5_2 : ACode := .reg false [⟨.mv (.s 2), none, .b⟩,
  ⟨.mkf 17 [(.s 3), (.s 4), (.s 6)], none, .b⟩,
  ⟨.call (.f 16) [(.r 1), (.r 0)], none, .b⟩] []
abbrev c5_3 : ACode := .reg true [⟨.load 1 false (.s 6), none, .p 0 0⟩,
  ⟨.load 1 false (.s 3), none, .p 0 0⟩,
  ⟨.app 33 320 (.r 1) (.r 0), none, .e⟩,
  ⟨.load 1 false (.s 4), none, .p 1 0⟩,
  ⟨.app 33 320 (.r 1) (.r 0), none, .b⟩,
  ⟨.mv (.r 0), none, .b⟩] [(5, 0)]
abbrev c5_4 : ACode := .seq c5_3 .ret
abbrev c5_5 : ACode := .seq c5_2 c5_4
abbrev c5_6 : ACode := .seq c5_1 c5_5
abbrev c5_7 : ACode := .seq c5_0 c5_6
abbrev c5 : ACode := c5_7
theorem k5 : FnOk Try.prog 5 [] [0, 1, 2, 3, 4, 6, 7] c5 [.t 5] 3 := .of Try.func5 (by kernel_rfl)
-- reef/reeflaw33.steps  slots [0, 1, 4, 5, 10, 12, 13, 14, 25] names [a, b, , i, , , , , ]
abbrev c6_0 : ACode := .reg false [⟨.mv (.c (.bool false)), none, .b⟩] [(2, 0)]
abbrev c6_1 : ACode := .reg false [⟨.mv (.s 0), none, .b⟩,
  ⟨.len false (.r 0), none, .b⟩,
  ⟨.mv (.s 1), none, .b⟩,
  ⟨.len false (.r 0), none, .b⟩,
  ⟨.bin .neq (.r 2) (.r 0), none, .b⟩] [(4, 0)]
abbrev c6_2 : ACode := .reg false [⟨.mv (.c (.bool false)), none, .b⟩] [(2, 0)]
abbrev c6_3 : ACode := .seq c6_2 .ret
abbrev c6_4 : ACode := .cond (.s 4) c6_3 .skip
abbrev c6_5 : ACode := .seq c6_1 c6_4
abbrev c6_6 : ACode := .reg false [⟨.mv (.s 0), none, .b⟩,
  ⟨.len false (.r 0), none, .b⟩,
  ⟨.mv (.c (.int .i64 (0))), none, .b⟩] [(5, 1), (6, 0)]
abbrev c6_7 : ACode := .reg false [⟨.bin .lss (.s 6) (.s 5), none, .b⟩] [(7, 0)]
abbrev c6_8 : ACode := .cond (.s 7) .skip (.exit 0)
abbrev c6_9 : ACode := .reg false [⟨.mv (.s 6), none, .b⟩,
  ⟨.mv (.r 0), none, .b⟩] [(3, 0)]
abbrev c6_10 : ACode := .reg true [⟨.mv (.s 0), none, .p 0 0⟩,
  ⟨.mv (.s 3), none, .p 0 0⟩,
  ⟨.ixs 33 (.r 1) (.r 0), none, .p 0 0⟩,
  ⟨.load 33 true (.r 0), none, .p 0 0⟩,
  ⟨.mv (.s 1), none, .p 0 0⟩,
  ⟨.mv (.s 3), none, .p 0 0⟩,
  ⟨.ixs 33 (.r 1) (.r 0), none, .p 0 0⟩,
  ⟨.load 33 true (.r 0), none, .p 0 0⟩,
  ⟨.call (.f 8) [(.r 4), (.r 0)], none, .b⟩,
  ⟨.un .not (.r 0), none, .b⟩] [(8, 0)]
abbrev c6_11 : ACode := .reg false [⟨.mv (.c (.bool false)), none, .b⟩] [(2, 0)]
abbrev c6_12 : ACode := .seq c6_11 .ret
abbrev c6_13 : ACode := .cond (.s 8) c6_12 .skip
abbrev c6_14 : ACode := .seq c6_10 c6_13
abbrev c6_15 : ACode := .seq c6_9 c6_14
abbrev c6_16 : ACode := .block 1 c6_15
abbrev c6_17 : ACode := .reg false [⟨.bin .add (.s 6) (.c (.int .i64 (1))), none, .b⟩,
  ⟨.mv (.r 0), none, .b⟩] [(6, 0)]
abbrev c6_18 : ACode := .seq c6_16 c6_17
abbrev c6_19 : ACode := .seq c6_8 c6_18
abbrev c6_20 : ACode := .seq c6_7 c6_19
abbrev c6_21 : ACode := .loop c6_20
abbrev c6_22 : ACode := .block 0 c6_21
abbrev c6_23 : ACode := .seq c6_6 c6_22
abbrev c6_24 : ACode := .reg false [⟨.mv (.c (.bool true)), none, .b⟩] [(2, 0)]
abbrev c6_25 : ACode := .seq c6_24 .ret
abbrev c6_26 : ACode := .seq c6_23 c6_25
abbrev c6_27 : ACode := .seq c6_5 c6_26
abbrev c6_28 : ACode := .seq c6_0 c6_27
abbrev c6 : ACode := c6_28
theorem k6 : FnOk Try.prog 6 [] [0, 1, 4, 5, 10, 12, 13, 14, 25] c6 [.t 2] 2 := .of Try.func6 (by kernel_rfl)
-- reef/reefref33.Mix  slots [0, 1, 2, 6, 7, 8, 9, 10, 23, 26] names [a, b, seed, , d, l, i, k, , ]
abbrev c7_0 : ACode := .reg false [⟨.mv (.c (.slice none 0 0)), none, .b⟩] [(3, 0)]
abbrev c7_1 : ACode := .reg false [⟨.mv (.s 2), none, .b⟩,
  ⟨.build [(.lit (.int .u64 (0)))] [(0, 1, (.r 0))], none, .b⟩,
  ⟨.box 1 (.r 0), none, .b⟩,
  ⟨.mv (.r 0), none, .b⟩] [(4, 0)]
abbrev c7_2 : ACode := .reg false [⟨.mv (.c (.slice none 0 0)), none, .b⟩] [(5, 0)]
abbrev c7_3 : ACode := .reg false [⟨.mv (.c (.int .i64 (0))), none, .b⟩] [(6, 0)]
abbrev c7_4 : ACode := .reg false [⟨.mv (.c (.int .i64 (0))), none, .b⟩] [(7, 0)]
abbrev c7_5 : ACode := .reg false [⟨.mv (.s 6), none, .b⟩,
  ⟨.mv (.s 0), none, .b⟩,
  ⟨.len false (.r 0), none, .b⟩,
  ⟨.bin .lss (.r 2) (.r 0), none, .b⟩,
  ⟨.mv (.r 0), none, .b⟩,
  ⟨.mv (.s 7), some (0, true), .b⟩,
  ⟨.mv (.s 1), some (1, true), .b⟩,
  ⟨.len false (.r 0), some (2, true), .b⟩,
  ⟨.bin .lss (.r 2) (.r 0), some (3, true), .b⟩,
  ⟨.pick (.r 4) (.r 0) (.c (.bool false)), none, .b⟩] [(8, 0)]
abbrev c7_6 : ACode := .cond (.s 8) .skip (.exit 0)
abbrev c7_7 : ACode := .seq c7_5 c7_6
abbrev c7_8 : ACode := .reg false [⟨.mv (.s 4), none, .b⟩,
  ⟨.call (.f 19) [(.r 0), (.c (.int .i64 (2)))], none, .b⟩,
  ⟨.bin .eql (.r 0) (.c (.int .i64 (0))), none, .b⟩] [(9, 0)]
abbrev c7_9 : ACode := .reg false [⟨.mv (.s 5), none, .b⟩,
  ⟨.mv (.s 0), none, .b⟩,
  ⟨.mv (.s 6), none, .b⟩,
  ⟨.ixs 33 (.r 1) (.r 0), none, .b⟩,
  ⟨.load 33 true (.r 0), none, .b⟩,
  ⟨.bsl false [(.lit (.int .i64 (0))), (.lit (.int .i64 (0))), (.lit (.int .i64 (0))), (.lit (.int .i64 (0))), (.lit (.int .i64 (0))), (.lit (.int .i64 (0))), (.lit (.int .u64 (0))), (.lit (.int .i64 (0))), (.lit (.int .i64 (0))), (.lit (.int .i64 (0))), (.lit (.int .i64 (0))), (.lit (.int .i64 (0))), (.lit (.int .i64 (0))), (.lit (.int .i64 (0))), (.lit (.int .i64 (0))), (.lit (.int .i64 (0))), (.lit (.int .i64 (0))), (.lit (.string ⟨#[]⟩)), (.lit (.int .i64 (0))), (.lit (.int .i64 (0))), (.lit (.string ⟨#[]⟩)), (.lit (.string ⟨#[]⟩)), (.lit (.int .i64 (0))), (.lit (.int .i64 (0))), (.lit (.int .i64 (0))), (.lit (.string ⟨#[]⟩)), (.lit (.bool false)), (.lit (.int .i64 (0))), (.sl 0 []), (.lit (.string ⟨#[]⟩)), (.lit (.int .i64 (0))), (.lit (.int .i64 (0))), (.lit (.int .i64 (0)))] 1 [(0, (.r 0))], none, .b⟩,
  ⟨.app 33 320 (.r 5) (.r 0), none, .b⟩,
  ⟨.mv (.r 0), none, .b⟩] [(5, 0)]
abbrev c7_10 : ACode := .reg false [⟨.mv (.s 6), none, .b⟩,
  ⟨.bin .add (.r 0) (.c (.int .i64 (1))), none, .b⟩,
  ⟨.mv (.r 0), none, .b⟩] [(6, 0)]
abbrev c7_11 : ACode := .seq c7_9 c7_10
abbrev c7_12 : ACode := .reg false [⟨.mv (.s 5), none, .b⟩,
  ⟨.mv (.s 1), none, .b⟩,
  ⟨.mv (.s 7), none, .b⟩,
  ⟨.ixs 33 (.r 1) (.r 0), none, .b⟩,
  ⟨.load 33 true (.r 0), none, .b⟩,
  ⟨.bsl false [(.lit (.int .i64 (0))), (.lit (.int .i64 (0))), (.lit (.int .i64 (0))), (.lit (.int .i64 (0))), (.lit (.int .i64 (0))), (.lit (.int .i64 (0))), (.lit (.int .u64 (0))), (.lit (.int .i64 (0))), (.lit (.int .i64 (0))), (.lit (.int .i64 (0))), (.lit (.int .i64 (0))), (.lit (.int .i64 (0))), (.lit (.int .i64 (0))), (.lit (.int .i64 (0))), (.lit (.int .i64 (0))), (.lit (.int .i64 (0))), (.lit (.int .i64 (0))), (.lit (.string ⟨#[]⟩)), (.lit (.int .i64 (0))), (.lit (.int .i64 (0))), (.lit (.string ⟨#[]⟩)), (.lit (.string ⟨#[]⟩)), (.lit (.int .i64 (0))), (.lit (.int .i64 (0))), (.lit (.int .i64 (0))), (.lit (.string ⟨#[]⟩)), (.lit (.bool false)), (.lit (.int .i64 (0))), (.sl 0 []), (.lit (.string ⟨#[]⟩)), (.lit (.int .i64 (0))), (.lit (.int .i64 (0))), (.lit (.int .i64 (0)))] 1 [(0, (.r 0))], none, .b⟩,
  ⟨.app 33 320 (.r 5) (.r 0), none, .b⟩,
  ⟨.mv (.r 0), none, .b⟩] [(5, 0)]
abbrev c7_13 : ACode := .reg false [⟨.mv (.s 7), none, .b⟩,
  ⟨.bin .add (.r 0) (.c (.int .i64 (1))), none, .b⟩,
  ⟨.mv (.r 0), none, .b⟩] [(7, 0)]
abbrev c7_14 : ACode := .seq c7_12 c7_13
abbrev c7_15 : ACode := .cond (.s 9) c7_11 c7_14
abbrev c7_16 : ACode := .seq c7_8 c7_15
abbrev c7_17 : ACode := .block 1 c7_16
abbrev c7_18 : ACode := .seq c7_7 c7_17
abbrev c7_19 : ACode := .loop c7_18
abbrev c7_20 : ACode := .block 0 c7_19
abbrev c7_21 : ACode := .reg false [⟨.mv (.s 5), none, .b⟩,
  ⟨.mv (.s 0), none, .b⟩,
  ⟨.mv (.s 6), none, .b⟩,
  ⟨.slc 33 (.r 1) (some (.r 0)) none none, none, .b⟩,
  ⟨.app 33 320 (.r 3) (.r 0), none, .b⟩,
  ⟨.mv (.r 0), none, .b⟩] [(5, 0)]
abbrev c7_22 : ACode := .reg false [⟨.mv (.s 5), none, .b⟩,
  ⟨.mv (.s 1), none, .b⟩,
  ⟨.mv (.s 7), none, .b⟩,
  ⟨.slc 33 (.r 1) (some (.r 0)) none none, none, .b⟩,
  ⟨.app 33 320 (.r 3) (.r 0), none, .b⟩,
  ⟨.mv (.r 0), none, .b⟩] [(3, 0)]
abbrev c7_23 : ACode := .seq c7_22 .ret
abbrev c7_24 : ACode := .seq c7_21 c7_23
abbrev c7_25 : ACode := .seq c7_20 c7_24
abbrev c7_26 : ACode := .seq c7_4 c7_25
abbrev c7_27 : ACode := .seq c7_3 c7_26
abbrev c7_28 : ACode := .seq c7_2 c7_27
abbrev c7_29 : ACode := .seq c7_1 c7_28
abbrev c7_30 : ACode := .seq c7_0 c7_29
abbrev c7 : ACode := c7_30
theorem k7 : FnOk Try.prog 7 [] [0, 1, 2, 6, 7, 8, 9, 10, 23, 26] c7 [.t 3] 3 := .of Try.func7 (by kernel_rfl)
-- reef/reefref31.SameStep  slots [0, 1, 2, 3, 4] names [a, b, a, b, ]
abbrev c8_0 : ACode := .reg false [⟨.box 33 (.s 0), none, .b⟩,
  ⟨.box 33 (.s 1), none, .b⟩,
  ⟨.mv (.c (.bool false)), none, .b⟩] [(2, 2), (3, 1), (4, 0)]
abbrev c8_1 : ACode := .reg false (⟨.fa 0 (.s 2), none, .b⟩ ::
  ⟨.load 1 false (.r 0), none, .b⟩ ::
  ⟨.fa 0 (.s 3), none, .b⟩ ::
  ⟨.load 1 false (.r 0), none, .b⟩ ::
  ⟨.bin .eql (.r 2) (.r 0), none, .b⟩ ::
  ⟨.mv (.r 0), none, .b⟩ ::
  ⟨.fa 1 (.s 2), some (0, true), .b⟩ ::
  ⟨.load 2 true (.r 0), some (1, true), .b⟩ ::
  ⟨.fa 1 (.s 3), some (2, true), .b⟩ ::
  ⟨.load 2 true (.r 0), some (3, true), .b⟩ ::
  ⟨.eqs false [(.i .i64), (.i .i64)] (.r 2) (.r 0), some (4, true), .b⟩ ::
  ⟨.pick (.r 5) (.r 0) (.c (.bool false)), none, .b⟩ ::
  ⟨.mv (.r 0), none, .b⟩ ::
  ⟨.fa 3 (.s 2), some (0, true), .b⟩ ::
  ⟨.load 2 true (.r 0), some (1, true), .b⟩ ::
  ⟨.fa 3 (.s 3), some (2, true), .b⟩ ::
  ⟨.load 2 true (.r 0), some (3, true), .b⟩ ::
  ⟨.eqs false [(.i .i64), (.i .i64)] (.r 2) (.r 0), some (4, true), .b⟩ ::
  ⟨.pick (.r 5) (.r 0) (.c (.bool false)), none, .b⟩ ::
  ⟨.mv (.r 0), none, .b⟩ ::
  ⟨.fa 5 (.s 2), some (0, true), .b⟩ ::
  ⟨.load 1 false (.r 0), some (1, true), .b⟩ ::
  ⟨.fa 5 (.s 3), some (2, true), .b⟩ ::
  ⟨.load 1 false (.r 0), some (3, true), .b⟩ ::
  ⟨.bin .eql (.r 2) (.r 0), some (4, true), .b⟩ ::
  ⟨.pick (.r 5) (.r 0) (.c (.bool false)), none, .b⟩ ::
  ⟨.mv (.r 0), none, .b⟩ ::
  ⟨.fa 6 (.s 2), some (0, true), .b⟩ ::
  ⟨.load 1 false (.r 0), some (1, true), .b⟩ ::
  ⟨.fa 6 (.s 3), some (2, true), .b⟩ ::
  ⟨.load 1 false (.r 0), some (3, true), .b⟩ ::
  ⟨.bin .eql (.r 2) (.r 0), some (4, true), .b⟩ ::
  ⟨.pick (.r 5) (.r 0) (.c (.bool false)), none, .b⟩ ::
  ⟨.mv (.r 0), none, .b⟩ ::
  ⟨.fa 7 (.s 2), some (0, true), .b⟩ ::
  ⟨.load 8 true (.r 0), some (1, true), .b⟩ ::
  ⟨.fa 7 (.s 3), some (2, true), .b⟩ ::
  ⟨.load 8 true (.r 0), some (3, true), .b⟩ ::
  ⟨.eqs false [(.i .i64), (.i .i64), (.i .i64), (.i .i64), (.i .i64), (.i .i64), (.i .i64), (.i .i64)] (.r 2) (.r 0), some (4, true), .b⟩ ::
  ⟨.pick (.r 5) (.r 0) (.c (.bool false)), none, .b⟩ ::
  ⟨.mv (.r 0), none, .b⟩ ::
  ⟨.fa 15 (.s 2), some (0, true), .b⟩ ::
  ⟨.load 1 false (.r 0), some (1, true), .b⟩ ::
  ⟨.fa 15 (.s 3), some (2, true), .b⟩ ::
  ⟨.load 1 false (.r 0), some (3, true), .b⟩ ::
  ⟨.bin .eql (.r 2) (.r 0), some (4, true), .b⟩ ::
  ⟨.pick (.r 5) (.r 0) (.c (.bool false)), none, .b⟩ ::
  ⟨.mv (.r 0), none, .b⟩ ::
  ⟨.fa 16 (.s 2), some (0, true), .b⟩ ::
  ⟨.load 5 true (.r 0), some (1, true), .b⟩ ::
  ⟨.fa 16 (.s 3), some (2, true), .b⟩ ::
  ⟨.load 5 true (.r 0), some (3, true), .b⟩ ::
  ⟨.eqs false [(.i .i64), .s, (.i .i64), (.i .i64), .s] (.r 2) (.r 0), some (4, true), .b⟩ ::
  ⟨.pick (.r 5) (.r 0) (.c (.bool false)), none, .b⟩ ::
  ⟨.mv (.r 0), none, .b⟩ ::
  ⟨.fa 21 (.s 2), some (0, true), .b⟩ ::
  ⟨.load 1 false (.r 0), some (1, true), .b⟩ ::
  ⟨.fa 21 (.s 3), some (2, true), .b⟩ ::
  ⟨.load 1 false (.r 0), some (3, true), .b⟩ ::
  ⟨.bin .eql (.r 2) (.r 0), some (4, true), .b⟩ ::
  ⟨.pick (.r 5) (.r 0) (.c (.bool false)), none, .b⟩ ::
  ⟨.mv (.r 0), none, .b⟩ ::
  ⟨.fa 22 (.s 2), some (0, true), .b⟩ ::
  ⟨.load 11 true (.r 0), some (1, true), .b⟩ ::
  ⟨.fa 22 (.s 3), some (2, true), .b⟩ ::
  ⟨.load 11 true (.r 0), some (3, true), .b⟩ ::
  ⟨.call (.f 20) [(.r 2), (.r 0)], some (4, true), .b⟩ ::
  ⟨.pick (.r 5) (.r 0) (.c (.bool false)), none, .b⟩ ::
  ⟨.mv (.r 0), none, .b⟩ :: []) [(4, 0)]
abbrev c8_2 : ACode := .seq c8_1 .ret
abbrev c8_3 : ACode := .seq c8_0 c8_2
abbrev c8 : ACode := c8_3
theorem k8 : FnOk Try.prog 8 [] [0, 1, 2, 3, 4] c8 [.t 4] 2 := .of Try.func8 (by kernel_rfl)
-- reef/reeflaw33.awake  slots [0, 1, 2] names [, c, l]
abbrev c9_0 : ACode := .reg false [⟨.mv (.c (.bool false)), none, .b⟩] [(0, 0)]
abbrev c9_1 : ACode := .reg false [⟨.bsl false [(.lit (.int .i64 (0)))] 1 [(0, (.c (.int .i64 (0))))], none, .b⟩,
  ⟨.build [(.lit (.int .i64 (0))), (.sl 0 []), (.lit (.int .i64 (0))), (.lit (.int .i64 (0)))] [(0, 1, (.c (.int .i64 (1)))), (1, 1, (.r 0)), (3, 1, (.c (.int .i64 (32))))], none, .b⟩,
  ⟨.alloc [(.lit (.int .i64 (0))), (.sl 0 []), (.lit (.int .i64 (0))), (.lit (.int .i64 (0)))], none, .b⟩,
  ⟨.store 4 (.r 0) (.r 1), none, .b⟩] [(1, 1)]
abbrev c9_2 : ACode := .reg false [⟨.load 4 true (.s 1), none, .b⟩,
  ⟨.call (.f 13) [(.r 0)], none, .b⟩,
  ⟨.mv (.r 0), none, .b⟩] [(2, 0)]
abbrev c9_3 : ACode := .reg true [⟨.call (.f 21) [(.c (.int .u64 (0))), (.c (.int .i64 (1)))], none, .b⟩,
  ⟨.bin .eql (.r 0) (.c (.int .u64 (167951807))), none, .b⟩,
  ⟨.mv (.r 0), none, .b⟩,
  ⟨.call (.f 21) [(.c (.int .u64 (0))), (.c (.int .i64 (0)))], some (0, true), .b⟩,
  ⟨.bin .eql (.r 0) (.c (.int .u64 (0))), some (1, true), .b⟩,
  ⟨.pick (.r 2) (.r 0) (.c (.bool false)), none, .b⟩,
  ⟨.mv (.r 0), none, .b⟩,
  ⟨.load 4 true (.s 1), some (0, true), .p 0 0⟩,
  ⟨.mkd [(.lit (.int .i64 (0))), (.lit (.int .i64 (0))), (.lit (.int .i64 (0))), (.lit (.int .i64 (0)))] 32 (.c (.int .i64 (2))) (.c (.int .i64 (2))), some (1, true), .p 0 0⟩,
  ⟨.call (.f 10) [(.r 1), (.r 0)], some (2, true), .b⟩,
  ⟨.len false (.r 0), some (3, true), .b⟩,
  ⟨.bin .eql (.r 0) (.c (.int .i64 (22))), some (4, true), .b⟩,
  ⟨.pick (.r 5) (.r 0) (.c (.bool false)), none, .b⟩,
  ⟨.mv (.r 0), none, .b⟩,
  ⟨.mv (.s 2), some (0, true), .b⟩,
  ⟨.len false (.r 0), some (1, true), .b⟩,
  ⟨.bin .eql (.r 0) (.c (.int .i64 (3))), some (2, true), .b⟩,
  ⟨.pick (.r 3) (.r 0) (.c (.bool false)), none, .b⟩,
  ⟨.mv (.r 0), none, .b⟩,
  ⟨.mv (.s 2), some (0, true), .b⟩,
  ⟨.ixs 33 (.r 0) (.c (.int .i64 (0))), some (1, true), .b⟩,
  ⟨.fa 0 (.r 0), some (2, true), .b⟩,
  ⟨.load 1 false (.r 0), some (3, true), .b⟩,
  ⟨.bin .eql (.r 0) (.c (.int .i64 (6))), some (4, true), .b⟩,
  ⟨.pick (.r 5) (.r 0) (.c (.bool false)), none, .b⟩,
  ⟨.mv (.r 0), none, .b⟩,
  ⟨.mv (.s 2), some (0, true), .b⟩,
  ⟨.ixs 33 (.r 0) (.c (.int .i64 (2))), some (1, true), .b⟩,
  ⟨.fa 0 (.r 0), some (2, true), .b⟩,
  ⟨.load 1 false (.r 0), some (3, true), .b⟩,
  ⟨.bin .eql (.r 0) (.c (.int .i64 (8))), some (4, true), .b⟩,
  ⟨.pick (.r 5) (.r 0) (.c (.bool false)), none, .b⟩,
  ⟨.mv (.r 0), none, .b⟩] [(0, 0)]
abbrev c9_4 : ACode := .seq c9_3 .ret
abbrev c9_5 : ACode := .seq c9_2 c9_4
abbrev c9_6 : ACode := .seq c9_1 c9_5
abbrev c9_7 : ACode := .seq c9_0 c9_6
abbrev c9 : ACode := c9_7
theorem k9 : FnOk Try.prog 9 [3] [0, 1, 2] c9 [.t 0] 0 := .of Try.func9 (by kernel_rfl)
-- reef/setup.Basic  slots [0, 1, 2, 4, 5, 7, 10, 12, 13, 14, 15] names [c, pools, c, , out, p, , , , , ]
abbrev c10_0 : ACode := .reg false [⟨.box 4 (.s 0), none, .b⟩,
  ⟨.mv (.c (.slice none 0 0)), none, .b⟩] [(2, 1), (3, 0)]
abbrev c10_1 : ACode := .reg false [⟨.load 4 true (.s 2), none, .b⟩,
  ⟨.call (.f 22) [(.r 0)], none, .b⟩,
  ⟨.un .not (.r 0), none, .b⟩] [(6, 0)]
abbrev c10_2 : ACode := .reg false [⟨.mv (.c (.slice none 0 0)), none, .b⟩] [(3, 0)]
abbrev c10_3 : ACode := .seq c10_2 .ret
abbrev c10_4 : ACode := .cond (.s 6) c10_3 .skip
abbrev c10_5 : ACode := .seq c10_1 c10_4
abbrev c10_6 : ACode := .reg false [⟨.call (.f 23) [(.c (.int .i64 (8)))], none, .b⟩,
  ⟨.mv (.r 0), none, .b⟩] [(4, 0)]
abbrev c10_7 : ACode := .reg false [⟨.mv (.s 1), none, .b⟩,
  ⟨.len false (.r 0), none, .b⟩,
  ⟨.mv (.c (.int .i64 (0))), none, .b⟩] [(7, 2), (8, 1), (9, 0)]
abbrev c10_8 : ACode := .reg false [⟨.bin .lss (.s 9) (.s 8), none, .b⟩] [(10, 0)]
abbrev c10_9 : ACode := .cond (.s 10) .skip (.exit 0)
abbrev c10_10 : ACode := .reg false [⟨.ixs 4 (.s 7) (.s 9), none, .b⟩,
  ⟨.load 4 true (.r 0), none, .b⟩,
  ⟨.alloc [(.lit (.int .i64 (0))), (.lit (.int .i64 (0))), (.lit (.int .i64 (0))), (.lit (.int .i64 (0)))], none, .b⟩,
  ⟨.store 4 (.r 0) (.r 1), none, .b⟩] [(5, 1)]
abbrev c10_11 : ACode := .reg false [⟨.mv (.s 4), none, .b⟩,
  ⟨.build [(.lit (.int .i64 (0))), (.lit (.int .i64 (0)))] [(0, 1, (.c (.int .i64 (1))))], none, .b⟩,
  ⟨.load 4 true (.s 5), none, .b⟩,
  ⟨.build [(.lit (.int .i64 (0))), (.lit (.int .i64 (0))), (.lit (.int .i64 (0))), (.lit (.int .i64 (0))), (.lit (.int .i64 (0))), (.lit (.int .i64 (0))), (.lit (.int .i64 (0))), (.lit (.int .i64 (0)))] [(0, 1, (.c (.int .i64 (5)))), (4, 4, (.r 0))], none, .b⟩,
  ⟨.build [(.lit (.int .i64 (0))), (.lit (.int .i64 (0))), (.lit (.int .i64 (0))), (.lit (.int .i64 (0))), (.lit (.int .i64 (0))), (.lit (.int .i64 (0))), (.lit (.int .u64 (0))), (.lit (.int .i64 (0))), (.lit (.int .i64 (0))), (.lit (.int .i64 (0))), (.lit (.int .i64 (0))), (.lit (.int .i64 (0))), (.lit (.int .i64 (0))), (.lit (.int .i64 (0))), (.lit (.int .i64 (0))), (.lit (.int .i64 (0))), (.lit (.int .i64 (0))), (.lit (.string ⟨#[]⟩)), (.lit (.int .i64 (0))), (.lit (.int .i64 (0))), (.lit (.string ⟨#[]⟩)), (.lit (.string ⟨#[]⟩)), (.lit (.int .i64 (0))), (.lit (.int .i64 (0))), (.lit (.int .i64 (0))), (.lit (.string ⟨#[]⟩)), (.lit (.bool false)), (.lit (.int .i64 (0))), (.sl 0 []), (.lit (.string ⟨#[]⟩)), (.lit (.int .i64 (0))), (.lit (.int .i64 (0))), (.lit (.int .i64 (0)))] [(0, 1, (.c (.int .i64 (10)))), (1, 2, (.r 2)), (7, 8, (.r 0))], none, .b⟩,
  ⟨.bsl false [(.lit (.int .i64 (0))), (.lit (.int .i64 (0))), (.lit (.int .i64 (0))), (.lit (.int .i64 (0))), (.lit (.int .i64 (0))), (.lit (.int .i64 (0))), (.lit (.int .u64 (0))), (.lit (.int .i64 (0))), (.lit (.int .i64 (0))), (.lit (.int .i64 (0))), (.lit (.int .i64 (0))), (.lit (.int .i64 (0))), (.lit (.int .i64 (0))), (.lit (.int .i64 (0))), (.lit (.int .i64 (0))), (.lit (.int .i64 (0))), (.lit (.int .i64 (0))), (.lit (.string ⟨#[]⟩)), (.lit (.int .i64 (0))), (.lit (.int .i64 (0))), (.lit (.string ⟨#[]⟩)), (.lit (.string ⟨#[]⟩)), (.lit (.int .i64 (0))), (.lit (.int .i64 (0))), (.lit (.int .i64 (0))), (.lit (.string ⟨#[]⟩)), (.lit (.bool false)), (.lit (.int .i64 (0))), (.sl 0 []), (.lit (.string ⟨#[]⟩)), (.lit (.int .i64 (0))), (.lit (.int .i64 (0))), (.lit (.int .i64 (0)))] 1 [(0, (.r 0))], none, .b⟩,
  ⟨.app 33 320 (.r 5) (.r 0), none, .b⟩,
  ⟨.mv (.r 0), none, .b⟩] [(4, 0)]
abbrev c10_12 : ACode := .seq c10_10 c10_11
abbrev c10_13 : ACode := .block 1 c10_12
abbrev c10_14 : ACode := .reg false [⟨.bin .add (.s 9) (.c (.int .i64 (1))), none, .b⟩,
  ⟨.mv (.r 0), none, .b⟩] [(9, 0)]
abbrev c10_15 : ACode := .seq c10_13 c10_14
abbrev c10_16 : ACode := .seq c10_9 c10_15
abbrev c10_17 : ACode := .seq c10_8 c10_16
abbrev c10_18 : ACode := .loop c10_17
abbrev c10_19 : ACode := .block 0 c10_18
abbrev c10_20 : ACode := .seq c10_7 c10_19
abbrev c10_21 : ACode := .reg false [⟨.mv (.s 4), none, .b⟩,
  ⟨.call (.f 23) [(.c (.int .i64 (12)))], none, .b⟩,
  ⟨.app 33 320 (.r 1) (.r 0), none, .b⟩,
  ⟨.mv (.r 0), none, .b⟩] [(3, 0)]
abbrev c10_22 : ACode := .seq c10_21 .ret
abbrev c10_23 : ACode := .seq c10_20 c10_22
abbrev c10_24 : ACode := .seq c10_6 c10_23
abbrev c10_25 : ACode := .seq c10_5 c10_24
abbrev c10_26 : ACode := .seq c10_0 c10_25
abbrev c10 : ACode := c10_26
theorem k10 : FnOk Try.prog 10 [] [0, 1, 2, 4, 5, 7, 10, 12, 13, 14, 15] c10 [.t 3] 2 := .of Try.func10 (by kernel_rfl)
-- reef/setup.Calls  slots [0, 1, 2, 3, 4, 5, 7, 8, 9, 17] names [c, pool, seed, n, c, pool, n, , out, ]
abbrev c11_0 : ACode := .reg false [⟨.box 4 (.s 0), none, .b⟩,
  ⟨.box 1 (.s 1), none, .b⟩,
  ⟨.box 1 (.s 3), none, .b⟩,
  ⟨.mv (.c (.slice none 0 0)), none, .b⟩] [(4, 3), (5, 2), (6, 1), (7, 0)]
abbrev c11_1 : ACode := .reg false [⟨.load 4 true (.s 4), none, .b⟩,
  ⟨.call (.f 22) [(.r 0)], none, .b⟩,
  ⟨.un .not (.r 0), none, .b⟩,
  ⟨.mv (.r 0), none, .b⟩,
  ⟨.fa 2 (.s 4), some (0, false), .b⟩,
  ⟨.load 1 false (.r 0), some (1, false), .b⟩,
  ⟨.bin .eql (.r 0) (.c (.int .i64 (0))), some (2, false), .b⟩,
  ⟨.pick (.r 3) (.c (.bool true)) (.r 0), none, .b⟩] [(9, 0)]
abbrev c11_2 : ACode := .reg false [⟨.mv (.c (.slice none 0 0)), none, .b⟩] [(7, 0)]
abbrev c11_3 : ACode := .seq c11_2 .ret
abbrev c11_4 : ACode := .cond (.s 9) c11_3 .skip
abbrev c11_5 : ACode := .seq c11_1 c11_4
abbrev c11_6 : ACode := .reg false [⟨.alloc [(.sl 0 [])], none, .b⟩] [(8, 0)]
abbrev c11_7 : ACode := .reg false [⟨.mv (.s 2), none, .b⟩,
  ⟨.mkf 24 [(.s 6), (.s 4), (.s 8), (.s 5)], none, .b⟩,
  ⟨.call (.f 16) [(.r 1), (.r 0)], none, .b⟩] []
abbrev c11_8 : ACode := .reg false [⟨.load 1 false (.s 8), none, .b⟩,
  ⟨.mv (.r 0), none, .b⟩] [(7, 0)]
abbrev c11_9 : ACode := .seq c11_8 .ret
abbrev c11_10 : ACode := .seq c11_7 c11_9
abbrev c11_11 : ACode := .seq c11_6 c11_10
abbrev c11_12 : ACode := .seq c11_5 c11_11
abbrev c11_13 : ACode := .seq c11_0 c11_12
abbrev c11 : ACode := c11_13
theorem k11 : FnOk Try.prog 11 [] [0, 1, 2, 3, 4, 5, 7, 8, 9, 17] c11 [.t 7] 4 := .of Try.func11 (by kernel_rfl)
-- reef/setup.Faults  slots [0, 1, 2, 3, 5, 6, 7, 10] names [c, seed, n, c, n, , out, ]
abbrev c12_0 : ACode := .reg false [⟨.box 4 (.s 0), none, .b⟩,
  ⟨.box 1 (.s 2), none, .b⟩,
  ⟨.mv (.c (.slice none 0 0)), none, .b⟩] [(3, 2), (4, 1), (5, 0)]
abbrev c12_1 : ACode := .reg false [⟨.load 4 true (.s 3), none, .b⟩,
  ⟨.call (.f 22) [(.r 0)], none, .b⟩,
  ⟨.un .not (.r 0), none, .b⟩] [(7, 0)]
abbrev c12_2 : ACode := .reg false [⟨.mv (.c (.slice none 0 0)), none, .b⟩] [(5, 0)]
abbrev c12_3 : ACode := .seq c12_2 .ret
abbrev c12_4 : ACode := .cond (.s 7) c12_3 .skip
abbrev c12_5 : ACode := .seq c12_1 c12_4
abbrev c12_6 : ACode := .reg false [⟨.alloc [(.sl 0 [])], none, .b⟩] [(6, 0)]
abbrev c12_7 : ACode := .reg false [⟨.mv (.s 1), none, .b⟩,
  ⟨.mkf 27 [(.s 3), (.s 4), (.s 6)], none, .b⟩,
  ⟨.call (.f 16) [(.r 1), (.r 0)], none, .b⟩] []
abbrev c12_8 : ACode := .reg false [⟨.load 1 false (.s 6), none, .b⟩,
  ⟨.mv (.r 0), none, .b⟩] [(5, 0)]
abbrev c12_9 : ACode := .seq c12_8 .ret
abbrev c12_10 : ACode := .seq c12_7 c12_9
abbrev c12_11 : ACode := .seq c12_6 c12_10
abbrev c12_12 : ACode := .seq c12_5 c12_11
abbrev c12_13 : ACode := .seq c12_0 c12_12
abbrev c12 : ACode := c12_13
theorem k12 : FnOk Try.prog 12 [] [0, 1, 2, 3, 5, 6, 7, 10] c12 [.t 5] 3 := .of Try.func12 (by kernel_rfl)
-- reef/setup.Heal  slots [0, 1, 2, 3, 4, 5, 6, 8, 10, 13, 16, 17, 18, 19, 26, 27, 28, 29, 40, 41, 42, 43] names [c, c, , out, all, i, a, b, a, , , , , , , , , , , , , ]
abbrev c13_0 : ACode := .reg false [⟨.box 4 (.s 0), none, .b⟩,
  ⟨.mv (.c (.slice none 0 0)), none, .b⟩] [(1, 1), (2, 0)]
abbrev c13_1 : ACode := .reg false [⟨.load 4 true (.s 1), none, .b⟩,
  ⟨.call (.f 22) [(.r 0)], none, .b⟩,
  ⟨.un .not (.r 0), none, .b⟩] [(9, 0)]
abbrev c13_2 : ACode := .reg false [⟨.mv (.c (.slice none 0 0)), none, .b⟩] [(2, 0)]
abbrev c13_3 : ACode := .seq c13_2 .ret
abbrev c13_4 : ACode := .cond (.s 9) c13_3 .skip
abbrev c13_5 : ACode := .seq c13_1 c13_4
abbrev c13_6 : ACode := .reg false [⟨.mv (.c (.slice none 0 0)), none, .b⟩] [(3, 0)]
abbrev c13_7 : ACode := .reg false [⟨.load 4 true (.s 1), none, .b⟩,
  ⟨.call (.f 28) [(.r 0)], none, .b⟩,
  ⟨.mv (.r 0), none, .b⟩] [(4, 0)]
abbrev c13_8 : ACode := .reg false [⟨.mv (.s 4), none, .b⟩,
  ⟨.len false (.r 0), none, .b⟩,
  ⟨.mv (.c (.int .i64 (0))), none, .b⟩] [(10, 2), (11, 1), (12, 0)]
abbrev c13_9 : ACode := .reg false [⟨.bin .lss (.s 12) (.s 11), none, .b⟩] [(13, 0)]
abbrev c13_10 : ACode := .cond (.s 13) .skip (.exit 0)
abbrev c13_11 : ACode := .reg false [⟨.mv (.s 12), none, .b⟩,
  ⟨.ixs 2 (.s 10) (.s 12), none, .b⟩,
  ⟨.load 2 true (.r 0), none, .b⟩,
  ⟨.alloc [(.lit (.int .i64 (0))), (.lit (.int .i64 (0)))], none, .b⟩,
  ⟨.mv (.r 3), none, .b⟩,
  ⟨.store 2 (.r 1) (.r 2), none, .b⟩] [(5, 1), (6, 2)]
abbrev c13_12 : ACode := .reg false [⟨.mv (.s 4), none, .b⟩,
  ⟨.mv (.s 5), none, .b⟩,
  ⟨.bin .add (.r 0) (.c (.int .i64 (1))), none, .b⟩,
  ⟨.slc 2 (.r 2) (some (.r 0)) none none, none, .b⟩,
  ⟨.len false (.r 0), none, .b⟩,
  ⟨.mv (.c (.int .i64 (0))), none, .b⟩] [(14, 2), (15, 1), (16, 0)]
abbrev c13_13 : ACode := .reg false [⟨.bin .lss (.s 16) (.s 15), none, .b⟩] [(17, 0)]
abbrev c13_14 : ACode := .cond (.s 17) .skip (.exit 2)
abbrev c13_15 : ACode := .reg false [⟨.ixs 2 (.s 14) (.s 16), none, .b⟩,
  ⟨.load 2 true (.r 0), none, .b⟩,
  ⟨.alloc [(.lit (.int .i64 (0))), (.lit (.int .i64 (0)))], none, .b⟩,
  ⟨.store 2 (.r 0) (.r 1), none, .b⟩] [(7, 1)]
abbrev c13_16 : ACode := .reg false [⟨.mv (.s 3), none, .b⟩,
  ⟨.load 2 true (.s 6), none, .b⟩,
  ⟨.load 2 true (.s 7), none, .b⟩,
  ⟨.build [(.lit (.int .i64 (0))), (.lit (.int .i64 (0))), (.lit (.int .i64 (0))), (.lit (.int .i64 (0))), (.lit (.int .i64 (0))), (.lit (.int .i64 (0))), (.lit (.int .u64 (0))), (.lit (.int .i64 (0))), (.lit (.int .i64 (0))), (.lit (.int .i64 (0))), (.lit (.int .i64 (0))), (.lit (.int .i64 (0))), (.lit (.int .i64 (0))), (.lit (.int .i64 (0))), (.lit (.int .i64 (0))), (.lit (.int .i64 (0))), (.lit (.int .i64 (0))), (.lit (.string ⟨#[]⟩)), (.lit (.int .i64 (0))), (.lit (.int .i64 (0))), (.lit (.string ⟨#[]⟩)), (.lit (.string ⟨#[]⟩)), (.lit (.int .i64 (0))), (.lit (.int .i64 (0))), (.lit (.int .i64 (0))), (.lit (.string ⟨#[]⟩)), (.lit (.bool false)), (.lit (.int .i64 (0))), (.sl 0 []), (.lit (.string ⟨#[]⟩)), (.lit (.int .i64 (0))), (.lit (.int .i64 (0))), (.lit (.int .i64 (0)))] [(0, 1, (.c (.int .i64 (6)))), (1, 2, (.r 1)), (3, 2, (.r 0))], none, .b⟩,
  ⟨.bsl false [(.lit (.int .i64 (0))), (.lit (.int .i64 (0))), (.lit (.int .i64 (0))), (.lit (.int .i64 (0))), (.lit (.int .i64 (0))), (.lit (.int .i64 (0))), (.lit (.int .u64 (0))), (.lit (.int .i64 (0))), (.lit (.int .i64 (0))), (.lit (.int .i64 (0))), (.lit (.int .i64 (0))), (.lit (.int .i64 (0))), (.lit (.int .i64 (0))), (.lit (.int .i64 (0))), (.lit (.int .i64 (0))), (.lit (.int .i64 (0))), (.lit (.int .i64 (0))), (.lit (.string ⟨#[]⟩)), (.lit (.int .i64 (0))), (.lit (.int .i64 (0))), (.lit (.string ⟨#[]⟩)), (.lit (.string ⟨#[]⟩)), (.lit (.int .i64 (0))), (.lit (.int .i64 (0))), (.lit (.int .i64 (0))), (.lit (.string ⟨#[]⟩)), (.lit (.bool false)), (.lit (.int .i64 (0))), (.sl 0 []), (.lit (.string ⟨#[]⟩)), (.lit (.int .i64 (0))), (.lit (.int .i64 (0))), (.lit (.int .i64 (0)))] 1 [(0, (.r 0))], none, .b⟩,
  ⟨.app 33 320 (.r 4) (.r 0), none, .b⟩,
  ⟨.mv (.r 0), none, .b⟩] [(3, 0)]
abbrev c13_17 : ACode := .seq c13_15 c13_16
abbrev c13_18 : ACode := .block 3 c13_17
abbrev c13_19 : ACode := .reg false [⟨.bin .add (.s 16) (.c (.int .i64 (1))), none, .b⟩,
  ⟨.mv (.r 0), none, .b⟩] [(16, 0)]
abbrev c13_20 : ACode := .seq c13_18 c13_19
abbrev c13_21 : ACode := .seq c13_14 c13_20
abbrev c13_22 : ACode := .seq c13_13 c13_21
abbrev c13_23 : ACode := .loop c13_22
abbrev c13_24 : ACode := .block 2 c13_23
abbrev c13_25 : ACode := .seq c13_12 c13_24
abbrev c13_26 : ACode := .seq c13_11 c13_25
abbrev c13_27 : ACode := .block 1 c13_26
abbrev c13_28 : ACode := .reg false [⟨.bin .add (.s 12) (.c (.int .i64 (1))), none, .b⟩,
  ⟨.mv (.r 0), none, .b⟩] [(12, 0)]
abbrev c13_29 : ACode := .seq c13_27 c13_28
abbrev c13_30 : ACode := .seq c13_10 c13_29
abbrev c13_31 : ACode := .seq c13_9 c13_30
abbrev c13_32 : ACode := .loop c13_31
abbrev c13_33 : ACode := .block 0 c13_32
abbrev c13_34 : ACode := .seq c13_8 c13_33
abbrev c13_35 : ACode := .reg false [⟨.mv (.s 4), none, .b⟩,
  ⟨.len false (.r 0), none, .b⟩,
  ⟨.mv (.c (.int .i64 (0))), none, .b⟩] [(18, 2), (19, 1), (20, 0)]
abbrev c13_36 : ACode := .reg false [⟨.bin .lss (.s 20) (.s 19), none, .b⟩] [(21, 0)]
abbrev c13_37 : ACode := .cond (.s 21) .skip (.exit 4)
abbrev c13_38 : ACode := .reg false [⟨.ixs 2 (.s 18) (.s 20), none, .b⟩,
  ⟨.load 2 true (.r 0), none, .b⟩,
  ⟨.alloc [(.lit (.int .i64 (0))), (.lit (.int .i64 (0)))], none, .b⟩,
  ⟨.store 2 (.r 0) (.r 1), none, .b⟩] [(8, 1)]
abbrev c13_39 : ACode := .reg false [⟨.mv (.s 3), none, .b⟩,
  ⟨.load 2 true (.s 8), none, .b⟩,
  ⟨.build [(.lit (.int .i64 (0))), (.lit (.int .i64 (0))), (.lit (.int .i64 (0))), (.lit (.int .i64 (0))), (.lit (.int .i64 (0))), (.lit (.int .i64 (0))), (.lit (.int .u64 (0))), (.lit (.int .i64 (0))), (.lit (.int .i64 (0))), (.lit (.int .i64 (0))), (.lit (.int .i64 (0))), (.lit (.int .i64 (0))), (.lit (.int .i64 (0))), (.lit (.int .i64 (0))), (.lit (.int .i64 (0))), (.lit (.int .i64 (0))), (.lit (.int .i64 (0))), (.lit (.string ⟨#[]⟩)), (.lit (.int .i64 (0))), (.lit (.int .i64 (0))), (.lit (.string ⟨#[]⟩)), (.lit (.string ⟨#[]⟩)), (.lit (.int .i64 (0))), (.lit (.int .i64 (0))), (.lit (.int .i64 (0))), (.lit (.string ⟨#[]⟩)), (.lit (.bool false)), (.lit (.int .i64 (0))), (.sl 0 []), (.lit (.string ⟨#[]⟩)), (.lit (.int .i64 (0))), (.lit (.int .i64 (0))), (.lit (.int .i64 (0)))] [(0, 1, (.c (.int .i64 (8)))), (1, 2, (.r 0))], none, .b⟩,
  ⟨.bsl false [(.lit (.int .i64 (0))), (.lit (.int .i64 (0))), (.lit (.int .i64 (0))), (.lit (.int .i64 (0))), (.lit (.int .i64 (0))), (.lit (.int .i64 (0))), (.lit (.int .u64 (0))), (.lit (.int .i64 (0))), (.lit (.int .i64 (0))), (.lit (.int .i64 (0))), (.lit (.int .i64 (0))), (.lit (.int .i64 (0))), (.lit (.int .i64 (0))), (.lit (.int .i64 (0))), (.lit (.int .i64 (0))), (.lit (.int .i64 (0))), (.lit (.int .i64 (0))), (.lit (.string ⟨#[]⟩)), (.lit (.int .i64 (0))), (.lit (.int .i64 (0))), (.lit (.string ⟨#[]⟩)), (.lit (.string ⟨#[]⟩)), (.lit (.int .i64 (0))), (.lit (.int .i64 (0))), (.lit (.int .i64 (0))), (.lit (.string ⟨#[]⟩)), (.lit (.bool false)), (.lit (.int .i64 (0))), (.sl 0 []), (.lit (.string ⟨#[]⟩)), (.lit (.int .i64 (0))), (.lit (.int .i64 (0))), (.lit (.int .i64 (0)))] 1 [(0, (.r 0))], none, .b⟩,
  ⟨.app 33 320 (.r 3) (.r 0), none, .b⟩,
  ⟨.mv (.r 0), none, .b⟩] [(3, 0)]
abbrev c13_40 : ACode := .seq c13_38 c13_39
abbrev c13_41 : ACode := .block 5 c13_40
abbrev c13_42 : ACode := .reg false [⟨.bin .add (.s 20) (.c (.int .i64 (1))), none, .b⟩,
  ⟨.mv (.r 0), none, .b⟩] [(20, 0)]
abbrev c13_43 : ACode := .seq c13_41 c13_42
abbrev c13_44 : ACode := .seq c13_37 c13_43
abbrev c13_45 : ACode := .seq c13_36 c13_44
abbrev c13_46 : ACode := .loop c13_45
abbrev c13_47 : ACode := .block 4 c13_46
abbrev c13_48 : ACode := .seq c13_35 c13_47
abbrev c13_49 : ACode := .reg false [⟨.mv (.s 3), none, .b⟩,
  ⟨.mv (.r 0), none, .b⟩] [(2, 0)]
abbrev c13_50 : ACode := .seq c13_49 .ret
abbrev c13_51 : ACode := .seq c13_48 c13_50
abbrev c13_52 : ACode := .seq c13_34 c13_51
abbrev c13_53 : ACode := .seq c13_7 c13_52
abbrev c13_54 : ACode := .seq c13_6 c13_53
abbrev c13_55 : ACode := .seq c13_5 c13_54
abbrev c13_56 : ACode := .seq c13_0 c13_55
abbrev c13 : ACode := c13_56
theorem k13 : FnOk Try.prog 13 [] [0, 1, 2, 3, 4, 5, 6, 8, 10, 13, 16, 17, 18, 19, 26, 27, 28, 29, 40, 41, 42, 43] c13 [.t 2] 1 := .of Try.func13 (by kernel_rfl)
-- reef/setup.Disk  slots [0, 1, 2, 3, 4, 5, 7, 8, 9, 10, 18] names [c, name, seed, n, c, name, n, , out, job, ]
abbrev c14_0 : ACode := .reg false [⟨.box 4 (.s 0), none, .b⟩,
  ⟨.box 1 (.s 1), none, .b⟩,
  ⟨.box 1 (.s 3), none, .b⟩,
  ⟨.mv (.c (.slice none 0 0)), none, .b⟩] [(4, 3), (5, 2), (6, 1), (7, 0)]
abbrev c14_1 : ACode := .reg false [⟨.load 4 true (.s 4), none, .b⟩,
  ⟨.call (.f 22) [(.r 0)], none, .b⟩,
  ⟨.un .not (.r 0), none, .b⟩,
  ⟨.mv (.r 0), none, .b⟩,
  ⟨.fa 2 (.s 4), some (0, false), .b⟩,
  ⟨.load 1 false (.r 0), some (1, false), .b⟩,
  ⟨.bin .eql (.r 0) (.c (.int .i64 (0))), some (2, false), .b⟩,
  ⟨.pick (.r 3) (.c (.bool true)) (.r 0), none, .b⟩] [(10, 0)]
abbrev c14_2 : ACode := .reg false [⟨.mv (.c (.slice none 0 0)), none, .b⟩] [(7, 0)]
abbrev c14_3 : ACode := .seq c14_2 .ret
abbrev c14_4 : ACode := .cond (.s 10) c14_3 .skip
abbrev c14_5 : ACode := .seq c14_1 c14_4
abbrev c14_6 : ACode := .reg false [⟨.alloc [(.sl 0 [])], none, .b⟩] [(8, 0)]
abbrev c14_7 : ACode := .reg false [⟨.mkf 39 [(.s 8), (.s 5)], none, .b⟩,
  ⟨.alloc [(.lit .nilFunc)], none, .b⟩,
  ⟨.store 1 (.r 0) (.r 1), none, .b⟩] [(9, 1)]
abbrev c14_8 : ACode := .reg false [⟨.load 1 false (.s 9), none, .b⟩,
  ⟨.build [(.lit (.int .i64 (0))), (.lit (.int .i64 (0))), (.lit (.int .i64 (0))), (.lit (.string ⟨#[]⟩)), (.lit (.bool false)), (.lit (.int .i64 (0))), (.sl 0 []), (.lit (.string ⟨#[]⟩)), (.lit (.int .i64 (0))), (.lit (.int .i64 (0))), (.lit (.int .i64 (0)))] [(0, 1, (.c (.int .i64 (1)))), (2, 1, (.c (.int .i64 (512))))], none, .b⟩,
  ⟨.call (.r 1) [(.c (.int .i64 (0))), (.r 0)], none, .b⟩] []
abbrev c14_9 : ACode := .reg false [⟨.load 1 false (.s 9), none, .b⟩,
  ⟨.build [(.lit (.int .i64 (0))), (.lit (.int .i64 (0))), (.lit (.int .i64 (0))), (.lit (.string ⟨#[]⟩)), (.lit (.bool false)), (.lit (.int .i64 (0))), (.sl 0 []), (.lit (.string ⟨#[]⟩)), (.lit (.int .i64 (0))), (.lit (.int .i64 (0))), (.lit (.int .i64 (0)))] [(0, 1, (.c (.int .i64 (2))))], none, .b⟩,
  ⟨.call (.r 1) [(.c (.int .i64 (0))), (.r 0)], none, .b⟩] []
abbrev c14_10 : ACode := .reg false [⟨.mv (.s 2), none, .b⟩,
  ⟨.mkf 40 [(.s 6), (.s 4), (.s 9)], none, .b⟩,
  ⟨.call (.f 16) [(.r 1), (.r 0)], none, .b⟩] []
abbrev c14_11 : ACode := .reg false [⟨.load 1 false (.s 8), none, .b⟩,
  ⟨.mv (.r 0), none, .b⟩] [(7, 0)]
abbrev c14_12 : ACode := .seq c14_11 .ret
abbrev c14_13 : ACode := .seq c14_10 c14_12
abbrev c14_14 : ACode := .seq c14_9 c14_13
abbrev c14_15 : ACode := .seq c14_8 c14_14
abbrev c14_16 : ACode := .seq c14_7 c14_15
abbrev c14_17 : ACode := .seq c14_6 c14_16
abbrev c14_18 : ACode := .seq c14_5 c14_17
abbrev c14_19 : ACode := .seq c14_0 c14_18
abbrev c14 : ACode := c14_19
theorem k14 : FnOk Try.prog 14 [] [0, 1, 2, 3, 4, 5, 7, 8, 9, 10, 18] c14 [.t 7] 4 := .of Try.func14 (by kernel_rfl)
-- reef/cluster.Step  slots [0, 1, 2, 3, 8, 9, 16, 23, 32, 43, 51, 62, 90] names [s, s, , p, , , , , , , , , ]
abbrev c15_0 : ACode := .reg false [⟨.box 33 (.s 0), none, .b⟩,
  ⟨.mv (.c (.bool false)), none, .b⟩] [(1, 1), (2, 0)]
abbrev c15_1 : ACode := .reg false [⟨.fa 0 (.s 1), none, .b⟩,
  ⟨.load 1 false (.r 0), none, .b⟩,
  ⟨.build [(.lit (.int .i64 (0))), (.lit (.int .i64 (0))), (.lit (.int .i64 (0))), (.lit (.int .i64 (0))), (.lit (.int .i64 (0))), (.lit (.int .i64 (0))), (.lit (.int .u64 (0))), (.lit (.int .i64 (0))), (.lit (.int .i64 (0))), (.lit (.int .i64 (0))), (.lit (.int .i64 (0))), (.lit (.int .i64 (0))), (.lit (.int .i64 (0))), (.lit (.int .i64 (0))), (.lit (.int .i64 (0))), (.lit (.int .i64 (0))), (.lit (.int .i64 (0))), (.lit (.string ⟨#[]⟩)), (.lit (.int .i64 (0))), (.lit (.int .i64 (0))), (.lit (.string ⟨#[]⟩)), (.lit (.string ⟨#[]⟩)), (.lit (.int .i64 (0))), (.lit (.int .i64 (0))), (.lit (.int .i64 (0))), (.lit (.string ⟨#[]⟩)), (.lit (.bool false)), (.lit (.int .i64 (0))), (.sl 0 []), (.lit (.string ⟨#[]⟩)), (.lit (.int .i64 (0))), (.lit (.int .i64 (0))), (.lit (.int .i64 (0)))] [(0, 1, (.r 0))], none, .b⟩,
  ⟨.alloc [(.lit (.int .i64 (0))), (.lit (.int .i64 (0))), (.lit (.int .i64 (0))), (.lit (.int .i64 (0))), (.lit (.int .i64 (0))), (.lit (.int .i64 (0))), (.lit (.int .u64 (0))), (.lit (.int .i64 (0))), (.lit (.int .i64 (0))), (.lit (.int .i64 (0))), (.lit (.int .i64 (0))), (.lit (.int .i64 (0))), (.lit (.int .i64 (0))), (.lit (.int .i64 (0))), (.lit (.int .i64 (0))), (.lit (.int .i64 (0))), (.lit (.int .i64 (0))), (.lit (.string ⟨#[]⟩)), (.lit (.int .i64 (0))), (.lit (.int .i64 (0))), (.lit (.string ⟨#[]⟩)), (.lit (.string ⟨#[]⟩)), (.lit (.int .i64 (0))), (.lit (.int .i64 (0))), (.lit (.int .i64 (0))), (.lit (.string ⟨#[]⟩)), (.lit (.bool false)), (.lit (.int .i64 (0))), (.sl 0 []), (.lit (.string ⟨#[]⟩)), (.lit (.int .i64 (0))), (.lit (.int .i64 (0))), (.lit (.int .i64 (0)))], none, .b⟩,
  ⟨.store 33 (.r 0) (.r 1), none, .b⟩] [(3, 1)]
abbrev c15_2 : ACode := .reg false [⟨.fa 0 (.s 1), none, .b⟩,
  ⟨.load 1 false (.r 0), none, .b⟩] [(4, 0)]
abbrev c15_3 : ACode := .reg false [⟨.bin .eql (.s 4) (.c (.int .i64 (1))), none, .b⟩,
  ⟨.mv (.r 0), none, .b⟩] [(5, 0)]
abbrev c15_4 : ACode := .reg false [⟨.bin .eql (.s 4) (.c (.int .i64 (7))), none, .b⟩,
  ⟨.mv (.r 0), none, .b⟩] [(5, 0)]
abbrev c15_5 : ACode := .reg false [⟨.bin .eql (.s 4) (.c (.int .i64 (8))), none, .b⟩,
  ⟨.mv (.r 0), none, .b⟩] [(5, 0)]
abbrev c15_6 : ACode := .cond (.s 5) .skip c15_5
abbrev c15_7 : ACode := .seq c15_4 c15_6
abbrev c15_8 : ACode := .cond (.s 5) .skip c15_7
abbrev c15_9 : ACode := .seq c15_3 c15_8
abbrev c15_10 : ACode := .reg false [⟨.fa 1 (.s 1), none, .b⟩,
  ⟨.load 2 true (.r 0), none, .b⟩,
  ⟨.fa 1 (.s 3), none, .b⟩,
  ⟨.store 2 (.r 0) (.r 1), none, .b⟩] []
abbrev c15_11 : ACode := .reg false [⟨.bin .eql (.s 4) (.c (.int .i64 (2))), none, .b⟩,
  ⟨.mv (.r 0), none, .b⟩] [(6, 0)]
abbrev c15_12 : ACode := .reg false [⟨.bin .eql (.s 4) (.c (.int .i64 (3))), none, .b⟩,
  ⟨.mv (.r 0), none, .b⟩] [(6, 0)]
abbrev c15_13 : ACode := .reg false [⟨.bin .eql (.s 4) (.c (.int .i64 (4))), none, .b⟩,
  ⟨.mv (.r 0), none, .b⟩] [(6, 0)]
abbrev c15_14 : ACode := .cond (.s 6) .skip c15_13
abbrev c15_15 : ACode := .seq c15_12 c15_14
abbrev c15_16 : ACode := .cond (.s 6) .skip c15_15
abbrev c15_17 : ACode := .seq c15_11 c15_16
abbrev c15_18 : ACode := .reg false [⟨.fa 5 (.s 1), none, .b⟩,
  ⟨.load 1 false (.r 0), none, .b⟩,
  ⟨.fa 5 (.s 3), none, .b⟩,
  ⟨.store 1 (.r 0) (.r 1), none, .b⟩] []
abbrev c15_19 : ACode := .reg false [⟨.bin .eql (.s 4) (.c (.int .i64 (5))), none, .b⟩,
  ⟨.mv (.r 0), none, .b⟩] [(7, 0)]
abbrev c15_20 : ACode := .reg false [⟨.bin .eql (.s 4) (.c (.int .i64 (6))), none, .b⟩,
  ⟨.mv (.r 0), none, .b⟩] [(7, 0)]
abbrev c15_21 : ACode := .cond (.s 7) .skip c15_20
abbrev c15_22 : ACode := .seq c15_19 c15_21
abbrev c15_23 : ACode := .reg true [⟨.fa 1 (.s 1), none, .p 0 0⟩,
  ⟨.load 2 true (.r 0), none, .p 0 0⟩,
  ⟨.fa 3 (.s 1), none, .p 0 1⟩,
  ⟨.load 2 true (.r 0), none, .p 0 1⟩,
  ⟨.fa 1 (.s 3), none, .p 0 0⟩,
  ⟨.store 2 (.r 0) (.r 3), none, .e⟩,
  ⟨.fa 3 (.s 3), none, .b⟩,
  ⟨.store 2 (.r 0) (.r 3), none, .b⟩] []
abbrev c15_24 : ACode := .reg false [⟨.bin .eql (.s 4) (.c (.int .i64 (9))), none, .b⟩,
  ⟨.mv (.r 0), none, .b⟩] [(8, 0)]
abbrev c15_25 : ACode := .reg true [⟨.fa 1 (.s 1), none, .p 0 0⟩,
  ⟨.load 2 true (.r 0), none, .p 0 0⟩,
  ⟨.fa 5 (.s 1), none, .p 0 1⟩,
  ⟨.load 1 false (.r 0), none, .p 0 1⟩,
  ⟨.fa 6 (.s 1), none, .p 0 2⟩,
  ⟨.load 1 false (.r 0), none, .p 0 2⟩,
  ⟨.fa 1 (.s 3), none, .p 0 0⟩,
  ⟨.store 2 (.r 0) (.r 5), none, .e⟩,
  ⟨.fa 5 (.s 3), none, .p 0 0⟩,
  ⟨.store 1 (.r 0) (.r 5), none, .e⟩,
  ⟨.fa 6 (.s 3), none, .b⟩,
  ⟨.store 1 (.r 0) (.r 5), none, .b⟩] []
abbrev c15_26 : ACode := .reg false [⟨.bin .eql (.s 4) (.c (.int .i64 (10))), none, .b⟩,
  ⟨.mv (.r 0), none, .b⟩] [(9, 0)]
abbrev c15_27 : ACode := .reg true [⟨.fa 1 (.s 1), none, .p 0 0⟩,
  ⟨.load 2 true (.r 0), none, .p 0 0⟩,
  ⟨.fa 7 (.s 1), none, .p 0 1⟩,
  ⟨.load 8 true (.r 0), none, .p 0 1⟩,
  ⟨.fa 1 (.s 3), none, .p 0 0⟩,
  ⟨.store 2 (.r 0) (.r 3), none, .e⟩,
  ⟨.fa 7 (.s 3), none, .b⟩,
  ⟨.store 8 (.r 0) (.r 3), none, .b⟩] []
abbrev c15_28 : ACode := .reg false [⟨.bin .eql (.s 4) (.c (.int .i64 (11))), none, .b⟩,
  ⟨.mv (.r 0), none, .b⟩] [(10, 0)]
abbrev c15_29 : ACode := .reg true [⟨.fa 1 (.s 1), none, .p 0 0⟩,
  ⟨.load 2 true (.r 0), none, .p 0 0⟩,
  ⟨.fa 15 (.s 1), none, .p 0 1⟩,
  ⟨.load 1 false (.r 0), none, .p 0 1⟩,
  ⟨.fa 16 (.s 1), none, .p 0 2⟩,
  ⟨.load 5 true (.r 0), none, .p 0 2⟩,
  ⟨.fa 1 (.s 3), none, .p 0 0⟩,
  ⟨.store 2 (.r 0) (.r 5), none, .e⟩,
  ⟨.fa 15 (.s 3), none, .p 0 0⟩,
  ⟨.store 1 (.r 0) (.r 5), none, .e⟩,
  ⟨.fa 16 (.s 3), none, .b⟩,
  ⟨.store 5 (.r 0) (.r 5), none, .b⟩] []
abbrev c15_30 : ACode := .reg false [⟨.bin .eql (.s 4) (.c (.int .i64 (12))), none, .b⟩,
  ⟨.mv (.r 0), none, .b⟩] [(11, 0)]
abbrev c15_31 : ACode := .reg true [⟨.fa 1 (.s 1), none, .p 0 0⟩,
  ⟨.load 2 true (.r 0), none, .p 0 0⟩,
  ⟨.fa 21 (.s 1), none, .p 0 1⟩,
  ⟨.load 1 false (.r 0), none, .p 0 1⟩,
  ⟨.fa 15 (.s 1), none, .p 0 2⟩,
  ⟨.load 1 false (.r 0), none, .p 0 2⟩,
  ⟨.fa 1 (.s 3), none, .p 0 0⟩,
  ⟨.store 2 (.r 0) (.r 5), none, .e⟩,
  ⟨.fa 21 (.s 3), none, .p 0 0⟩,
  ⟨.store 1 (.r 0) (.r 5), none, .e⟩,
  ⟨.fa 15 (.s 3), none, .b⟩,
  ⟨.store 1 (.r 0) (.r 5), none, .b⟩] []
abbrev c15_32 : ACode := .reg false [⟨.fa 22 (.s 1), none, .b⟩,
  ⟨.fa 0 (.r 0), none, .b⟩,
  ⟨.load 1 false (.r 0), none, .b⟩,
  ⟨.fa 22 (.s 1), none, .b⟩,
  ⟨.fa 1 (.r 0), none, .b⟩,
  ⟨.load 1 false (.r 0), none, .b⟩,
  ⟨.fa 22 (.s 1), none, .b⟩,
  ⟨.fa 2 (.r 0), none, .b⟩,
  ⟨.load 1 false (.r 0), none, .b⟩,
  ⟨.fa 22 (.s 1), none, .b⟩,
  ⟨.fa 3 (.r 0), none, .b⟩,
  ⟨.load 1 false (.r 0), none, .b⟩,
  ⟨.fa 22 (.s 1), none, .b⟩,
  ⟨.fa 4 (.r 0), none, .b⟩,
  ⟨.load 1 false (.r 0), none, .b⟩,
  ⟨.build [(.lit (.int .i64 (0))), (.lit (.int .i64 (0))), (.lit (.int .i64 (0))), (.lit (.string ⟨#[]⟩)), (.lit (.bool false)), (.lit (.int .i64 (0))), (.sl 0 []), (.lit (.string ⟨#[]⟩)), (.lit (.int .i64 (0))), (.lit (.int .i64 (0))), (.lit (.int .i64 (0)))] [(0, 1, (.r 12)), (1, 1, (.r 9)), (2, 1, (.r 6)), (3, 1, (.r 3)), (4, 1, (.r 0))], none, .b⟩,
  ⟨.fa 22 (.s 3), none, .b⟩,
  ⟨.store 11 (.r 0) (.r 1), none, .b⟩] []
abbrev c15_33 : ACode := .seq c15_31 c15_32
abbrev c15_34 : ACode := .reg false [⟨.bin .eql (.s 4) (.c (.int .i64 (13))), none, .b⟩,
  ⟨.mv (.r 0), none, .b⟩] [(12, 0)]
abbrev c15_35 : ACode := .reg false [⟨.bin .eql (.s 4) (.c (.int .i64 (14))), none, .b⟩,
  ⟨.mv (.r 0), none, .b⟩] [(12, 0)]
abbrev c15_36 : ACode := .cond (.s 12) .skip c15_35
abbrev c15_37 : ACode := .seq c15_34 c15_36
abbrev c15_38 : ACode := .reg false [⟨.mv (.c (.bool false)), none, .b⟩] [(2, 0)]
abbrev c15_39 : ACode := .seq c15_38 .ret
abbrev c15_40 : ACode := .cond (.s 12) .skip c15_39
abbrev c15_41 : ACode := .seq c15_37 c15_40
abbrev c15_42 : ACode := .cond (.s 11) c15_33 c15_41
abbrev c15_43 : ACode := .seq c15_30 c15_42
abbrev c15_44 : ACode := .cond (.s 10) c15_29 c15_43
abbrev c15_45 : ACode := .seq c15_28 c15_44
abbrev c15_46 : ACode := .cond (.s 9) c15_27 c15_45
abbrev c15_47 : ACode := .seq c15_26 c15_46
abbrev c15_48 : ACode := .cond (.s 8) c15_25 c15_47
abbrev c15_49 : ACode := .seq c15_24 c15_48
abbrev c15_50 : ACode := .cond (.s 7) c15_23 c15_49
abbrev c15_51 : ACode := .seq c15_22 c15_50
abbrev c15_52 : ACode := .cond (.s 6) c15_18 c15_51
abbrev c15_53 : ACode := .seq c15_17 c15_52
abbrev c15_54 : ACode := .cond (.s 5) c15_10 c15_53
abbrev c15_55 : ACode := .seq c15_9 c15_54
abbrev c15_56 : ACode := .block 0 c15_55
abbrev c15_57 : ACode := .seq c15_2 c15_56
abbrev c15_58 : ACode := .reg false [⟨.fa 5 (.s 1), none, .b⟩,
  ⟨.load 1 false (.r 0), none, .b⟩,
  ⟨.bin .geq (.r 0) (.c (.int .i64 (0))), none, .b⟩,
  ⟨.mv (.r 0), none, .b⟩,
  ⟨.load 33 true (.s 3), some (0, true), .b⟩,
  ⟨.load 33 true (.s 1), some (1, true), .b⟩,
  ⟨.call (.f 42) [(.r 1), (.r 0)], some (2, true), .b⟩,
  ⟨.pick (.r 3) (.r 0) (.c (.bool false)), none, .b⟩,
  ⟨.mv (.r 0), none, .b⟩] [(2, 0)]
abbrev c15_59 : ACode := .seq c15_58 .ret
abbrev c15_60 : ACode := .seq c15_57 c15_59
abbrev c15_61 : ACode := .seq c15_1 c15_60
abbrev c15_62 : ACode := .seq c15_0 c15_61
abbrev c15 : ACode := c15_62
theorem k15 : FnOk Try.prog 15 [] [0, 1, 2, 3, 8, 9, 16, 23, 32, 43, 51, 62, 90] c15 [.t 2] 1 := .of Try.func15 (by kernel_rfl)
-- reef/setup.with  slots [0, 1, 4] names [seed, do, x]
abbrev c16_0 : ACode := .reg false [⟨.mv (.s 0), none, .b⟩,
  ⟨.alloc [(.lit (.int .u64 (0)))], none, .b⟩,
  ⟨.store 1 (.r 0) (.r 1), none, .b⟩] [(2, 1)]
abbrev c16_1 : ACode := .reg false [⟨.mv (.s 1), none, .b⟩,
  ⟨.mkf 43 [(.s 2)], none, .b⟩,
  ⟨.build [(.lit .nilFunc)] [(0, 1, (.r 0))], none, .b⟩,
  ⟨.box 1 (.r 0), none, .b⟩,
  ⟨.call (.r 3) [(.r 0)], none, .b⟩] []
abbrev c16_2 : ACode := .seq c16_0 c16_1
abbrev c16 : ACode := c16_2
theorem k16 : FnOk Try.prog 16 [] [0, 1, 4] c16 [] 2 := .of Try.func16 (by kernel_rfl)
-- reef/setup.Mix$1  slots [0, 1, 2, 3, 12, 15] names [d, , , , , ]
abbrev c17_0 : ACode := .reg false [⟨.load 1 false (.s 1), none, .b⟩,
  ⟨.len false (.r 0), none, .b⟩,
  ⟨.bin .gtr (.r 0) (.c (.int .i64 (0))), none, .b⟩,
  ⟨.mv (.r 0), none, .b⟩,
  ⟨.load 1 false (.s 2), some (0, true), .b⟩,
  ⟨.len false (.r 0), some (1, true), .b⟩,
  ⟨.bin .gtr (.r 0) (.c (.int .i64 (0))), some (2, true), .b⟩,
  ⟨.pick (.r 3) (.r 0) (.c (.bool false)), none, .b⟩] [(4, 0)]
abbrev c17_1 : ACode := .cond (.s 4) .skip (.exit 0)
abbrev c17_2 : ACode := .seq c17_0 c17_1
abbrev c17_3 : ACode := .reg false [⟨.mv (.s 0), none, .b⟩,
  ⟨.call (.f 18) [(.r 0), (.c (.int .i64 (2)))], none, .b⟩,
  ⟨.bin .eql (.r 0) (.c (.int .i64 (0))), none, .b⟩] [(5, 0)]
abbrev c17_4 : ACode := .reg true [⟨.load 1 false (.s 3), none, .p 0 0⟩,
  ⟨.load 1 false (.s 1), none, .p 0 0⟩,
  ⟨.ixs 33 (.r 0) (.c (.int .i64 (0))), none, .p 0 0⟩,
  ⟨.load 33 true (.r 0), none, .p 0 0⟩,
  ⟨.bsl false [(.lit (.int .i64 (0))), (.lit (.int .i64 (0))), (.lit (.int .i64 (0))), (.lit (.int .i64 (0))), (.lit (.int .i64 (0))), (.lit (.int .i64 (0))), (.lit (.int .u64 (0))), (.lit (.int .i64 (0))), (.lit (.int .i64 (0))), (.lit (.int .i64 (0))), (.lit (.int .i64 (0))), (.lit (.int .i64 (0))), (.lit (.int .i64 (0))), (.lit (.int .i64 (0))), (.lit (.int .i64 (0))), (.lit (.int .i64 (0))), (.lit (.int .i64 (0))), (.lit (.string ⟨#[]⟩)), (.lit (.int .i64 (0))), (.lit (.int .i64 (0))), (.lit (.string ⟨#[]⟩)), (.lit (.string ⟨#[]⟩)), (.lit (.int .i64 (0))), (.lit (.int .i64 (0))), (.lit (.int .i64 (0))), (.lit (.string ⟨#[]⟩)), (.lit (.bool false)), (.lit (.int .i64 (0))), (.sl 0 []), (.lit (.string ⟨#[]⟩)), (.lit (.int .i64 (0))), (.lit (.int .i64 (0))), (.lit (.int .i64 (0)))] 1 [(0, (.r 0))], none, .p 0 0⟩,
  ⟨.app 33 320 (.r 4) (.r 0), none, .e⟩,
  ⟨.load 1 false (.s 1), none, .p 1 1⟩,
  ⟨.slc 33 (.r 0) (some (.c (.int .i64 (1)))) none none, none, .p 1 1⟩,
  ⟨.store 1 (.s 3) (.r 2), none, .e⟩,
  ⟨.store 1 (.s 1) (.r 1), none, .b⟩] []
abbrev c17_5 : ACode := .seq c17_4 (.exit 1)
abbrev c17_6 : ACode := .cond (.s 5) c17_5 .skip
abbrev c17_7 : ACode := .seq c17_3 c17_6
abbrev c17_8 : ACode := .reg true [⟨.load 1 false (.s 3), none, .p 0 0⟩,
  ⟨.load 1 false (.s 2), none, .p 0 0⟩,
  ⟨.ixs 33 (.r 0) (.c (.int .i64 (0))), none, .p 0 0⟩,
  ⟨.load 33 true (.r 0), none, .p 0 0⟩,
  ⟨.bsl false [(.lit (.int .i64 (0))), (.lit (.int .i64 (0))), (.lit (.int .i64 (0))), (.lit (.int .i64 (0))), (.lit (.int .i64 (0))), (.lit (.int .i64 (0))), (.lit (.int .u64 (0))), (.lit (.int .i64 (0))), (.lit (.int .i64 (0))), (.lit (.int .i64 (0))), (.lit (.int .i64 (0))), (.lit (.int .i64 (0))), (.lit (.int .i64 (0))), (.lit (.int .i64 (0))), (.lit (.int .i64 (0))), (.lit (.int .i64 (0))), (.lit (.int .i64 (0))), (.lit (.string ⟨#[]⟩)), (.lit (.int .i64 (0))), (.lit (.int .i64 (0))), (.lit (.string ⟨#[]⟩)), (.lit (.string ⟨#[]⟩)), (.lit (.int .i64 (0))), (.lit (.int .i64 (0))), (.lit (.int .i64 (0))), (.lit (.string ⟨#[]⟩)), (.lit (.bool false)), (.lit (.int .i64 (0))), (.sl 0 []), (.lit (.string ⟨#[]⟩)), (.lit (.int .i64 (0))), (.lit (.int .i64 (0))), (.lit (.int .i64 (0)))] 1 [(0, (.r 0))], none, .p 0 0⟩,
  ⟨.app 33 320 (.r 4) (.r 0), none, .e⟩,
  ⟨.load 1 false (.s 2), none, .p 1 1⟩,
  ⟨.slc 33 (.r 0) (some (.c (.int .i64 (1)))) none none, none, .p 1 1⟩,
  ⟨.store 1 (.s 3) (.r 2), none, .e⟩,
  ⟨.store 1 (.s 2) (.r 1), none, .b⟩] []
abbrev c17_9 : ACode := .seq c17_7 c17_8
abbrev c17_10 : ACode := .block 1 c17_9
abbrev c17_11 : ACode := .seq c17_2 c17_10
abbrev c17_12 : ACode := .loop c17_11
abbrev c17_13 : ACode := .block 0 c17_12
abbrev c17 : ACode := c17_13
theorem k17 : FnOk Try.prog 17 [] [0, 1, 2, 3, 12, 15] c17 [] 4 := .of Try.func17 (by kernel_rfl)
-- (*reef/setup.dice).one  slots [0, 1, 4] names [d, n, ]
abbrev c18_0 : ACode := .reg false [⟨.mv (.c (.int .i64 (0))), none, .b⟩] [(2, 0)]
abbrev c18_1 : ACode := .reg false [⟨.mv (.s 0), none, .b⟩,
  ⟨.call (.f 37) [(.r 0)], none, .b⟩,
  ⟨.mv (.s 1), none, .b⟩,
  ⟨.cvi .u64 (.r 0), none, .b⟩,
  ⟨.bin .rem (.r 2) (.r 0), none, .b⟩,
  ⟨.cvi .i64 (.r 0), none, .b⟩,
  ⟨.mv (.r 0), none, .b⟩] [(2, 0)]
abbrev c18_2 : ACode := .seq c18_1 .ret
abbrev c18_3 : ACode := .seq c18_0 c18_2
abbrev c18 : ACode := c18_3
theorem k18 : FnOk Try.prog 18 [] [0, 1, 4] c18 [.t 2] 2 := .of Try.func18 (by kernel_rfl)
-- (*reef/reefref33.dice).one  slots [0, 1, 4] names [d, n, ]
abbrev c19_0 : ACode := .reg false [⟨.mv (.c (.int .i64 (0))), none, .b⟩] [(2, 0)]
abbrev c19_1 : ACode := .reg false [⟨.mv (.s 0), none, .b⟩,
  ⟨.call (.f 44) [(.r 0)], none, .b⟩,
  ⟨.mv (.s 1), none, .b⟩,
  ⟨.cvi .u64 (.r 0), none, .b⟩,
  ⟨.bin .rem (.r 2) (.r 0), none, .b⟩,
  ⟨.cvi .i64 (.r 0), none, .b⟩,
  ⟨.mv (.r 0), none, .b⟩] [(2, 0)]
abbrev c19_2 : ACode := .seq c19_1 .ret
abbrev c19_3 : ACode := .seq c19_0 c19_2
abbrev c19 : ACode := c19_3
theorem k19 : FnOk Try.prog 19 [] [0, 1, 4] c19 [.t 2] 2 := .of Try.func19 (by kernel_rfl)
-- reef/reefref27.Jobs  slots [0, 1, 2, 3, 4, 5, 75, 80, 93] names [a, b, a, b, , i, , , ]
abbrev c20_0 : ACode := .reg false [⟨.box 11 (.s 0), none, .b⟩,
  ⟨.box 11 (.s 1), none, .b⟩,
  ⟨.mv (.c (.bool false)), none, .b⟩] [(2, 2), (3, 1), (4, 0)]
abbrev c20_1 : ACode := .reg false (⟨.fa 0 (.s 2), none, .b⟩ ::
  ⟨.load 1 false (.r 0), none, .b⟩ ::
  ⟨.fa 0 (.s 3), none, .b⟩ ::
  ⟨.load 1 false (.r 0), none, .b⟩ ::
  ⟨.bin .neq (.r 2) (.r 0), none, .b⟩ ::
  ⟨.mv (.r 0), none, .b⟩ ::
  ⟨.fa 1 (.s 2), some (0, false), .b⟩ ::
  ⟨.load 1 false (.r 0), some (1, false), .b⟩ ::
  ⟨.fa 1 (.s 3), some (2, false), .b⟩ ::
  ⟨.load 1 false (.r 0), some (3, false), .b⟩ ::
  ⟨.bin .neq (.r 2) (.r 0), some (4, false), .b⟩ ::
  ⟨.pick (.r 5) (.c (.bool true)) (.r 0), none, .b⟩ ::
  ⟨.mv (.r 0), none, .b⟩ ::
  ⟨.fa 2 (.s 2), some (0, false), .b⟩ ::
  ⟨.load 1 false (.r 0), some (1, false), .b⟩ ::
  ⟨.fa 2 (.s 3), some (2, false), .b⟩ ::
  ⟨.load 1 false (.r 0), some (3, false), .b⟩ ::
  ⟨.bin .neq (.r 2) (.r 0), some (4, false), .b⟩ ::
  ⟨.pick (.r 5) (.c (.bool true)) (.r 0), none, .b⟩ ::
  ⟨.mv (.r 0), none, .b⟩ ::
  ⟨.fa 3 (.s 2), some (0, false), .b⟩ ::
  ⟨.load 1 false (.r 0), some (1, false), .b⟩ ::
  ⟨.fa 3 (.s 3), some (2, false), .b⟩ ::
  ⟨.load 1 false (.r 0), some (3, false), .b⟩ ::
  ⟨.bin .neq (.r 2) (.r 0), some (4, false), .b⟩ ::
  ⟨.pick (.r 5) (.c (.bool true)) (.r 0), none, .b⟩ ::
  ⟨.mv (.r 0), none, .b⟩ ::
  ⟨.fa 4 (.s 2), some (0, false), .b⟩ ::
  ⟨.load 1 false (.r 0), some (1, false), .b⟩ ::
  ⟨.fa 4 (.s 3), some (2, false), .b⟩ ::
  ⟨.load 1 false (.r 0), some (3, false), .b⟩ ::
  ⟨.beq true (.r 2) (.r 0), some (4, false), .b⟩ ::
  ⟨.pick (.r 5) (.c (.bool true)) (.r 0), none, .b⟩ ::
  ⟨.mv (.r 0), none, .b⟩ ::
  ⟨.fa 5 (.s 2), some (0, false), .b⟩ ::
  ⟨.load 1 false (.r 0), some (1, false), .b⟩ ::
  ⟨.fa 5 (.s 3), some (2, false), .b⟩ ::
  ⟨.load 1 false (.r 0), some (3, false), .b⟩ ::
  ⟨.bin .neq (.r 2) (.r 0), some (4, false), .b⟩ ::
  ⟨.pick (.r 5) (.c (.bool true)) (.r 0), none, .b⟩ ::
  ⟨.mv (.r 0), none, .b⟩ ::
  ⟨.fa 7 (.s 2), some (0, false), .b⟩ ::
  ⟨.load 1 false (.r 0), some (1, false), .b⟩ ::
  ⟨.fa 7 (.s 3), some (2, false), .b⟩ ::
  ⟨.load 1 false (.r 0), some (3, false), .b⟩ ::
  ⟨.bin .neq (.r 2) (.r 0), some (4, false), .b⟩ ::
  ⟨.pick (.r 5) (.c (.bool true)) (.r 0), none, .b⟩ ::
  ⟨.mv (.r 0), none, .b⟩ ::
  ⟨.fa 8 (.s 2), some (0, false), .b⟩ ::
  ⟨.load 1 false (.r 0), some (1, false), .b⟩ ::
  ⟨.fa 8 (.s 3), some (2, false), .b⟩ ::
  ⟨.load 1 false (.r 0), some (3, false), .b⟩ ::
  ⟨.bin .neq (.r 2) (.r 0), some (4, false), .b⟩ ::
  ⟨.pick (.r 5) (.c (.bool true)) (.r 0), none, .b⟩ ::
  ⟨.mv (.r 0), none, .b⟩ ::
  ⟨.fa 9 (.s 2), some (0, false), .b⟩ ::
  ⟨.load 2 true (.r 0), some (1, false), .b⟩ ::
  ⟨.fa 9 (.s 3), some (2, false), .b⟩ ::
  ⟨.load 2 true (.r 0), some (3, false), .b⟩ ::
  ⟨.eqs true [(.i .i64), (.i .i64)] (.r 2) (.r 0), some (4, false), .b⟩ ::
  ⟨.pick (.r 5) (.c (.bool true)) (.r 0), none, .b⟩ ::
  ⟨.mv (.r 0), none, .b⟩ ::
  ⟨.fa 6 (.s 2), some (0, false), .b⟩ ::
  ⟨.load 1 false (.r 0), some (1, false), .b⟩ ::
  ⟨.len false (.r 0), some (2, false), .b⟩ ::
  ⟨.fa 6 (.s 3), some (3, false), .b⟩ ::
  ⟨.load 1 false (.r 0), some (4, false), .b⟩ ::
  ⟨.len false (.r 0), some (5, false), .b⟩ ::
  ⟨.bin .neq (.r 3) (.r 0), some (6, false), .b⟩ ::
  ⟨.pick (.r 7) (.c (.bool true)) (.r 0), none, .b⟩ :: []) [(6, 0)]
abbrev c20_2 : ACode := .reg false [⟨.mv (.c (.bool false)), none, .b⟩] [(4, 0)]
abbrev c20_3 : ACode := .seq c20_2 .ret
abbrev c20_4 : ACode := .cond (.s 6) c20_3 .skip
abbrev c20_5 : ACode := .seq c20_1 c20_4
abbrev c20_6 : ACode := .reg false [⟨.mv (.c (.int .i64 (0))), none, .b⟩] [(5, 0)]
abbrev c20_7 : ACode := .reg false [⟨.mv (.s 5), none, .b⟩,
  ⟨.fa 6 (.s 2), none, .b⟩,
  ⟨.load 1 false (.r 0), none, .b⟩,
  ⟨.len false (.r 0), none, .b⟩,
  ⟨.bin .lss (.r 3) (.r 0), none, .b⟩] [(7, 0)]
abbrev c20_8 : ACode := .cond (.s 7) .skip (.exit 0)
abbrev c20_9 : ACode := .seq c20_7 c20_8
abbrev c20_10 : ACode := .reg true [⟨.fa 6 (.s 2), none, .p 0 0⟩,
  ⟨.load 1 false (.r 0), none, .p 0 0⟩,
  ⟨.mv (.s 5), none, .p 0 0⟩,
  ⟨.ixs 5 (.r 1) (.r 0), none, .p 0 0⟩,
  ⟨.load 5 true (.r 0), none, .p 0 0⟩,
  ⟨.fa 6 (.s 3), none, .p 0 0⟩,
  ⟨.load 1 false (.r 0), none, .p 0 0⟩,
  ⟨.mv (.s 5), none, .p 0 0⟩,
  ⟨.ixs 5 (.r 1) (.r 0), none, .p 0 0⟩,
  ⟨.load 5 true (.r 0), none, .p 0 0⟩,
  ⟨.eqs true [(.i .i64), (.i .i64), (.i .i64), (.i .i64), (.i .i64)] (.r 5) (.r 0), none, .b⟩] [(8, 0)]
abbrev c20_11 : ACode := .reg false [⟨.mv (.c (.bool false)), none, .b⟩] [(4, 0)]
abbrev c20_12 : ACode := .seq c20_11 .ret
abbrev c20_13 : ACode := .cond (.s 8) c20_12 .skip
abbrev c20_14 : ACode := .seq c20_10 c20_13
abbrev c20_15 : ACode := .block 1 c20_14
abbrev c20_16 : ACode := .reg false [⟨.mv (.s 5), none, .b⟩,
  ⟨.bin .add (.r 0) (.c (.int .i64 (1))), none, .b⟩,
  ⟨.mv (.r 0), none, .b⟩] [(5, 0)]
abbrev c20_17 : ACode := .seq c20_15 c20_16
abbrev c20_18 : ACode := .seq c20_9 c20_17
abbrev c20_19 : ACode := .loop c20_18
abbrev c20_20 : ACode := .block 0 c20_19
abbrev c20_21 : ACode := .seq c20_6 c20_20
abbrev c20_22 : ACode := .reg false [⟨.mv (.c (.bool true)), none, .b⟩] [(4, 0)]
abbrev c20_23 : ACode := .seq c20_22 .ret
abbrev c20_24 : ACode := .seq c20_21 c20_23
abbrev c20_25 : ACode := .seq c20_5 c20_24
abbrev c20_26 : ACode := .seq c20_0 c20_25
abbrev c20 : ACode := c20_26
theorem k20 : FnOk Try.prog 20 [] [0, 1, 2, 3, 4, 5, 75, 80, 93] c20 [.t 4] 2 := .of Try.func20 (by kernel_rfl)
-- reef/setup.Number  slots [0, 1, 3, 4, 5, 11, 13, 14, 18] names [seed, k, k, , x, , , , ]
abbrev c21_0 : ACode := .reg false [⟨.box 1 (.s 1), none, .b⟩,
  ⟨.alloc [(.lit (.int .u64 (0)))], none, .b⟩] [(2, 1), (3, 0)]
abbrev c21_1 : ACode := .reg false [⟨.load 1 false (.s 2), none, .b⟩,
  ⟨.bin .lss (.r 0) (.c (.int .i64 (1))), none, .b⟩,
  ⟨.mv (.r 0), none, .b⟩,
  ⟨.load 1 false (.s 2), some (0, false), .b⟩,
  ⟨.bin .gtr (.r 0) (.c (.int .i64 (100000))), some (1, false), .b⟩,
  ⟨.pick (.r 2) (.c (.bool true)) (.r 0), none, .b⟩] [(5, 0)]
abbrev c21_2 : ACode := .reg false [⟨.store 1 (.s 3) (.c (.int .u64 (0))), none, .b⟩] []
abbrev c21_3 : ACode := .seq c21_2 .ret
abbrev c21_4 : ACode := .cond (.s 5) c21_3 .skip
abbrev c21_5 : ACode := .seq c21_1 c21_4
abbrev c21_6 : ACode := .reg false [⟨.mv (.s 0), none, .b⟩,
  ⟨.call (.f 45) [(.r 0)], none, .b⟩] [(6, 0)]
abbrev c21_7 : ACode := .reg false [⟨.mv (.s 7), none, .b⟩] [(4, 0)]
abbrev c21_8 : ACode := .reg false [⟨.load 1 false (.s 2), none, .b⟩,
  ⟨.bin .sub (.r 0) (.c (.int .i64 (1))), none, .b⟩,
  ⟨.store 1 (.s 2) (.r 0), none, .b⟩] []
abbrev c21_9 : ACode := .reg false [⟨.load 1 false (.s 2), none, .b⟩,
  ⟨.bin .eql (.r 0) (.c (.int .i64 (0))), none, .b⟩] [(8, 0)]
abbrev c21_10 : ACode := .reg false [⟨.mv (.s 4), none, .b⟩,
  ⟨.store 1 (.s 3) (.r 0), none, .b⟩] []
abbrev c21_11 : ACode := .seq c21_10 .ret
abbrev c21_12 : ACode := .cond (.s 8) c21_11 .skip
abbrev c21_13 : ACode := .seq c21_9 c21_12
abbrev c21_14 : ACode := .seq c21_8 c21_13
abbrev c21_15 : ACode := .block 1 c21_14
abbrev c21_16 : ACode := .rng (.s 6) [7] c21_7 c21_15
abbrev c21_17 : ACode := .block 0 c21_16
abbrev c21_18 : ACode := .seq c21_6 c21_17
abbrev c21_19 : ACode := .reg false [⟨.store 1 (.s 3) (.c (.int .u64 (0))), none, .b⟩] []
abbrev c21_20 : ACode := .seq c21_19 .ret
abbrev c21_21 : ACode := .seq c21_18 c21_20
abbrev c21_22 : ACode := .seq c21_5 c21_21
abbrev c21_23 : ACode := .seq c21_0 c21_22
abbrev c21 : ACode := c21_23
theorem k21 : FnOk Try.prog 21 [] [0, 1, 3, 4, 5, 11, 13, 14, 18] c21 [.cell 3 1 false] 2 := .of Try.func21 (by kernel_rfl)
-- reef/setup.can  slots [0, 1, 2] names [c, c, ]
abbrev c22_0 : ACode := .reg false [⟨.box 4 (.s 0), none, .b⟩,
  ⟨.mv (.c (.bool false)), none, .b⟩] [(1, 1), (2, 0)]
abbrev c22_1 : ACode := .reg false [⟨.fa 0 (.s 1), none, .b⟩,
  ⟨.load 1 false (.r 0), none, .b⟩,
  ⟨.bin .geq (.r 0) (.c (.int .i64 (1))), none, .b⟩,
  ⟨.mv (.r 0), none, .b⟩,
  ⟨.fa 0 (.s 1), some (0, true), .b⟩,
  ⟨.load 1 false (.r 0), some (1, true), .b⟩,
  ⟨.bin .leq (.r 0) (.c (.int .i64 (5))), some (2, true), .b⟩,
  ⟨.pick (.r 3) (.r 0) (.c (.bool false)), none, .b⟩,
  ⟨.mv (.r 0), none, .b⟩,
  ⟨.fa 1 (.s 1), some (0, true), .b⟩,
  ⟨.load 1 false (.r 0), some (1, true), .b⟩,
  ⟨.call (.f 46) [(.r 0)], some (2, true), .b⟩,
  ⟨.fd 1 1 false (.r 0), some (3, true), .b⟩,
  ⟨.len false (.r 0), some (4, true), .b⟩,
  ⟨.bin .gtr (.r 0) (.c (.int .i64 (0))), some (5, true), .b⟩,
  ⟨.pick (.r 6) (.r 0) (.c (.bool false)), none, .b⟩,
  ⟨.mv (.r 0), none, .b⟩,
  ⟨.fa 2 (.s 1), some (0, true), .b⟩,
  ⟨.load 1 false (.r 0), some (1, true), .b⟩,
  ⟨.bin .geq (.r 0) (.c (.int .i64 (0))), some (2, true), .b⟩,
  ⟨.pick (.r 3) (.r 0) (.c (.bool false)), none, .b⟩,
  ⟨.mv (.r 0), none, .b⟩,
  ⟨.fa 2 (.s 1), some (0, true), .b⟩,
  ⟨.load 1 false (.r 0), some (1, true), .b⟩,
  ⟨.bin .leq (.r 0) (.c (.int .i64 (4))), some (2, true), .b⟩,
  ⟨.pick (.r 3) (.r 0) (.c (.bool false)), none, .b⟩,
  ⟨.mv (.r 0), none, .b⟩,
  ⟨.fa 3 (.s 1), some (0, true), .b⟩,
  ⟨.load 1 false (.r 0), some (1, true), .b⟩,
  ⟨.bin .geq (.r 0) (.c (.int .i64 (32))), some (2, true), .b⟩,
  ⟨.pick (.r 3) (.r 0) (.c (.bool false)), none, .b⟩,
  ⟨.mv (.r 0), none, .b⟩,
  ⟨.fa 3 (.s 1), some (0, true), .b⟩,
  ⟨.load 1 false (.r 0), some (1, true), .b⟩,
  ⟨.bin .leq (.r 0) (.c (.int .i64 (4096))), some (2, true), .b⟩,
  ⟨.pick (.r 3) (.r 0) (.c (.bool false)), none, .b⟩,
  ⟨.mv (.r 0), none, .b⟩] [(2, 0)]
abbrev c22_2 : ACode := .seq c22_1 .ret
abbrev c22_3 : ACode := .seq c22_0 c22_2
abbrev c22 : ACode := c22_3
theorem k22 : FnOk Try.prog 22 [] [0, 1, 2] c22 [.t 2] 1 := .of Try.func22 (by kernel_rfl)
-- reef/setup.rounds  slots [0, 2, 3, 4, 5, 6] names [n, , out, , , ]
abbrev c23_0 : ACode := .reg false [⟨.mv (.c (.slice none 0 0)), none, .b⟩] [(1, 0)]
abbrev c23_1 : ACode := .reg false [⟨.mv (.c (.slice none 0 0)), none, .b⟩] [(2, 0)]
abbrev c23_2 : ACode := .reg false [⟨.mv (.s 0), none, .b⟩,
  ⟨.mv (.c (.int .i64 (0))), none, .b⟩] [(3, 1), (4, 0)]
abbrev c23_3 : ACode := .reg false [⟨.bin .lss (.s 4) (.s 3), none, .b⟩] [(5, 0)]
abbrev c23_4 : ACode := .cond (.s 5) .skip (.exit 0)
abbrev c23_5 : ACode := .reg false [⟨.mv (.s 2), none, .b⟩,
  ⟨.build [(.lit (.int .i64 (0))), (.lit (.int .i64 (0))), (.lit (.int .i64 (0))), (.lit (.int .i64 (0))), (.lit (.int .i64 (0))), (.lit (.int .i64 (0))), (.lit (.int .u64 (0))), (.lit (.int .i64 (0))), (.lit (.int .i64 (0))), (.lit (.int .i64 (0))), (.lit (.int .i64 (0))), (.lit (.int .i64 (0))), (.lit (.int .i64 (0))), (.lit (.int .i64 (0))), (.lit (.int .i64 (0))), (.lit (.int .i64 (0))), (.lit (.int .i64 (0))), (.lit (.string ⟨#[]⟩)), (.lit (.int .i64 (0))), (.lit (.int .i64 (0))), (.lit (.string ⟨#[]⟩)), (.lit (.string ⟨#[]⟩)), (.lit (.int .i64 (0))), (.lit (.int .i64 (0))), (.lit (.int .i64 (0))), (.lit (.string ⟨#[]⟩)), (.lit (.bool false)), (.lit (.int .i64 (0))), (.sl 0 []), (.lit (.string ⟨#[]⟩)), (.lit (.int .i64 (0))), (.lit (.int .i64 (0))), (.lit (.int .i64 (0)))] [(0, 1, (.c (.int .i64 (14))))], none, .b⟩,
  ⟨.bsl false [(.lit (.int .i64 (0))), (.lit (.int .i64 (0))), (.lit (.int .i64 (0))), (.lit (.int .i64 (0))), (.lit (.int .i64 (0))), (.lit (.int .i64 (0))), (.lit (.int .u64 (0))), (.lit (.int .i64 (0))), (.lit (.int .i64 (0))), (.lit (.int .i64 (0))), (.lit (.int .i64 (0))), (.lit (.int .i64 (0))), (.lit (.int .i64 (0))), (.lit (.int .i64 (0))), (.lit (.int .i64 (0))), (.lit (.int .i64 (0))), (.lit (.int .i64 (0))), (.lit (.string ⟨#[]⟩)), (.lit (.int .i64 (0))), (.lit (.int .i64 (0))), (.lit (.string ⟨#[]⟩)), (.lit (.string ⟨#[]⟩)), (.lit (.int .i64 (0))), (.lit (.int .i64 (0))), (.lit (.int .i64 (0))), (.lit (.string ⟨#[]⟩)), (.lit (.bool false)), (.lit (.int .i64 (0))), (.sl 0 []), (.lit (.string ⟨#[]⟩)), (.lit (.int .i64 (0))), (.lit (.int .i64 (0))), (.lit (.int .i64 (0)))] 1 [(0, (.r 0))], none, .b⟩,
  ⟨.app 33 320 (.r 2) (.r 0), none, .b⟩,
  ⟨.mv (.r 0), none, .b⟩] [(2, 0)]
abbrev c23_6 : ACode := .block 1 c23_5
abbrev c23_7 : ACode := .reg false [⟨.bin .add (.s 4) (.c (.int .i64 (1))), none, .b⟩,
  ⟨.mv (.r 0), none, .b⟩] [(4, 0)]
abbrev c23_8 : ACode := .seq c23_6 c23_7
abbrev c23_9 : ACode := .seq c23_4 c23_8
abbrev c23_10 : ACode := .seq c23_3 c23_9
abbrev c23_11 : ACode := .loop c23_10
abbrev c23_12 : ACode := .block 0 c23_11
abbrev c23_13 : ACode := .seq c23_2 c23_12
abbrev c23_14 : ACode := .reg false [⟨.mv (.s 2), none, .b⟩,
  ⟨.mv (.r 0), none, .b⟩] [(1, 0)]
abbrev c23_15 : ACode := .seq c23_14 .ret
abbrev c23_16 : ACode := .seq c23_13 c23_15
abbrev c23_17 : ACode := .seq c23_1 c23_16
abbrev c23_18 : ACode := .seq c23_0 c23_17
abbrev c23 : ACode := c23_18
theorem k23 : FnOk Try.prog 23 [] [0, 2, 3, 4, 5, 6] c23 [.t 1] 1 := .of Try.func23 (by kernel_rfl)
-- f24 reef/setup.Calls$1: NOT COVERED [region 3 uniq true draw true,   op 5 dst (some 23)]
-- reef/setup.few  slots [0, 2] names [n, ]
abbrev c25_0 : ACode := .reg false [⟨.mv (.c (.int .i64 (0))), none, .b⟩] [(1, 0)]
abbrev c25_1 : ACode := .reg false [⟨.mv (.s 0), none, .b⟩,
  ⟨.mnx true [(.r 0), (.c (.int .i64 (0)))], none, .b⟩,
  ⟨.mnx false [(.r 0), (.c (.int .i64 (1000)))], none, .b⟩,
  ⟨.mv (.r 0), none, .b⟩] [(1, 0)]
abbrev c25_2 : ACode := .seq c25_1 .ret
abbrev c25_3 : ACode := .seq c25_0 c25_2
abbrev c25 : ACode := c25_3
theorem k25 : FnOk Try.prog 25 [] [0, 2] c25 [.t 1] 1 := .of Try.func25 (by kernel_rfl)
-- f26 (*reef/setup.dice).letters: NOT COVERED [region 7 uniq true draw true,   op 1 dst (some 25)]
-- reef/setup.Faults$1  slots [0, 1, 2, 3, 4, 5, 6, 7, 8, 9, 42, 43, 44] names [d, , , , d, all, flying, osd, two, l, , , ]
abbrev c27_0 : ACode := .reg false [⟨.box 1 (.s 0), none, .b⟩] [(4, 0)]
abbrev c27_1 : ACode := .reg false [⟨.load 4 true (.s 1), none, .b⟩,
  ⟨.call (.f 28) [(.r 0)], none, .b⟩,
  ⟨.alloc [(.sl 0 [])], none, .b⟩,
  ⟨.store 1 (.r 0) (.r 1), none, .b⟩] [(5, 1)]
abbrev c27_2 : ACode := .reg false [⟨.mkf 29 [(.s 4)], none, .b⟩,
  ⟨.mv (.r 0), none, .b⟩] [(6, 0)]
abbrev c27_3 : ACode := .reg false [⟨.mkf 31 [(.s 4), (.s 1)], none, .b⟩,
  ⟨.alloc [(.lit .nilFunc)], none, .b⟩,
  ⟨.store 1 (.r 0) (.r 1), none, .b⟩] [(7, 1)]
abbrev c27_4 : ACode := .reg false [⟨.mkf 33 [(.s 4), (.s 5)], none, .b⟩,
  ⟨.mv (.r 0), none, .b⟩] [(8, 0)]
abbrev c27_5 : ACode := .reg true [⟨.mv (.s 6), none, .p 0 0⟩,
  ⟨.call (.r 0) [(.c (.int .i64 (2)))], none, .e⟩,
  ⟨.build [(.lit (.int .i64 (0))), (.lit .nilFunc)] [(0, 1, (.c (.int .i64 (4)))), (1, 1, (.r 0))], none, .p 0 6⟩,
  ⟨.mv (.s 6), none, .p 1 0⟩,
  ⟨.call (.r 0) [(.c (.int .i64 (3)))], none, .e⟩,
  ⟨.build [(.lit (.int .i64 (0))), (.lit .nilFunc)] [(0, 1, (.c (.int .i64 (1)))), (1, 1, (.r 0))], none, .p 0 5⟩,
  ⟨.mv (.s 6), none, .p 2 0⟩,
  ⟨.call (.r 0) [(.c (.int .i64 (4)))], none, .e⟩,
  ⟨.build [(.lit (.int .i64 (0))), (.lit .nilFunc)] [(0, 1, (.c (.int .i64 (1)))), (1, 1, (.r 0))], none, .p 0 4⟩,
  ⟨.mkf 35 [(.s 5), (.s 4)], none, .p 3 4⟩,
  ⟨.build [(.lit (.int .i64 (0))), (.lit .nilFunc)] [(0, 1, (.c (.int .i64 (1)))), (1, 1, (.r 0))], none, .p 3 4⟩,
  ⟨.mv (.s 8), none, .p 3 0⟩,
  ⟨.call (.r 0) [(.c (.int .i64 (5)))], none, .e⟩,
  ⟨.build [(.lit (.int .i64 (0))), (.lit .nilFunc)] [(0, 1, (.c (.int .i64 (1)))), (1, 1, (.r 0))], none, .p 0 3⟩,
  ⟨.mv (.s 8), none, .p 4 0⟩,
  ⟨.call (.r 0) [(.c (.int .i64 (6)))], none, .e⟩,
  ⟨.build [(.lit (.int .i64 (0))), (.lit .nilFunc)] [(0, 1, (.c (.int .i64 (1)))), (1, 1, (.r 0))], none, .p 0 2⟩,
  ⟨.load 1 false (.s 7), none, .p 5 0⟩,
  ⟨.call (.r 0) [(.c (.int .i64 (7)))], none, .e⟩,
  ⟨.build [(.lit (.int .i64 (0))), (.lit .nilFunc)] [(0, 1, (.c (.int .i64 (1)))), (1, 1, (.r 0))], none, .p 0 1⟩,
  ⟨.load 1 false (.s 7), none, .p 6 0⟩,
  ⟨.call (.r 0) [(.c (.int .i64 (8)))], none, .e⟩,
  ⟨.build [(.lit (.int .i64 (0))), (.lit .nilFunc)] [(0, 1, (.c (.int .i64 (1)))), (1, 1, (.r 0))], none, .p 0 0⟩,
  ⟨.mkf 36 [(.s 7), (.s 4)], none, .p 7 0⟩,
  ⟨.build [(.lit (.int .i64 (0))), (.lit .nilFunc)] [(0, 1, (.c (.int .i64 (1)))), (1, 1, (.r 0))], none, .p 7 0⟩,
  ⟨.bsl false [(.lit (.int .i64 (0))), (.lit .nilFunc)] 9 [(0, (.r 22)), (1, (.r 19)), (2, (.r 16)), (3, (.r 14)), (4, (.r 11)), (5, (.r 8)), (6, (.r 5)), (7, (.r 2)), (8, (.r 0))], none, .b⟩,
  ⟨.mv (.r 0), none, .b⟩] [(9, 0)]
abbrev c27_6 : ACode := .reg false [⟨.load 1 false (.s 2), none, .b⟩,
  ⟨.call (.f 25) [(.r 0)], none, .b⟩,
  ⟨.mv (.c (.int .i64 (0))), none, .b⟩] [(10, 1), (11, 0)]
abbrev c27_7 : ACode := .reg false [⟨.bin .lss (.s 11) (.s 10), none, .b⟩] [(12, 0)]
abbrev c27_8 : ACode := .cond (.s 12) .skip (.exit 0)
abbrev c27_9 : ACode := .reg true [⟨.load 1 false (.s 3), none, .p 0 1⟩,
  ⟨.load 1 false (.s 4), none, .p 0 0⟩,
  ⟨.mv (.s 9), none, .p 0 0⟩,
  ⟨.call (.f 38) [(.r 1), (.r 0)], none, .e⟩,
  ⟨.bsl false [(.lit (.int .i64 (0))), (.lit (.int .i64 (0))), (.lit (.int .i64 (0))), (.lit (.int .i64 (0))), (.lit (.int .i64 (0))), (.lit (.int .i64 (0))), (.lit (.int .u64 (0))), (.lit (.int .i64 (0))), (.lit (.int .i64 (0))), (.lit (.int .i64 (0))), (.lit (.int .i64 (0))), (.lit (.int .i64 (0))), (.lit (.int .i64 (0))), (.lit (.int .i64 (0))), (.lit (.int .i64 (0))), (.lit (.int .i64 (0))), (.lit (.int .i64 (0))), (.lit (.string ⟨#[]⟩)), (.lit (.int .i64 (0))), (.lit (.int .i64 (0))), (.lit (.string ⟨#[]⟩)), (.lit (.string ⟨#[]⟩)), (.lit (.int .i64 (0))), (.lit (.int .i64 (0))), (.lit (.int .i64 (0))), (.lit (.string ⟨#[]⟩)), (.lit (.bool false)), (.lit (.int .i64 (0))), (.sl 0 []), (.lit (.string ⟨#[]⟩)), (.lit (.int .i64 (0))), (.lit (.int .i64 (0))), (.lit (.int .i64 (0)))] 1 [(0, (.r 0))], none, .p 0 0⟩,
  ⟨.app 33 320 (.r 4) (.r 0), none, .b⟩,
  ⟨.store 1 (.s 3) (.r 0), none, .b⟩] []
abbrev c27_10 : ACode := .block 1 c27_9
abbrev c27_11 : ACode := .reg false [⟨.bin .add (.s 11) (.c (.int .i64 (1))), none, .b⟩,
  ⟨.mv (.r 0), none, .b⟩] [(11, 0)]
abbrev c27_12 : ACode := .seq c27_10 c27_11
abbrev c27_13 : ACode := .seq c27_8 c27_12
abbrev c27_14 : ACode := .seq c27_7 c27_13
abbrev c27_15 : ACode := .loop c27_14
abbrev c27_16 : ACode := .block 0 c27_15
abbrev c27_17 : ACode := .seq c27_6 c27_16
abbrev c27_18 : ACode := .seq c27_5 c27_17
abbrev c27_19 : ACode := .seq c27_4 c27_18
abbrev c27_20 : ACode := .seq c27_3 c27_19
abbrev c27_21 : ACode := .seq c27_2 c27_20
abbrev c27_22 : ACode := .seq c27_1 c27_21
abbrev c27_23 : ACode := .seq c27_0 c27_22
abbrev c27 : ACode := c27_23
theorem k27 : FnOk Try.prog 27 [] [0, 1, 2, 3, 4, 5, 6, 7, 8, 9, 42, 43, 44] c27 [] 4 := .of Try.func27 (by kernel_rfl)
-- reef/setup.nodes  slots [0, 1, 2, 3, 4] names [c, c, , out, add]
abbrev c28_0 : ACode := .reg false [⟨.box 4 (.s 0), none, .b⟩,
  ⟨.mv (.c (.slice none 0 0)), none, .b⟩] [(1, 1), (2, 0)]
abbrev c28_1 : ACode := .reg false [⟨.alloc [(.sl 0 [])], none, .b⟩] [(3, 0)]
abbrev c28_2 : ACode := .reg false [⟨.mkf 47 [(.s 3)], none, .b⟩,
  ⟨.mv (.r 0), none, .b⟩] [(4, 0)]
abbrev c28_3 : ACode := .reg false [⟨.mv (.s 4), none, .b⟩,
  ⟨.fa 0 (.s 1), none, .b⟩,
  ⟨.load 1 false (.r 0), none, .b⟩,
  ⟨.call (.r 2) [(.c (.int .i64 (1))), (.r 0)], none, .b⟩] []
abbrev c28_4 : ACode := .reg false [⟨.mv (.s 4), none, .b⟩,
  ⟨.fa 1 (.s 1), none, .b⟩,
  ⟨.load 1 false (.r 0), none, .b⟩,
  ⟨.len false (.r 0), none, .b⟩,
  ⟨.call (.r 3) [(.c (.int .i64 (2))), (.r 0)], none, .b⟩] []
abbrev c28_5 : ACode := .reg false [⟨.mv (.s 4), none, .b⟩,
  ⟨.fa 2 (.s 1), none, .b⟩,
  ⟨.load 1 false (.r 0), none, .b⟩,
  ⟨.call (.r 2) [(.c (.int .i64 (3))), (.r 0)], none, .b⟩] []
abbrev c28_6 : ACode := .reg false [⟨.load 1 false (.s 3), none, .b⟩,
  ⟨.mv (.r 0), none, .b⟩] [(2, 0)]
abbrev c28_7 : ACode := .seq c28_6 .ret
abbrev c28_8 : ACode := .seq c28_5 c28_7
abbrev c28_9 : ACode := .seq c28_4 c28_8
abbrev c28_10 : ACode := .seq c28_3 c28_9
abbrev c28_11 : ACode := .seq c28_2 c28_10
abbrev c28_12 : ACode := .seq c28_1 c28_11
abbrev c28_13 : ACode := .seq c28_0 c28_12
abbrev c28 : ACode := c28_13
theorem k28 : FnOk Try.prog 28 [] [0, 1, 2, 3, 4] c28 [.t 2] 1 := .of Try.func28 (by kernel_rfl)
-- reef/setup.Faults$1$1  slots [0, 1, 2, 3] names [kind, , kind, ]
abbrev c29_0 : ACode := .reg false [⟨.box 1 (.s 0), none, .b⟩,
  ⟨.mv (.c .nilFunc), none, .b⟩] [(2, 1), (3, 0)]
abbrev c29_1 : ACode := .reg false [⟨.mkf 30 [(.s 2), (.s 1)], none, .b⟩,
  ⟨.mv (.r 0), none, .b⟩] [(3, 0)]
abbrev c29_2 : ACode := .seq c29_1 .ret
abbrev c29_3 : ACode := .seq c29_0 c29_2
abbrev c29 : ACode := c29_3
theorem k29 : FnOk Try.prog 29 [] [0, 1, 2, 3] c29 [.t 3] 2 := .of Try.func29 (by kernel_rfl)
-- reef/setup.Faults$1$1$1  slots [0, 1, 2] names [, , ]
abbrev c30_0 : ACode := .reg false [⟨.alloc [(.lit (.int .i64 (0))), (.lit (.int .i64 (0))), (.lit (.int .i64 (0))), (.lit (.int .i64 (0))), (.lit (.int .i64 (0))), (.lit (.int .i64 (0))), (.lit (.int .u64 (0))), (.lit (.int .i64 (0))), (.lit (.int .i64 (0))), (.lit (.int .i64 (0))), (.lit (.int .i64 (0))), (.lit (.int .i64 (0))), (.lit (.int .i64 (0))), (.lit (.int .i64 (0))), (.lit (.int .i64 (0))), (.lit (.int .i64 (0))), (.lit (.int .i64 (0))), (.lit (.string ⟨#[]⟩)), (.lit (.int .i64 (0))), (.lit (.int .i64 (0))), (.lit (.string ⟨#[]⟩)), (.lit (.string ⟨#[]⟩)), (.lit (.int .i64 (0))), (.lit (.int .i64 (0))), (.lit (.int .i64 (0))), (.lit (.string ⟨#[]⟩)), (.lit (.bool false)), (.lit (.int .i64 (0))), (.sl 0 []), (.lit (.string ⟨#[]⟩)), (.lit (.int .i64 (0))), (.lit (.int .i64 (0))), (.lit (.int .i64 (0)))], none, .b⟩] [(2, 0)]
abbrev c30_1 : ACode := .reg true [⟨.load 1 false (.s 0), none, .p 0 1⟩,
  ⟨.load 1 false (.s 1), none, .p 0 0⟩,
  ⟨.call (.f 18) [(.r 0), (.c (.int .i64 (1000)))], none, .e⟩,
  ⟨.build [(.lit (.int .i64 (0))), (.lit (.int .i64 (0))), (.lit (.int .i64 (0))), (.lit (.int .i64 (0))), (.lit (.int .i64 (0))), (.lit (.int .i64 (0))), (.lit (.int .u64 (0))), (.lit (.int .i64 (0))), (.lit (.int .i64 (0))), (.lit (.int .i64 (0))), (.lit (.int .i64 (0))), (.lit (.int .i64 (0))), (.lit (.int .i64 (0))), (.lit (.int .i64 (0))), (.lit (.int .i64 (0))), (.lit (.int .i64 (0))), (.lit (.int .i64 (0))), (.lit (.string ⟨#[]⟩)), (.lit (.int .i64 (0))), (.lit (.int .i64 (0))), (.lit (.string ⟨#[]⟩)), (.lit (.string ⟨#[]⟩)), (.lit (.int .i64 (0))), (.lit (.int .i64 (0))), (.lit (.int .i64 (0))), (.lit (.string ⟨#[]⟩)), (.lit (.bool false)), (.lit (.int .i64 (0))), (.sl 0 []), (.lit (.string ⟨#[]⟩)), (.lit (.int .i64 (0))), (.lit (.int .i64 (0))), (.lit (.int .i64 (0)))] [(0, 1, (.r 2)), (5, 1, (.r 0))], none, .b⟩,
  ⟨.store 33 (.s 2) (.r 0), none, .b⟩] []
abbrev c30_2 : ACode := .seq c30_1 .ret
abbrev c30_3 : ACode := .seq c30_0 c30_2
abbrev c30 : ACode := c30_3
theorem k30 : FnOk Try.prog 30 [] [0, 1, 2] c30 [.cell 2 33 true] 2 := .of Try.func30 (by kernel_rfl)
-- reef/setup.Faults$1$2  slots [0, 1, 2, 3, 4] names [kind, , , kind, ]
abbrev c31_0 : ACode := .reg false [⟨.box 1 (.s 0), none, .b⟩,
  ⟨.mv (.c .nilFunc), none, .b⟩] [(3, 1), (4, 0)]
abbrev c31_1 : ACode := .reg false [⟨.mkf 32 [(.s 3), (.s 1), (.s 2)], none, .b⟩,
  ⟨.mv (.r 0), none, .b⟩] [(4, 0)]
abbrev c31_2 : ACode := .seq c31_1 .ret
abbrev c31_3 : ACode := .seq c31_0 c31_2
abbrev c31 : ACode := c31_3
theorem k31 : FnOk Try.prog 31 [] [0, 1, 2, 3, 4] c31 [.t 4] 3 := .of Try.func31 (by kernel_rfl)
-- reef/setup.Faults$1$2$1  slots [0, 1, 2, 3] names [, , , ]
abbrev c32_0 : ACode := .reg false [⟨.alloc [(.lit (.int .i64 (0))), (.lit (.int .i64 (0))), (.lit (.int .i64 (0))), (.lit (.int .i64 (0))), (.lit (.int .i64 (0))), (.lit (.int .i64 (0))), (.lit (.int .u64 (0))), (.lit (.int .i64 (0))), (.lit (.int .i64 (0))), (.lit (.int .i64 (0))), (.lit (.int .i64 (0))), (.lit (.int .i64 (0))), (.lit (.int .i64 (0))), (.lit (.int .i64 (0))), (.lit (.int .i64 (0))), (.lit (.int .i64 (0))), (.lit (.int .i64 (0))), (.lit (.string ⟨#[]⟩)), (.lit (.int .i64 (0))), (.lit (.int .i64 (0))), (.lit (.string ⟨#[]⟩)), (.lit (.string ⟨#[]⟩)), (.lit (.int .i64 (0))), (.lit (.int .i64 (0))), (.lit (.int .i64 (0))), (.lit (.string ⟨#[]⟩)), (.lit (.bool false)), (.lit (.int .i64 (0))), (.sl 0 []), (.lit (.string ⟨#[]⟩)), (.lit (.int .i64 (0))), (.lit (.int .i64 (0))), (.lit (.int .i64 (0)))], none, .b⟩] [(3, 0)]
abbrev c32_1 : ACode := .reg true [⟨.load 1 false (.s 0), none, .p 0 1⟩,
  ⟨.load 1 false (.s 1), none, .p 0 0⟩,
  ⟨.fa 1 (.s 2), none, .p 0 0⟩,
  ⟨.load 1 false (.r 0), none, .p 0 0⟩,
  ⟨.len false (.r 0), none, .p 0 0⟩,
  ⟨.call (.f 18) [(.r 3), (.r 0)], none, .e⟩,
  ⟨.build [(.lit (.int .i64 (0))), (.lit (.int .i64 (0)))] [(0, 1, (.c (.int .i64 (2)))), (1, 1, (.r 0))], none, .p 0 0⟩,
  ⟨.build [(.lit (.int .i64 (0))), (.lit (.int .i64 (0))), (.lit (.int .i64 (0))), (.lit (.int .i64 (0))), (.lit (.int .i64 (0))), (.lit (.int .i64 (0))), (.lit (.int .u64 (0))), (.lit (.int .i64 (0))), (.lit (.int .i64 (0))), (.lit (.int .i64 (0))), (.lit (.int .i64 (0))), (.lit (.int .i64 (0))), (.lit (.int .i64 (0))), (.lit (.int .i64 (0))), (.lit (.int .i64 (0))), (.lit (.int .i64 (0))), (.lit (.int .i64 (0))), (.lit (.string ⟨#[]⟩)), (.lit (.int .i64 (0))), (.lit (.int .i64 (0))), (.lit (.string ⟨#[]⟩)), (.lit (.string ⟨#[]⟩)), (.lit (.int .i64 (0))), (.lit (.int .i64 (0))), (.lit (.int .i64 (0))), (.lit (.string ⟨#[]⟩)), (.lit (.bool false)), (.lit (.int .i64 (0))), (.sl 0 []), (.lit (.string ⟨#[]⟩)), (.lit (.int .i64 (0))), (.lit (.int .i64 (0))), (.lit (.int .i64 (0)))] [(0, 1, (.r 6)), (1, 2, (.r 0))], none, .b⟩,
  ⟨.store 33 (.s 3) (.r 0), none, .b⟩] []
abbrev c32_2 : ACode := .seq c32_1 .ret
abbrev c32_3 : ACode := .seq c32_0 c32_2
abbrev c32 : ACode := c32_3
theorem k32 : FnOk Try.prog 32 [] [0, 1, 2, 3] c32 [.cell 3 33 true] 3 := .of Try.func32 (by kernel_rfl)
-- reef/setup.Faults$1$3  slots [0, 1, 2, 3, 4] names [kind, , , kind, ]
abbrev c33_0 : ACode := .reg false [⟨.box 1 (.s 0), none, .b⟩,
  ⟨.mv (.c .nilFunc), none, .b⟩] [(3, 1), (4, 0)]
abbrev c33_1 : ACode := .reg false [⟨.mkf 34 [(.s 1), (.s 2), (.s 3)], none, .b⟩,
  ⟨.mv (.r 0), none, .b⟩] [(4, 0)]
abbrev c33_2 : ACode := .seq c33_1 .ret
abbrev c33_3 : ACode := .seq c33_0 c33_2
abbrev c33 : ACode := c33_3
theorem k33 : FnOk Try.prog 33 [] [0, 1, 2, 3, 4] c33 [.t 4] 3 := .of Try.func33 (by kernel_rfl)
-- reef/setup.Faults$1$3$1  slots [0, 1, 2, 3, 4, 11] names [, , , , k, ]
abbrev c34_0 : ACode := .reg false [⟨.alloc [(.lit (.int .i64 (0))), (.lit (.int .i64 (0))), (.lit (.int .i64 (0))), (.lit (.int .i64 (0))), (.lit (.int .i64 (0))), (.lit (.int .i64 (0))), (.lit (.int .u64 (0))), (.lit (.int .i64 (0))), (.lit (.int .i64 (0))), (.lit (.int .i64 (0))), (.lit (.int .i64 (0))), (.lit (.int .i64 (0))), (.lit (.int .i64 (0))), (.lit (.int .i64 (0))), (.lit (.int .i64 (0))), (.lit (.int .i64 (0))), (.lit (.int .i64 (0))), (.lit (.string ⟨#[]⟩)), (.lit (.int .i64 (0))), (.lit (.int .i64 (0))), (.lit (.string ⟨#[]⟩)), (.lit (.string ⟨#[]⟩)), (.lit (.int .i64 (0))), (.lit (.int .i64 (0))), (.lit (.int .i64 (0))), (.lit (.string ⟨#[]⟩)), (.lit (.bool false)), (.lit (.int .i64 (0))), (.sl 0 []), (.lit (.string ⟨#[]⟩)), (.lit (.int .i64 (0))), (.lit (.int .i64 (0))), (.lit (.int .i64 (0)))], none, .b⟩] [(3, 0)]
abbrev c34_1 : ACode := .reg false [⟨.load 1 false (.s 0), none, .b⟩,
  ⟨.load 1 false (.s 1), none, .b⟩,
  ⟨.len false (.r 0), none, .b⟩,
  ⟨.call (.f 18) [(.r 2), (.r 0)], none, .b⟩,
  ⟨.mv (.r 0), none, .b⟩] [(4, 0)]
abbrev c34_2 : ACode := .reg false [⟨.load 1 false (.s 1), none, .b⟩,
  ⟨.len false (.r 0), none, .b⟩,
  ⟨.bin .eql (.r 0) (.c (.int .i64 (1))), none, .b⟩] [(5, 0)]
abbrev c34_3 : ACode := .reg false [⟨.build [(.lit (.int .i64 (0))), (.lit (.int .i64 (0))), (.lit (.int .i64 (0))), (.lit (.int .i64 (0))), (.lit (.int .i64 (0))), (.lit (.int .i64 (0))), (.lit (.int .u64 (0))), (.lit (.int .i64 (0))), (.lit (.int .i64 (0))), (.lit (.int .i64 (0))), (.lit (.int .i64 (0))), (.lit (.int .i64 (0))), (.lit (.int .i64 (0))), (.lit (.int .i64 (0))), (.lit (.int .i64 (0))), (.lit (.int .i64 (0))), (.lit (.int .i64 (0))), (.lit (.string ⟨#[]⟩)), (.lit (.int .i64 (0))), (.lit (.int .i64 (0))), (.lit (.string ⟨#[]⟩)), (.lit (.string ⟨#[]⟩)), (.lit (.int .i64 (0))), (.lit (.int .i64 (0))), (.lit (.int .i64 (0))), (.lit (.string ⟨#[]⟩)), (.lit (.bool false)), (.lit (.int .i64 (0))), (.sl 0 []), (.lit (.string ⟨#[]⟩)), (.lit (.int .i64 (0))), (.lit (.int .i64 (0))), (.lit (.int .i64 (0)))] [(0, 1, (.c (.int .i64 (13))))], none, .b⟩,
  ⟨.store 33 (.s 3) (.r 0), none, .b⟩] []
abbrev c34_4 : ACode := .seq c34_3 .ret
abbrev c34_5 : ACode := .cond (.s 5) c34_4 .skip
abbrev c34_6 : ACode := .seq c34_2 c34_5
abbrev c34_7 : ACode := .reg true [⟨.load 1 false (.s 2), none, .p 0 1⟩,
  ⟨.load 1 false (.s 1), none, .p 0 1⟩,
  ⟨.mv (.s 4), none, .p 0 1⟩,
  ⟨.ixs 2 (.r 1) (.r 0), none, .p 0 1⟩,
  ⟨.load 2 true (.r 0), none, .p 0 1⟩,
  ⟨.load 1 false (.s 1), none, .p 0 1⟩,
  ⟨.mv (.s 4), none, .p 0 1⟩,
  ⟨.bin .add (.r 0) (.c (.int .i64 (1))), none, .p 0 1⟩,
  ⟨.load 1 false (.s 0), none, .p 0 0⟩,
  ⟨.load 1 false (.s 1), none, .p 0 0⟩,
  ⟨.len false (.r 0), none, .p 0 0⟩,
  ⟨.bin .sub (.r 0) (.c (.int .i64 (1))), none, .p 0 0⟩,
  ⟨.call (.f 18) [(.r 3), (.r 0)], none, .e⟩,
  ⟨.bin .add (.r 5) (.r 0), none, .p 0 0⟩,
  ⟨.load 1 false (.s 1), none, .p 1 0⟩,
  ⟨.len false (.r 0), none, .p 1 0⟩,
  ⟨.bin .rem (.r 2) (.r 0), none, .p 0 0⟩,
  ⟨.ixs 2 (.r 11) (.r 0), none, .p 0 0⟩,
  ⟨.load 2 true (.r 0), none, .p 0 0⟩,
  ⟨.build [(.lit (.int .i64 (0))), (.lit (.int .i64 (0))), (.lit (.int .i64 (0))), (.lit (.int .i64 (0))), (.lit (.int .i64 (0))), (.lit (.int .i64 (0))), (.lit (.int .u64 (0))), (.lit (.int .i64 (0))), (.lit (.int .i64 (0))), (.lit (.int .i64 (0))), (.lit (.int .i64 (0))), (.lit (.int .i64 (0))), (.lit (.int .i64 (0))), (.lit (.int .i64 (0))), (.lit (.int .i64 (0))), (.lit (.int .i64 (0))), (.lit (.int .i64 (0))), (.lit (.string ⟨#[]⟩)), (.lit (.int .i64 (0))), (.lit (.int .i64 (0))), (.lit (.string ⟨#[]⟩)), (.lit (.string ⟨#[]⟩)), (.lit (.int .i64 (0))), (.lit (.int .i64 (0))), (.lit (.int .i64 (0))), (.lit (.string ⟨#[]⟩)), (.lit (.bool false)), (.lit (.int .i64 (0))), (.sl 0 []), (.lit (.string ⟨#[]⟩)), (.lit (.int .i64 (0))), (.lit (.int .i64 (0))), (.lit (.int .i64 (0)))] [(0, 1, (.r 18)), (1, 2, (.r 14)), (3, 2, (.r 0))], none, .b⟩,
  ⟨.store 33 (.s 3) (.r 0), none, .b⟩] []
abbrev c34_8 : ACode := .seq c34_7 .ret
abbrev c34_9 : ACode := .seq c34_6 c34_8
abbrev c34_10 : ACode := .seq c34_1 c34_9
abbrev c34_11 : ACode := .seq c34_0 c34_10
abbrev c34 : ACode := c34_11
theorem k34 : FnOk Try.prog 34 [] [0, 1, 2, 3, 4, 11] c34 [.cell 3 33 true] 3 := .of Try.func34 (by kernel_rfl)
-- reef/setup.Faults$1$4  slots [0, 1, 2] names [, , ]
abbrev c35_0 : ACode := .reg false [⟨.alloc [(.lit (.int .i64 (0))), (.lit (.int .i64 (0))), (.lit (.int .i64 (0))), (.lit (.int .i64 (0))), (.lit (.int .i64 (0))), (.lit (.int .i64 (0))), (.lit (.int .u64 (0))), (.lit (.int .i64 (0))), (.lit (.int .i64 (0))), (.lit (.int .i64 (0))), (.lit (.int .i64 (0))), (.lit (.int .i64 (0))), (.lit (.int .i64 (0))), (.lit (.int .i64 (0))), (.lit (.int .i64 (0))), (.lit (.int .i64 (0))), (.lit (.int .i64 (0))), (.lit (.string ⟨#[]⟩)), (.lit (.int .i64 (0))), (.lit (.int .i64 (0))), (.lit (.string ⟨#[]⟩)), (.lit (.string ⟨#[]⟩)), (.lit (.int .i64 (0))), (.lit (.int .i64 (0))), (.lit (.int .i64 (0))), (.lit (.string ⟨#[]⟩)), (.lit (.bool false)), (.lit (.int .i64 (0))), (.sl 0 []), (.lit (.string ⟨#[]⟩)), (.lit (.int .i64 (0))), (.lit (.int .i64 (0))), (.lit (.int .i64 (0)))], none, .b⟩] [(2, 0)]
abbrev c35_1 : ACode := .reg true [⟨.load 1 false (.s 0), none, .p 0 1⟩,
  ⟨.load 1 false (.s 1), none, .p 0 0⟩,
  ⟨.load 1 false (.s 0), none, .p 0 0⟩,
  ⟨.len false (.r 0), none, .p 0 0⟩,
  ⟨.call (.f 18) [(.r 2), (.r 0)], none, .e⟩,
  ⟨.ixs 2 (.r 4) (.r 0), none, .b⟩,
  ⟨.load 2 true (.r 0), none, .b⟩,
  ⟨.build [(.lit (.int .i64 (0))), (.lit (.int .i64 (0))), (.lit (.int .i64 (0))), (.lit (.int .i64 (0))), (.lit (.int .i64 (0))), (.lit (.int .i64 (0))), (.lit (.int .u64 (0))), (.lit (.int .i64 (0))), (.lit (.int .i64 (0))), (.lit (.int .i64 (0))), (.lit (.int .i64 (0))), (.lit (.int .i64 (0))), (.lit (.int .i64 (0))), (.lit (.int .i64 (0))), (.lit (.int .i64 (0))), (.lit (.int .i64 (0))), (.lit (.int .i64 (0))), (.lit (.string ⟨#[]⟩)), (.lit (.int .i64 (0))), (.lit (.int .i64 (0))), (.lit (.string ⟨#[]⟩)), (.lit (.string ⟨#[]⟩)), (.lit (.int .i64 (0))), (.lit (.int .i64 (0))), (.lit (.int .i64 (0))), (.lit (.string ⟨#[]⟩)), (.lit (.bool false)), (.lit (.int .i64 (0))), (.sl 0 []), (.lit (.string ⟨#[]⟩)), (.lit (.int .i64 (0))), (.lit (.int .i64 (0))), (.lit (.int .i64 (0)))] [(0, 1, (.c (.int .i64 (1)))), (1, 2, (.r 0))], none, .b⟩,
  ⟨.store 33 (.s 2) (.r 0), none, .b⟩] []
abbrev c35_2 : ACode := .seq c35_1 .ret
abbrev c35_3 : ACode := .seq c35_0 c35_2
abbrev c35 : ACode := c35_3
theorem k35 : FnOk Try.prog 35 [] [0, 1, 2] c35 [.cell 2 33 true] 2 := .of Try.func35 (by kernel_rfl)
-- reef/setup.Faults$1$5  slots [0, 1, 2, 3] names [, , , s]
abbrev c36_0 : ACode := .reg false [⟨.alloc [(.lit (.int .i64 (0))), (.lit (.int .i64 (0))), (.lit (.int .i64 (0))), (.lit (.int .i64 (0))), (.lit (.int .i64 (0))), (.lit (.int .i64 (0))), (.lit (.int .u64 (0))), (.lit (.int .i64 (0))), (.lit (.int .i64 (0))), (.lit (.int .i64 (0))), (.lit (.int .i64 (0))), (.lit (.int .i64 (0))), (.lit (.int .i64 (0))), (.lit (.int .i64 (0))), (.lit (.int .i64 (0))), (.lit (.int .i64 (0))), (.lit (.int .i64 (0))), (.lit (.string ⟨#[]⟩)), (.lit (.int .i64 (0))), (.lit (.int .i64 (0))), (.lit (.string ⟨#[]⟩)), (.lit (.string ⟨#[]⟩)), (.lit (.int .i64 (0))), (.lit (.int .i64 (0))), (.lit (.int .i64 (0))), (.lit (.string ⟨#[]⟩)), (.lit (.bool false)), (.lit (.int .i64 (0))), (.sl 0 []), (.lit (.string ⟨#[]⟩)), (.lit (.int .i64 (0))), (.lit (.int .i64 (0))), (.lit (.int .i64 (0)))], none, .b⟩] [(2, 0)]
abbrev c36_1 : ACode := .reg false [⟨.load 1 false (.s 0), none, .b⟩,
  ⟨.call (.r 0) [(.c (.int .i64 (9)))], none, .b⟩,
  ⟨.call (.r 0) [], none, .b⟩,
  ⟨.alloc [(.lit (.int .i64 (0))), (.lit (.int .i64 (0))), (.lit (.int .i64 (0))), (.lit (.int .i64 (0))), (.lit (.int .i64 (0))), (.lit (.int .i64 (0))), (.lit (.int .u64 (0))), (.lit (.int .i64 (0))), (.lit (.int .i64 (0))), (.lit (.int .i64 (0))), (.lit (.int .i64 (0))), (.lit (.int .i64 (0))), (.lit (.int .i64 (0))), (.lit (.int .i64 (0))), (.lit (.int .i64 (0))), (.lit (.int .i64 (0))), (.lit (.int .i64 (0))), (.lit (.string ⟨#[]⟩)), (.lit (.int .i64 (0))), (.lit (.int .i64 (0))), (.lit (.string ⟨#[]⟩)), (.lit (.string ⟨#[]⟩)), (.lit (.int .i64 (0))), (.lit (.int .i64 (0))), (.lit (.int .i64 (0))), (.lit (.string ⟨#[]⟩)), (.lit (.bool false)), (.lit (.int .i64 (0))), (.sl 0 []), (.lit (.string ⟨#[]⟩)), (.lit (.int .i64 (0))), (.lit (.int .i64 (0))), (.lit (.int .i64 (0)))], none, .b⟩,
  ⟨.store 33 (.r 0) (.r 1), none, .b⟩] [(3, 1)]
abbrev c36_2 : ACode := .reg false [⟨.load 1 false (.s 1), none, .b⟩,
  ⟨.call (.f 18) [(.r 0), (.c (.int .i64 (12)))], none, .b⟩,
  ⟨.fa 5 (.s 3), none, .b⟩,
  ⟨.store 1 (.r 0) (.r 1), none, .b⟩] []
abbrev c36_3 : ACode := .reg false [⟨.load 1 false (.s 1), none, .b⟩,
  ⟨.call (.f 37) [(.r 0)], none, .b⟩,
  ⟨.fa 6 (.s 3), none, .b⟩,
  ⟨.store 1 (.r 0) (.r 1), none, .b⟩] []
abbrev c36_4 : ACode := .reg false [⟨.load 33 true (.s 3), none, .b⟩,
  ⟨.store 33 (.s 2) (.r 0), none, .b⟩] []
abbrev c36_5 : ACode := .seq c36_4 .ret
abbrev c36_6 : ACode := .seq c36_3 c36_5
abbrev c36_7 : ACode := .seq c36_2 c36_6
abbrev c36_8 : ACode := .seq c36_1 c36_7
abbrev c36_9 : ACode := .seq c36_0 c36_8
abbrev c36 : ACode := c36_9
theorem k36 : FnOk Try.prog 36 [] [0, 1, 2, 3] c36 [.cell 2 33 true] 2 := .of Try.func36 (by kernel_rfl)
-- (*reef/setup.dice).number  slots [0, 2] names [d, ]
abbrev c37_0 : ACode := .reg false [⟨.mv (.c (.int .u64 (0))), none, .b⟩] [(1, 0)]
abbrev c37_1 : ACode := .reg false [⟨.mv (.s 0), none, .b⟩,
  ⟨.nil (.r 0), none, .b⟩,
  ⟨.fa 0 (.r 0), none, .b⟩,
  ⟨.load 1 false (.r 0), none, .b⟩,
  ⟨.call (.r 0) [], none, .b⟩,
  ⟨.mv (.r 0), none, .b⟩] [(1, 0)]
abbrev c37_2 : ACode := .seq c37_1 .ret
abbrev c37_3 : ACode := .seq c37_0 c37_2
abbrev c37 : ACode := c37_3
theorem k37 : FnOk Try.prog 37 [] [0, 2] c37 [.t 1] 1 := .of Try.func37 (by kernel_rfl)
-- (*reef/setup.dice).step  slots [0, 1, 4, 5, 7, 8, 10, 11, 12, 13, 14, 25, 26, 27, 28, 36] names [d, l, , all, x, k, x, , , , , , , , , ]
abbrev c38_0 : ACode := .reg false [⟨.alloc [(.lit (.int .i64 (0))), (.lit (.int .i64 (0))), (.lit (.int .i64 (0))), (.lit (.int .i64 (0))), (.lit (.int .i64 (0))), (.lit (.int .i64 (0))), (.lit (.int .u64 (0))), (.lit (.int .i64 (0))), (.lit (.int .i64 (0))), (.lit (.int .i64 (0))), (.lit (.int .i64 (0))), (.lit (.int .i64 (0))), (.lit (.int .i64 (0))), (.lit (.int .i64 (0))), (.lit (.int .i64 (0))), (.lit (.int .i64 (0))), (.lit (.int .i64 (0))), (.lit (.string ⟨#[]⟩)), (.lit (.int .i64 (0))), (.lit (.int .i64 (0))), (.lit (.string ⟨#[]⟩)), (.lit (.string ⟨#[]⟩)), (.lit (.int .i64 (0))), (.lit (.int .i64 (0))), (.lit (.int .i64 (0))), (.lit (.string ⟨#[]⟩)), (.lit (.bool false)), (.lit (.int .i64 (0))), (.sl 0 []), (.lit (.string ⟨#[]⟩)), (.lit (.int .i64 (0))), (.lit (.int .i64 (0))), (.lit (.int .i64 (0)))], none, .b⟩] [(2, 0)]
abbrev c38_1 : ACode := .reg false [⟨.mv (.c (.int .i64 (0))), none, .b⟩] [(3, 0)]
abbrev c38_2 : ACode := .reg false [⟨.mv (.s 1), none, .b⟩,
  ⟨.len false (.r 0), none, .b⟩,
  ⟨.mv (.c (.int .i64 (0))), none, .b⟩] [(7, 2), (8, 1), (9, 0)]
abbrev c38_3 : ACode := .reg false [⟨.bin .lss (.s 9) (.s 8), none, .b⟩] [(10, 0)]
abbrev c38_4 : ACode := .cond (.s 10) .skip (.exit 0)
abbrev c38_5 : ACode := .reg false [⟨.ixs 2 (.s 7) (.s 9), none, .b⟩,
  ⟨.load 2 true (.r 0), none, .b⟩,
  ⟨.alloc [(.lit (.int .i64 (0))), (.lit .nilFunc)], none, .b⟩,
  ⟨.store 2 (.r 0) (.r 1), none, .b⟩] [(4, 1)]
abbrev c38_6 : ACode := .reg false [⟨.mv (.s 3), none, .b⟩,
  ⟨.fa 0 (.s 4), none, .b⟩,
  ⟨.load 1 false (.r 0), none, .b⟩,
  ⟨.bin .add (.r 2) (.r 0), none, .b⟩,
  ⟨.mv (.r 0), none, .b⟩] [(3, 0)]
abbrev c38_7 : ACode := .seq c38_5 c38_6
abbrev c38_8 : ACode := .block 1 c38_7
abbrev c38_9 : ACode := .reg false [⟨.bin .add (.s 9) (.c (.int .i64 (1))), none, .b⟩,
  ⟨.mv (.r 0), none, .b⟩] [(9, 0)]
abbrev c38_10 : ACode := .seq c38_8 c38_9
abbrev c38_11 : ACode := .seq c38_4 c38_10
abbrev c38_12 : ACode := .seq c38_3 c38_11
abbrev c38_13 : ACode := .loop c38_12
abbrev c38_14 : ACode := .block 0 c38_13
abbrev c38_15 : ACode := .seq c38_2 c38_14
abbrev c38_16 : ACode := .reg false [⟨.mv (.s 0), none, .b⟩,
  ⟨.mv (.s 3), none, .b⟩,
  ⟨.call (.f 18) [(.r 1), (.r 0)], none, .b⟩,
  ⟨.mv (.r 0), none, .b⟩] [(5, 0)]
abbrev c38_17 : ACode := .reg false [⟨.mv (.s 1), none, .b⟩,
  ⟨.len false (.r 0), none, .b⟩,
  ⟨.mv (.c (.int .i64 (0))), none, .b⟩] [(11, 2), (12, 1), (13, 0)]
abbrev c38_18 : ACode := .reg false [⟨.bin .lss (.s 13) (.s 12), none, .b⟩] [(14, 0)]
abbrev c38_19 : ACode := .cond (.s 14) .skip (.exit 2)
abbrev c38_20 : ACode := .reg false [⟨.ixs 2 (.s 11) (.s 13), none, .b⟩,
  ⟨.load 2 true (.r 0), none, .b⟩,
  ⟨.alloc [(.lit (.int .i64 (0))), (.lit .nilFunc)], none, .b⟩,
  ⟨.store 2 (.r 0) (.r 1), none, .b⟩] [(6, 1)]
abbrev c38_21 : ACode := .reg false [⟨.mv (.s 5), none, .b⟩,
  ⟨.fa 0 (.s 6), none, .b⟩,
  ⟨.load 1 false (.r 0), none, .b⟩,
  ⟨.bin .sub (.r 2) (.r 0), none, .b⟩,
  ⟨.mv (.r 0), none, .b⟩] [(5, 0)]
abbrev c38_22 : ACode := .reg false [⟨.mv (.s 5), none, .b⟩,
  ⟨.bin .lss (.r 0) (.c (.int .i64 (0))), none, .b⟩] [(15, 0)]
abbrev c38_23 : ACode := .reg false [⟨.fa 1 (.s 6), none, .b⟩,
  ⟨.load 1 false (.r 0), none, .b⟩,
  ⟨.call (.r 0) [], none, .b⟩,
  ⟨.store 33 (.s 2) (.r 0), none, .b⟩] []
abbrev c38_24 : ACode := .seq c38_23 .ret
abbrev c38_25 : ACode := .cond (.s 15) c38_24 .skip
abbrev c38_26 : ACode := .seq c38_22 c38_25
abbrev c38_27 : ACode := .seq c38_21 c38_26
abbrev c38_28 : ACode := .seq c38_20 c38_27
abbrev c38_29 : ACode := .block 3 c38_28
abbrev c38_30 : ACode := .reg false [⟨.bin .add (.s 13) (.c (.int .i64 (1))), none, .b⟩,
  ⟨.mv (.r 0), none, .b⟩] [(13, 0)]
abbrev c38_31 : ACode := .seq c38_29 c38_30
abbrev c38_32 : ACode := .seq c38_19 c38_31
abbrev c38_33 : ACode := .seq c38_18 c38_32
abbrev c38_34 : ACode := .loop c38_33
abbrev c38_35 : ACode := .block 2 c38_34
abbrev c38_36 : ACode := .seq c38_17 c38_35
abbrev c38_37 : ACode := .reg false [⟨.build [(.lit (.int .i64 (0))), (.lit (.int .i64 (0))), (.lit (.int .i64 (0))), (.lit (.int .i64 (0))), (.lit (.int .i64 (0))), (.lit (.int .i64 (0))), (.lit (.int .u64 (0))), (.lit (.int .i64 (0))), (.lit (.int .i64 (0))), (.lit (.int .i64 (0))), (.lit (.int .i64 (0))), (.lit (.int .i64 (0))), (.lit (.int .i64 (0))), (.lit (.int .i64 (0))), (.lit (.int .i64 (0))), (.lit (.int .i64 (0))), (.lit (.int .i64 (0))), (.lit (.string ⟨#[]⟩)), (.lit (.int .i64 (0))), (.lit (.int .i64 (0))), (.lit (.string ⟨#[]⟩)), (.lit (.string ⟨#[]⟩)), (.lit (.int .i64 (0))), (.lit (.int .i64 (0))), (.lit (.int .i64 (0))), (.lit (.string ⟨#[]⟩)), (.lit (.bool false)), (.lit (.int .i64 (0))), (.sl 0 []), (.lit (.string ⟨#[]⟩)), (.lit (.int .i64 (0))), (.lit (.int .i64 (0))), (.lit (.int .i64 (0)))] [], none, .b⟩,
  ⟨.store 33 (.s 2) (.r 0), none, .b⟩] []
abbrev c38_38 : ACode := .seq c38_37 .ret
abbrev c38_39 : ACode := .seq c38_36 c38_38
abbrev c38_40 : ACode := .seq c38_16 c38_39
abbrev c38_41 : ACode := .seq c38_15 c38_40
abbrev c38_42 : ACode := .seq c38_1 c38_41
abbrev c38_43 : ACode := .seq c38_0 c38_42
abbrev c38 : ACode := c38_43
theorem k38 : FnOk Try.prog 38 [] [0, 1, 4, 5, 7, 8, 10, 11, 12, 13, 14, 25, 26, 27, 28, 36] c38 [.cell 2 33 true] 2 := .of Try.func38 (by kernel_rfl)
-- reef/setup.Disk$1  slots [0, 1, 2, 3, 5] names [client, j, , , j]
abbrev c39_0 : ACode := .reg false [⟨.box 11 (.s 1), none, .b⟩] [(4, 0)]
abbrev c39_1 : ACode := .reg false [⟨.load 1 false (.s 2), none, .b⟩,
  ⟨.mv (.s 0), none, .b⟩,
  ⟨.build [(.lit (.int .i64 (0))), (.lit (.int .i64 (0)))] [(0, 1, (.c (.int .i64 (3)))), (1, 1, (.r 0))], none, .b⟩,
  ⟨.load 1 false (.s 3), none, .b⟩,
  ⟨.load 11 true (.s 4), none, .b⟩,
  ⟨.build [(.lit (.int .i64 (0))), (.lit (.int .i64 (0))), (.lit (.int .i64 (0))), (.lit (.int .i64 (0))), (.lit (.int .i64 (0))), (.lit (.int .i64 (0))), (.lit (.int .u64 (0))), (.lit (.int .i64 (0))), (.lit (.int .i64 (0))), (.lit (.int .i64 (0))), (.lit (.int .i64 (0))), (.lit (.int .i64 (0))), (.lit (.int .i64 (0))), (.lit (.int .i64 (0))), (.lit (.int .i64 (0))), (.lit (.int .i64 (0))), (.lit (.int .i64 (0))), (.lit (.string ⟨#[]⟩)), (.lit (.int .i64 (0))), (.lit (.int .i64 (0))), (.lit (.string ⟨#[]⟩)), (.lit (.string ⟨#[]⟩)), (.lit (.int .i64 (0))), (.lit (.int .i64 (0))), (.lit (.int .i64 (0))), (.lit (.string ⟨#[]⟩)), (.lit (.bool false)), (.lit (.int .i64 (0))), (.sl 0 []), (.lit (.string ⟨#[]⟩)), (.lit (.int .i64 (0))), (.lit (.int .i64 (0))), (.lit (.int .i64 (0)))] [(0, 1, (.c (.int .i64 (12)))), (1, 2, (.r 2)), (21, 1, (.r 1)), (22, 11, (.r 0))], none, .b⟩,
  ⟨.build [(.lit (.int .i64 (0))), (.lit (.int .i64 (0))), (.lit (.int .i64 (0))), (.lit (.int .i64 (0))), (.lit (.int .i64 (0))), (.lit (.int .i64 (0))), (.lit (.int .u64 (0))), (.lit (.int .i64 (0))), (.lit (.int .i64 (0))), (.lit (.int .i64 (0))), (.lit (.int .i64 (0))), (.lit (.int .i64 (0))), (.lit (.int .i64 (0))), (.lit (.int .i64 (0))), (.lit (.int .i64 (0))), (.lit (.int .i64 (0))), (.lit (.int .i64 (0))), (.lit (.string ⟨#[]⟩)), (.lit (.int .i64 (0))), (.lit (.int .i64 (0))), (.lit (.string ⟨#[]⟩)), (.lit (.string ⟨#[]⟩)), (.lit (.int .i64 (0))), (.lit (.int .i64 (0))), (.lit (.int .i64 (0))), (.lit (.string ⟨#[]⟩)), (.lit (.bool false)), (.lit (.int .i64 (0))), (.sl 0 []), (.lit (.string ⟨#[]⟩)), (.lit (.int .i64 (0))), (.lit (.int .i64 (0))), (.lit (.int .i64 (0)))] [(0, 1, (.c (.int .i64 (13))))], none, .b⟩,
  ⟨.bsl false [(.lit (.int .i64 (0))), (.lit (.int .i64 (0))), (.lit (.int .i64 (0))), (.lit (.int .i64 (0))), (.lit (.int .i64 (0))), (.lit (.int .i64 (0))), (.lit (.int .u64 (0))), (.lit (.int .i64 (0))), (.lit (.int .i64 (0))), (.lit (.int .i64 (0))), (.lit (.int .i64 (0))), (.lit (.int .i64 (0))), (.lit (.int .i64 (0))), (.lit (.int .i64 (0))), (.lit (.int .i64 (0))), (.lit (.int .i64 (0))), (.lit (.int .i64 (0))), (.lit (.string ⟨#[]⟩)), (.lit (.int .i64 (0))), (.lit (.int .i64 (0))), (.lit (.string ⟨#[]⟩)), (.lit (.string ⟨#[]⟩)), (.lit (.int .i64 (0))), (.lit (.int .i64 (0))), (.lit (.int .i64 (0))), (.lit (.string ⟨#[]⟩)), (.lit (.bool false)), (.lit (.int .i64 (0))), (.sl 0 []), (.lit (.string ⟨#[]⟩)), (.lit (.int .i64 (0))), (.lit (.int .i64 (0))), (.lit (.int .i64 (0)))] 2 [(0, (.r 1)), (1, (.r 0))], none, .b⟩,
  ⟨.app 33 320 (.r 7) (.r 0), none, .b⟩,
  ⟨.store 1 (.s 2) (.r 0), none, .b⟩] []
abbrev c39_2 : ACode := .seq c39_0 c39_1
abbrev c39 : ACode := c39_2
theorem k39 : FnOk Try.prog 39 [] [0, 1, 2, 3, 5] c39 [] 4 := .of Try.func39 (by kernel_rfl)
-- f40 reef/setup.Disk$2: NOT COVERED [region 10 uniq true draw true,   op 2 dst (some 31)]
-- f41 strings.Repeat: NOT COVERED [region 7 uniq true draw true,   op 0 dst (some 19),   op 1 dst none, region 10 uniq true draw true,   op 0 dst (some 35),   op 1 dst none]
-- f42 reef/cluster.same: NOT COVERED [region 1 uniq true draw true]
-- reef/setup.with$1  slots [0, 1] names [, ]
abbrev c43_0 : ACode := .reg false [⟨.mv (.c (.int .u64 (0))), none, .b⟩] [(1, 0)]
abbrev c43_1 : ACode := .reg false [⟨.load 1 false (.s 0), none, .b⟩,
  ⟨.bin .mul (.r 0) (.c (.int .u64 (6364136223846793005))), none, .b⟩,
  ⟨.bin .add (.r 0) (.c (.int .u64 (1442695040888963407))), none, .b⟩,
  ⟨.store 1 (.s 0) (.r 0), none, .b⟩] []
abbrev c43_2 : ACode := .reg false [⟨.load 1 false (.s 0), none, .b⟩,
  ⟨.bin .shr (.r 0) (.c (.int .u64 (33))), none, .b⟩,
  ⟨.mv (.r 0), none, .b⟩] [(1, 0)]
abbrev c43_3 : ACode := .seq c43_2 .ret
abbrev c43_4 : ACode := .seq c43_1 c43_3
abbrev c43_5 : ACode := .seq c43_0 c43_4
abbrev c43 : ACode := c43_5
theorem k43 : FnOk Try.prog 43 [] [0, 1] c43 [.t 1] 1 := .of Try.func43 (by kernel_rfl)
-- (*reef/reefref33.dice).next  slots [0, 2] names [d, ]
abbrev c44_0 : ACode := .reg false [⟨.mv (.c (.int .u64 (0))), none, .b⟩] [(1, 0)]
abbrev c44_1 : ACode := .reg false [⟨.mv (.s 0), none, .b⟩,
  ⟨.mv (.s 0), none, .b⟩,
  ⟨.nil (.r 0), none, .b⟩,
  ⟨.fa 0 (.r 0), none, .b⟩,
  ⟨.load 1 false (.r 0), none, .b⟩,
  ⟨.bin .mul (.r 0) (.c (.int .u64 (6364136223846793005))), none, .b⟩,
  ⟨.bin .add (.r 0) (.c (.int .u64 (1442695040888963407))), none, .b⟩,
  ⟨.nil (.r 6), none, .b⟩,
  ⟨.fa 0 (.r 0), none, .b⟩,
  ⟨.store 1 (.r 0) (.r 2), none, .b⟩] []
abbrev c44_2 : ACode := .reg false [⟨.mv (.s 0), none, .b⟩,
  ⟨.nil (.r 0), none, .b⟩,
  ⟨.fa 0 (.r 0), none, .b⟩,
  ⟨.load 1 false (.r 0), none, .b⟩,
  ⟨.bin .shr (.r 0) (.c (.int .u64 (33))), none, .b⟩,
  ⟨.mv (.r 0), none, .b⟩] [(1, 0)]
abbrev c44_3 : ACode := .seq c44_2 .ret
abbrev c44_4 : ACode := .seq c44_1 c44_3
abbrev c44_5 : ACode := .seq c44_0 c44_4
abbrev c44 : ACode := c44_5
theorem k44 : FnOk Try.prog 44 [] [0, 2] c44 [.t 1] 1 := .of Try.func44 (by kernel_rfl)
-- reef/setup.numbers  slots [0, 1, 2] names [seed, seed, ]
abbrev c45_0 : ACode := .reg false [⟨.box 1 (.s 0), none, .b⟩,
  ⟨.mv (.c .nilFunc), none, .b⟩] [(1, 1), (2, 0)]
abbrev c45_1 : ACode := .reg false [⟨.mkf 55 [(.s 1)], none, .b⟩,
  ⟨.mv (.r 0), none, .b⟩] [(2, 0)]
abbrev c45_2 : ACode := .seq c45_1 .ret
abbrev c45_3 : ACode := .seq c45_0 c45_2
abbrev c45 : ACode := c45_3
theorem k45 : FnOk Try.prog 45 [] [0, 1, 2] c45 [.t 2] 1 := .of Try.func45 (by kernel_rfl)
-- reef/maps.First  slots [0, 2, 3, 6, 12, 13, 14] names [hosts, , m, , , , ]
abbrev c46_0 : ACode := .reg false [⟨.alloc [(.lit (.int .i64 (0))), (.sl 0 []), (.sl 0 []), (.sl 0 []), (.sl 0 [])], none, .b⟩] [(1, 0)]
abbrev c46_1 : ACode := .reg false [⟨.mv (.s 0), none, .b⟩,
  ⟨.call (.f 56) [(.r 0)], none, .b⟩,
  ⟨.un .not (.r 0), none, .b⟩] [(3, 0)]
abbrev c46_2 : ACode := .reg false [⟨.build [(.lit (.int .i64 (0))), (.sl 0 []), (.sl 0 []), (.sl 0 []), (.sl 0 [])] [], none, .b⟩,
  ⟨.store 5 (.s 1) (.r 0), none, .b⟩] []
abbrev c46_3 : ACode := .seq c46_2 .ret
abbrev c46_4 : ACode := .cond (.s 3) c46_3 .skip
abbrev c46_5 : ACode := .seq c46_1 c46_4
abbrev c46_6 : ACode := .reg false [⟨.mv (.s 0), none, .b⟩,
  ⟨.call (.f 57) [(.r 0)], none, .b⟩,
  ⟨.build [(.lit (.int .i64 (0))), (.sl 0 []), (.sl 0 []), (.sl 0 []), (.sl 0 [])] [(1, 1, (.r 0))], none, .b⟩,
  ⟨.alloc [(.lit (.int .i64 (0))), (.sl 0 []), (.sl 0 []), (.sl 0 []), (.sl 0 [])], none, .b⟩,
  ⟨.store 5 (.r 0) (.r 1), none, .b⟩] [(2, 1)]
abbrev c46_7 : ACode := .reg false [⟨.mv (.s 0), none, .b⟩,
  ⟨.len false (.r 0), none, .b⟩,
  ⟨.mv (.c (.int .i64 (0))), none, .b⟩] [(4, 1), (5, 0)]
abbrev c46_8 : ACode := .reg false [⟨.bin .lss (.s 5) (.s 4), none, .b⟩] [(6, 0)]
abbrev c46_9 : ACode := .cond (.s 6) .skip (.exit 0)
abbrev c46_10 : ACode := .reg false [⟨.fa 2 (.s 2), none, .b⟩,
  ⟨.load 1 false (.r 0), none, .b⟩,
  ⟨.build [(.lit (.int .i64 (0))), (.lit (.bool false)), (.lit (.int .i64 (0))), (.lit (.int .i64 (0)))] [(2, 1, (.c (.int .i64 (65536))))], none, .b⟩,
  ⟨.bsl false [(.lit (.int .i64 (0))), (.lit (.bool false)), (.lit (.int .i64 (0))), (.lit (.int .i64 (0)))] 1 [(0, (.r 0))], none, .b⟩,
  ⟨.app 4 32 (.r 2) (.r 0), none, .b⟩,
  ⟨.fa 2 (.s 2), none, .b⟩,
  ⟨.store 1 (.r 0) (.r 1), none, .b⟩] []
abbrev c46_11 : ACode := .block 1 c46_10
abbrev c46_12 : ACode := .reg false [⟨.bin .add (.s 5) (.c (.int .i64 (1))), none, .b⟩,
  ⟨.mv (.r 0), none, .b⟩] [(5, 0)]
abbrev c46_13 : ACode := .seq c46_11 c46_12
abbrev c46_14 : ACode := .seq c46_9 c46_13
abbrev c46_15 : ACode := .seq c46_8 c46_14
abbrev c46_16 : ACode := .loop c46_15
abbrev c46_17 : ACode := .block 0 c46_16
abbrev c46_18 : ACode := .seq c46_7 c46_17
abbrev c46_19 : ACode := .reg false [⟨.load 5 true (.s 2), none, .b⟩,
  ⟨.store 5 (.s 1) (.r 0), none, .b⟩] []
abbrev c46_20 : ACode := .seq c46_19 .ret
abbrev c46_21 : ACode := .seq c46_18 c46_20
abbrev c46_22 : ACode := .seq c46_6 c46_21
abbrev c46_23 : ACode := .seq c46_5 c46_22
abbrev c46_24 : ACode := .seq c46_0 c46_23
abbrev c46 : ACode := c46_24
theorem k46 : FnOk Try.prog 46 [] [0, 2, 3, 6, 12, 13, 14] c46 [.cell 1 5 true] 1 := .of Try.func46 (by kernel_rfl)
-- reef/setup.nodes$1  slots [0, 1, 2, 5, 6, 7, 8] names [kind, n, , id, , , ]
abbrev c47_0 : ACode := .reg false [⟨.mv (.s 1), none, .b⟩,
  ⟨.mv (.c (.int .i64 (0))), none, .b⟩] [(4, 1), (5, 0)]
abbrev c47_1 : ACode := .reg false [⟨.bin .lss (.s 5) (.s 4), none, .b⟩] [(6, 0)]
abbrev c47_2 : ACode := .cond (.s 6) .skip (.exit 0)
abbrev c47_3 : ACode := .reg false [⟨.mv (.s 5), none, .b⟩,
  ⟨.mv (.r 0), none, .b⟩] [(3, 0)]
abbrev c47_4 : ACode := .reg false [⟨.load 1 false (.s 2), none, .b⟩,
  ⟨.mv (.s 0), none, .b⟩,
  ⟨.mv (.s 3), none, .b⟩,
  ⟨.build [(.lit (.int .i64 (0))), (.lit (.int .i64 (0)))] [(0, 1, (.r 1)), (1, 1, (.r 0))], none, .b⟩,
  ⟨.bsl false [(.lit (.int .i64 (0))), (.lit (.int .i64 (0)))] 1 [(0, (.r 0))], none, .b⟩,
  ⟨.app 2 16 (.r 4) (.r 0), none, .b⟩,
  ⟨.store 1 (.s 2) (.r 0), none, .b⟩] []
abbrev c47_5 : ACode := .seq c47_3 c47_4
abbrev c47_6 : ACode := .block 1 c47_5
abbrev c47_7 : ACode := .reg false [⟨.bin .add (.s 5) (.c (.int .i64 (1))), none, .b⟩,
  ⟨.mv (.r 0), none, .b⟩] [(5, 0)]
abbrev c47_8 : ACode := .seq c47_6 c47_7
abbrev c47_9 : ACode := .seq c47_2 c47_8
abbrev c47_10 : ACode := .seq c47_1 c47_9
abbrev c47_11 : ACode := .loop c47_10
abbrev c47_12 : ACode := .block 0 c47_11
abbrev c47_13 : ACode := .seq c47_0 c47_12
abbrev c47 : ACode := c47_13
theorem k47 : FnOk Try.prog 47 [] [0, 1, 2, 5, 6, 7, 8] c47 [] 3 := .of Try.func47 (by kernel_rfl)
-- f48 math/bits.Mul: NOT COVERED []
-- strings.HasPrefix  slots [0, 1, 4] names [s, prefix, ]
abbrev c49_0 : ACode := .reg false [⟨.mv (.c (.bool false)), none, .b⟩] [(2, 0)]
abbrev c49_1 : ACode := .reg false [⟨.mv (.s 0), none, .b⟩,
  ⟨.mv (.s 1), none, .b⟩,
  ⟨.call (.f 60) [(.r 1), (.r 0)], none, .b⟩,
  ⟨.mv (.r 0), none, .b⟩] [(2, 0)]
abbrev c49_2 : ACode := .seq c49_1 .ret
abbrev c49_3 : ACode := .seq c49_0 c49_2
abbrev c49 : ACode := c49_3
theorem k49 : FnOk Try.prog 49 [] [0, 1, 4] c49 [.t 2] 2 := .of Try.func49 (by kernel_rfl)
-- f50 (*strings.Builder).Grow: NOT COVERED [region 2 uniq true draw true,   op 0 dst (some 8),   op 1 dst none, region 3 uniq true draw true,   op 4 dst (some 13)]
-- (*strings.Builder).WriteString  slots [0, 1, 4, 5] names [b, s, , ]
abbrev c51_0 : ACode := .reg false [⟨.mv (.c (.int .i64 (0))), none, .b⟩,
  ⟨.mv (.c .nilIface), none, .b⟩] [(2, 1), (3, 0)]
abbrev c51_1 : ACode := .reg false [⟨.mv (.s 0), none, .b⟩,
  ⟨.call (.f 61) [(.r 0)], none, .b⟩] []
abbrev c51_2 : ACode := .reg false [⟨.mv (.s 0), none, .b⟩,
  ⟨.mv (.s 0), none, .b⟩,
  ⟨.nil (.r 0), none, .b⟩,
  ⟨.fa 1 (.r 0), none, .b⟩,
  ⟨.load 1 false (.r 0), none, .b⟩,
  ⟨.mv (.s 1), none, .b⟩,
  ⟨.app 1 1 (.r 1) (.r 0), none, .b⟩,
  ⟨.nil (.r 6), none, .b⟩,
  ⟨.fa 1 (.r 0), none, .b⟩,
  ⟨.store 1 (.r 0) (.r 2), none, .b⟩] []
abbrev c51_3 : ACode := .reg false [⟨.mv (.s 1), none, .b⟩,
  ⟨.len true (.r 0), none, .b⟩,
  ⟨.mv (.r 0), none, .b⟩,
  ⟨.mv (.c .nilIface), none, .b⟩] [(2, 1), (3, 0)]
abbrev c51_4 : ACode := .seq c51_3 .ret
abbrev c51_5 : ACode := .seq c51_2 c51_4
abbrev c51_6 : ACode := .seq c51_1 c51_5
abbrev c51_7 : ACode := .seq c51_0 c51_6
abbrev c51 : ACode := c51_7
theorem k51 : FnOk Try.prog 51 [] [0, 1, 4, 5] c51 [.t 2, .t 3] 2 := .of Try.func51 (by kernel_rfl)
-- (*strings.Builder).Len  slots [0, 2] names [b, ]
abbrev c52_0 : ACode := .reg false [⟨.mv (.c (.int .i64 (0))), none, .b⟩] [(1, 0)]
abbrev c52_1 : ACode := .reg false [⟨.mv (.s 0), none, .b⟩,
  ⟨.nil (.r 0), none, .b⟩,
  ⟨.fa 1 (.r 0), none, .b⟩,
  ⟨.load 1 false (.r 0), none, .b⟩,
  ⟨.len false (.r 0), none, .b⟩,
  ⟨.mv (.r 0), none, .b⟩] [(1, 0)]
abbrev c52_2 : ACode := .seq c52_1 .ret
abbrev c52_3 : ACode := .seq c52_0 c52_2
abbrev c52 : ACode := c52_3
theorem k52 : FnOk Try.prog 52 [] [0, 2] c52 [.t 1] 1 := .of Try.func52 (by kernel_rfl)
-- f53 (*strings.Builder).String: NOT COVERED [region 1 uniq true draw true,   op 4 dst (some 7),   op 10 dst (some 13)]
-- slices.Equal[[]reef/api.Part,reef/api.Part]  slots [0, 1, 4, 5, 10, 12, 13, 14, 24] names [s1, s2, , i, , , , , ]
abbrev c54_0 : ACode := .reg false [⟨.mv (.c (.bool false)), none, .b⟩] [(2, 0)]
abbrev c54_1 : ACode := .reg false [⟨.mv (.s 0), none, .b⟩,
  ⟨.len false (.r 0), none, .b⟩,
  ⟨.mv (.s 1), none, .b⟩,
  ⟨.len false (.r 0), none, .b⟩,
  ⟨.bin .neq (.r 2) (.r 0), none, .b⟩] [(4, 0)]
abbrev c54_2 : ACode := .reg false [⟨.mv (.c (.bool false)), none, .b⟩] [(2, 0)]
abbrev c54_3 : ACode := .seq c54_2 .ret
abbrev c54_4 : ACode := .cond (.s 4) c54_3 .skip
abbrev c54_5 : ACode := .seq c54_1 c54_4
abbrev c54_6 : ACode := .reg false [⟨.mv (.s 0), none, .b⟩,
  ⟨.len false (.r 0), none, .b⟩,
  ⟨.mv (.c (.int .i64 (0))), none, .b⟩] [(5, 1), (6, 0)]
abbrev c54_7 : ACode := .reg false [⟨.bin .lss (.s 6) (.s 5), none, .b⟩] [(7, 0)]
abbrev c54_8 : ACode := .cond (.s 7) .skip (.exit 0)
abbrev c54_9 : ACode := .reg false [⟨.mv (.s 6), none, .b⟩,
  ⟨.mv (.r 0), none, .b⟩] [(3, 0)]
abbrev c54_10 : ACode := .reg true [⟨.mv (.s 0), none, .p 0 0⟩,
  ⟨.mv (.s 3), none, .p 0 0⟩,
  ⟨.ixs 5 (.r 1) (.r 0), none, .p 0 0⟩,
  ⟨.load 5 true (.r 0), none, .p 0 0⟩,
  ⟨.mv (.s 1), none, .p 0 0⟩,
  ⟨.mv (.s 3), none, .p 0 0⟩,
  ⟨.ixs 5 (.r 1) (.r 0), none, .p 0 0⟩,
  ⟨.load 5 true (.r 0), none, .p 0 0⟩,
  ⟨.eqs true [(.i .i64), (.i .i64), (.i .i64), (.i .i64), (.i .i64)] (.r 4) (.r 0), none, .b⟩] [(8, 0)]
abbrev c54_11 : ACode := .reg false [⟨.mv (.c (.bool false)), none, .b⟩] [(2, 0)]
abbrev c54_12 : ACode := .seq c54_11 .ret
abbrev c54_13 : ACode := .cond (.s 8) c54_12 .skip
abbrev c54_14 : ACode := .seq c54_10 c54_13
abbrev c54_15 : ACode := .seq c54_9 c54_14
abbrev c54_16 : ACode := .block 1 c54_15
abbrev c54_17 : ACode := .reg false [⟨.bin .add (.s 6) (.c (.int .i64 (1))), none, .b⟩,
  ⟨.mv (.r 0), none, .b⟩] [(6, 0)]
abbrev c54_18 : ACode := .seq c54_16 c54_17
abbrev c54_19 : ACode := .seq c54_8 c54_18
abbrev c54_20 : ACode := .seq c54_7 c54_19
abbrev c54_21 : ACode := .loop c54_20
abbrev c54_22 : ACode := .block 0 c54_21
abbrev c54_23 : ACode := .seq c54_6 c54_22
abbrev c54_24 : ACode := .reg false [⟨.mv (.c (.bool true)), none, .b⟩] [(2, 0)]
abbrev c54_25 : ACode := .seq c54_24 .ret
abbrev c54_26 : ACode := .seq c54_23 c54_25
abbrev c54_27 : ACode := .seq c54_5 c54_26
abbrev c54_28 : ACode := .seq c54_0 c54_27
abbrev c54 : ACode := c54_28
theorem k54 : FnOk Try.prog 54 [] [0, 1, 4, 5, 10, 12, 13, 14, 24] c54 [.t 2] 2 := .of Try.func54 (by kernel_rfl)
-- reef/setup.numbers$1  slots [0, 1, 3, 10] names [yield, , x, ]
abbrev c55_0 : ACode := .reg false [⟨.load 1 false (.s 1), none, .b⟩,
  ⟨.bin .mul (.r 0) (.c (.int .u64 (6364136223846793005))), none, .b⟩,
  ⟨.bin .add (.r 0) (.c (.int .u64 (1442695040888963407))), none, .b⟩,
  ⟨.mv (.r 0), none, .b⟩] [(2, 0)]
abbrev c55_1 : ACode := .reg false [⟨.mv (.s 0), none, .b⟩,
  ⟨.mv (.s 2), none, .b⟩,
  ⟨.bin .shr (.r 0) (.c (.int .u64 (33))), none, .b⟩,
  ⟨.call (.r 2) [(.r 0)], none, .b⟩] [(3, 0)]
abbrev c55_2 : ACode := .cond (.s 3) .skip (.exit 0)
abbrev c55_3 : ACode := .seq c55_1 c55_2
abbrev c55_4 : ACode := .block 1 .skip
abbrev c55_5 : ACode := .reg false [⟨.mv (.s 2), none, .b⟩,
  ⟨.bin .mul (.r 0) (.c (.int .u64 (6364136223846793005))), none, .b⟩,
  ⟨.bin .add (.r 0) (.c (.int .u64 (1442695040888963407))), none, .b⟩,
  ⟨.mv (.r 0), none, .b⟩] [(2, 0)]
abbrev c55_6 : ACode := .seq c55_4 c55_5
abbrev c55_7 : ACode := .seq c55_3 c55_6
abbrev c55_8 : ACode := .loop c55_7
abbrev c55_9 : ACode := .block 0 c55_8
abbrev c55_10 : ACode := .seq c55_0 c55_9
abbrev c55 : ACode := c55_10
theorem k55 : FnOk Try.prog 55 [] [0, 1, 3, 10] c55 [] 2 := .of Try.func55 (by kernel_rfl)
-- reef/maps.hosted  slots [0, 2] names [hosts, ]
abbrev c56_0 : ACode := .reg false [⟨.mv (.c (.bool false)), none, .b⟩] [(1, 0)]
abbrev c56_1 : ACode := .reg false [⟨.mv (.s 0), none, .b⟩,
  ⟨.len false (.r 0), none, .b⟩,
  ⟨.bin .geq (.r 0) (.c (.int .i64 (1))), none, .b⟩,
  ⟨.mv (.r 0), none, .b⟩,
  ⟨.mv (.s 0), some (0, true), .b⟩,
  ⟨.len false (.r 0), some (1, true), .b⟩,
  ⟨.bin .leq (.r 0) (.c (.int .i64 (8))), some (2, true), .b⟩,
  ⟨.pick (.r 3) (.r 0) (.c (.bool false)), none, .b⟩,
  ⟨.mv (.r 0), none, .b⟩,
  ⟨.mv (.s 0), some (0, true), .b⟩,
  ⟨.call (.f 63) [(.r 0), (.f 64)], some (1, true), .b⟩,
  ⟨.un .not (.r 0), some (2, true), .b⟩,
  ⟨.pick (.r 3) (.r 0) (.c (.bool false)), none, .b⟩,
  ⟨.mv (.r 0), none, .b⟩] [(1, 0)]
abbrev c56_2 : ACode := .seq c56_1 .ret
abbrev c56_3 : ACode := .seq c56_0 c56_2
abbrev c56 : ACode := c56_3
theorem k56 : FnOk Try.prog 56 [] [0, 2] c56 [.t 1] 1 := .of Try.func56 (by kernel_rfl)
-- slices.Clone[[]int,int]  slots [0, 2, 4] names [s, , ]
abbrev c57_0 : ACode := .reg false [⟨.mv (.c (.slice none 0 0)), none, .b⟩] [(1, 0)]
abbrev c57_1 : ACode := .reg false [⟨.mv (.s 0), none, .b⟩,
  ⟨.sln false (.r 0), none, .b⟩] [(2, 0)]
abbrev c57_2 : ACode := .reg false [⟨.mv (.c (.slice none 0 0)), none, .b⟩] [(1, 0)]
abbrev c57_3 : ACode := .seq c57_2 .ret
abbrev c57_4 : ACode := .cond (.s 2) c57_3 .skip
abbrev c57_5 : ACode := .seq c57_1 c57_4
abbrev c57_6 : ACode := .reg false [⟨.bsl false [(.lit (.int .i64 (0)))] 0 [], none, .b⟩,
  ⟨.mv (.s 0), none, .b⟩,
  ⟨.app 1 8 (.r 1) (.r 0), none, .b⟩,
  ⟨.mv (.r 0), none, .b⟩] [(1, 0)]
abbrev c57_7 : ACode := .seq c57_6 .ret
abbrev c57_8 : ACode := .seq c57_5 c57_7
abbrev c57_9 : ACode := .seq c57_0 c57_8
abbrev c57 : ACode := c57_9
theorem k57 : FnOk Try.prog 57 [] [0, 2, 4] c57 [.t 1] 1 := .of Try.func57 (by kernel_rfl)
-- math/bits.Mul32  slots [0, 1, 4, 5, 6] names [x, y, hi, lo, tmp]
abbrev c58_0 : ACode := .reg false [⟨.mv (.c (.int .u32 (0))), none, .b⟩,
  ⟨.mv (.c (.int .u32 (0))), none, .b⟩] [(2, 1), (3, 0)]
abbrev c58_1 : ACode := .reg false [⟨.mv (.s 0), none, .b⟩,
  ⟨.cvi .u64 (.r 0), none, .b⟩,
  ⟨.mv (.s 1), none, .b⟩,
  ⟨.cvi .u64 (.r 0), none, .b⟩,
  ⟨.bin .mul (.r 2) (.r 0), none, .b⟩,
  ⟨.mv (.r 0), none, .b⟩] [(4, 0)]
abbrev c58_2 : ACode := .reg false [⟨.mv (.s 4), none, .b⟩,
  ⟨.bin .shr (.r 0) (.c (.int .u64 (32))), none, .b⟩,
  ⟨.cvi .u32 (.r 0), none, .b⟩,
  ⟨.mv (.s 4), none, .b⟩,
  ⟨.cvi .u32 (.r 0), none, .b⟩,
  ⟨.mv (.r 2), none, .b⟩,
  ⟨.mv (.r 1), none, .b⟩] [(2, 1), (3, 0)]
abbrev c58_3 : ACode := .seq c58_2 .ret
abbrev c58_4 : ACode := .seq c58_1 c58_3
abbrev c58_5 : ACode := .seq c58_0 c58_4
abbrev c58 : ACode := c58_5
theorem k58 : FnOk Try.prog 58 [] [0, 1, 4, 5, 6] c58 [.t 2, .t 3] 2 := .of Try.func58 (by kernel_rfl)
-- math/bits.Mul64  slots [0, 1, 4, 5, 6, 7, 8, 9, 10, 11, 12, 13] names [x, y, hi, lo, x0, x1, y0, y1, w0, t, w1, w2]
abbrev c59_0 : ACode := .reg false [⟨.mv (.c (.int .u64 (0))), none, .b⟩,
  ⟨.mv (.c (.int .u64 (0))), none, .b⟩] [(2, 1), (3, 0)]
abbrev c59_1 : ACode := .reg false [⟨.mv (.s 0), none, .b⟩,
  ⟨.bin .and (.r 0) (.c (.int .u64 (4294967295))), none, .b⟩,
  ⟨.mv (.r 0), none, .b⟩] [(4, 0)]
abbrev c59_2 : ACode := .reg false [⟨.mv (.s 0), none, .b⟩,
  ⟨.bin .shr (.r 0) (.c (.int .u64 (32))), none, .b⟩,
  ⟨.mv (.r 0), none, .b⟩] [(5, 0)]
abbrev c59_3 : ACode := .reg false [⟨.mv (.s 1), none, .b⟩,
  ⟨.bin .and (.r 0) (.c (.int .u64 (4294967295))), none, .b⟩,
  ⟨.mv (.r 0), none, .b⟩] [(6, 0)]
abbrev c59_4 : ACode := .reg false [⟨.mv (.s 1), none, .b⟩,
  ⟨.bin .shr (.r 0) (.c (.int .u64 (32))), none, .b⟩,
  ⟨.mv (.r 0), none, .b⟩] [(7, 0)]
abbrev c59_5 : ACode := .reg false [⟨.mv (.s 4), none, .b⟩,
  ⟨.mv (.s 6), none, .b⟩,
  ⟨.bin .mul (.r 1) (.r 0), none, .b⟩,
  ⟨.mv (.r 0), none, .b⟩] [(8, 0)]
abbrev c59_6 : ACode := .reg false [⟨.mv (.s 5), none, .b⟩,
  ⟨.mv (.s 6), none, .b⟩,
  ⟨.bin .mul (.r 1) (.r 0), none, .b⟩,
  ⟨.mv (.s 8), none, .b⟩,
  ⟨.bin .shr (.r 0) (.c (.int .u64 (32))), none, .b⟩,
  ⟨.bin .add (.r 2) (.r 0), none, .b⟩,
  ⟨.mv (.r 0), none, .b⟩] [(9, 0)]
abbrev c59_7 : ACode := .reg false [⟨.mv (.s 9), none, .b⟩,
  ⟨.bin .and (.r 0) (.c (.int .u64 (4294967295))), none, .b⟩,
  ⟨.mv (.r 0), none, .b⟩] [(10, 0)]
abbrev c59_8 : ACode := .reg false [⟨.mv (.s 9), none, .b⟩,
  ⟨.bin .shr (.r 0) (.c (.int .u64 (32))), none, .b⟩,
  ⟨.mv (.r 0), none, .b⟩] [(11, 0)]
abbrev c59_9 : ACode := .reg false [⟨.mv (.s 10), none, .b⟩,
  ⟨.mv (.s 4), none, .b⟩,
  ⟨.mv (.s 7), none, .b⟩,
  ⟨.bin .mul (.r 1) (.r 0), none, .b⟩,
  ⟨.bin .add (.r 3) (.r 0), none, .b⟩,
  ⟨.mv (.r 0), none, .b⟩] [(10, 0)]
abbrev c59_10 : ACode := .reg false [⟨.mv (.s 5), none, .b⟩,
  ⟨.mv (.s 7), none, .b⟩,
  ⟨.bin .mul (.r 1) (.r 0), none, .b⟩,
  ⟨.mv (.s 11), none, .b⟩,
  ⟨.bin .add (.r 1) (.r 0), none, .b⟩,
  ⟨.mv (.s 10), none, .b⟩,
  ⟨.bin .shr (.r 0) (.c (.int .u64 (32))), none, .b⟩,
  ⟨.bin .add (.r 2) (.r 0), none, .b⟩,
  ⟨.mv (.r 0), none, .b⟩] [(2, 0)]
abbrev c59_11 : ACode := .reg false [⟨.mv (.s 0), none, .b⟩,
  ⟨.mv (.s 1), none, .b⟩,
  ⟨.bin .mul (.r 1) (.r 0), none, .b⟩,
  ⟨.mv (.r 0), none, .b⟩] [(3, 0)]
abbrev c59_12 : ACode := .seq c59_11 .ret
abbrev c59_13 : ACode := .seq c59_10 c59_12
abbrev c59_14 : ACode := .seq c59_9 c59_13
abbrev c59_15 : ACode := .seq c59_8 c59_14
abbrev c59_16 : ACode := .seq c59_7 c59_15
abbrev c59_17 : ACode := .seq c59_6 c59_16
abbrev c59_18 : ACode := .seq c59_5 c59_17
abbrev c59_19 : ACode := .seq c59_4 c59_18
abbrev c59_20 : ACode := .seq c59_3 c59_19
abbrev c59_21 : ACode := .seq c59_2 c59_20
abbrev c59_22 : ACode := .seq c59_1 c59_21
abbrev c59_23 : ACode := .seq c59_0 c59_22
abbrev c59 : ACode := c59_23
theorem k59 : FnOk Try.prog 59 [] [0, 1, 4, 5, 6, 7, 8, 9, 10, 11, 12, 13] c59 [.t 2, .t 3] 2 := .of Try.func59 (by kernel_rfl)
-- internal/stringslite.HasPrefix  slots [0, 1, 4] names [s, prefix, ]
abbrev c60_0 : ACode := .reg false [⟨.mv (.c (.bool false)), none, .b⟩] [(2, 0)]
abbrev c60_1 : ACode := .reg false [⟨.mv (.s 0), none, .b⟩,
  ⟨.len true (.r 0), none, .b⟩,
  ⟨.mv (.s 1), none, .b⟩,
  ⟨.len true (.r 0), none, .b⟩,
  ⟨.bin .geq (.r 2) (.r 0), none, .b⟩,
  ⟨.mv (.r 0), none, .b⟩,
  ⟨.mv (.s 0), some (0, true), .b⟩,
  ⟨.mv (.s 1), some (1, true), .b⟩,
  ⟨.len true (.r 0), some (2, true), .b⟩,
  ⟨.sls (.r 2) none (some (.r 0)), some (3, true), .b⟩,
  ⟨.mv (.s 1), some (4, true), .b⟩,
  ⟨.bin .eql (.r 1) (.r 0), some (5, true), .b⟩,
  ⟨.pick (.r 6) (.r 0) (.c (.bool false)), none, .b⟩,
  ⟨.mv (.r 0), none, .b⟩] [(2, 0)]
abbrev c60_2 : ACode := .seq c60_1 .ret
abbrev c60_3 : ACode := .seq c60_0 c60_2
abbrev c60 : ACode := c60_3
theorem k60 : FnOk Try.prog 60 [] [0, 1, 4] c60 [.t 2] 2 := .of Try.func60 (by kernel_rfl)
-- f61 (*strings.Builder).copyCheck: NOT COVERED [region 0 uniq true draw true,   op 4 dst (some 6), region 1 uniq true draw true,   op 2 dst (some 9),   op 4 dst (some 11), region 2 uniq true draw true,   op 5 dst (some 19), other]
-- f62 (*strings.Builder).grow: NOT COVERED [region 0 uniq true draw true,   op 4 dst (some 9), region 1 uniq true draw true,   op 5 dst (some 25)]
-- slices.ContainsFunc[[]int,int]  slots [0, 1, 4] names [s, f, ]
abbrev c63_0 : ACode := .reg false [⟨.mv (.c (.bool false)), none, .b⟩] [(2, 0)]
abbrev c63_1 : ACode := .reg false [⟨.mv (.s 0), none, .b⟩,
  ⟨.mv (.s 1), none, .b⟩,
  ⟨.call (.f 67) [(.r 1), (.r 0)], none, .b⟩,
  ⟨.bin .geq (.r 0) (.c (.int .i64 (0))), none, .b⟩,
  ⟨.mv (.r 0), none, .b⟩] [(2, 0)]
abbrev c63_2 : ACode := .seq c63_1 .ret
abbrev c63_3 : ACode := .seq c63_0 c63_2
abbrev c63 : ACode := c63_3
theorem k63 : FnOk Try.prog 63 [] [0, 1, 4] c63 [.t 2] 2 := .of Try.func63 (by kernel_rfl)
-- reef/maps.hosted$1  slots [0, 2] names [h, ]
abbrev c64_0 : ACode := .reg false [⟨.mv (.c (.bool false)), none, .b⟩] [(1, 0)]
abbrev c64_1 : ACode := .reg false [⟨.mv (.s 0), none, .b⟩,
  ⟨.bin .lss (.r 0) (.c (.int .i64 (0))), none, .b⟩,
  ⟨.mv (.r 0), none, .b⟩,
  ⟨.mv (.s 0), some (0, false), .b⟩,
  ⟨.bin .gtr (.r 0) (.c (.int .i64 (7))), some (1, false), .b⟩,
  ⟨.pick (.r 2) (.c (.bool true)) (.r 0), none, .b⟩,
  ⟨.mv (.r 0), none, .b⟩] [(1, 0)]
abbrev c64_2 : ACode := .seq c64_1 .ret
abbrev c64_3 : ACode := .seq c64_0 c64_2
abbrev c64 : ACode := c64_3
theorem k64 : FnOk Try.prog 64 [] [0, 2] c64 [.t 1] 1 := .of Try.func64 (by kernel_rfl)
-- f65 internal/abi.NoEscape: no body
-- f66 internal/bytealg.MakeNoZero: no body
-- slices.IndexFunc[[]int,int]  slots [0, 1, 4, 5, 7, 8, 9, 16] names [s, f, , i, , , , ]
abbrev c67_0 : ACode := .reg false [⟨.mv (.c (.int .i64 (0))), none, .b⟩] [(2, 0)]
abbrev c67_1 : ACode := .reg false [⟨.mv (.s 0), none, .b⟩,
  ⟨.len false (.r 0), none, .b⟩,
  ⟨.mv (.c (.int .i64 (0))), none, .b⟩] [(4, 1), (5, 0)]
abbrev c67_2 : ACode := .reg false [⟨.bin .lss (.s 5) (.s 4), none, .b⟩] [(6, 0)]
abbrev c67_3 : ACode := .cond (.s 6) .skip (.exit 0)
abbrev c67_4 : ACode := .reg false [⟨.mv (.s 5), none, .b⟩,
  ⟨.mv (.r 0), none, .b⟩] [(3, 0)]
abbrev c67_5 : ACode := .reg false [⟨.mv (.s 1), none, .b⟩,
  ⟨.mv (.s 0), none, .b⟩,
  ⟨.mv (.s 3), none, .b⟩,
  ⟨.ixs 1 (.r 1) (.r 0), none, .b⟩,
  ⟨.load 1 false (.r 0), none, .b⟩,
  ⟨.call (.r 4) [(.r 0)], none, .b⟩] [(7, 0)]
abbrev c67_6 : ACode := .reg false [⟨.mv (.s 3), none, .b⟩,
  ⟨.mv (.r 0), none, .b⟩] [(2, 0)]
abbrev c67_7 : ACode := .seq c67_6 .ret
abbrev c67_8 : ACode := .cond (.s 7) c67_7 .skip
abbrev c67_9 : ACode := .seq c67_5 c67_8
abbrev c67_10 : ACode := .seq c67_4 c67_9
abbrev c67_11 : ACode := .block 1 c67_10
abbrev c67_12 : ACode := .reg false [⟨.bin .add (.s 5) (.c (.int .i64 (1))), none, .b⟩,
  ⟨.mv (.r 0), none, .b⟩] [(5, 0)]
abbrev c67_13 : ACode := .seq c67_11 c67_12
abbrev c67_14 : ACode := .seq c67_3 c67_13
abbrev c67_15 : ACode := .seq c67_2 c67_14
abbrev c67_16 : ACode := .loop c67_15
abbrev c67_17 : ACode := .block 0 c67_16
abbrev c67_18 : ACode := .seq c67_1 c67_17
abbrev c67_19 : ACode := .reg false [⟨.mv (.c (.int .i64 (-1))), none, .b⟩] [(2, 0)]
abbrev c67_20 : ACode := .seq c67_19 .ret
abbrev c67_21 : ACode := .seq c67_18 c67_20
abbrev c67_22 : ACode := .seq c67_0 c67_21
abbrev c67 : ACode := c67_22
theorem k67 : FnOk Try.prog 67 [] [0, 1, 4, 5, 7, 8, 9, 16] c67 [.t 2] 2 := .of Try.func67 (by kernel_rfl)
-- f68 (runtime.boundsError).Error: no body
-- f69 (runtime.boundsError).RuntimeError: no body
-- f70 (runtime.errorString).Error: no body
-- f71 (runtime.errorString).RuntimeError: no body
-- f72 (runtime.plainError).Error: no body
-- f73 (runtime.plainError).RuntimeError: no body
-- f74 (runtime.errorAddressString).Error: no body
-- f75 (runtime.errorAddressString).RuntimeError: no body
-- f76 (*runtime.TypeAssertionError).Error: no body
-- f77 (*runtime.TypeAssertionError).RuntimeError: no body
-- f78 (*runtime.PanicNilError).Error: no body
-- f79 (*runtime.PanicNilError).RuntimeError: no body
-- f80 (*internal/abi.Type).Align: no body
-- f81 (internal/runtime/maps.unhashableTypeError).Error: no body
-- f82 (internal/runtime/maps.unhashableTypeError).RuntimeError: no body
-- f83 (reef/api.Errno).Error: no body
-- f84 (*strings.Builder).Reset: no body
-- f85 (internal/abi.Kind).String: no body
def tblL : List (FuncId × FnE) :=
  [(2, ⟨[], [], c2, [], 0⟩),
   (3, ⟨[], [0, 1, 2, 6, 7, 8, 10, 11, 13, 34, 35, 36, 37, 38, 52, 56, 57, 58, 59, 73], c3, [.t 3], 3⟩),
   (4, ⟨[], [0, 1, 2, 3, 6, 7, 9, 38, 39, 40, 41, 46], c4, [.t 4], 3⟩),
   (5, ⟨[], [0, 1, 2, 3, 4, 6, 7], c5, [.t 5], 3⟩),
   (6, ⟨[], [0, 1, 4, 5, 10, 12, 13, 14, 25], c6, [.t 2], 2⟩),
   (7, ⟨[], [0, 1, 2, 6, 7, 8, 9, 10, 23, 26], c7, [.t 3], 3⟩),
   (8, ⟨[], [0, 1, 2, 3, 4], c8, [.t 4], 2⟩),
   (9, ⟨[3], [0, 1, 2], c9, [.t 0], 0⟩),
   (10, ⟨[], [0, 1, 2, 4, 5, 7, 10, 12, 13, 14, 15], c10, [.t 3], 2⟩),
   (11, ⟨[], [0, 1, 2, 3, 4, 5, 7, 8, 9, 17], c11, [.t 7], 4⟩),
   (12, ⟨[], [0, 1, 2, 3, 5, 6, 7, 10], c12, [.t 5], 3⟩),
   (13, ⟨[], [0, 1, 2, 3, 4, 5, 6, 8, 10, 13, 16, 17, 18, 19, 26, 27, 28, 29, 40, 41, 42, 43], c13, [.t 2], 1⟩),
   (14, ⟨[], [0, 1, 2, 3, 4, 5, 7, 8, 9, 10, 18], c14, [.t 7], 4⟩),
   (15, ⟨[], [0, 1, 2, 3, 8, 9, 16, 23, 32, 43, 51, 62, 90], c15, [.t 2], 1⟩),
   (16, ⟨[], [0, 1, 4], c16, [], 2⟩),
   (17, ⟨[], [0, 1, 2, 3, 12, 15], c17, [], 4⟩),
   (18, ⟨[], [0, 1, 4], c18, [.t 2], 2⟩),
   (19, ⟨[], [0, 1, 4], c19, [.t 2], 2⟩),
   (20, ⟨[], [0, 1, 2, 3, 4, 5, 75, 80, 93], c20, [.t 4], 2⟩),
   (21, ⟨[], [0, 1, 3, 4, 5, 11, 13, 14, 18], c21, [.cell 3 1 false], 2⟩),
   (22, ⟨[], [0, 1, 2], c22, [.t 2], 1⟩),
   (23, ⟨[], [0, 2, 3, 4, 5, 6], c23, [.t 1], 1⟩),
   (25, ⟨[], [0, 2], c25, [.t 1], 1⟩),
   (27, ⟨[], [0, 1, 2, 3, 4, 5, 6, 7, 8, 9, 42, 43, 44], c27, [], 4⟩),
   (28, ⟨[], [0, 1, 2, 3, 4], c28, [.t 2], 1⟩),
   (29, ⟨[], [0, 1, 2, 3], c29, [.t 3], 2⟩),
   (30, ⟨[], [0, 1, 2], c30, [.cell 2 33 true], 2⟩),
   (31, ⟨[], [0, 1, 2, 3, 4], c31, [.t 4], 3⟩),
   (32, ⟨[], [0, 1, 2, 3], c32, [.cell 3 33 true], 3⟩),
   (33, ⟨[], [0, 1, 2, 3, 4], c33, [.t 4], 3⟩),
   (34, ⟨[], [0, 1, 2, 3, 4, 11], c34, [.cell 3 33 true], 3⟩),
   (35, ⟨[], [0, 1, 2], c35, [.cell 2 33 true], 2⟩),
   (36, ⟨[], [0, 1, 2, 3], c36, [.cell 2 33 true], 2⟩),
   (37, ⟨[], [0, 2], c37, [.t 1], 1⟩),
   (38, ⟨[], [0, 1, 4, 5, 7, 8, 10, 11, 12, 13, 14, 25, 26, 27, 28, 36], c38, [.cell 2 33 true], 2⟩),
   (39, ⟨[], [0, 1, 2, 3, 5], c39, [], 4⟩),
   (43, ⟨[], [0, 1], c43, [.t 1], 1⟩),
   (44, ⟨[], [0, 2], c44, [.t 1], 1⟩),
   (45, ⟨[], [0, 1, 2], c45, [.t 2], 1⟩),
   (46, ⟨[], [0, 2, 3, 6, 12, 13, 14], c46, [.cell 1 5 true], 1⟩),
   (47, ⟨[], [0, 1, 2, 5, 6, 7, 8], c47, [], 3⟩),
   (49, ⟨[], [0, 1, 4], c49, [.t 2], 2⟩),
   (51, ⟨[], [0, 1, 4, 5], c51, [.t 2, .t 3], 2⟩),
   (52, ⟨[], [0, 2], c52, [.t 1], 1⟩),
   (54, ⟨[], [0, 1, 4, 5, 10, 12, 13, 14, 24], c54, [.t 2], 2⟩),
   (55, ⟨[], [0, 1, 3, 10], c55, [], 2⟩),
   (56, ⟨[], [0, 2], c56, [.t 1], 1⟩),
   (57, ⟨[], [0, 2, 4], c57, [.t 1], 1⟩),
   (58, ⟨[], [0, 1, 4, 5, 6], c58, [.t 2, .t 3], 2⟩),
   (59, ⟨[], [0, 1, 4, 5, 6, 7, 8, 9, 10, 11, 12, 13], c59, [.t 2, .t 3], 2⟩),
   (60, ⟨[], [0, 1, 4], c60, [.t 2], 2⟩),
   (63, ⟨[], [0, 1, 4], c63, [.t 2], 2⟩),
   (64, ⟨[], [0, 2], c64, [.t 1], 1⟩),
   (67, ⟨[], [0, 1, 4, 5, 7, 8, 9, 16], c67, [.t 2], 2⟩)]
theorem tblOk : TblOk Try.prog (lk tblL) := lk_ok ⟨k2, k3, k4, k5, k6, k7, k8, k9, k10, k11, k12, k13, k14, k15, k16, k17, k18, k19, k20, k21, k22, k23, k25, k27, k28, k29, k30, k31, k32, k33, k34, k35, k36, k37, k38, k39, k43, k44, k45, k46, k47, k49, k51, k52, k54, k55, k56, k57, k58, k59, k60, k63, k64, k67, trivial⟩
end Go.Proofs.Ytpmgmingjggegaa.AL
