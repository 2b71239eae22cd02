/- The compact code of the functions, printed by a program of ours (gen.py); the kernel checks it against the program's own form. -/
import Derived.Test.YtbchmbddcdionaaWe
import Derived.Test.YtbchmbddcdionaaProg
import Derived.KernelRfl
namespace Go.Proofs.Ytbchmbddcdionaa.Code
open Go.Proofs.Ytbchmbddcdionaa.Ev
abbrev u (n : Nat) : List Nat := List.range n

/-- progeny/progenylaw19.LogicJoins -/
def c7 : CFn := ⟨98, [.t 4],
 (.seq
 (.region [0, 1] [⟨(some 2), .box 30 13 (.t 0), none, [], []⟩,
   ⟨(some 3), .box 50 2 (.t 1), none, [], []⟩,
   ⟨(some 4), .mv (.c (.bool false)), none, [], []⟩])
 (.seq
 (.seq
 (.region [2, 3] [⟨(some 11), .load true 13 (.t 2), none, [], []⟩,
   ⟨(some 12), .call (.c (.fn 9 [])) [(.t 11)] false, none, [], []⟩,
   ⟨(some 13), .un .not (.t 12), none, [], []⟩])
 (.cond (.t 13)
 (.seq
 (.region [] [⟨(some 14), .call (.c (.fn 10 [])) [] false, none, [], []⟩,
   ⟨(some 4), .mv (.t 14), none, [], []⟩])
 .ret)
 .skip))
 (.seq
 (.region [2, 3] [⟨(some 16), .faddr 0 (.t 2), none, [], []⟩,
   ⟨(some 17), .load true 4 (.t 16), none, [], []⟩,
   ⟨(some 18), .faddr 4 (.t 2), none, [], []⟩,
   ⟨(some 19), .load true 4 (.t 18), none, [], []⟩,
   ⟨(some 20), .faddr 8 (.t 2), none, [], []⟩,
   ⟨(some 21), .load true 3 (.t 20), none, [], []⟩,
   ⟨(some 22), .faddr 11 (.t 2), none, [], []⟩,
   ⟨(some 23), .load false 1 (.t 22), none, [], []⟩,
   ⟨(some 24), .faddr 12 (.t 2), none, [], []⟩,
   ⟨(some 25), .load false 1 (.t 24), none, [], []⟩,
   ⟨(some 26), .iaddrA 1 2 (.t 3) (.c (.int .i64 0)), none, [], []⟩,
   ⟨(some 27), .load false 1 (.t 26), none, [], []⟩,
   ⟨(some 28), .call (.c (.fn 28 [])) [(.t 17), (.t 19), (.t 21), (.t 23), (.t 25), (.t 27)] false, none, [], []⟩,
   ⟨(some 15), .mv (.t 28), none, [], []⟩,
   ⟨(some 29), .extract (.t 15) 0, none, [], []⟩,
   ⟨(some 30), .extract (.t 15) 1, none, [], []⟩,
   ⟨(some 5), .mv (.t 29), none, [], []⟩,
   ⟨(some 6), .mv (.t 30), none, [], []⟩])
 (.seq
 (.region [2, 3, 5, 6] [⟨(some 32), .faddr 0 (.t 2), none, [], []⟩,
   ⟨(some 33), .load true 4 (.t 32), none, [], []⟩,
   ⟨(some 34), .faddr 4 (.t 2), none, [], []⟩,
   ⟨(some 35), .load true 4 (.t 34), none, [], []⟩,
   ⟨(some 36), .faddr 8 (.t 2), none, [], []⟩,
   ⟨(some 37), .load true 3 (.t 36), none, [], []⟩,
   ⟨(some 38), .faddr 11 (.t 2), none, [], []⟩,
   ⟨(some 39), .load false 1 (.t 38), none, [], []⟩,
   ⟨(some 40), .faddr 12 (.t 2), none, [], []⟩,
   ⟨(some 41), .load false 1 (.t 40), none, [], []⟩,
   ⟨(some 42), .iaddrA 1 2 (.t 3) (.c (.int .i64 0)), none, [], []⟩,
   ⟨(some 43), .load false 1 (.t 42), none, [], []⟩,
   ⟨(some 44), .call (.c (.fn 29 [])) [(.t 33), (.t 35), (.t 37), (.t 39), (.t 41), (.t 43)] false, none, [], []⟩,
   ⟨(some 31), .mv (.t 44), none, [], []⟩,
   ⟨(some 45), .extract (.t 31) 0, none, [], []⟩,
   ⟨(some 46), .extract (.t 31) 1, none, [], []⟩,
   ⟨(some 7), .mv (.t 45), none, [], []⟩,
   ⟨(some 8), .mv (.t 46), none, [], []⟩])
 (.seq
 (.seq
 (.region [2, 3, 5, 6, 7, 8] [⟨(some 47), .mv (.t 5), none, [], []⟩,
   ⟨(some 48), .mv (.t 7), none, [], []⟩,
   ⟨(some 49), .bin .neq (.t 47) (.t 48), none, [], []⟩,
   ⟨(some 50), .mv (.t 49), none, [], []⟩,
   ⟨(some 51), .mv (.t 6), some (50, false), [], []⟩,
   ⟨(some 52), .mv (.t 8), some (50, false), [], []⟩,
   ⟨(some 53), .bin .neq (.t 51) (.t 52), some (50, false), [], []⟩,
   ⟨(some 54), .pick (.t 50) (.c (.bool true)) (.t 53), none, [], []⟩])
 (.cond (.t 54)
 (.seq
 (.region [] [⟨(some 4), .mv (.c (.bool false)), none, [], []⟩])
 .ret)
 .skip))
 (.seq
 (.region [2, 3] [⟨(some 56), .faddr 0 (.t 2), none, [], []⟩,
   ⟨(some 57), .load true 4 (.t 56), none, [], []⟩,
   ⟨(some 58), .faddr 4 (.t 2), none, [], []⟩,
   ⟨(some 59), .load true 4 (.t 58), none, [], []⟩,
   ⟨(some 60), .faddr 8 (.t 2), none, [], []⟩,
   ⟨(some 61), .load true 3 (.t 60), none, [], []⟩,
   ⟨(some 62), .faddr 11 (.t 2), none, [], []⟩,
   ⟨(some 63), .load false 1 (.t 62), none, [], []⟩,
   ⟨(some 64), .faddr 12 (.t 2), none, [], []⟩,
   ⟨(some 65), .load false 1 (.t 64), none, [], []⟩,
   ⟨(some 66), .iaddrA 1 2 (.t 3) (.c (.int .i64 1)), none, [], []⟩,
   ⟨(some 67), .load false 1 (.t 66), none, [], []⟩,
   ⟨(some 68), .call (.c (.fn 30 [])) [(.t 57), (.t 59), (.t 61), (.t 63), (.t 65), (.t 67)] true, none, [], []⟩,
   ⟨(some 55), .mv (.t 68), none, [], []⟩,
   ⟨(some 69), .extract (.t 55) 0, none, [], []⟩,
   ⟨(some 70), .extract (.t 55) 1, none, [], []⟩,
   ⟨(some 9), .mv (.t 69), none, [], []⟩,
   ⟨(some 6), .mv (.t 70), none, [], []⟩])
 (.seq
 (.region [2, 3, 6, 9] [⟨(some 72), .faddr 0 (.t 2), none, [], []⟩,
   ⟨(some 73), .load true 4 (.t 72), none, [], []⟩,
   ⟨(some 74), .faddr 4 (.t 2), none, [], []⟩,
   ⟨(some 75), .load true 4 (.t 74), none, [], []⟩,
   ⟨(some 76), .faddr 8 (.t 2), none, [], []⟩,
   ⟨(some 77), .load true 3 (.t 76), none, [], []⟩,
   ⟨(some 78), .faddr 11 (.t 2), none, [], []⟩,
   ⟨(some 79), .load false 1 (.t 78), none, [], []⟩,
   ⟨(some 80), .faddr 12 (.t 2), none, [], []⟩,
   ⟨(some 81), .load false 1 (.t 80), none, [], []⟩,
   ⟨(some 82), .iaddrA 1 2 (.t 3) (.c (.int .i64 1)), none, [], []⟩,
   ⟨(some 83), .load false 1 (.t 82), none, [], []⟩,
   ⟨(some 84), .call (.c (.fn 31 [])) [(.t 73), (.t 75), (.t 77), (.t 79), (.t 81), (.t 83)] true, none, [], []⟩,
   ⟨(some 71), .mv (.t 84), none, [], []⟩,
   ⟨(some 85), .extract (.t 71) 0, none, [], []⟩,
   ⟨(some 86), .extract (.t 71) 1, none, [], []⟩,
   ⟨(some 10), .mv (.t 85), none, [], []⟩,
   ⟨(some 8), .mv (.t 86), none, [], []⟩])
 (.seq
 (.region [6, 8, 9, 10] [⟨(some 87), .mv (.t 9), none, [], []⟩,
   ⟨(some 88), .mv (.t 10), none, [], []⟩,
   ⟨(some 89), .call (.c (.fn 24 [])) [(.t 87), (.t 88)] false, none, [], []⟩,
   ⟨(some 90), .mv (.t 89), none, [], []⟩,
   ⟨(some 91), .mv (.t 6), some (90, true), [], []⟩,
   ⟨(some 92), .mv (.t 8), some (90, true), [], []⟩,
   ⟨(some 93), .bin .eql (.t 91) (.t 92), some (90, true), [], []⟩,
   ⟨(some 94), .pick (.t 90) (.t 93) (.c (.bool false)), none, [], []⟩,
   ⟨(some 95), .mv (.t 94), none, [], []⟩,
   ⟨(some 96), .call (.c (.fn 10 [])) [] false, some (95, true), [], []⟩,
   ⟨(some 97), .pick (.t 95) (.t 96) (.c (.bool false)), none, [], []⟩,
   ⟨(some 4), .mv (.t 97), none, [], []⟩])
 .ret)))))))), false, false⟩
/-- progeny/progenylaw19.Small -/
def c9 : CFn := ⟨27, [.t 2],
 (.seq
 (.region [0] [⟨(some 1), .box 30 13 (.t 0), none, [], []⟩,
   ⟨(some 2), .mv (.c (.bool false)), none, [], []⟩])
 (.seq
 (.region [1] [⟨(some 3), .faddr 0 (.t 1), none, [], []⟩,
   ⟨(some 4), .load true 4 (.t 3), none, [], []⟩,
   ⟨(some 5), .faddr 11 (.t 1), none, [], []⟩,
   ⟨(some 6), .load false 1 (.t 5), none, [], []⟩,
   ⟨(some 7), .call (.c (.fn 33 [])) [(.t 4), (.t 6)] false, none, [], []⟩,
   ⟨(some 8), .mv (.t 7), none, [], []⟩,
   ⟨(some 9), .faddr 4 (.t 1), some (8, true), [], []⟩,
   ⟨(some 10), .load true 4 (.t 9), some (8, true), [], []⟩,
   ⟨(some 11), .faddr 12 (.t 1), some (8, true), [], []⟩,
   ⟨(some 12), .load false 1 (.t 11), some (8, true), [], []⟩,
   ⟨(some 13), .call (.c (.fn 33 [])) [(.t 10), (.t 12)] false, some (8, true), [], []⟩,
   ⟨(some 14), .pick (.t 8) (.t 13) (.c (.bool false)), none, [], []⟩,
   ⟨(some 15), .mv (.t 14), none, [], []⟩,
   ⟨(some 16), .faddr 11 (.t 1), some (15, true), [], []⟩,
   ⟨(some 17), .load false 1 (.t 16), some (15, true), [], []⟩,
   ⟨(some 18), .len false (.t 17), some (15, true), [], []⟩,
   ⟨(some 19), .bin .leq (.t 18) (.c (.int .i64 40)), some (15, true), [], []⟩,
   ⟨(some 20), .pick (.t 15) (.t 19) (.c (.bool false)), none, [], []⟩,
   ⟨(some 21), .mv (.t 20), none, [], []⟩,
   ⟨(some 22), .faddr 12 (.t 1), some (21, true), [], []⟩,
   ⟨(some 23), .load false 1 (.t 22), some (21, true), [], []⟩,
   ⟨(some 24), .len false (.t 23), some (21, true), [], []⟩,
   ⟨(some 25), .bin .leq (.t 24) (.c (.int .i64 40)), some (21, true), [], []⟩,
   ⟨(some 26), .pick (.t 21) (.t 25) (.c (.bool false)), none, [], []⟩,
   ⟨(some 2), .mv (.t 26), none, [], []⟩])
 .ret)), false, false⟩
/-- progeny/progenylaw19.First -/
def c10 : CFn := ⟨48, [.t 0],
 (.seq
 (.region [] [⟨(some 0), .mv (.c (.bool false)), none, [], []⟩])
 (.seq
 (.region [] [⟨(some 7), .call (.c (.fn 34 [])) [(.c (.str ⟨#[80]⟩))] false, none, [], []⟩,
   ⟨(some 1), .box 30 13 (.c (.agg [.str ⟨#[]⟩, .int .i64 0, .nils, .nils, .str ⟨#[]⟩, .int .i64 0, .nils, .nils, .int .i64 0, .int .i64 0, .str ⟨#[]⟩, .nils, .nils])), none, [], []⟩,
   ⟨none, .store 13 (.t 1) (.t 7), none, [], []⟩])
 (.seq
 (.region [1] [⟨(some 9), .faddr 0 (.t 1), none, [], []⟩,
   ⟨(some 10), .load true 4 (.t 9), none, [], []⟩,
   ⟨(some 11), .faddr 4 (.t 1), none, [], []⟩,
   ⟨(some 12), .load true 4 (.t 11), none, [], []⟩,
   ⟨(some 13), .faddr 8 (.t 1), none, [], []⟩,
   ⟨(some 14), .load true 3 (.t 13), none, [], []⟩,
   ⟨(some 15), .faddr 11 (.t 1), none, [], []⟩,
   ⟨(some 16), .load false 1 (.t 15), none, [], []⟩,
   ⟨(some 17), .faddr 12 (.t 1), none, [], []⟩,
   ⟨(some 18), .load false 1 (.t 17), none, [], []⟩,
   ⟨(some 19), .call (.c (.fn 19 [])) [(.t 10), (.t 12), (.t 14), (.t 16), (.t 18), (.c (.int .i64 1))] true, none, [], []⟩,
   ⟨(some 8), .mv (.t 19), none, [], []⟩,
   ⟨(some 20), .extract (.t 8) 0, none, [], []⟩,
   ⟨(some 21), .extract (.t 8) 1, none, [], []⟩,
   ⟨(some 2), .mv (.t 20), none, [], []⟩,
   ⟨(some 3), .mv (.t 21), none, [], []⟩])
 (.seq
 (.region [1, 2, 3] [⟨(some 23), .faddr 0 (.t 1), none, [], []⟩,
   ⟨(some 24), .load true 4 (.t 23), none, [], []⟩,
   ⟨(some 25), .faddr 4 (.t 1), none, [], []⟩,
   ⟨(some 26), .load true 4 (.t 25), none, [], []⟩,
   ⟨(some 27), .faddr 8 (.t 1), none, [], []⟩,
   ⟨(some 28), .load true 3 (.t 27), none, [], []⟩,
   ⟨(some 29), .faddr 11 (.t 1), none, [], []⟩,
   ⟨(some 30), .load false 1 (.t 29), none, [], []⟩,
   ⟨(some 31), .faddr 12 (.t 1), none, [], []⟩,
   ⟨(some 32), .load false 1 (.t 31), none, [], []⟩,
   ⟨(some 33), .call (.c (.fn 11 [])) [(.t 24), (.t 26), (.t 28), (.t 30), (.t 32), (.c (.int .i64 1))] true, none, [], []⟩,
   ⟨(some 22), .mv (.t 33), none, [], []⟩,
   ⟨(some 34), .extract (.t 22) 0, none, [], []⟩,
   ⟨(some 35), .extract (.t 22) 1, none, [], []⟩,
   ⟨(some 36), .extract (.t 22) 2, none, [], []⟩,
   ⟨(some 4), .mv (.t 34), none, [], []⟩,
   ⟨(some 5), .mv (.t 35), none, [], []⟩,
   ⟨(some 6), .mv (.t 36), none, [], []⟩])
 (.seq
 (.region [2, 3, 6] [⟨(some 37), .mv (.t 3), none, [], []⟩,
   ⟨(some 38), .bin .eql (.t 37) (.c (.int .i64 0)), none, [], []⟩,
   ⟨(some 39), .mv (.t 38), none, [], []⟩,
   ⟨(some 40), .mv (.t 6), some (39, true), [], []⟩,
   ⟨(some 41), .bin .eql (.t 40) (.c (.int .i64 181)), some (39, true), [], []⟩,
   ⟨(some 42), .pick (.t 39) (.t 41) (.c (.bool false)), none, [], []⟩,
   ⟨(some 43), .mv (.t 42), none, [], []⟩,
   ⟨(some 44), .mv (.t 2), some (43, true), [], []⟩,
   ⟨(some 45), .bslice 3 1 [[.int .i64 0]] [(0, (.c (.int .i64 2)))], some (43, true), [], []⟩,
   ⟨(some 46), .call (.c (.fn 24 [])) [(.t 44), (.t 45)] false, some (43, true), [], []⟩,
   ⟨(some 47), .pick (.t 43) (.t 46) (.c (.bool false)), none, [], []⟩,
   ⟨(some 0), .mv (.t 47), none, [], []⟩])
 .ret))))), false, true⟩
/-- progeny/logic.Delete -/
def c11 : CFn := ⟨81, [.t 12, .t 13, .t 14],
 (.seq
 (.region [0, 1, 2, 3, 4, 5] [⟨(some 6), .box 25 4 (.t 0), none, [], []⟩,
   ⟨(some 7), .box 25 4 (.t 1), none, [], []⟩,
   ⟨(some 8), .box 27 3 (.t 2), none, [], []⟩,
   ⟨(some 12), .mv (.c (.nils)), none, [], []⟩,
   ⟨(some 13), .mv (.c (.nils)), none, [], []⟩,
   ⟨(some 14), .mv (.c (.int .i64 0)), none, [], []⟩])
 (.seq
 (.region [3, 4, 5, 6, 7, 8] [⟨(some 23), .load true 4 (.t 6), none, [], []⟩,
   ⟨(some 24), .load true 4 (.t 7), none, [], []⟩,
   ⟨(some 25), .load true 3 (.t 8), none, [], []⟩,
   ⟨(some 26), .mv (.t 3), none, [], []⟩,
   ⟨(some 27), .mv (.t 4), none, [], []⟩,
   ⟨(some 28), .call (.c (.fn 35 [])) [(.t 23), (.t 24), (.t 25), (.t 26), (.t 27)] false, none, [], []⟩,
   ⟨(some 22), .mv (.t 28), none, [], []⟩,
   ⟨(some 29), .extract (.t 22) 0, none, [], []⟩,
   ⟨(some 30), .extract (.t 22) 1, none, [], []⟩,
   ⟨(some 15), .mv (.t 29), none, [], []⟩,
   ⟨(some 16), .mv (.t 30), none, [], []⟩])
 (.seq
 (.seq
 (.region [3, 4, 5, 7, 8, 15, 16] [⟨(some 31), .mv (.t 16), none, [], []⟩,
   ⟨(some 32), .bin .neq (.t 31) (.c (.int .i64 0)), none, [], []⟩])
 (.cond (.t 32)
 (.seq
 (.region [16] [⟨(some 33), .mv (.t 16), none, [], []⟩,
   ⟨(some 12), .mv (.c (.nils)), none, [], []⟩,
   ⟨(some 13), .mv (.c (.nils)), none, [], []⟩,
   ⟨(some 14), .mv (.t 33), none, [], []⟩])
 .ret)
 .skip))
 (.seq
 (.region [3, 4, 5, 7, 8, 15] [⟨(some 35), .load true 4 (.t 7), none, [], []⟩,
   ⟨(some 36), .mv (.t 4), none, [], []⟩,
   ⟨(some 37), .mv (.t 5), none, [], []⟩,
   ⟨(some 38), .call (.c (.fn 36 [])) [(.t 35), (.t 36), (.t 37)] true, none, [], []⟩,
   ⟨(some 34), .mv (.t 38), none, [], []⟩,
   ⟨(some 39), .extract (.t 34) 0, none, [], []⟩,
   ⟨(some 40), .extract (.t 34) 1, none, [], []⟩,
   ⟨(some 17), .mv (.t 39), none, [], []⟩,
   ⟨(some 16), .mv (.t 40), none, [], []⟩])
 (.seq
 (.seq
 (.region [3, 4, 5, 8, 15, 16, 17] [⟨(some 41), .mv (.t 16), none, [], []⟩,
   ⟨(some 42), .bin .neq (.t 41) (.c (.int .i64 0)), none, [], []⟩])
 (.cond (.t 42)
 (.seq
 (.region [16] [⟨(some 43), .mv (.t 16), none, [], []⟩,
   ⟨(some 12), .mv (.c (.nils)), none, [], []⟩,
   ⟨(some 13), .mv (.c (.nils)), none, [], []⟩,
   ⟨(some 14), .mv (.t 43), none, [], []⟩])
 .ret)
 .skip))
 (.seq
 (.region [3, 4, 5, 8, 15, 17] [⟨(some 44), .mv (.t 3), none, [], []⟩,
   ⟨(some 45), .call (.c (.fn 37 [])) [(.t 44)] false, none, [], []⟩,
   ⟨(some 18), .box 28 1 (.c (.nils)), none, [], []⟩,
   ⟨none, .store 1 (.t 18) (.t 45), none, [], []⟩])
 (.seq
 (.seq
 (.region [4, 5, 8, 15, 17, 18] [⟨(some 46), .mv (.t 4), none, [], []⟩,
   ⟨(some 47), .mv (.t 5), none, [], []⟩,
   ⟨(some 48), .iaddr 2 (.t 46) (.t 47), none, [], []⟩,
   ⟨(some 49), .faddr 0 (.t 48), none, [], []⟩,
   ⟨(some 50), .load false 1 (.t 49), none, [], []⟩,
   ⟨(some 51), .bin .neq (.t 50) (.c (.int .i64 0)), none, [], []⟩])
 (.cond (.t 51)
 (.seq
 (.region [17, 18] [⟨(some 52), .load false 1 (.t 18), none, [], []⟩,
   ⟨(some 53), .mv (.t 17), none, [], []⟩,
   ⟨(some 12), .mv (.t 52), none, [], []⟩,
   ⟨(some 13), .mv (.t 53), none, [], []⟩,
   ⟨(some 14), .mv (.c (.int .i64 0)), none, [], []⟩])
 .ret)
 .skip))
 (.seq
 (.region [5, 8, 15, 17, 18] [⟨(some 54), .mv (.t 15), none, [], []⟩,
   ⟨(some 55), .mv (.t 5), none, [], []⟩,
   ⟨(some 56), .call (.c (.fn 38 [])) [(.t 54), (.t 55)] true, none, [], []⟩,
   ⟨(some 19), .mv (.t 56), none, [], []⟩])
 (.seq
 (.seq
 (.region [8, 17, 18, 19] [⟨(some 57), .mv (.t 19), none, [], []⟩,
   ⟨(some 58), .len false (.t 57), none, [], []⟩,
   ⟨(some 59), .bin .gtr (.t 58) (.c (.int .i64 0)), none, [], []⟩,
   ⟨(some 60), .mv (.t 59), none, [], []⟩,
   ⟨(some 61), .faddr 2 (.t 8), some (60, true), [], []⟩,
   ⟨(some 62), .load false 1 (.t 61), some (60, true), [], []⟩,
   ⟨(some 63), .bin .eql (.t 62) (.c (.str ⟨#[80]⟩)), some (60, true), [], []⟩,
   ⟨(some 64), .pick (.t 60) (.t 63) (.c (.bool false)), none, [], []⟩])
 (.cond (.t 64)
 (.seq
 (.region [] [⟨(some 12), .mv (.c (.nils)), none, [], []⟩,
   ⟨(some 13), .mv (.c (.nils)), none, [], []⟩,
   ⟨(some 14), .mv (.c (.int .i64 181)), none, [], []⟩])
 .ret)
 .skip))
 (.seq
 (.seq
 (.region [8, 17, 18, 19] [⟨(some 65), .faddr 2 (.t 8), none, [], []⟩,
   ⟨(some 66), .load false 1 (.t 65), none, [], []⟩,
   ⟨(some 67), .bin .eql (.t 66) (.c (.str ⟨#[86]⟩)), none, [], []⟩])
 (.cond (.t 67)
 (.seq
 (.region [19] [⟨(some 68), .mv (.t 19), none, [], []⟩,
   ⟨(some 69), .call (.c (.fn 39 [])) [(.t 68)] false, none, [], []⟩])
 (.block 0
 .stuck))
 .skip))
 (.seq
 (.region [17, 18] [⟨(some 79), .load false 1 (.t 18), none, [], []⟩,
   ⟨(some 80), .mv (.t 17), none, [], []⟩,
   ⟨(some 12), .mv (.t 79), none, [], []⟩,
   ⟨(some 13), .mv (.t 80), none, [], []⟩,
   ⟨(some 14), .mv (.c (.int .i64 0)), none, [], []⟩])
 .ret))))))))))), false, false⟩
/-- progeny/logic.Valid -/
def c14 : CFn := ⟨20, [.t 6, .t 7],
 (.seq
 (.region [0, 1, 2] [⟨(some 3), .box 25 4 (.t 0), none, [], []⟩,
   ⟨(some 4), .box 25 4 (.t 1), none, [], []⟩,
   ⟨(some 5), .box 27 3 (.t 2), none, [], []⟩,
   ⟨(some 6), .mv (.c (.bool false)), none, [], []⟩,
   ⟨(some 7), .mv (.c (.int .i64 0)), none, [], []⟩])
 (.seq
 (.seq
 (.region [3, 4, 5] [⟨(some 8), .load true 4 (.t 3), none, [], []⟩,
   ⟨(some 9), .call (.c (.fn 42 [])) [(.t 8)] false, none, [], []⟩,
   ⟨(some 10), .un .not (.t 9), none, [], []⟩,
   ⟨(some 11), .mv (.t 10), none, [], []⟩,
   ⟨(some 12), .load true 4 (.t 4), some (11, false), [], []⟩,
   ⟨(some 13), .call (.c (.fn 42 [])) [(.t 12)] false, some (11, false), [], []⟩,
   ⟨(some 14), .un .not (.t 13), some (11, false), [], []⟩,
   ⟨(some 15), .pick (.t 11) (.c (.bool true)) (.t 14), none, [], []⟩])
 (.cond (.t 15)
 (.seq
 (.region [] [⟨(some 6), .mv (.c (.bool false)), none, [], []⟩,
   ⟨(some 7), .mv (.c (.int .i64 100)), none, [], []⟩])
 .ret)
 .skip))
 (.seq
 (.region [3, 4, 5] [⟨(some 16), .load true 4 (.t 3), none, [], []⟩,
   ⟨(some 17), .load true 4 (.t 4), none, [], []⟩,
   ⟨(some 18), .load true 3 (.t 5), none, [], []⟩,
   ⟨(some 19), .call (.c (.fn 43 [])) [(.t 16), (.t 17), (.t 18)] false, none, [], []⟩,
   ⟨(some 6), .mv (.t 19), none, [], []⟩,
   ⟨(some 7), .mv (.c (.int .i64 0)), none, [], []⟩])
 .ret))), false, false⟩
/-- progeny/progenyref19.Asked -/
def c18 : CFn := ⟨36, [.t 10],
 (.seq
 (.region [0, 1, 2, 3, 4] [⟨(some 5), .box 25 4 (.t 0), none, [], []⟩,
   ⟨(some 6), .box 25 4 (.t 1), none, [], []⟩,
   ⟨(some 7), .box 27 3 (.t 2), none, [], []⟩,
   ⟨(some 10), .mv (.c (.int .i64 0)), none, [], []⟩])
 (.seq
 (.region [3, 4, 5, 6, 7] [⟨(some 12), .load true 4 (.t 5), none, [], []⟩,
   ⟨(some 13), .load true 4 (.t 6), none, [], []⟩,
   ⟨(some 14), .load true 3 (.t 7), none, [], []⟩,
   ⟨(some 15), .mv (.t 3), none, [], []⟩,
   ⟨(some 16), .mv (.t 4), none, [], []⟩,
   ⟨(some 17), .call (.c (.fn 48 [])) [(.t 12), (.t 13), (.t 14), (.t 15), (.t 16)] false, none, [], []⟩,
   ⟨(some 11), .mv (.t 17), none, [], []⟩])
 (.seq
 (.seq
 (.region [3, 4, 5, 6, 7, 11] [⟨(some 18), .mv (.t 11), none, [], []⟩,
   ⟨(some 19), .bin .eql (.t 18) (.c (.int .i64 0)), none, [], []⟩,
   ⟨(some 20), .mv (.t 19), none, [], []⟩,
   ⟨(some 21), .faddr 2 (.t 7), some (20, true), [], []⟩,
   ⟨(some 22), .load false 1 (.t 21), some (20, true), [], []⟩,
   ⟨(some 23), .bin .neq (.t 22) (.c (.str ⟨#[76]⟩)), some (20, true), [], []⟩,
   ⟨(some 24), .pick (.t 20) (.t 23) (.c (.bool false)), none, [], []⟩,
   ⟨(some 25), .mv (.t 24), none, [], []⟩,
   ⟨(some 26), .load true 4 (.t 5), some (25, true), [], []⟩,
   ⟨(some 27), .load true 4 (.t 6), some (25, true), [], []⟩,
   ⟨(some 28), .load true 3 (.t 7), some (25, true), [], []⟩,
   ⟨(some 29), .mv (.t 3), some (25, true), [], []⟩,
   ⟨(some 30), .mv (.t 4), some (25, true), [], []⟩,
   ⟨(some 31), .call (.c (.fn 49 [])) [(.t 26), (.t 27), (.t 28), (.t 29), (.t 30)] true, some (25, true), [], []⟩,
   ⟨(some 32), .len false (.t 31), some (25, true), [], []⟩,
   ⟨(some 33), .bin .gtr (.t 32) (.c (.int .i64 0)), some (25, true), [], []⟩,
   ⟨(some 34), .pick (.t 25) (.t 33) (.c (.bool false)), none, [], []⟩])
 (.cond (.t 34)
 (.region [] [⟨(some 11), .mv (.c (.int .i64 120)), none, [], []⟩])
 .skip))
 (.seq
 (.region [11] [⟨(some 35), .mv (.t 11), none, [], []⟩,
   ⟨(some 10), .mv (.t 35), none, [], []⟩])
 .ret)))), false, false⟩
/-- progeny/logic.Children -/
def c19 : CFn := ⟨32, [.t 12, .t 13],
 (.seq
 (.region [0, 1, 2, 3, 4, 5] [⟨(some 6), .box 25 4 (.t 0), none, [], []⟩,
   ⟨(some 7), .box 25 4 (.t 1), none, [], []⟩,
   ⟨(some 8), .box 27 3 (.t 2), none, [], []⟩,
   ⟨(some 12), .mv (.c (.nils)), none, [], []⟩,
   ⟨(some 13), .mv (.c (.int .i64 0)), none, [], []⟩])
 (.seq
 (.region [3, 4, 5, 6, 7, 8] [⟨(some 17), .load true 4 (.t 6), none, [], []⟩,
   ⟨(some 18), .load true 4 (.t 7), none, [], []⟩,
   ⟨(some 19), .load true 3 (.t 8), none, [], []⟩,
   ⟨(some 20), .mv (.t 3), none, [], []⟩,
   ⟨(some 21), .mv (.t 4), none, [], []⟩,
   ⟨(some 22), .mv (.t 5), none, [], []⟩,
   ⟨(some 23), .call (.c (.fn 50 [])) [(.t 17), (.t 18), (.t 19), (.t 20), (.t 21), (.t 22)] false, none, [], []⟩,
   ⟨(some 16), .mv (.t 23), none, [], []⟩,
   ⟨(some 24), .extract (.t 16) 0, none, [], []⟩,
   ⟨(some 25), .extract (.t 16) 1, none, [], []⟩,
   ⟨(some 14), .mv (.t 24), none, [], []⟩,
   ⟨(some 15), .mv (.t 25), none, [], []⟩])
 (.seq
 (.seq
 (.region [5, 14, 15] [⟨(some 26), .mv (.t 15), none, [], []⟩,
   ⟨(some 27), .bin .neq (.t 26) (.c (.int .i64 0)), none, [], []⟩])
 (.cond (.t 27)
 (.seq
 (.region [15] [⟨(some 28), .mv (.t 15), none, [], []⟩,
   ⟨(some 12), .mv (.c (.nils)), none, [], []⟩,
   ⟨(some 13), .mv (.t 28), none, [], []⟩])
 .ret)
 .skip))
 (.seq
 (.region [5, 14] [⟨(some 29), .mv (.t 14), none, [], []⟩,
   ⟨(some 30), .mv (.t 5), none, [], []⟩,
   ⟨(some 31), .call (.c (.fn 38 [])) [(.t 29), (.t 30)] true, none, [], []⟩,
   ⟨(some 12), .mv (.t 31), none, [], []⟩,
   ⟨(some 13), .mv (.c (.int .i64 0)), none, [], []⟩])
 .ret)))), false, false⟩
/-- progeny/logic.Parent -/
def c20 : CFn := ⟨41, [.t 12, .t 13],
 (.seq
 (.region [0, 1, 2, 3, 4, 5] [⟨(some 6), .box 25 4 (.t 0), none, [], []⟩,
   ⟨(some 7), .box 25 4 (.t 1), none, [], []⟩,
   ⟨(some 8), .box 27 3 (.t 2), none, [], []⟩,
   ⟨(some 12), .mv (.c (.int .i64 0)), none, [], []⟩,
   ⟨(some 13), .mv (.c (.int .i64 0)), none, [], []⟩])
 (.seq
 (.region [3, 4, 5, 6, 7, 8] [⟨(some 18), .load true 4 (.t 6), none, [], []⟩,
   ⟨(some 19), .load true 4 (.t 7), none, [], []⟩,
   ⟨(some 20), .load true 3 (.t 8), none, [], []⟩,
   ⟨(some 21), .mv (.t 3), none, [], []⟩,
   ⟨(some 22), .mv (.t 4), none, [], []⟩,
   ⟨(some 23), .call (.c (.fn 35 [])) [(.t 18), (.t 19), (.t 20), (.t 21), (.t 22)] false, none, [], []⟩,
   ⟨(some 17), .mv (.t 23), none, [], []⟩,
   ⟨(some 24), .extract (.t 17) 0, none, [], []⟩,
   ⟨(some 25), .extract (.t 17) 1, none, [], []⟩,
   ⟨(some 14), .mv (.t 24), none, [], []⟩,
   ⟨(some 15), .mv (.t 25), none, [], []⟩])
 (.seq
 (.block 0
 (.seq
 (.region [5, 14, 15] [⟨(some 27), .mv (.t 15), none, [], []⟩,
   ⟨(some 28), .bin .neq (.t 27) (.c (.int .i64 0)), none, [], []⟩,
   ⟨(some 26), .mv (.t 28), none, [], []⟩])
 (.cond (.t 26)
 (.seq
 (.region [15] [⟨(some 29), .mv (.t 15), none, [], []⟩,
   ⟨(some 12), .mv (.c (.int .i64 0)), none, [], []⟩,
   ⟨(some 13), .mv (.t 29), none, [], []⟩])
 .ret)
 (.seq
 (.region [5, 14] [⟨(some 31), .mv (.t 14), none, [], []⟩,
   ⟨(some 32), .mv (.t 5), none, [], []⟩,
   ⟨(some 33), .call (.c (.fn 51 [])) [(.t 31), (.t 32)] false, none, [], []⟩,
   ⟨(some 34), .un .not (.t 33), none, [], []⟩,
   ⟨(some 30), .mv (.t 34), none, [], []⟩])
 (.cond (.t 30)
 (.seq
 (.region [] [⟨(some 12), .mv (.c (.int .i64 0)), none, [], []⟩,
   ⟨(some 13), .mv (.c (.int .i64 2)), none, [], []⟩])
 .ret)
 .skip)))))
 (.seq
 (.region [5, 14] [⟨(some 35), .mv (.t 14), none, [], []⟩,
   ⟨(some 36), .mv (.t 5), none, [], []⟩,
   ⟨(some 37), .call (.c (.fn 52 [])) [(.t 35), (.t 36)] false, none, [], []⟩,
   ⟨(some 16), .mv (.t 37), none, [], []⟩])
 (.seq
 (.seq
 (.region [16] [⟨(some 38), .mv (.t 16), none, [], []⟩,
   ⟨(some 39), .bin .lss (.t 38) (.c (.int .i64 0)), none, [], []⟩])
 (.cond (.t 39)
 (.seq
 (.region [] [⟨(some 12), .mv (.c (.int .i64 0)), none, [], []⟩,
   ⟨(some 13), .mv (.c (.int .i64 5)), none, [], []⟩])
 .ret)
 .skip))
 (.seq
 (.region [16] [⟨(some 40), .mv (.t 16), none, [], []⟩,
   ⟨(some 12), .mv (.t 40), none, [], []⟩,
   ⟨(some 13), .mv (.c (.int .i64 0)), none, [], []⟩])
 .ret)))))), false, false⟩
/-- progeny/progenyref19.Parent -/
def c22 : CFn := ⟨56, [.t 12, .t 13],
 (.seq
 (.region [0, 1, 2, 3, 4, 5] [⟨(some 6), .box 25 4 (.t 0), none, [], []⟩,
   ⟨(some 7), .box 25 4 (.t 1), none, [], []⟩,
   ⟨(some 8), .box 27 3 (.t 2), none, [], []⟩,
   ⟨(some 12), .mv (.c (.int .i64 0)), none, [], []⟩,
   ⟨(some 13), .mv (.c (.int .i64 0)), none, [], []⟩])
 (.seq
 (.seq
 (.region [3, 4, 5, 6, 7, 8] [⟨(some 16), .load true 4 (.t 6), none, [], []⟩,
   ⟨(some 17), .load true 4 (.t 7), none, [], []⟩,
   ⟨(some 18), .load true 3 (.t 8), none, [], []⟩,
   ⟨(some 19), .mv (.t 3), none, [], []⟩,
   ⟨(some 20), .mv (.t 4), none, [], []⟩,
   ⟨(some 21), .call (.c (.fn 18 [])) [(.t 16), (.t 17), (.t 18), (.t 19), (.t 20)] false, none, [], []⟩,
   ⟨(some 14), .mv (.t 21), none, [], []⟩])
 (.seq
 (.region [3, 4, 5, 6, 7, 8, 14] [⟨(some 22), .mv (.t 14), none, [], []⟩,
   ⟨(some 23), .bin .neq (.t 22) (.c (.int .i64 0)), none, [], []⟩])
 (.cond (.t 23)
 (.seq
 (.region [14] [⟨(some 24), .mv (.t 14), none, [], []⟩,
   ⟨(some 12), .mv (.c (.int .i64 0)), none, [], []⟩,
   ⟨(some 13), .mv (.t 24), none, [], []⟩])
 .ret)
 .skip)))
 (.seq
 (.seq
 (.draw [3, 4, 5, 6, 7, 8] [⟨(some 25), .mv (.t 5), none, [], []⟩,
   ⟨(some 26), .bin .lss (.t 25) (.c (.int .i64 0)), none, [0], []⟩,
   ⟨(some 27), .mv (.t 26), none, [0, 1], []⟩,
   ⟨(some 28), .mv (.t 5), some (27, false), [0, 1, 2], []⟩,
   ⟨(some 29), .mv (.t 3), some (27, false), [0, 1, 2], []⟩,
   ⟨(some 30), .len false (.t 29), some (27, false), [0, 1, 2, 4], []⟩,
   ⟨(some 31), .bin .geq (.t 28) (.t 30), some (27, false), (u 6), []⟩,
   ⟨(some 32), .pick (.t 27) (.c (.bool true)) (.t 31), none, (u 7), []⟩,
   ⟨(some 33), .mv (.t 32), none, (u 8), []⟩,
   ⟨(some 34), .mv (.t 3), some (33, false), (u 9), []⟩,
   ⟨(some 35), .mv (.t 5), some (33, false), (u 9), []⟩,
   ⟨(some 36), .iaddr 2 (.t 34) (.t 35), some (33, false), (u 11), []⟩,
   ⟨(some 37), .faddr 0 (.t 36), some (33, false), (u 12), []⟩,
   ⟨(some 38), .load false 1 (.t 37), some (33, false), (u 13), []⟩,
   ⟨(some 39), .faddr 0 (.t 8), some (33, false), (u 9), []⟩,
   ⟨(some 40), .load false 1 (.t 39), some (33, false), (u 9 ++ [14]), []⟩,
   ⟨(some 41), .bin .neq (.t 38) (.t 40), some (33, false), (u 16), []⟩,
   ⟨(some 42), .pick (.t 33) (.c (.bool true)) (.t 41), none, (u 17), []⟩])
 (.cond (.t 42)
 (.seq
 (.region [] [⟨(some 12), .mv (.c (.int .i64 0)), none, [], []⟩,
   ⟨(some 13), .mv (.c (.int .i64 2)), none, [], []⟩])
 .ret)
 .skip))
 (.seq
 (.draw [3, 4, 5, 6, 7, 8] [⟨(some 43), .load true 4 (.t 6), none, [], []⟩,
   ⟨(some 44), .load true 4 (.t 7), none, [], []⟩,
   ⟨(some 45), .load true 3 (.t 8), none, [], []⟩,
   ⟨(some 46), .mv (.t 4), none, [], []⟩,
   ⟨(some 47), .mv (.t 3), none, [], []⟩,
   ⟨(some 48), .mv (.t 5), none, [], []⟩,
   ⟨(some 49), .iaddr 2 (.t 47) (.t 48), none, [4, 5], []⟩,
   ⟨(some 50), .faddr 1 (.t 49), none, [4, 5, 6], []⟩,
   ⟨(some 51), .load false 1 (.t 50), none, [4, 5, 6, 7], []⟩,
   ⟨(some 52), .call (.c (.fn 54 [])) [(.t 43), (.t 44), (.t 45), (.t 46), (.t 51)] false, none, (u 9), []⟩,
   ⟨(some 15), .mv (.t 52), none, (u 10), []⟩])
 (.seq
 (.seq
 (.region [15] [⟨(some 53), .mv (.t 15), none, [], []⟩,
   ⟨(some 54), .bin .lss (.t 53) (.c (.int .i64 0)), none, [], []⟩])
 (.cond (.t 54)
 (.seq
 (.region [] [⟨(some 12), .mv (.c (.int .i64 0)), none, [], []⟩,
   ⟨(some 13), .mv (.c (.int .i64 5)), none, [], []⟩])
 .ret)
 .skip))
 (.seq
 (.region [15] [⟨(some 55), .mv (.t 15), none, [], []⟩,
   ⟨(some 12), .mv (.t 55), none, [], []⟩,
   ⟨(some 13), .mv (.c (.int .i64 0)), none, [], []⟩])
 .ret)))))), false, false⟩
/-- progeny/progenyref19.Children -/
def c23 : CFn := ⟨47, [.t 12, .t 13],
 (.seq
 (.region [0, 1, 2, 3, 4, 5] [⟨(some 6), .box 25 4 (.t 0), none, [], []⟩,
   ⟨(some 7), .box 25 4 (.t 1), none, [], []⟩,
   ⟨(some 8), .box 27 3 (.t 2), none, [], []⟩,
   ⟨(some 12), .mv (.c (.nils)), none, [], []⟩,
   ⟨(some 13), .mv (.c (.int .i64 0)), none, [], []⟩])
 (.seq
 (.seq
 (.region [3, 4, 5, 6, 7, 8] [⟨(some 15), .load true 4 (.t 6), none, [], []⟩,
   ⟨(some 16), .load true 4 (.t 7), none, [], []⟩,
   ⟨(some 17), .load true 3 (.t 8), none, [], []⟩,
   ⟨(some 18), .mv (.t 3), none, [], []⟩,
   ⟨(some 19), .mv (.t 4), none, [], []⟩,
   ⟨(some 20), .call (.c (.fn 18 [])) [(.t 15), (.t 16), (.t 17), (.t 18), (.t 19)] false, none, [], []⟩,
   ⟨(some 14), .mv (.t 20), none, [], []⟩])
 (.seq
 (.region [3, 4, 5, 6, 7, 8, 14] [⟨(some 21), .mv (.t 14), none, [], []⟩,
   ⟨(some 22), .bin .neq (.t 21) (.c (.int .i64 0)), none, [], []⟩])
 (.cond (.t 22)
 (.seq
 (.region [14] [⟨(some 23), .mv (.t 14), none, [], []⟩,
   ⟨(some 12), .mv (.c (.nils)), none, [], []⟩,
   ⟨(some 13), .mv (.t 23), none, [], []⟩])
 .ret)
 .skip)))
 (.seq
 (.seq
 (.region [3, 4, 5, 6, 7, 8] [⟨(some 24), .mv (.t 5), none, [], []⟩,
   ⟨(some 25), .bin .lss (.t 24) (.c (.int .i64 0)), none, [], []⟩,
   ⟨(some 26), .mv (.t 25), none, [], []⟩,
   ⟨(some 27), .mv (.t 5), some (26, false), [], []⟩,
   ⟨(some 28), .mv (.t 4), some (26, false), [], []⟩,
   ⟨(some 29), .len false (.t 28), some (26, false), [], []⟩,
   ⟨(some 30), .bin .geq (.t 27) (.t 29), some (26, false), [], []⟩,
   ⟨(some 31), .pick (.t 26) (.c (.bool true)) (.t 30), none, [], []⟩,
   ⟨(some 32), .mv (.t 31), none, [], []⟩,
   ⟨(some 33), .mv (.t 4), some (32, false), [], []⟩,
   ⟨(some 34), .mv (.t 5), some (32, false), [], []⟩,
   ⟨(some 35), .iaddr 2 (.t 33) (.t 34), some (32, false), [], []⟩,
   ⟨(some 36), .faddr 0 (.t 35), some (32, false), [], []⟩,
   ⟨(some 37), .load false 1 (.t 36), some (32, false), [], []⟩,
   ⟨(some 38), .bin .neq (.t 37) (.c (.int .i64 0)), some (32, false), [], []⟩,
   ⟨(some 39), .pick (.t 32) (.c (.bool true)) (.t 38), none, [], []⟩])
 (.cond (.t 39)
 (.seq
 (.region [] [⟨(some 12), .mv (.c (.nils)), none, [], []⟩,
   ⟨(some 13), .mv (.c (.int .i64 2)), none, [], []⟩])
 .ret)
 .skip))
 (.seq
 (.region [3, 4, 5, 6, 7, 8] [⟨(some 40), .load true 4 (.t 6), none, [], []⟩,
   ⟨(some 41), .load true 4 (.t 7), none, [], []⟩,
   ⟨(some 42), .load true 3 (.t 8), none, [], []⟩,
   ⟨(some 43), .mv (.t 3), none, [], []⟩,
   ⟨(some 44), .mv (.t 4), none, [], []⟩,
   ⟨(some 45), .mv (.t 5), none, [], []⟩,
   ⟨(some 46), .call (.c (.fn 40 [])) [(.t 40), (.t 41), (.t 42), (.t 43), (.t 44), (.t 45)] true, none, [], []⟩,
   ⟨(some 12), .mv (.t 46), none, [], []⟩,
   ⟨(some 13), .mv (.c (.int .i64 0)), none, [], []⟩])
 .ret)))), false, false⟩
def c24_l0 : CC :=
 (.seq
 (.seq
 (.region [0, 1, 5] [⟨(some 11), .mv (.t 5), none, [], []⟩,
   ⟨(some 12), .mv (.t 0), none, [], []⟩,
   ⟨(some 13), .len false (.t 12), none, [], []⟩,
   ⟨(some 14), .bin .lss (.t 11) (.t 13), none, [], []⟩])
 (.cond (.t 14)
 .skip
 (.exit 0)))
 (.seq
 (.block 1
 (.seq
 (.draw [0, 1, 5] [⟨(some 17), .mv (.t 0), none, [], []⟩,
   ⟨(some 18), .mv (.t 5), none, [], []⟩,
   ⟨(some 19), .iaddr 1 (.t 17) (.t 18), none, [0, 1], []⟩,
   ⟨(some 20), .load false 1 (.t 19), none, [0, 1, 2], []⟩,
   ⟨(some 21), .mv (.t 1), none, [], []⟩,
   ⟨(some 22), .mv (.t 5), none, [], []⟩,
   ⟨(some 23), .iaddr 1 (.t 21) (.t 22), none, [4, 5], []⟩,
   ⟨(some 24), .load false 1 (.t 23), none, [4, 5, 6], []⟩,
   ⟨(some 25), .bin .neq (.t 20) (.t 24), none, (u 8), []⟩])
 (.cond (.t 25)
 (.seq
 (.region [] [⟨(some 4), .mv (.c (.bool false)), none, [], []⟩])
 .ret)
 .skip)))
 (.region [0, 1, 5] [⟨(some 15), .mv (.t 5), none, [], []⟩,
   ⟨(some 16), .bin .add (.t 15) (.c (.int .i64 1)), none, [], []⟩,
   ⟨(some 5), .mv (.t 16), none, [], []⟩])))
/-- progeny/progenyref01.SameInts -/
def c24 : CFn := ⟨26, [.t 4],
 (.seq
 (.region [0, 1] [⟨(some 4), .mv (.c (.bool false)), none, [], []⟩])
 (.seq
 (.seq
 (.region [0, 1] [⟨(some 6), .mv (.t 0), none, [], []⟩,
   ⟨(some 7), .len false (.t 6), none, [], []⟩,
   ⟨(some 8), .mv (.t 1), none, [], []⟩,
   ⟨(some 9), .len false (.t 8), none, [], []⟩,
   ⟨(some 10), .bin .neq (.t 7) (.t 9), none, [], []⟩])
 (.cond (.t 10)
 (.seq
 (.region [] [⟨(some 4), .mv (.c (.bool false)), none, [], []⟩])
 .ret)
 .skip))
 (.seq
 (.seq
 (.region [0, 1] [⟨(some 5), .mv (.c (.int .i64 0)), none, [], []⟩])
 (.block 0
 (.loop c24_l0)))
 (.seq
 (.region [] [⟨(some 4), .mv (.c (.bool true)), none, [], []⟩])
 .ret)))), false, false⟩
/-- progeny/logic.Joined -/
def c28 : CFn := ⟨40, [.t 12, .t 13],
 (.seq
 (.region [0, 1, 2, 3, 4, 5] [⟨(some 6), .box 25 4 (.t 0), none, [], []⟩,
   ⟨(some 7), .box 25 4 (.t 1), none, [], []⟩,
   ⟨(some 8), .box 27 3 (.t 2), none, [], []⟩,
   ⟨(some 12), .mv (.c (.str ⟨#[]⟩)), none, [], []⟩,
   ⟨(some 13), .mv (.c (.int .i64 0)), none, [], []⟩])
 (.seq
 (.region [3, 4, 5, 6, 7, 8] [⟨(some 17), .load true 4 (.t 6), none, [], []⟩,
   ⟨(some 18), .load true 4 (.t 7), none, [], []⟩,
   ⟨(some 19), .load true 3 (.t 8), none, [], []⟩,
   ⟨(some 20), .mv (.t 3), none, [], []⟩,
   ⟨(some 21), .mv (.t 4), none, [], []⟩,
   ⟨(some 22), .mv (.t 5), none, [], []⟩,
   ⟨(some 23), .call (.c (.fn 20 [])) [(.t 17), (.t 18), (.t 19), (.t 20), (.t 21), (.t 22)] false, none, [], []⟩,
   ⟨(some 16), .mv (.t 23), none, [], []⟩,
   ⟨(some 24), .extract (.t 16) 0, none, [], []⟩,
   ⟨(some 25), .extract (.t 16) 1, none, [], []⟩,
   ⟨(some 14), .mv (.t 24), none, [], []⟩,
   ⟨(some 15), .mv (.t 25), none, [], []⟩])
 (.seq
 (.seq
 (.region [3, 4, 5, 14, 15] [⟨(some 26), .mv (.t 15), none, [], []⟩,
   ⟨(some 27), .bin .neq (.t 26) (.c (.int .i64 0)), none, [], []⟩])
 (.cond (.t 27)
 (.seq
 (.region [15] [⟨(some 28), .mv (.t 15), none, [], []⟩,
   ⟨(some 12), .mv (.c (.str ⟨#[]⟩)), none, [], []⟩,
   ⟨(some 13), .mv (.t 28), none, [], []⟩])
 .ret)
 .skip))
 (.seq
 (.draw [3, 4, 5, 14] [⟨(some 29), .mv (.t 3), none, [], []⟩,
   ⟨(some 30), .mv (.t 5), none, [], []⟩,
   ⟨(some 31), .iaddr 2 (.t 29) (.t 30), none, [0, 1], []⟩,
   ⟨(some 32), .faddr 1 (.t 31), none, [0, 1, 2], []⟩,
   ⟨(some 33), .load false 1 (.t 32), none, (u 4), []⟩,
   ⟨(some 34), .mv (.t 4), none, [], []⟩,
   ⟨(some 35), .mv (.t 14), none, [], []⟩,
   ⟨(some 36), .iaddr 2 (.t 34) (.t 35), none, [5, 6], []⟩,
   ⟨(some 37), .faddr 1 (.t 36), none, [5, 6, 7], []⟩,
   ⟨(some 38), .load false 1 (.t 37), none, [5, 6, 7, 8], []⟩,
   ⟨(some 39), .bin .add (.t 33) (.t 38), none, (u 10), []⟩,
   ⟨(some 12), .mv (.t 39), none, (u 11), []⟩,
   ⟨(some 13), .mv (.c (.int .i64 0)), none, (u 12), []⟩])
 .ret)))), false, false⟩
/-- progeny/progenyref19.Joined -/
def c29 : CFn := ⟨40, [.t 12, .t 13],
 (.seq
 (.region [0, 1, 2, 3, 4, 5] [⟨(some 6), .box 25 4 (.t 0), none, [], []⟩,
   ⟨(some 7), .box 25 4 (.t 1), none, [], []⟩,
   ⟨(some 8), .box 27 3 (.t 2), none, [], []⟩,
   ⟨(some 12), .mv (.c (.str ⟨#[]⟩)), none, [], []⟩,
   ⟨(some 13), .mv (.c (.int .i64 0)), none, [], []⟩])
 (.seq
 (.region [3, 4, 5, 6, 7, 8] [⟨(some 17), .load true 4 (.t 6), none, [], []⟩,
   ⟨(some 18), .load true 4 (.t 7), none, [], []⟩,
   ⟨(some 19), .load true 3 (.t 8), none, [], []⟩,
   ⟨(some 20), .mv (.t 3), none, [], []⟩,
   ⟨(some 21), .mv (.t 4), none, [], []⟩,
   ⟨(some 22), .mv (.t 5), none, [], []⟩,
   ⟨(some 23), .call (.c (.fn 22 [])) [(.t 17), (.t 18), (.t 19), (.t 20), (.t 21), (.t 22)] false, none, [], []⟩,
   ⟨(some 16), .mv (.t 23), none, [], []⟩,
   ⟨(some 24), .extract (.t 16) 0, none, [], []⟩,
   ⟨(some 25), .extract (.t 16) 1, none, [], []⟩,
   ⟨(some 14), .mv (.t 24), none, [], []⟩,
   ⟨(some 15), .mv (.t 25), none, [], []⟩])
 (.seq
 (.seq
 (.region [3, 4, 5, 14, 15] [⟨(some 26), .mv (.t 15), none, [], []⟩,
   ⟨(some 27), .bin .neq (.t 26) (.c (.int .i64 0)), none, [], []⟩])
 (.cond (.t 27)
 (.seq
 (.region [15] [⟨(some 28), .mv (.t 15), none, [], []⟩,
   ⟨(some 12), .mv (.c (.str ⟨#[]⟩)), none, [], []⟩,
   ⟨(some 13), .mv (.t 28), none, [], []⟩])
 .ret)
 .skip))
 (.seq
 (.draw [3, 4, 5, 14] [⟨(some 29), .mv (.t 3), none, [], []⟩,
   ⟨(some 30), .mv (.t 5), none, [], []⟩,
   ⟨(some 31), .iaddr 2 (.t 29) (.t 30), none, [0, 1], []⟩,
   ⟨(some 32), .faddr 1 (.t 31), none, [0, 1, 2], []⟩,
   ⟨(some 33), .load false 1 (.t 32), none, (u 4), []⟩,
   ⟨(some 34), .mv (.t 4), none, [], []⟩,
   ⟨(some 35), .mv (.t 14), none, [], []⟩,
   ⟨(some 36), .iaddr 2 (.t 34) (.t 35), none, [5, 6], []⟩,
   ⟨(some 37), .faddr 1 (.t 36), none, [5, 6, 7], []⟩,
   ⟨(some 38), .load false 1 (.t 37), none, [5, 6, 7, 8], []⟩,
   ⟨(some 39), .bin .add (.t 33) (.t 38), none, (u 10), []⟩,
   ⟨(some 12), .mv (.t 39), none, (u 11), []⟩,
   ⟨(some 13), .mv (.c (.int .i64 0)), none, (u 12), []⟩])
 .ret)))), false, false⟩
def c30_l0 : CC :=
 (.seq
 (.region [3, 6, 16, 37, 38, 39] [⟨(some 40), .bin .lss (.t 39) (.t 38), none, [], []⟩])
 (.seq
 (.cond (.t 40)
 .skip
 (.exit 0))
 (.seq
 (.block 1
 (.seq
 (.region [3, 6, 16, 37, 38, 39] [⟨(some 41), .iaddr 1 (.t 37) (.t 39), none, [], []⟩,
   ⟨(some 42), .load false 1 (.t 41), none, [], []⟩,
   ⟨(some 18), .mv (.t 42), none, [], []⟩])
 (.seq
 (.region [3, 6, 16, 18, 37, 38, 39] [⟨(some 44), .load true 4 (.t 6), none, [], []⟩,
   ⟨(some 45), .mv (.t 3), none, [], []⟩,
   ⟨(some 46), .mv (.t 18), none, [], []⟩,
   ⟨(some 47), .call (.c (.fn 55 [])) [(.t 44), (.t 45), (.t 46)] true, none, [], []⟩,
   ⟨(some 43), .mv (.t 47), none, [], []⟩,
   ⟨(some 48), .extract (.t 43) 0, none, [], []⟩,
   ⟨(some 49), .extract (.t 43) 1, none, [], []⟩,
   ⟨(some 19), .mv (.t 48), none, [], []⟩,
   ⟨(some 20), .mv (.t 49), none, [], []⟩])
 (.seq
 (.region [3, 6, 16, 19, 37, 38, 39] [⟨(some 50), .mv (.t 19), none, [], []⟩,
   ⟨(some 51), .iaddr 1 (.t 50) (.c (.int .i64 0)), none, [], []⟩,
   ⟨(some 52), .load false 1 (.t 51), none, [], []⟩,
   ⟨(some 21), .mv (.t 52), none, [], []⟩])
 (.seq
 (.region [3, 6, 16, 21, 37, 38, 39] [⟨(some 53), .mv (.t 16), none, [], []⟩,
   ⟨(some 54), .mv (.t 21), none, [], []⟩,
   ⟨(some 55), .call (.c (.fn 56 [])) [(.t 53), (.t 54)] false, none, [], []⟩,
   ⟨(some 56), .un .not (.t 55), none, [], []⟩])
 (.cond (.t 56)
 (.region [3, 6, 16, 21, 37, 38, 39] [⟨(some 57), .mv (.t 16), none, [], []⟩,
   ⟨(some 58), .mv (.t 21), none, [], []⟩,
   ⟨(some 59), .bslice 3 1 [[.int .i64 0]] [(0, (.t 58))], none, [], []⟩,
   ⟨(some 60), .app 3 1 8 false (.t 57) (.t 59), none, [], []⟩,
   ⟨(some 16), .mv (.t 60), none, [], []⟩])
 .skip))))))
 (.region [3, 6, 16, 37, 38, 39] [⟨(some 61), .bin .add (.t 39) (.c (.int .i64 1)), none, [], []⟩,
   ⟨(some 39), .mv (.t 61), none, [], []⟩]))))
/-- progeny/logic.Cross -/
def c30 : CFn := ⟨63, [.t 12, .t 13],
 (.seq
 (.region [0, 1, 2, 3, 4, 5] [⟨(some 6), .box 25 4 (.t 0), none, [], []⟩,
   ⟨(some 7), .box 25 4 (.t 1), none, [], []⟩,
   ⟨(some 8), .box 27 3 (.t 2), none, [], []⟩,
   ⟨(some 12), .mv (.c (.nils)), none, [], []⟩,
   ⟨(some 13), .mv (.c (.int .i64 0)), none, [], []⟩])
 (.seq
 (.region [3, 4, 5, 6, 7, 8] [⟨(some 23), .load true 4 (.t 6), none, [], []⟩,
   ⟨(some 24), .load true 4 (.t 7), none, [], []⟩,
   ⟨(some 25), .load true 3 (.t 8), none, [], []⟩,
   ⟨(some 26), .mv (.t 3), none, [], []⟩,
   ⟨(some 27), .mv (.t 4), none, [], []⟩,
   ⟨(some 28), .mv (.t 5), none, [], []⟩,
   ⟨(some 29), .call (.c (.fn 50 [])) [(.t 23), (.t 24), (.t 25), (.t 26), (.t 27), (.t 28)] false, none, [], []⟩,
   ⟨(some 22), .mv (.t 29), none, [], []⟩,
   ⟨(some 30), .extract (.t 22) 0, none, [], []⟩,
   ⟨(some 31), .extract (.t 22) 1, none, [], []⟩,
   ⟨(some 14), .mv (.t 30), none, [], []⟩,
   ⟨(some 15), .mv (.t 31), none, [], []⟩])
 (.seq
 (.seq
 (.region [3, 5, 6, 14, 15] [⟨(some 32), .mv (.t 15), none, [], []⟩,
   ⟨(some 33), .bin .neq (.t 32) (.c (.int .i64 0)), none, [], []⟩])
 (.cond (.t 33)
 (.seq
 (.region [15] [⟨(some 34), .mv (.t 15), none, [], []⟩,
   ⟨(some 12), .mv (.c (.nils)), none, [], []⟩,
   ⟨(some 13), .mv (.t 34), none, [], []⟩])
 .ret)
 .skip))
 (.seq
 (.region [3, 5, 6, 14] [⟨(some 16), .mv (.c (.nils)), none, [], []⟩])
 (.seq
 (.seq
 (.region [3, 5, 6, 14, 16] [⟨(some 35), .mv (.t 14), none, [], []⟩,
   ⟨(some 36), .mv (.t 5), none, [], []⟩,
   ⟨(some 37), .call (.c (.fn 38 [])) [(.t 35), (.t 36)] true, none, [], []⟩,
   ⟨(some 38), .len false (.t 37), none, [], []⟩,
   ⟨(some 39), .mv (.c (.int .i64 0)), none, [], []⟩])
 (.block 0
 (.loop c30_l0)))
 (.seq
 (.region [16] [⟨(some 62), .mv (.t 16), none, [], []⟩,
   ⟨(some 12), .mv (.t 62), none, [], []⟩,
   ⟨(some 13), .mv (.c (.int .i64 0)), none, [], []⟩])
 .ret)))))), false, false⟩
def c31_l0 : CC :=
 (.seq
 (.seq
 (.region [3, 6, 14, 16, 17] [⟨(some 32), .mv (.t 17), none, [], []⟩,
   ⟨(some 33), .mv (.t 14), none, [], []⟩,
   ⟨(some 34), .len false (.t 33), none, [], []⟩,
   ⟨(some 35), .bin .lss (.t 32) (.t 34), none, [], []⟩])
 (.cond (.t 35)
 .skip
 (.exit 0)))
 (.seq
 (.block 1
 (.seq
 (.draw [3, 6, 14, 16, 17] [⟨(some 38), .load true 4 (.t 6), none, [], []⟩,
   ⟨(some 39), .mv (.t 3), none, [], []⟩,
   ⟨(some 40), .mv (.t 14), none, [], []⟩,
   ⟨(some 41), .mv (.t 17), none, [], []⟩,
   ⟨(some 42), .iaddr 1 (.t 40) (.t 41), none, [2, 3], []⟩,
   ⟨(some 43), .load false 1 (.t 42), none, [2, 3, 4], []⟩,
   ⟨(some 44), .call (.c (.fn 57 [])) [(.t 38), (.t 39), (.t 43)] true, none, (u 6), []⟩,
   ⟨(some 45), .iaddr 1 (.t 44) (.c (.int .i64 0)), none, (u 7), []⟩,
   ⟨(some 46), .load false 1 (.t 45), none, (u 8), []⟩,
   ⟨(some 18), .mv (.t 46), none, (u 9), []⟩])
 (.seq
 (.region [3, 6, 14, 16, 17, 18] [⟨(some 47), .mv (.t 16), none, [], []⟩,
   ⟨(some 48), .len false (.t 47), none, [], []⟩,
   ⟨(some 49), .bin .eql (.t 48) (.c (.int .i64 0)), none, [], []⟩,
   ⟨(some 50), .mv (.t 49), none, [], []⟩,
   ⟨(some 51), .mv (.t 16), some (50, false), [], []⟩,
   ⟨(some 52), .mv (.t 16), some (50, false), [], []⟩,
   ⟨(some 53), .len false (.t 52), some (50, false), [], []⟩,
   ⟨(some 54), .bin .sub (.t 53) (.c (.int .i64 1)), some (50, false), [], []⟩,
   ⟨(some 55), .iaddr 1 (.t 51) (.t 54), some (50, false), [], []⟩,
   ⟨(some 56), .load false 1 (.t 55), some (50, false), [], []⟩,
   ⟨(some 57), .mv (.t 18), some (50, false), [], []⟩,
   ⟨(some 58), .bin .neq (.t 56) (.t 57), some (50, false), [], []⟩,
   ⟨(some 59), .pick (.t 50) (.c (.bool true)) (.t 58), none, [], []⟩])
 (.cond (.t 59)
 (.region [3, 6, 14, 16, 17, 18] [⟨(some 60), .mv (.t 16), none, [], []⟩,
   ⟨(some 61), .mv (.t 18), none, [], []⟩,
   ⟨(some 62), .bslice 3 1 [[.int .i64 0]] [(0, (.t 61))], none, [], []⟩,
   ⟨(some 63), .app 3 1 8 false (.t 60) (.t 62), none, [], []⟩,
   ⟨(some 16), .mv (.t 63), none, [], []⟩])
 .skip))))
 (.region [3, 6, 14, 16, 17] [⟨(some 36), .mv (.t 17), none, [], []⟩,
   ⟨(some 37), .bin .add (.t 36) (.c (.int .i64 1)), none, [], []⟩,
   ⟨(some 17), .mv (.t 37), none, [], []⟩])))
/-- progeny/progenyref19.Cross -/
def c31 : CFn := ⟨65, [.t 12, .t 13],
 (.seq
 (.region [0, 1, 2, 3, 4, 5] [⟨(some 6), .box 25 4 (.t 0), none, [], []⟩,
   ⟨(some 7), .box 25 4 (.t 1), none, [], []⟩,
   ⟨(some 8), .box 27 3 (.t 2), none, [], []⟩,
   ⟨(some 12), .mv (.c (.nils)), none, [], []⟩,
   ⟨(some 13), .mv (.c (.int .i64 0)), none, [], []⟩])
 (.seq
 (.region [3, 4, 5, 6, 7, 8] [⟨(some 20), .load true 4 (.t 6), none, [], []⟩,
   ⟨(some 21), .load true 4 (.t 7), none, [], []⟩,
   ⟨(some 22), .load true 3 (.t 8), none, [], []⟩,
   ⟨(some 23), .mv (.t 3), none, [], []⟩,
   ⟨(some 24), .mv (.t 4), none, [], []⟩,
   ⟨(some 25), .mv (.t 5), none, [], []⟩,
   ⟨(some 26), .call (.c (.fn 23 [])) [(.t 20), (.t 21), (.t 22), (.t 23), (.t 24), (.t 25)] true, none, [], []⟩,
   ⟨(some 19), .mv (.t 26), none, [], []⟩,
   ⟨(some 27), .extract (.t 19) 0, none, [], []⟩,
   ⟨(some 28), .extract (.t 19) 1, none, [], []⟩,
   ⟨(some 14), .mv (.t 27), none, [], []⟩,
   ⟨(some 15), .mv (.t 28), none, [], []⟩])
 (.seq
 (.seq
 (.region [3, 6, 14, 15] [⟨(some 29), .mv (.t 15), none, [], []⟩,
   ⟨(some 30), .bin .neq (.t 29) (.c (.int .i64 0)), none, [], []⟩])
 (.cond (.t 30)
 (.seq
 (.region [15] [⟨(some 31), .mv (.t 15), none, [], []⟩,
   ⟨(some 12), .mv (.c (.nils)), none, [], []⟩,
   ⟨(some 13), .mv (.t 31), none, [], []⟩])
 .ret)
 .skip))
 (.seq
 (.region [3, 6, 14] [⟨(some 16), .mv (.c (.nils)), none, [], []⟩])
 (.seq
 (.seq
 (.region [3, 6, 14, 16] [⟨(some 17), .mv (.c (.int .i64 0)), none, [], []⟩])
 (.block 0
 (.loop c31_l0)))
 (.seq
 (.region [16] [⟨(some 64), .mv (.t 16), none, [], []⟩,
   ⟨(some 12), .mv (.t 64), none, [], []⟩,
   ⟨(some 13), .mv (.c (.int .i64 0)), none, [], []⟩])
 .ret)))))), false, false⟩
def c33_l0 : CC :=
 (.seq
 (.seq
 (.region [1, 2, 5] [⟨(some 7), .mv (.t 5), none, [], []⟩,
   ⟨(some 8), .faddr 2 (.t 2), none, [], []⟩,
   ⟨(some 9), .load false 1 (.t 8), none, [], []⟩,
   ⟨(some 10), .len false (.t 9), none, [], []⟩,
   ⟨(some 11), .bin .lss (.t 7) (.t 10), none, [], []⟩])
 (.cond (.t 11)
 .skip
 (.exit 0)))
 (.seq
 (.block 1
 (.seq
 (.region [1, 2, 5] [⟨(some 14), .faddr 2 (.t 2), none, [], []⟩,
   ⟨(some 15), .load false 1 (.t 14), none, [], []⟩,
   ⟨(some 16), .mv (.t 5), none, [], []⟩,
   ⟨(some 17), .iaddr 8 (.t 15) (.t 16), none, [], []⟩,
   ⟨(some 18), .faddr 4 (.t 17), none, [], []⟩,
   ⟨(some 19), .load false 1 (.t 18), none, [], []⟩,
   ⟨(some 20), .len false (.t 19), none, [], []⟩,
   ⟨(some 21), .bin .gtr (.t 20) (.c (.int .i64 10)), none, [], []⟩])
 (.cond (.t 21)
 (.seq
 (.region [] [⟨(some 4), .mv (.c (.bool false)), none, [], []⟩])
 .ret)
 .skip)))
 (.region [1, 2, 5] [⟨(some 12), .mv (.t 5), none, [], []⟩,
   ⟨(some 13), .bin .add (.t 12) (.c (.int .i64 1)), none, [], []⟩,
   ⟨(some 5), .mv (.t 13), none, [], []⟩])))
def c33_l1 : CC :=
 (.seq
 (.seq
 (.region [1, 2, 6] [⟨(some 22), .mv (.t 6), none, [], []⟩,
   ⟨(some 23), .mv (.t 1), none, [], []⟩,
   ⟨(some 24), .len false (.t 23), none, [], []⟩,
   ⟨(some 25), .bin .lss (.t 22) (.t 24), none, [], []⟩])
 (.cond (.t 25)
 .skip
 (.exit 2)))
 (.seq
 (.block 3
 (.seq
 (.region [1, 2, 6] [⟨(some 28), .mv (.t 1), none, [], []⟩,
   ⟨(some 29), .mv (.t 6), none, [], []⟩,
   ⟨(some 30), .iaddr 2 (.t 28) (.t 29), none, [], []⟩,
   ⟨(some 31), .faddr 1 (.t 30), none, [], []⟩,
   ⟨(some 32), .load false 1 (.t 31), none, [], []⟩,
   ⟨(some 33), .len true (.t 32), none, [], []⟩,
   ⟨(some 34), .bin .gtr (.t 33) (.c (.int .i64 100)), none, [], []⟩])
 (.cond (.t 34)
 (.seq
 (.region [] [⟨(some 4), .mv (.c (.bool false)), none, [], []⟩])
 .ret)
 .skip)))
 (.region [1, 2, 6] [⟨(some 26), .mv (.t 6), none, [], []⟩,
   ⟨(some 27), .bin .add (.t 26) (.c (.int .i64 1)), none, [], []⟩,
   ⟨(some 6), .mv (.t 27), none, [], []⟩])))
/-- progeny/progenylaw13.Small -/
def c33 : CFn := ⟨50, [.t 4],
 (.seq
 (.region [0, 1] [⟨(some 2), .box 25 4 (.t 0), none, [], []⟩,
   ⟨(some 4), .mv (.c (.bool false)), none, [], []⟩])
 (.seq
 (.seq
 (.region [1, 2] [⟨(some 5), .mv (.c (.int .i64 0)), none, [], []⟩])
 (.block 0
 (.loop c33_l0)))
 (.seq
 (.seq
 (.region [1, 2] [⟨(some 6), .mv (.c (.int .i64 0)), none, [], []⟩])
 (.block 2
 (.loop c33_l1)))
 (.seq
 (.region [1, 2] [⟨(some 35), .faddr 2 (.t 2), none, [], []⟩,
   ⟨(some 36), .load false 1 (.t 35), none, [], []⟩,
   ⟨(some 37), .len false (.t 36), none, [], []⟩,
   ⟨(some 38), .bin .leq (.t 37) (.c (.int .i64 12)), none, [], []⟩,
   ⟨(some 39), .mv (.t 38), none, [], []⟩,
   ⟨(some 40), .faddr 3 (.t 2), some (39, true), [], []⟩,
   ⟨(some 41), .load false 1 (.t 40), some (39, true), [], []⟩,
   ⟨(some 42), .len false (.t 41), some (39, true), [], []⟩,
   ⟨(some 43), .bin .leq (.t 42) (.c (.int .i64 6)), some (39, true), [], []⟩,
   ⟨(some 44), .pick (.t 39) (.t 43) (.c (.bool false)), none, [], []⟩,
   ⟨(some 45), .mv (.t 44), none, [], []⟩,
   ⟨(some 46), .mv (.t 1), some (45, true), [], []⟩,
   ⟨(some 47), .len false (.t 46), some (45, true), [], []⟩,
   ⟨(some 48), .bin .leq (.t 47) (.c (.int .i64 60)), some (45, true), [], []⟩,
   ⟨(some 49), .pick (.t 45) (.t 48) (.c (.bool false)), none, [], []⟩,
   ⟨(some 4), .mv (.t 49), none, [], []⟩])
 .ret)))), false, false⟩
/-- progeny/progenylaw19.shops -/
def c34 : CFn := ⟨21, [.cell 2 true 13],
 (.seq
 (.region [0] [⟨(some 2), .box 30 13 (.c (.agg [.str ⟨#[]⟩, .int .i64 0, .nils, .nils, .str ⟨#[]⟩, .int .i64 0, .nils, .nils, .int .i64 0, .int .i64 0, .str ⟨#[]⟩, .nils, .nils])), none, [], []⟩])
 (.seq
 (.region [0, 2] [⟨(some 5), .call (.c (.fn 60 [])) [] true, none, [], []⟩,
   ⟨(some 6), .call (.c (.fn 60 [])) [] true, none, [], []⟩,
   ⟨(some 3), .box 25 4 (.c (.agg [.str ⟨#[]⟩, .int .i64 0, .nils, .nils])), none, [], []⟩,
   ⟨(some 4), .box 25 4 (.c (.agg [.str ⟨#[]⟩, .int .i64 0, .nils, .nils])), none, [], []⟩,
   ⟨none, .store 4 (.t 3) (.t 5), none, [], []⟩,
   ⟨none, .store 4 (.t 4) (.t 6), none, [], []⟩])
 (.seq
 (.region [0, 2, 3, 4] [⟨(some 7), .faddr 0 (.t 4), none, [], []⟩,
   ⟨none, .store 1 (.t 7) (.c (.str ⟨#[80, 65, 82, 84, 83]⟩)), none, [], []⟩])
 (.seq
 (.region [0, 2, 3, 4] [⟨(some 8), .load true 4 (.t 3), none, [], []⟩,
   ⟨(some 9), .load true 4 (.t 4), none, [], []⟩,
   ⟨(some 10), .mv (.t 0), none, [], []⟩,
   ⟨(some 11), .build [.int .i64 0, .int .i64 0, .str ⟨#[]⟩] [(0, 1, (.c (.int .i64 1))), (1, 1, (.c (.int .i64 0))), (2, 1, (.t 10))], none, [], []⟩,
   ⟨(some 12), .build [.int .i64 0, .str ⟨#[]⟩] [(0, 1, (.c (.int .i64 0))), (1, 1, (.c (.str ⟨#[49]⟩)))], none, [], []⟩,
   ⟨(some 13), .build [.int .i64 0, .str ⟨#[]⟩] [(0, 1, (.c (.int .i64 1))), (1, 1, (.c (.str ⟨#[53]⟩)))], none, [], []⟩,
   ⟨(some 14), .build [.int .i64 0, .str ⟨#[]⟩] [(0, 1, (.c (.int .i64 1))), (1, 1, (.c (.str ⟨#[55]⟩)))], none, [], []⟩,
   ⟨(some 15), .bslice 44 2 [[.int .i64 0, .str ⟨#[]⟩], [.int .i64 0, .str ⟨#[]⟩], [.int .i64 0, .str ⟨#[]⟩]] [(0, (.t 12)), (1, (.t 13)), (2, (.t 14))], none, [], []⟩,
   ⟨(some 16), .build [.int .i64 0, .str ⟨#[]⟩] [(0, 1, (.c (.int .i64 0))), (1, 1, (.c (.str ⟨#[53]⟩)))], none, [], []⟩,
   ⟨(some 17), .build [.int .i64 0, .str ⟨#[]⟩] [(0, 1, (.c (.int .i64 0))), (1, 1, (.c (.str ⟨#[55]⟩)))], none, [], []⟩,
   ⟨(some 18), .build [.int .i64 0, .str ⟨#[]⟩] [(0, 1, (.c (.int .i64 0))), (1, 1, (.c (.str ⟨#[56]⟩)))], none, [], []⟩,
   ⟨(some 19), .bslice 44 2 [[.int .i64 0, .str ⟨#[]⟩], [.int .i64 0, .str ⟨#[]⟩], [.int .i64 0, .str ⟨#[]⟩]] [(0, (.t 16)), (1, (.t 17)), (2, (.t 18))], none, [], []⟩,
   ⟨(some 20), .build [.str ⟨#[]⟩, .int .i64 0, .nils, .nils, .str ⟨#[]⟩, .int .i64 0, .nils, .nils, .int .i64 0, .int .i64 0, .str ⟨#[]⟩, .nils, .nils] [(0, 4, (.t 8)), (4, 4, (.t 9)), (8, 3, (.t 11)), (11, 1, (.t 15)), (12, 1, (.t 19))], none, [], []⟩,
   ⟨none, .store 13 (.t 2) (.t 20), none, [], []⟩])
 .ret)))), false, false⟩
/-- progeny/logic.agreed -/
def c35 : CFn := ⟨32, [.t 10, .t 11],
 (.seq
 (.region [0, 1, 2, 3, 4] [⟨(some 5), .box 25 4 (.t 0), none, [], []⟩,
   ⟨(some 6), .box 25 4 (.t 1), none, [], []⟩,
   ⟨(some 7), .box 27 3 (.t 2), none, [], []⟩,
   ⟨(some 10), .mv (.c (.nilptr)), none, [], []⟩,
   ⟨(some 11), .mv (.c (.int .i64 0)), none, [], []⟩])
 (.seq
 (.region [3, 4, 5, 6, 7] [⟨(some 15), .load true 4 (.t 5), none, [], []⟩,
   ⟨(some 16), .load true 4 (.t 6), none, [], []⟩,
   ⟨(some 17), .load true 3 (.t 7), none, [], []⟩,
   ⟨(some 18), .mv (.t 3), none, [], []⟩,
   ⟨(some 19), .mv (.t 4), none, [], []⟩,
   ⟨(some 20), .call (.c (.fn 46 [])) [(.t 15), (.t 16), (.t 17), (.t 18), (.t 19)] false, none, [], []⟩,
   ⟨(some 14), .mv (.t 20), none, [], []⟩,
   ⟨(some 21), .extract (.t 14) 0, none, [], []⟩,
   ⟨(some 22), .extract (.t 14) 1, none, [], []⟩,
   ⟨(some 12), .mv (.t 21), none, [], []⟩,
   ⟨(some 13), .mv (.t 22), none, [], []⟩])
 (.seq
 (.block 0
 (.seq
 (.region [12, 13] [⟨(some 24), .mv (.t 13), none, [], []⟩,
   ⟨(some 25), .bin .neq (.t 24) (.c (.int .i64 0)), none, [], []⟩,
   ⟨(some 23), .mv (.t 25), none, [], []⟩])
 (.cond (.t 23)
 (.seq
 (.region [13] [⟨(some 26), .mv (.t 13), none, [], []⟩,
   ⟨(some 10), .mv (.c (.nilptr)), none, [], []⟩,
   ⟨(some 11), .mv (.t 26), none, [], []⟩])
 .ret)
 (.seq
 (.region [12] [⟨(some 28), .mv (.t 12), none, [], []⟩,
   ⟨(some 29), .call (.c (.fn 47 [])) [(.t 28)] false, none, [], []⟩,
   ⟨(some 30), .un .not (.t 29), none, [], []⟩,
   ⟨(some 27), .mv (.t 30), none, [], []⟩])
 (.cond (.t 27)
 (.seq
 (.region [] [⟨(some 10), .mv (.c (.nilptr)), none, [], []⟩,
   ⟨(some 11), .mv (.c (.int .i64 120)), none, [], []⟩])
 .ret)
 .skip)))))
 (.seq
 (.region [12] [⟨(some 31), .mv (.t 12), none, [], []⟩,
   ⟨(some 10), .mv (.t 31), none, [], []⟩,
   ⟨(some 11), .mv (.c (.int .i64 0)), none, [], []⟩])
 .ret)))), false, false⟩
/-- progeny/plain.Delete -/
def c36 : CFn := ⟨25, [.t 6, .t 7],
 (.seq
 (.region [0, 1, 2] [⟨(some 3), .box 25 4 (.t 0), none, [], []⟩,
   ⟨(some 6), .mv (.c (.nils)), none, [], []⟩,
   ⟨(some 7), .mv (.c (.int .i64 0)), none, [], []⟩])
 (.seq
 (.seq
 (.region [1, 2, 3] [⟨(some 9), .load true 4 (.t 3), none, [], []⟩,
   ⟨(some 10), .mv (.t 1), none, [], []⟩,
   ⟨(some 11), .mv (.t 2), none, [], []⟩,
   ⟨(some 12), .bslice 3 1 [[.int .i64 0]] [(0, (.t 11))], none, [], []⟩,
   ⟨(some 13), .call (.c (.fn 61 [])) [(.t 9), (.t 10), (.t 12)] false, none, [], []⟩,
   ⟨(some 8), .mv (.t 13), none, [], []⟩])
 (.seq
 (.region [1, 2, 3, 8] [⟨(some 14), .mv (.t 8), none, [], []⟩,
   ⟨(some 15), .bin .neq (.t 14) (.c (.int .i64 0)), none, [], []⟩])
 (.cond (.t 15)
 (.seq
 (.region [8] [⟨(some 16), .mv (.t 8), none, [], []⟩,
   ⟨(some 6), .mv (.c (.nils)), none, [], []⟩,
   ⟨(some 7), .mv (.t 16), none, [], []⟩])
 .ret)
 .skip)))
 (.seq
 (.draw [1, 2, 3] [⟨(some 17), .mv (.t 1), none, [], []⟩,
   ⟨(some 18), .call (.c (.fn 37 [])) [(.t 17)] false, none, [0], []⟩,
   ⟨(some 19), .mv (.t 2), none, [], []⟩,
   ⟨(some 20), .load true 4 (.t 3), none, [], [1]⟩,
   ⟨(some 21), .mv (.t 1), none, [], []⟩,
   ⟨(some 22), .mv (.t 2), none, [], []⟩,
   ⟨(some 23), .call (.c (.fn 63 [])) [(.t 20), (.t 21), (.t 22)] false, none, [0, 1, 3, 4, 5], []⟩,
   ⟨(some 24), .call (.c (.fn 62 [])) [(.t 18), (.t 19), (.t 23)] false, none, (u 7), []⟩,
   ⟨(some 6), .mv (.t 24), none, (u 8), []⟩,
   ⟨(some 7), .mv (.c (.int .i64 0)), none, (u 9), []⟩])
 .ret))), false, false⟩
/-- slices.Clone[[]progeny/api.Item,progeny/api.Item] -/
def c37 : CFn := ⟨8, [.t 2],
 (.seq
 (.region [0] [⟨(some 2), .mv (.c (.nils)), none, [], []⟩])
 (.seq
 (.seq
 (.region [0] [⟨(some 3), .mv (.t 0), none, [], []⟩,
   ⟨(some 4), .eqn false 1 (.t 3) (.c (.nils)), none, [], []⟩])
 (.cond (.t 4)
 (.seq
 (.region [] [⟨(some 2), .mv (.c (.nils)), none, [], []⟩])
 .ret)
 .skip))
 (.seq
 (.region [0] [⟨(some 5), .bslice 44 2 [] [], none, [], []⟩,
   ⟨(some 6), .mv (.t 0), none, [], []⟩,
   ⟨(some 7), .app 44 2 24 false (.t 5) (.t 6), none, [], []⟩,
   ⟨(some 2), .mv (.t 7), none, [], []⟩])
 .ret))), true, false⟩
def c38_l0 : CC :=
 (.seq
 (.region [0, 5, 7, 29, 30] [⟨(some 31), .bin .lss (.t 30) (.t 29), none, [], []⟩])
 (.seq
 (.cond (.t 31)
 .skip
 (.exit 0))
 (.seq
 (.block 1
 (.seq
 (.region [0, 5, 7, 29, 30] [⟨(some 32), .mv (.t 30), none, [], []⟩,
   ⟨(some 8), .mv (.t 32), none, [], []⟩])
 (.seq
 (.region [0, 5, 7, 8, 29, 30] [⟨(some 33), .mv (.t 0), none, [], []⟩,
   ⟨(some 34), .mv (.t 8), none, [], []⟩,
   ⟨(some 35), .call (.c (.fn 51 [])) [(.t 33), (.t 34)] false, none, [], []⟩,
   ⟨(some 36), .mv (.t 35), none, [], []⟩,
   ⟨(some 37), .mv (.t 0), some (36, true), [], []⟩,
   ⟨(some 38), .mv (.t 0), some (36, true), [], []⟩,
   ⟨(some 39), .nilck (.t 38), some (36, true), [], []⟩,
   ⟨(some 40), .faddr 11 (.t 39), some (36, true), [], []⟩,
   ⟨(some 41), .load false 1 (.t 40), some (36, true), [], []⟩,
   ⟨(some 42), .mv (.t 8), some (36, true), [], []⟩,
   ⟨(some 43), .iaddr 2 (.t 41) (.t 42), some (36, true), [], []⟩,
   ⟨(some 44), .faddr 1 (.t 43), some (36, true), [], []⟩,
   ⟨(some 45), .load false 1 (.t 44), some (36, true), [], []⟩,
   ⟨(some 46), .call (.c (.fn 65 [])) [(.t 37), (.t 45)] false, some (36, true), [], []⟩,
   ⟨(some 47), .mv (.t 5), some (36, true), [], []⟩,
   ⟨(some 48), .bin .eql (.t 46) (.t 47), some (36, true), [], []⟩,
   ⟨(some 49), .pick (.t 36) (.t 48) (.c (.bool false)), none, [], []⟩])
 (.cond (.t 49)
 (.region [0, 5, 7, 8, 29, 30] [⟨(some 50), .mv (.t 7), none, [], []⟩,
   ⟨(some 51), .mv (.t 8), none, [], []⟩,
   ⟨(some 52), .bslice 3 1 [[.int .i64 0]] [(0, (.t 51))], none, [], []⟩,
   ⟨(some 53), .app 3 1 8 false (.t 50) (.t 52), none, [], []⟩,
   ⟨(some 7), .mv (.t 53), none, [], []⟩])
 .skip))))
 (.region [0, 5, 7, 29, 30] [⟨(some 54), .bin .add (.t 30) (.c (.int .i64 1)), none, [], []⟩,
   ⟨(some 30), .mv (.t 54), none, [], []⟩]))))
/-- (*progeny/logic.pair).children -/
def c38 : CFn := ⟨56, [.t 4],
 (.seq
 (.region [0, 1] [⟨(some 4), .mv (.c (.nils)), none, [], []⟩])
 (.seq
 (.draw [0, 1] [⟨(some 10), .mv (.t 0), none, [], []⟩,
   ⟨(some 11), .nilck (.t 10), none, [0], []⟩,
   ⟨(some 12), .faddr 4 (.t 11), none, [0, 1], []⟩,
   ⟨(some 13), .load true 4 (.t 12), none, [0, 1, 2], []⟩,
   ⟨(some 14), .mv (.t 0), none, [], []⟩,
   ⟨(some 15), .nilck (.t 14), none, [4], []⟩,
   ⟨(some 16), .faddr 12 (.t 15), none, [4, 5], []⟩,
   ⟨(some 17), .load false 1 (.t 16), none, [4, 5, 6], []⟩,
   ⟨(some 18), .mv (.t 1), none, [], []⟩,
   ⟨(some 19), .iaddr 2 (.t 17) (.t 18), none, [4, 5, 6, 7, 8], []⟩,
   ⟨(some 20), .faddr 1 (.t 19), none, [4, 5, 6, 7, 8, 9], []⟩,
   ⟨(some 21), .load false 1 (.t 20), none, [4, 5, 6, 7, 8, 9, 10], []⟩,
   ⟨(some 22), .call (.c (.fn 64 [])) [(.t 13), (.c (.int .i64 0)), (.t 21)] false, none, (u 12), []⟩,
   ⟨(some 9), .mv (.t 22), none, (u 13), []⟩,
   ⟨(some 23), .extract (.t 9) 0, none, (u 14), []⟩,
   ⟨(some 24), .extract (.t 9) 1, none, (u 14), []⟩,
   ⟨(some 5), .mv (.t 23), none, (u 15), []⟩,
   ⟨(some 6), .mv (.t 24), none, (u 17), []⟩])
 (.seq
 (.region [0, 5] [⟨(some 7), .mv (.c (.nils)), none, [], []⟩])
 (.seq
 (.seq
 (.region [0, 5, 7] [⟨(some 25), .mv (.t 0), none, [], []⟩,
   ⟨(some 26), .nilck (.t 25), none, [], []⟩,
   ⟨(some 27), .faddr 11 (.t 26), none, [], []⟩,
   ⟨(some 28), .load false 1 (.t 27), none, [], []⟩,
   ⟨(some 29), .len false (.t 28), none, [], []⟩,
   ⟨(some 30), .mv (.c (.int .i64 0)), none, [], []⟩])
 (.block 0
 (.loop c38_l0)))
 (.seq
 (.region [7] [⟨(some 55), .mv (.t 7), none, [], []⟩,
   ⟨(some 4), .mv (.t 55), none, [], []⟩])
 .ret))))), false, false⟩
/-- slices.Backward[[]int,int] -/
def c39 : CFn := ⟨4, [.t 2],
 (.seq
 (.region [0] [⟨(some 1), .box 42 1 (.t 0), none, [], []⟩,
   ⟨(some 2), .mv (.c (.nilfn)), none, [], []⟩])
 (.seq
 (.region [1] [⟨(some 3), .mkfn 66 [(.t 1)], none, [], []⟩,
   ⟨(some 2), .mv (.t 3), none, [], []⟩])
 .ret)), false, false⟩
def c40_l0 : CC :=
 (.seq
 (.seq
 (.region [3, 4, 5, 6, 7, 8, 13, 14] [⟨(some 15), .mv (.t 14), none, [], []⟩,
   ⟨(some 16), .mv (.t 3), none, [], []⟩,
   ⟨(some 17), .len false (.t 16), none, [], []⟩,
   ⟨(some 18), .bin .lss (.t 15) (.t 17), none, [], []⟩])
 (.cond (.t 18)
 .skip
 (.exit 0)))
 (.seq
 (.block 1
 (.seq
 (.draw [3, 4, 5, 6, 7, 8, 13, 14] [⟨(some 21), .mv (.t 3), none, [], []⟩,
   ⟨(some 22), .mv (.t 14), none, [], []⟩,
   ⟨(some 23), .iaddr 2 (.t 21) (.t 22), none, [0, 1], []⟩,
   ⟨(some 24), .faddr 0 (.t 23), none, [0, 1, 2], []⟩,
   ⟨(some 25), .load false 1 (.t 24), none, (u 4), []⟩,
   ⟨(some 26), .faddr 0 (.t 8), none, [], []⟩,
   ⟨(some 27), .load false 1 (.t 26), none, [5], []⟩,
   ⟨(some 28), .bin .eql (.t 25) (.t 27), none, (u 7), []⟩,
   ⟨(some 29), .mv (.t 28), none, (u 8), []⟩,
   ⟨(some 30), .load true 4 (.t 6), some (29, true), (u 9), []⟩,
   ⟨(some 31), .load true 4 (.t 7), some (29, true), (u 9), []⟩,
   ⟨(some 32), .load true 3 (.t 8), some (29, true), (u 9), []⟩,
   ⟨(some 33), .mv (.t 4), some (29, true), (u 9), []⟩,
   ⟨(some 34), .mv (.t 3), some (29, true), (u 9), []⟩,
   ⟨(some 35), .mv (.t 14), some (29, true), (u 9), []⟩,
   ⟨(some 36), .iaddr 2 (.t 34) (.t 35), some (29, true), (u 9 ++ [13, 14]), []⟩,
   ⟨(some 37), .faddr 1 (.t 36), some (29, true), (u 9 ++ [13, 14, 15]), []⟩,
   ⟨(some 38), .load false 1 (.t 37), some (29, true), (u 9 ++ [13, 14, 15, 16]), []⟩,
   ⟨(some 39), .call (.c (.fn 54 [])) [(.t 30), (.t 31), (.t 32), (.t 33), (.t 38)] false, some (29, true), (u 18), []⟩,
   ⟨(some 40), .mv (.t 5), some (29, true), (u 9), []⟩,
   ⟨(some 41), .bin .eql (.t 39) (.t 40), some (29, true), (u 20), []⟩,
   ⟨(some 42), .pick (.t 29) (.t 41) (.c (.bool false)), none, (u 21), []⟩])
 (.cond (.t 42)
 (.region [3, 4, 5, 6, 7, 8, 13, 14] [⟨(some 43), .mv (.t 13), none, [], []⟩,
   ⟨(some 44), .mv (.t 14), none, [], []⟩,
   ⟨(some 45), .bslice 3 1 [[.int .i64 0]] [(0, (.t 44))], none, [], []⟩,
   ⟨(some 46), .app 3 1 8 false (.t 43) (.t 45), none, [], []⟩,
   ⟨(some 13), .mv (.t 46), none, [], []⟩])
 .skip)))
 (.region [3, 4, 5, 6, 7, 8, 13, 14] [⟨(some 19), .mv (.t 14), none, [], []⟩,
   ⟨(some 20), .bin .add (.t 19) (.c (.int .i64 1)), none, [], []⟩,
   ⟨(some 14), .mv (.t 20), none, [], []⟩])))
/-- progeny/progenyref19.children -/
def c40 : CFn := ⟨48, [.t 12],
 (.seq
 (.region [0, 1, 2, 3, 4, 5] [⟨(some 6), .box 25 4 (.t 0), none, [], []⟩,
   ⟨(some 7), .box 25 4 (.t 1), none, [], []⟩,
   ⟨(some 8), .box 27 3 (.t 2), none, [], []⟩,
   ⟨(some 12), .mv (.c (.nils)), none, [], []⟩])
 (.seq
 (.region [3, 4, 5, 6, 7, 8] [⟨(some 13), .mv (.c (.nils)), none, [], []⟩])
 (.seq
 (.seq
 (.region [3, 4, 5, 6, 7, 8, 13] [⟨(some 14), .mv (.c (.int .i64 0)), none, [], []⟩])
 (.block 0
 (.loop c40_l0)))
 (.seq
 (.region [13] [⟨(some 47), .mv (.t 13), none, [], []⟩,
   ⟨(some 12), .mv (.t 47), none, [], []⟩])
 .ret)))), false, false⟩
/-- progeny/dbd.Valid -/
def c42 : CFn := ⟨28, [.t 2],
 (.seq
 (.region [0] [⟨(some 1), .box 25 4 (.t 0), none, [], []⟩,
   ⟨(some 2), .mv (.c (.bool false)), none, [], []⟩])
 (.seq
 (.region [1] [⟨(some 3), .faddr 0 (.t 1), none, [], []⟩,
   ⟨(some 4), .load false 1 (.t 3), none, [], []⟩,
   ⟨(some 5), .call (.c (.fn 69 [])) [(.t 4)] false, none, [], []⟩,
   ⟨(some 6), .mv (.t 5), none, [], []⟩,
   ⟨(some 7), .faddr 1 (.t 1), some (6, true), [], []⟩,
   ⟨(some 8), .load false 1 (.t 7), some (6, true), [], []⟩,
   ⟨(some 9), .bin .geq (.t 8) (.c (.int .i64 1)), some (6, true), [], []⟩,
   ⟨(some 10), .pick (.t 6) (.t 9) (.c (.bool false)), none, [], []⟩,
   ⟨(some 11), .mv (.t 10), none, [], []⟩,
   ⟨(some 12), .faddr 1 (.t 1), some (11, true), [], []⟩,
   ⟨(some 13), .load false 1 (.t 12), some (11, true), [], []⟩,
   ⟨(some 14), .bin .leq (.t 13) (.c (.int .i64 4)), some (11, true), [], []⟩,
   ⟨(some 15), .pick (.t 11) (.t 14) (.c (.bool false)), none, [], []⟩,
   ⟨(some 16), .mv (.t 15), none, [], []⟩,
   ⟨(some 17), .faddr 2 (.t 1), some (16, true), [], []⟩,
   ⟨(some 18), .load false 1 (.t 17), some (16, true), [], []⟩,
   ⟨(some 19), .call (.c (.fn 70 [])) [(.t 18)] false, some (16, true), [], []⟩,
   ⟨(some 20), .pick (.t 16) (.t 19) (.c (.bool false)), none, [], []⟩,
   ⟨(some 21), .mv (.t 20), none, [], []⟩,
   ⟨(some 22), .faddr 3 (.t 1), some (21, true), [], []⟩,
   ⟨(some 23), .load false 1 (.t 22), some (21, true), [], []⟩,
   ⟨(some 24), .faddr 2 (.t 1), some (21, true), [], []⟩,
   ⟨(some 25), .load false 1 (.t 24), some (21, true), [], []⟩,
   ⟨(some 26), .call (.c (.fn 71 [])) [(.t 23), (.t 25)] false, some (21, true), [], []⟩,
   ⟨(some 27), .pick (.t 21) (.t 26) (.c (.bool false)), none, [], []⟩,
   ⟨(some 2), .mv (.t 27), none, [], []⟩])
 .ret)), false, false⟩
/-- progeny/logic.valid -/
def c43 : CFn := ⟨0, [.t 0], .user p43, false, false⟩
def c44_l0 : CC :=
 (.seq
 (.seq
 (.region [1, 3, 4, 5] [⟨(some 79), .mv (.t 5), none, [], []⟩,
   ⟨(some 80), .mv (.t 3), none, [], []⟩,
   ⟨(some 81), .bin .lss (.t 79) (.t 80), none, [], []⟩])
 (.cond (.t 81)
 .skip
 (.exit 2)))
 (.seq
 (.block 3
 (.seq
 (.draw [1, 3, 4, 5] [⟨(some 84), .faddr 2 (.t 1), none, [], []⟩,
   ⟨(some 85), .load false 1 (.t 84), none, [0], []⟩,
   ⟨(some 86), .mv (.t 5), none, [], []⟩,
   ⟨(some 87), .iaddr 8 (.t 85) (.t 86), none, [0, 1, 2], []⟩,
   ⟨(some 88), .faddr 0 (.t 87), none, (u 4), []⟩,
   ⟨(some 89), .load false 1 (.t 88), none, (u 5), []⟩,
   ⟨(some 90), .faddr 0 (.t 4), none, [], []⟩,
   ⟨(some 91), .load false 1 (.t 90), none, [6], []⟩,
   ⟨(some 92), .bin .eql (.t 89) (.t 91), none, (u 8), []⟩])
 (.cond (.t 92)
 (.seq
 (.region [] [⟨(some 2), .mv (.c (.bool false)), none, [], []⟩])
 .ret)
 .skip)))
 (.region [1, 3, 4, 5] [⟨(some 82), .mv (.t 5), none, [], []⟩,
   ⟨(some 83), .bin .add (.t 82) (.c (.int .i64 1)), none, [], []⟩,
   ⟨(some 5), .mv (.t 83), none, [], []⟩])))
def c44_l1 : CC :=
 (.seq
 (.seq
 (.region [1, 3] [⟨(some 41), .mv (.t 3), none, [], []⟩,
   ⟨(some 42), .faddr 2 (.t 1), none, [], []⟩,
   ⟨(some 43), .load false 1 (.t 42), none, [], []⟩,
   ⟨(some 44), .len false (.t 43), none, [], []⟩,
   ⟨(some 45), .bin .lss (.t 41) (.t 44), none, [], []⟩])
 (.cond (.t 45)
 .skip
 (.exit 0)))
 (.seq
 (.block 1
 (.seq
 (.region [1, 3] [⟨(some 48), .faddr 2 (.t 1), none, [], []⟩,
   ⟨(some 49), .load false 1 (.t 48), none, [], []⟩,
   ⟨(some 50), .mv (.t 3), none, [], []⟩,
   ⟨(some 51), .iaddr 8 (.t 49) (.t 50), none, [], []⟩,
   ⟨(some 52), .load true 8 (.t 51), none, [], []⟩,
   ⟨(some 4), .box 87 8 (.c (.agg [.str ⟨#[]⟩, .int .i64 0, .int .i64 0, .int .i64 0, .nils, .int .i64 0, .bool false, .bool false])), none, [], []⟩,
   ⟨none, .store 8 (.t 4) (.t 52), none, [], []⟩])
 (.seq
 (.seq
 (.region [1, 3, 4] [⟨(some 53), .faddr 0 (.t 4), none, [], []⟩,
   ⟨(some 54), .load false 1 (.t 53), none, [], []⟩,
   ⟨(some 55), .call (.c (.fn 72 [])) [(.t 54)] false, none, [], []⟩,
   ⟨(some 56), .un .not (.t 55), none, [], []⟩,
   ⟨(some 57), .mv (.t 56), none, [], []⟩,
   ⟨(some 58), .faddr 2 (.t 4), some (57, false), [], []⟩,
   ⟨(some 59), .load false 1 (.t 58), some (57, false), [], []⟩,
   ⟨(some 60), .bin .lss (.t 59) (.c (.int .i64 1)), some (57, false), [], []⟩,
   ⟨(some 61), .pick (.t 57) (.c (.bool true)) (.t 60), none, [], []⟩,
   ⟨(some 62), .mv (.t 61), none, [], []⟩,
   ⟨(some 63), .faddr 2 (.t 4), some (62, false), [], []⟩,
   ⟨(some 64), .load false 1 (.t 63), some (62, false), [], []⟩,
   ⟨(some 65), .faddr 3 (.t 4), some (62, false), [], []⟩,
   ⟨(some 66), .load false 1 (.t 65), some (62, false), [], []⟩,
   ⟨(some 67), .bin .gtr (.t 64) (.t 66), some (62, false), [], []⟩,
   ⟨(some 68), .pick (.t 62) (.c (.bool true)) (.t 67), none, [], []⟩,
   ⟨(some 69), .mv (.t 68), none, [], []⟩,
   ⟨(some 70), .faddr 3 (.t 4), some (69, false), [], []⟩,
   ⟨(some 71), .load false 1 (.t 70), some (69, false), [], []⟩,
   ⟨(some 72), .bin .gtr (.t 71) (.c (.int .i64 40)), some (69, false), [], []⟩,
   ⟨(some 73), .pick (.t 69) (.c (.bool true)) (.t 72), none, [], []⟩,
   ⟨(some 74), .mv (.t 73), none, [], []⟩,
   ⟨(some 75), .load true 8 (.t 4), some (74, false), [], []⟩,
   ⟨(some 76), .call (.c (.fn 73 [])) [(.t 75)] false, some (74, false), [], []⟩,
   ⟨(some 77), .un .not (.t 76), some (74, false), [], []⟩,
   ⟨(some 78), .pick (.t 74) (.c (.bool true)) (.t 77), none, [], []⟩])
 (.cond (.t 78)
 (.seq
 (.region [] [⟨(some 2), .mv (.c (.bool false)), none, [], []⟩])
 .ret)
 .skip))
 (.seq
 (.seq
 (.region [1, 3, 4] [⟨(some 5), .mv (.c (.int .i64 0)), none, [], []⟩])
 (.block 2
 (.loop c44_l0)))
 (.seq
 (.seq
 (.region [1, 3, 4] [⟨(some 93), .mv (.t 3), none, [], []⟩,
   ⟨(some 94), .bin .eql (.t 93) (.c (.int .i64 0)), none, [], []⟩])
 (.cond (.t 94)
 (.seq
 (.seq
 (.region [1, 3, 4] [⟨(some 95), .faddr 1 (.t 4), none, [], []⟩,
   ⟨(some 96), .load false 1 (.t 95), none, [], []⟩,
   ⟨(some 97), .bin .neq (.t 96) (.c (.int .i64 (-1))), none, [], []⟩,
   ⟨(some 98), .mv (.t 97), none, [], []⟩,
   ⟨(some 99), .faddr 5 (.t 4), some (98, false), [], []⟩,
   ⟨(some 100), .load false 1 (.t 99), some (98, false), [], []⟩,
   ⟨(some 101), .bin .lss (.t 100) (.c (.int .i64 0)), some (98, false), [], []⟩,
   ⟨(some 102), .pick (.t 98) (.c (.bool true)) (.t 101), none, [], []⟩,
   ⟨(some 103), .mv (.t 102), none, [], []⟩,
   ⟨(some 104), .faddr 6 (.t 4), some (103, false), [], []⟩,
   ⟨(some 105), .load false 1 (.t 104), some (103, false), [], []⟩,
   ⟨(some 106), .un .not (.t 105), some (103, false), [], []⟩,
   ⟨(some 107), .pick (.t 103) (.c (.bool true)) (.t 106), none, [], []⟩,
   ⟨(some 108), .mv (.t 107), none, [], []⟩,
   ⟨(some 109), .faddr 4 (.t 4), some (108, false), [], []⟩,
   ⟨(some 110), .load false 1 (.t 109), some (108, false), [], []⟩,
   ⟨(some 111), .faddr 5 (.t 4), some (108, false), [], []⟩,
   ⟨(some 112), .load false 1 (.t 111), some (108, false), [], []⟩,
   ⟨(some 113), .iaddr 3 (.t 110) (.t 112), some (108, false), [], []⟩,
   ⟨(some 114), .faddr 2 (.t 113), some (108, false), [], []⟩,
   ⟨(some 115), .load false 1 (.t 114), some (108, false), [], []⟩,
   ⟨(some 116), .bin .gtr (.t 115) (.c (.int .i64 24)), some (108, false), [], []⟩,
   ⟨(some 117), .pick (.t 108) (.c (.bool true)) (.t 116), none, [], []⟩])
 (.cond (.t 117)
 (.seq
 (.region [] [⟨(some 2), .mv (.c (.bool false)), none, [], []⟩])
 .ret)
 .skip))
 (.exit 1))
 .skip))
 (.seq
 (.region [1, 3, 4] [⟨(some 118), .faddr 1 (.t 4), none, [], []⟩,
   ⟨(some 119), .load false 1 (.t 118), none, [], []⟩,
   ⟨(some 120), .bin .lss (.t 119) (.c (.int .i64 0)), none, [], []⟩,
   ⟨(some 121), .mv (.t 120), none, [], []⟩,
   ⟨(some 122), .faddr 1 (.t 4), some (121, false), [], []⟩,
   ⟨(some 123), .load false 1 (.t 122), some (121, false), [], []⟩,
   ⟨(some 124), .mv (.t 3), some (121, false), [], []⟩,
   ⟨(some 125), .bin .geq (.t 123) (.t 124), some (121, false), [], []⟩,
   ⟨(some 126), .pick (.t 121) (.c (.bool true)) (.t 125), none, [], []⟩,
   ⟨(some 127), .mv (.t 126), none, [], []⟩,
   ⟨(some 128), .faddr 1 (.t 4), some (127, false), [], []⟩,
   ⟨(some 129), .load false 1 (.t 128), some (127, false), [], []⟩,
   ⟨(some 130), .mv (.t 3), some (127, false), [], []⟩,
   ⟨(some 131), .bin .sub (.t 130) (.c (.int .i64 1)), some (127, false), [], []⟩,
   ⟨(some 132), .bin .neq (.t 129) (.t 131), some (127, false), [], []⟩,
   ⟨(some 133), .mv (.t 132), some (127, false), [], []⟩,
   ⟨(some 134), .load true 4 (.t 1), some (133, true), [], []⟩,
   ⟨(some 135), .faddr 1 (.t 4), some (133, true), [], []⟩,
   ⟨(some 136), .load false 1 (.t 135), some (133, true), [], []⟩,
   ⟨(some 137), .mv (.t 3), some (133, true), [], []⟩,
   ⟨(some 138), .bin .sub (.t 137) (.c (.int .i64 1)), some (133, true), [], []⟩,
   ⟨(some 139), .call (.c (.fn 74 [])) [(.t 134), (.t 136), (.t 138)] false, some (133, true), [], []⟩,
   ⟨(some 140), .un .not (.t 139), some (133, true), [], []⟩,
   ⟨(some 141), .pick (.t 133) (.t 140) (.c (.bool false)), some (127, false), [], []⟩,
   ⟨(some 142), .pick (.t 127) (.c (.bool true)) (.t 141), none, [], []⟩,
   ⟨(some 143), .mv (.t 142), none, [], []⟩,
   ⟨(some 144), .load true 4 (.t 1), some (143, false), [], []⟩,
   ⟨(some 145), .mv (.t 3), some (143, false), [], []⟩,
   ⟨(some 146), .call (.c (.fn 75 [])) [(.t 144), (.t 145)] true, some (143, false), [], []⟩,
   ⟨(some 147), .len false (.t 146), some (143, false), [], []⟩,
   ⟨(some 148), .bin .gtr (.t 147) (.c (.int .i64 5)), some (143, false), [], []⟩,
   ⟨(some 149), .pick (.t 143) (.c (.bool true)) (.t 148), none, [], []⟩])
 (.cond (.t 149)
 (.seq
 (.region [] [⟨(some 2), .mv (.c (.bool false)), none, [], []⟩])
 .ret)
 .skip)))))))
 (.region [1, 3] [⟨(some 46), .mv (.t 3), none, [], []⟩,
   ⟨(some 47), .bin .add (.t 46) (.c (.int .i64 1)), none, [], []⟩,
   ⟨(some 3), .mv (.t 47), none, [], []⟩])))
def c44_l2 : CC :=
 (.seq
 (.seq
 (.region [1, 6, 7, 8] [⟨(some 218), .mv (.t 8), none, [], []⟩,
   ⟨(some 219), .mv (.t 6), none, [], []⟩,
   ⟨(some 220), .bin .lss (.t 218) (.t 219), none, [], []⟩])
 (.cond (.t 220)
 .skip
 (.exit 6)))
 (.seq
 (.block 7
 (.seq
 (.draw [1, 6, 7, 8] [⟨(some 223), .faddr 3 (.t 1), none, [], []⟩,
   ⟨(some 224), .load false 1 (.t 223), none, [0], []⟩,
   ⟨(some 225), .mv (.t 8), none, [], []⟩,
   ⟨(some 226), .iaddr 4 (.t 224) (.t 225), none, [0, 1, 2], []⟩,
   ⟨(some 227), .faddr 0 (.t 226), none, (u 4), []⟩,
   ⟨(some 228), .load false 1 (.t 227), none, (u 5), []⟩,
   ⟨(some 229), .faddr 0 (.t 7), none, [], []⟩,
   ⟨(some 230), .load false 1 (.t 229), none, [6], []⟩,
   ⟨(some 231), .bin .eql (.t 228) (.t 230), none, (u 8), []⟩])
 (.cond (.t 231)
 (.seq
 (.region [] [⟨(some 2), .mv (.c (.bool false)), none, [], []⟩])
 .ret)
 .skip)))
 (.region [1, 6, 7, 8] [⟨(some 221), .mv (.t 8), none, [], []⟩,
   ⟨(some 222), .bin .add (.t 221) (.c (.int .i64 1)), none, [], []⟩,
   ⟨(some 8), .mv (.t 222), none, [], []⟩])))
def c44_l3 : CC :=
 (.seq
 (.seq
 (.region [1, 6] [⟨(some 150), .mv (.t 6), none, [], []⟩,
   ⟨(some 151), .faddr 3 (.t 1), none, [], []⟩,
   ⟨(some 152), .load false 1 (.t 151), none, [], []⟩,
   ⟨(some 153), .len false (.t 152), none, [], []⟩,
   ⟨(some 154), .bin .lss (.t 150) (.t 153), none, [], []⟩])
 (.cond (.t 154)
 .skip
 (.exit 4)))
 (.seq
 (.block 5
 (.seq
 (.region [1, 6] [⟨(some 157), .faddr 3 (.t 1), none, [], []⟩,
   ⟨(some 158), .load false 1 (.t 157), none, [], []⟩,
   ⟨(some 159), .mv (.t 6), none, [], []⟩,
   ⟨(some 160), .iaddr 4 (.t 158) (.t 159), none, [], []⟩,
   ⟨(some 161), .load true 4 (.t 160), none, [], []⟩,
   ⟨(some 7), .box 106 4 (.c (.agg [.str ⟨#[]⟩, .int .i64 0, .int .i64 0, .str ⟨#[]⟩])), none, [], []⟩,
   ⟨none, .store 4 (.t 7) (.t 161), none, [], []⟩])
 (.seq
 (.seq
 (.draw [1, 6, 7] [⟨(some 162), .faddr 0 (.t 7), none, [], []⟩,
   ⟨(some 163), .load false 1 (.t 162), none, [0], []⟩,
   ⟨(some 164), .call (.c (.fn 72 [])) [(.t 163)] false, none, [0, 1], []⟩,
   ⟨(some 165), .un .not (.t 164), none, [0, 1, 2], []⟩,
   ⟨(some 166), .mv (.t 165), none, (u 4), []⟩,
   ⟨(some 167), .faddr 1 (.t 7), some (166, false), (u 5), []⟩,
   ⟨(some 168), .load false 1 (.t 167), some (166, false), (u 6), []⟩,
   ⟨(some 169), .bin .lss (.t 168) (.c (.int .i64 0)), some (166, false), (u 7), []⟩,
   ⟨(some 170), .pick (.t 166) (.c (.bool true)) (.t 169), none, (u 8), []⟩,
   ⟨(some 171), .mv (.t 170), none, (u 9), []⟩,
   ⟨(some 172), .faddr 1 (.t 7), some (171, false), (u 10), []⟩,
   ⟨(some 173), .load false 1 (.t 172), some (171, false), (u 11), []⟩,
   ⟨(some 174), .faddr 2 (.t 1), some (171, false), (u 10), []⟩,
   ⟨(some 175), .load false 1 (.t 174), some (171, false), (u 10 ++ [12]), []⟩,
   ⟨(some 176), .len false (.t 175), some (171, false), (u 10 ++ [12, 13]), []⟩,
   ⟨(some 177), .bin .geq (.t 173) (.t 176), some (171, false), (u 15), []⟩,
   ⟨(some 178), .pick (.t 171) (.c (.bool true)) (.t 177), none, (u 16), []⟩,
   ⟨(some 179), .mv (.t 178), none, (u 17), []⟩,
   ⟨(some 180), .faddr 2 (.t 7), some (179, false), (u 18), []⟩,
   ⟨(some 181), .load false 1 (.t 180), some (179, false), (u 19), []⟩,
   ⟨(some 182), .bin .lss (.t 181) (.c (.int .i64 0)), some (179, false), (u 20), []⟩,
   ⟨(some 183), .pick (.t 179) (.c (.bool true)) (.t 182), none, (u 21), []⟩,
   ⟨(some 184), .mv (.t 183), none, (u 22), []⟩,
   ⟨(some 185), .faddr 2 (.t 7), some (184, false), (u 23), []⟩,
   ⟨(some 186), .load false 1 (.t 185), some (184, false), (u 24), []⟩,
   ⟨(some 187), .faddr 2 (.t 1), some (184, false), (u 23), []⟩,
   ⟨(some 188), .load false 1 (.t 187), some (184, false), (u 23 ++ [25]), []⟩,
   ⟨(some 189), .faddr 1 (.t 7), some (184, false), (u 23), []⟩,
   ⟨(some 190), .load false 1 (.t 189), some (184, false), (u 23 ++ [27]), []⟩,
   ⟨(some 191), .iaddr 8 (.t 188) (.t 190), some (184, false), (u 23 ++ [25, 26, 27, 28]), []⟩,
   ⟨(some 192), .faddr 4 (.t 191), some (184, false), (u 23 ++ [25, 26, 27, 28, 29]), []⟩,
   ⟨(some 193), .load false 1 (.t 192), some (184, false), (u 23 ++ [25, 26, 27, 28, 29, 30]), []⟩,
   ⟨(some 194), .len false (.t 193), some (184, false), (u 23 ++ [25, 26, 27, 28, 29, 30, 31]), []⟩,
   ⟨(some 195), .bin .geq (.t 186) (.t 194), some (184, false), (u 33), []⟩,
   ⟨(some 196), .pick (.t 184) (.c (.bool true)) (.t 195), none, (u 34), []⟩,
   ⟨(some 197), .mv (.t 196), none, (u 35), []⟩,
   ⟨(some 198), .faddr 2 (.t 1), some (197, false), (u 36), []⟩,
   ⟨(some 199), .load false 1 (.t 198), some (197, false), (u 37), []⟩,
   ⟨(some 200), .faddr 1 (.t 7), some (197, false), (u 36), []⟩,
   ⟨(some 201), .load false 1 (.t 200), some (197, false), (u 36 ++ [38]), []⟩,
   ⟨(some 202), .iaddr 8 (.t 199) (.t 201), some (197, false), (u 40), []⟩,
   ⟨(some 203), .faddr 4 (.t 202), some (197, false), (u 41), []⟩,
   ⟨(some 204), .load false 1 (.t 203), some (197, false), (u 42), []⟩,
   ⟨(some 205), .faddr 2 (.t 7), some (197, false), (u 36), []⟩,
   ⟨(some 206), .load false 1 (.t 205), some (197, false), (u 36 ++ [43]), []⟩,
   ⟨(some 207), .iaddr 3 (.t 204) (.t 206), some (197, false), (u 45), []⟩,
   ⟨(some 208), .faddr 2 (.t 207), some (197, false), (u 46), []⟩,
   ⟨(some 209), .load false 1 (.t 208), some (197, false), (u 47), []⟩,
   ⟨(some 210), .bin .gtr (.t 209) (.c (.int .i64 20)), some (197, false), (u 48), []⟩,
   ⟨(some 211), .pick (.t 197) (.c (.bool true)) (.t 210), none, (u 49), []⟩,
   ⟨(some 212), .mv (.t 211), none, (u 50), []⟩,
   ⟨(some 213), .faddr 3 (.t 7), some (212, false), (u 51), []⟩,
   ⟨(some 214), .load false 1 (.t 213), some (212, false), (u 52), []⟩,
   ⟨(some 215), .len true (.t 214), some (212, false), (u 53), []⟩,
   ⟨(some 216), .bin .gtr (.t 215) (.c (.int .i64 1)), some (212, false), (u 54), []⟩,
   ⟨(some 217), .pick (.t 212) (.c (.bool true)) (.t 216), none, (u 55), []⟩])
 (.cond (.t 217)
 (.seq
 (.region [] [⟨(some 2), .mv (.c (.bool false)), none, [], []⟩])
 .ret)
 .skip))
 (.seq
 (.region [1, 6, 7] [⟨(some 8), .mv (.c (.int .i64 0)), none, [], []⟩])
 (.block 6
 (.loop c44_l2))))))
 (.region [1, 6] [⟨(some 155), .mv (.t 6), none, [], []⟩,
   ⟨(some 156), .bin .add (.t 155) (.c (.int .i64 1)), none, [], []⟩,
   ⟨(some 6), .mv (.t 156), none, [], []⟩])))
/-- progeny/progenyref11.Valid -/
def c44 : CFn := ⟨232, [.t 2],
 (.seq
 (.region [0] [⟨(some 1), .box 25 4 (.t 0), none, [], []⟩,
   ⟨(some 2), .mv (.c (.bool false)), none, [], []⟩])
 (.seq
 (.seq
 (.region [1] [⟨(some 9), .faddr 0 (.t 1), none, [], []⟩,
   ⟨(some 10), .load false 1 (.t 9), none, [], []⟩,
   ⟨(some 11), .call (.c (.fn 72 [])) [(.t 10)] false, none, [], []⟩,
   ⟨(some 12), .un .not (.t 11), none, [], []⟩,
   ⟨(some 13), .mv (.t 12), none, [], []⟩,
   ⟨(some 14), .faddr 1 (.t 1), some (13, false), [], []⟩,
   ⟨(some 15), .load false 1 (.t 14), some (13, false), [], []⟩,
   ⟨(some 16), .bin .lss (.t 15) (.c (.int .i64 1)), some (13, false), [], []⟩,
   ⟨(some 17), .pick (.t 13) (.c (.bool true)) (.t 16), none, [], []⟩,
   ⟨(some 18), .mv (.t 17), none, [], []⟩,
   ⟨(some 19), .faddr 1 (.t 1), some (18, false), [], []⟩,
   ⟨(some 20), .load false 1 (.t 19), some (18, false), [], []⟩,
   ⟨(some 21), .bin .gtr (.t 20) (.c (.int .i64 4)), some (18, false), [], []⟩,
   ⟨(some 22), .pick (.t 18) (.c (.bool true)) (.t 21), none, [], []⟩,
   ⟨(some 23), .mv (.t 22), none, [], []⟩,
   ⟨(some 24), .faddr 2 (.t 1), some (23, false), [], []⟩,
   ⟨(some 25), .load false 1 (.t 24), some (23, false), [], []⟩,
   ⟨(some 26), .len false (.t 25), some (23, false), [], []⟩,
   ⟨(some 27), .bin .lss (.t 26) (.c (.int .i64 1)), some (23, false), [], []⟩,
   ⟨(some 28), .pick (.t 23) (.c (.bool true)) (.t 27), none, [], []⟩,
   ⟨(some 29), .mv (.t 28), none, [], []⟩,
   ⟨(some 30), .faddr 2 (.t 1), some (29, false), [], []⟩,
   ⟨(some 31), .load false 1 (.t 30), some (29, false), [], []⟩,
   ⟨(some 32), .len false (.t 31), some (29, false), [], []⟩,
   ⟨(some 33), .bin .gtr (.t 32) (.c (.int .i64 8)), some (29, false), [], []⟩,
   ⟨(some 34), .pick (.t 29) (.c (.bool true)) (.t 33), none, [], []⟩,
   ⟨(some 35), .mv (.t 34), none, [], []⟩,
   ⟨(some 36), .faddr 3 (.t 1), some (35, false), [], []⟩,
   ⟨(some 37), .load false 1 (.t 36), some (35, false), [], []⟩,
   ⟨(some 38), .len false (.t 37), some (35, false), [], []⟩,
   ⟨(some 39), .bin .gtr (.t 38) (.c (.int .i64 3)), some (35, false), [], []⟩,
   ⟨(some 40), .pick (.t 35) (.c (.bool true)) (.t 39), none, [], []⟩])
 (.cond (.t 40)
 (.seq
 (.region [] [⟨(some 2), .mv (.c (.bool false)), none, [], []⟩])
 .ret)
 .skip))
 (.seq
 (.seq
 (.region [1] [⟨(some 3), .mv (.c (.int .i64 0)), none, [], []⟩])
 (.block 0
 (.loop c44_l1)))
 (.seq
 (.seq
 (.region [1] [⟨(some 6), .mv (.c (.int .i64 0)), none, [], []⟩])
 (.block 4
 (.loop c44_l3)))
 (.seq
 (.region [] [⟨(some 2), .mv (.c (.bool true)), none, [], []⟩])
 .ret))))), false, false⟩
/-- progeny/progenyref19.isLink -/
def c45 : CFn := ⟨0, [.t 0], .user p43, false, false⟩
/-- progeny/logic.open -/
def c46 : CFn := ⟨57, [.t 10, .t 11],
 (.seq
 (.region [0, 1, 2, 3, 4] [⟨(some 5), .box 25 4 (.t 0), none, [], []⟩,
   ⟨(some 6), .box 25 4 (.t 1), none, [], []⟩,
   ⟨(some 7), .box 27 3 (.t 2), none, [], []⟩,
   ⟨(some 10), .mv (.c (.nilptr)), none, [], []⟩,
   ⟨(some 11), .mv (.c (.int .i64 0)), none, [], []⟩])
 (.seq
 (.region [3, 4, 5, 6, 7] [⟨(some 19), .load true 4 (.t 5), none, [], []⟩,
   ⟨(some 20), .load true 4 (.t 6), none, [], []⟩,
   ⟨(some 21), .load true 3 (.t 7), none, [], []⟩,
   ⟨(some 22), .call (.c (.fn 14 [])) [(.t 19), (.t 20), (.t 21)] false, none, [], []⟩,
   ⟨(some 18), .mv (.t 22), none, [], []⟩,
   ⟨(some 23), .extract (.t 18) 0, none, [], []⟩,
   ⟨(some 24), .extract (.t 18) 1, none, [], []⟩,
   ⟨(some 12), .mv (.t 23), none, [], []⟩,
   ⟨(some 13), .mv (.t 24), none, [], []⟩])
 (.seq
 (.block 0
 (.seq
 (.region [3, 4, 5, 6, 7, 12, 13] [⟨(some 26), .mv (.t 13), none, [], []⟩,
   ⟨(some 27), .bin .neq (.t 26) (.c (.int .i64 0)), none, [], []⟩,
   ⟨(some 25), .mv (.t 27), none, [], []⟩])
 (.cond (.t 25)
 (.seq
 (.region [13] [⟨(some 28), .mv (.t 13), none, [], []⟩,
   ⟨(some 10), .mv (.c (.nilptr)), none, [], []⟩,
   ⟨(some 11), .mv (.t 28), none, [], []⟩])
 .ret)
 (.seq
 (.region [3, 4, 5, 6, 7, 12] [⟨(some 30), .mv (.t 12), none, [], []⟩,
   ⟨(some 31), .un .not (.t 30), none, [], []⟩,
   ⟨(some 29), .mv (.t 31), none, [], []⟩])
 (.cond (.t 29)
 (.seq
 (.region [] [⟨(some 10), .mv (.c (.nilptr)), none, [], []⟩,
   ⟨(some 11), .mv (.c (.int .i64 180)), none, [], []⟩])
 .ret)
 .skip)))))
 (.seq
 (.region [3, 4, 5, 6, 7] [⟨(some 33), .load true 4 (.t 5), none, [], []⟩,
   ⟨(some 34), .mv (.t 3), none, [], []⟩,
   ⟨(some 35), .call (.c (.fn 76 [])) [(.t 33), (.t 34)] false, none, [], []⟩,
   ⟨(some 32), .mv (.t 35), none, [], []⟩,
   ⟨(some 36), .extract (.t 32) 0, none, [], []⟩,
   ⟨(some 37), .extract (.t 32) 1, none, [], []⟩,
   ⟨(some 14), .mv (.t 36), none, [], []⟩,
   ⟨(some 15), .mv (.t 37), none, [], []⟩])
 (.seq
 (.region [3, 4, 5, 6, 7, 14] [⟨(some 39), .load true 4 (.t 6), none, [], []⟩,
   ⟨(some 40), .mv (.t 4), none, [], []⟩,
   ⟨(some 41), .call (.c (.fn 76 [])) [(.t 39), (.t 40)] false, none, [], []⟩,
   ⟨(some 38), .mv (.t 41), none, [], []⟩,
   ⟨(some 42), .extract (.t 38) 0, none, [], []⟩,
   ⟨(some 43), .extract (.t 38) 1, none, [], []⟩,
   ⟨(some 16), .mv (.t 42), none, [], []⟩,
   ⟨(some 17), .mv (.t 43), none, [], []⟩])
 (.seq
 (.seq
 (.region [3, 4, 5, 6, 7, 14, 16] [⟨(some 44), .mv (.t 14), none, [], []⟩,
   ⟨(some 45), .un .not (.t 44), none, [], []⟩,
   ⟨(some 46), .mv (.t 45), none, [], []⟩,
   ⟨(some 47), .mv (.t 16), some (46, false), [], []⟩,
   ⟨(some 48), .un .not (.t 47), some (46, false), [], []⟩,
   ⟨(some 49), .pick (.t 46) (.c (.bool true)) (.t 48), none, [], []⟩])
 (.cond (.t 49)
 (.seq
 (.region [] [⟨(some 10), .mv (.c (.nilptr)), none, [], []⟩,
   ⟨(some 11), .mv (.c (.int .i64 120)), none, [], []⟩])
 .ret)
 .skip))
 (.seq
 (.region [3, 4, 5, 6, 7] [⟨(some 50), .load true 4 (.t 5), none, [], []⟩,
   ⟨(some 51), .load true 4 (.t 6), none, [], []⟩,
   ⟨(some 52), .load true 3 (.t 7), none, [], []⟩,
   ⟨(some 53), .mv (.t 3), none, [], []⟩,
   ⟨(some 54), .mv (.t 4), none, [], []⟩,
   ⟨(some 55), .build [.str ⟨#[]⟩, .int .i64 0, .nils, .nils, .str ⟨#[]⟩, .int .i64 0, .nils, .nils, .int .i64 0, .int .i64 0, .str ⟨#[]⟩, .nils, .nils] [(0, 4, (.t 50)), (4, 4, (.t 51)), (8, 3, (.t 52)), (11, 1, (.t 53)), (12, 1, (.t 54))], none, [], []⟩,
   ⟨(some 56), .box 94 13 (.t 55), none, [], []⟩,
   ⟨(some 10), .mv (.t 56), none, [], []⟩,
   ⟨(some 11), .mv (.c (.int .i64 0)), none, [], []⟩])
 .ret))))))), false, false⟩
/-- (*progeny/logic.pair).agree -/
def c47 : CFn := ⟨15, [.t 2],
 (.seq
 (.region [0] [⟨(some 2), .mv (.c (.bool false)), none, [], []⟩])
 (.seq
 (.region [0] [⟨(some 3), .mv (.t 0), none, [], []⟩,
   ⟨(some 4), .nilck (.t 3), none, [], []⟩,
   ⟨(some 5), .faddr 8 (.t 4), none, [], []⟩,
   ⟨(some 6), .faddr 2 (.t 5), none, [], []⟩,
   ⟨(some 7), .load false 1 (.t 6), none, [], []⟩,
   ⟨(some 8), .bin .eql (.t 7) (.c (.str ⟨#[76]⟩)), none, [], []⟩,
   ⟨(some 9), .mv (.t 8), none, [], []⟩,
   ⟨(some 10), .mv (.t 0), some (9, false), [], []⟩,
   ⟨(some 11), .call (.c (.fn 53 [])) [(.t 10)] true, some (9, false), [], []⟩,
   ⟨(some 12), .len false (.t 11), some (9, false), [], []⟩,
   ⟨(some 13), .bin .eql (.t 12) (.c (.int .i64 0)), some (9, false), [], []⟩,
   ⟨(some 14), .pick (.t 9) (.c (.bool true)) (.t 13), none, [], []⟩,
   ⟨(some 2), .mv (.t 14), none, [], []⟩])
 .ret)), false, false⟩
/-- progeny/progenyref19.forests -/
def c48 : CFn := ⟨37, [.t 10],
 (.seq
 (.region [0, 1, 2, 3, 4] [⟨(some 5), .box 25 4 (.t 0), none, [], []⟩,
   ⟨(some 6), .box 25 4 (.t 1), none, [], []⟩,
   ⟨(some 7), .box 27 3 (.t 2), none, [], []⟩,
   ⟨(some 10), .mv (.c (.int .i64 0)), none, [], []⟩])
 (.seq
 (.block 0
 (.seq
 (.region [3, 4, 5, 6, 7] [⟨(some 12), .load true 4 (.t 5), none, [], []⟩,
   ⟨(some 13), .call (.c (.fn 44 [])) [(.t 12)] false, none, [], []⟩,
   ⟨(some 14), .un .not (.t 13), none, [], []⟩,
   ⟨(some 15), .mv (.t 14), none, [], []⟩,
   ⟨(some 16), .load true 4 (.t 6), some (15, false), [], []⟩,
   ⟨(some 17), .call (.c (.fn 44 [])) [(.t 16)] false, some (15, false), [], []⟩,
   ⟨(some 18), .un .not (.t 17), some (15, false), [], []⟩,
   ⟨(some 19), .pick (.t 15) (.c (.bool true)) (.t 18), none, [], []⟩,
   ⟨(some 11), .mv (.t 19), none, [], []⟩])
 (.cond (.t 11)
 (.seq
 (.region [] [⟨(some 10), .mv (.c (.int .i64 100)), none, [], []⟩])
 .ret)
 (.seq
 (.region [3, 4, 5, 6, 7] [⟨(some 21), .load true 4 (.t 5), none, [], []⟩,
   ⟨(some 22), .load true 4 (.t 6), none, [], []⟩,
   ⟨(some 23), .load true 3 (.t 7), none, [], []⟩,
   ⟨(some 24), .call (.c (.fn 45 [])) [(.t 21), (.t 22), (.t 23)] false, none, [], []⟩,
   ⟨(some 25), .un .not (.t 24), none, [], []⟩,
   ⟨(some 20), .mv (.t 25), none, [], []⟩])
 (.cond (.t 20)
 (.seq
 (.region [] [⟨(some 10), .mv (.c (.int .i64 180)), none, [], []⟩])
 .ret)
 (.seq
 (.region [3, 4, 5, 6] [⟨(some 27), .load true 4 (.t 5), none, [], []⟩,
   ⟨(some 28), .mv (.t 3), none, [], []⟩,
   ⟨(some 29), .call (.c (.fn 67 [])) [(.t 27), (.t 28), (.c (.nils))] false, none, [], []⟩,
   ⟨(some 30), .bin .neq (.t 29) (.c (.int .i64 0)), none, [], []⟩,
   ⟨(some 31), .mv (.t 30), none, [], []⟩,
   ⟨(some 32), .load true 4 (.t 6), some (31, false), [], []⟩,
   ⟨(some 33), .mv (.t 4), some (31, false), [], []⟩,
   ⟨(some 34), .call (.c (.fn 67 [])) [(.t 32), (.t 33), (.c (.nils))] false, some (31, false), [], []⟩,
   ⟨(some 35), .bin .neq (.t 34) (.c (.int .i64 0)), some (31, false), [], []⟩,
   ⟨(some 36), .pick (.t 31) (.c (.bool true)) (.t 35), none, [], []⟩,
   ⟨(some 26), .mv (.t 36), none, [], []⟩])
 (.cond (.t 26)
 (.seq
 (.region [] [⟨(some 10), .mv (.c (.int .i64 120)), none, [], []⟩])
 .ret)
 .skip)))))))
 (.seq
 (.region [] [⟨(some 10), .mv (.c (.int .i64 0)), none, [], []⟩])
 .ret))), false, false⟩
def c49_l0 : CC :=
 (.seq
 (.seq
 (.region [3, 4, 5, 6, 7, 11, 12] [⟨(some 13), .mv (.t 12), none, [], []⟩,
   ⟨(some 14), .mv (.t 3), none, [], []⟩,
   ⟨(some 15), .len false (.t 14), none, [], []⟩,
   ⟨(some 16), .bin .lss (.t 13) (.t 15), none, [], []⟩])
 (.cond (.t 16)
 .skip
 (.exit 0)))
 (.seq
 (.block 1
 (.seq
 (.draw [3, 4, 5, 6, 7, 11, 12] [⟨(some 19), .mv (.t 3), none, [], []⟩,
   ⟨(some 20), .mv (.t 12), none, [], []⟩,
   ⟨(some 21), .iaddr 2 (.t 19) (.t 20), none, [0, 1], []⟩,
   ⟨(some 22), .faddr 0 (.t 21), none, [0, 1, 2], []⟩,
   ⟨(some 23), .load false 1 (.t 22), none, (u 4), []⟩,
   ⟨(some 24), .faddr 0 (.t 7), none, [], []⟩,
   ⟨(some 25), .load false 1 (.t 24), none, [5], []⟩,
   ⟨(some 26), .bin .eql (.t 23) (.t 25), none, (u 7), []⟩,
   ⟨(some 27), .mv (.t 26), none, (u 8), []⟩,
   ⟨(some 28), .load true 4 (.t 5), some (27, true), (u 9), []⟩,
   ⟨(some 29), .load true 4 (.t 6), some (27, true), (u 9), []⟩,
   ⟨(some 30), .load true 3 (.t 7), some (27, true), (u 9), []⟩,
   ⟨(some 31), .mv (.t 4), some (27, true), (u 9), []⟩,
   ⟨(some 32), .mv (.t 3), some (27, true), (u 9), []⟩,
   ⟨(some 33), .mv (.t 12), some (27, true), (u 9), []⟩,
   ⟨(some 34), .iaddr 2 (.t 32) (.t 33), some (27, true), (u 9 ++ [13, 14]), []⟩,
   ⟨(some 35), .faddr 1 (.t 34), some (27, true), (u 9 ++ [13, 14, 15]), []⟩,
   ⟨(some 36), .load false 1 (.t 35), some (27, true), (u 9 ++ [13, 14, 15, 16]), []⟩,
   ⟨(some 37), .call (.c (.fn 54 [])) [(.t 28), (.t 29), (.t 30), (.t 31), (.t 36)] false, some (27, true), (u 18), []⟩,
   ⟨(some 38), .bin .lss (.t 37) (.c (.int .i64 0)), some (27, true), (u 19), []⟩,
   ⟨(some 39), .pick (.t 27) (.t 38) (.c (.bool false)), none, (u 20), []⟩])
 (.cond (.t 39)
 (.region [3, 4, 5, 6, 7, 11, 12] [⟨(some 40), .mv (.t 11), none, [], []⟩,
   ⟨(some 41), .mv (.t 12), none, [], []⟩,
   ⟨(some 42), .bslice 3 1 [[.int .i64 0]] [(0, (.t 41))], none, [], []⟩,
   ⟨(some 43), .app 3 1 8 false (.t 40) (.t 42), none, [], []⟩,
   ⟨(some 11), .mv (.t 43), none, [], []⟩])
 .skip)))
 (.region [3, 4, 5, 6, 7, 11, 12] [⟨(some 17), .mv (.t 12), none, [], []⟩,
   ⟨(some 18), .bin .add (.t 17) (.c (.int .i64 1)), none, [], []⟩,
   ⟨(some 12), .mv (.t 18), none, [], []⟩])))
/-- progeny/progenyref19.lost -/
def c49 : CFn := ⟨45, [.t 10],
 (.seq
 (.region [0, 1, 2, 3, 4] [⟨(some 5), .box 25 4 (.t 0), none, [], []⟩,
   ⟨(some 6), .box 25 4 (.t 1), none, [], []⟩,
   ⟨(some 7), .box 27 3 (.t 2), none, [], []⟩,
   ⟨(some 10), .mv (.c (.nils)), none, [], []⟩])
 (.seq
 (.region [3, 4, 5, 6, 7] [⟨(some 11), .mv (.c (.nils)), none, [], []⟩])
 (.seq
 (.seq
 (.region [3, 4, 5, 6, 7, 11] [⟨(some 12), .mv (.c (.int .i64 0)), none, [], []⟩])
 (.block 0
 (.loop c49_l0)))
 (.seq
 (.region [11] [⟨(some 44), .mv (.t 11), none, [], []⟩,
   ⟨(some 10), .mv (.t 44), none, [], []⟩])
 .ret)))), false, false⟩
/-- progeny/logic.rooted -/
def c50 : CFn := ⟨47, [.t 12, .t 13],
 (.seq
 (.region [0, 1, 2, 3, 4, 5] [⟨(some 6), .box 25 4 (.t 0), none, [], []⟩,
   ⟨(some 7), .box 25 4 (.t 1), none, [], []⟩,
   ⟨(some 8), .box 27 3 (.t 2), none, [], []⟩,
   ⟨(some 12), .mv (.c (.nilptr)), none, [], []⟩,
   ⟨(some 13), .mv (.c (.int .i64 0)), none, [], []⟩])
 (.seq
 (.region [3, 4, 5, 6, 7, 8] [⟨(some 17), .load true 4 (.t 6), none, [], []⟩,
   ⟨(some 18), .load true 4 (.t 7), none, [], []⟩,
   ⟨(some 19), .load true 3 (.t 8), none, [], []⟩,
   ⟨(some 20), .mv (.t 3), none, [], []⟩,
   ⟨(some 21), .mv (.t 4), none, [], []⟩,
   ⟨(some 22), .call (.c (.fn 35 [])) [(.t 17), (.t 18), (.t 19), (.t 20), (.t 21)] false, none, [], []⟩,
   ⟨(some 16), .mv (.t 22), none, [], []⟩,
   ⟨(some 23), .extract (.t 16) 0, none, [], []⟩,
   ⟨(some 24), .extract (.t 16) 1, none, [], []⟩,
   ⟨(some 14), .mv (.t 23), none, [], []⟩,
   ⟨(some 15), .mv (.t 24), none, [], []⟩])
 (.seq
 (.block 0
 (.seq
 (.region [4, 5, 14, 15] [⟨(some 26), .mv (.t 15), none, [], []⟩,
   ⟨(some 27), .bin .neq (.t 26) (.c (.int .i64 0)), none, [], []⟩,
   ⟨(some 25), .mv (.t 27), none, [], []⟩])
 (.cond (.t 25)
 (.seq
 (.region [15] [⟨(some 28), .mv (.t 15), none, [], []⟩,
   ⟨(some 12), .mv (.c (.nilptr)), none, [], []⟩,
   ⟨(some 13), .mv (.t 28), none, [], []⟩])
 .ret)
 (.seq
 (.region [4, 5, 14] [⟨(some 30), .mv (.t 5), none, [], []⟩,
   ⟨(some 31), .bin .lss (.t 30) (.c (.int .i64 0)), none, [], []⟩,
   ⟨(some 32), .mv (.t 31), none, [], []⟩,
   ⟨(some 33), .mv (.t 5), some (32, false), [], []⟩,
   ⟨(some 34), .mv (.t 4), some (32, false), [], []⟩,
   ⟨(some 35), .len false (.t 34), some (32, false), [], []⟩,
   ⟨(some 36), .bin .geq (.t 33) (.t 35), some (32, false), [], []⟩,
   ⟨(some 37), .pick (.t 32) (.c (.bool true)) (.t 36), none, [], []⟩,
   ⟨(some 38), .mv (.t 37), none, [], []⟩,
   ⟨(some 39), .mv (.t 4), some (38, false), [], []⟩,
   ⟨(some 40), .mv (.t 5), some (38, false), [], []⟩,
   ⟨(some 41), .iaddr 2 (.t 39) (.t 40), some (38, false), [], []⟩,
   ⟨(some 42), .faddr 0 (.t 41), some (38, false), [], []⟩,
   ⟨(some 43), .load false 1 (.t 42), some (38, false), [], []⟩,
   ⟨(some 44), .bin .neq (.t 43) (.c (.int .i64 0)), some (38, false), [], []⟩,
   ⟨(some 45), .pick (.t 38) (.c (.bool true)) (.t 44), none, [], []⟩,
   ⟨(some 29), .mv (.t 45), none, [], []⟩])
 (.cond (.t 29)
 (.seq
 (.region [] [⟨(some 12), .mv (.c (.nilptr)), none, [], []⟩,
   ⟨(some 13), .mv (.c (.int .i64 2)), none, [], []⟩])
 .ret)
 .skip)))))
 (.seq
 (.region [14] [⟨(some 46), .mv (.t 14), none, [], []⟩,
   ⟨(some 12), .mv (.t 46), none, [], []⟩,
   ⟨(some 13), .mv (.c (.int .i64 0)), none, [], []⟩])
 .ret)))), false, false⟩
/-- (*progeny/logic.pair).isChild -/
def c51 : CFn := ⟨32, [.t 4],
 (.seq
 (.region [0, 1] [⟨(some 4), .mv (.c (.bool false)), none, [], []⟩])
 (.seq
 (.draw [0, 1] [⟨(some 5), .mv (.t 1), none, [], []⟩,
   ⟨(some 6), .bin .geq (.t 5) (.c (.int .i64 0)), none, [0], []⟩,
   ⟨(some 7), .mv (.t 6), none, [0, 1], []⟩,
   ⟨(some 8), .mv (.t 1), some (7, true), [0, 1, 2], []⟩,
   ⟨(some 9), .mv (.t 0), some (7, true), [0, 1, 2], []⟩,
   ⟨(some 10), .nilck (.t 9), some (7, true), [0, 1, 2, 4], []⟩,
   ⟨(some 11), .faddr 11 (.t 10), some (7, true), [0, 1, 2, 4, 5], []⟩,
   ⟨(some 12), .load false 1 (.t 11), some (7, true), [0, 1, 2, 4, 5, 6], []⟩,
   ⟨(some 13), .len false (.t 12), some (7, true), [0, 1, 2, 4, 5, 6, 7], []⟩,
   ⟨(some 14), .bin .lss (.t 8) (.t 13), some (7, true), (u 9), []⟩,
   ⟨(some 15), .pick (.t 7) (.t 14) (.c (.bool false)), none, (u 10), []⟩,
   ⟨(some 16), .mv (.t 15), none, (u 11), []⟩,
   ⟨(some 17), .mv (.t 0), some (16, true), (u 12), []⟩,
   ⟨(some 18), .nilck (.t 17), some (16, true), (u 13), []⟩,
   ⟨(some 19), .faddr 11 (.t 18), some (16, true), (u 14), []⟩,
   ⟨(some 20), .load false 1 (.t 19), some (16, true), (u 15), []⟩,
   ⟨(some 21), .mv (.t 1), some (16, true), (u 12), []⟩,
   ⟨(some 22), .iaddr 2 (.t 20) (.t 21), some (16, true), (u 17), []⟩,
   ⟨(some 23), .faddr 0 (.t 22), some (16, true), (u 18), []⟩,
   ⟨(some 24), .load false 1 (.t 23), some (16, true), (u 19), []⟩,
   ⟨(some 25), .mv (.t 0), some (16, true), (u 12), []⟩,
   ⟨(some 26), .nilck (.t 25), some (16, true), (u 12 ++ [20]), []⟩,
   ⟨(some 27), .faddr 8 (.t 26), some (16, true), (u 12 ++ [20, 21]), []⟩,
   ⟨(some 28), .faddr 0 (.t 27), some (16, true), (u 12 ++ [20, 21, 22]), []⟩,
   ⟨(some 29), .load false 1 (.t 28), some (16, true), (u 12 ++ [20, 21, 22, 23]), []⟩,
   ⟨(some 30), .bin .eql (.t 24) (.t 29), some (16, true), (u 25), []⟩,
   ⟨(some 31), .pick (.t 16) (.t 30) (.c (.bool false)), none, (u 26), []⟩,
   ⟨(some 4), .mv (.t 31), none, (u 27), []⟩])
 .ret)), false, false⟩
/-- (*progeny/logic.pair).parent -/
def c52 : CFn := ⟨17, [.t 4],
 (.seq
 (.region [0, 1] [⟨(some 4), .mv (.c (.int .i64 0)), none, [], []⟩])
 (.seq
 (.region [0, 1] [⟨(some 5), .mv (.t 0), none, [], []⟩,
   ⟨(some 6), .mv (.t 0), none, [], []⟩,
   ⟨(some 7), .mv (.t 0), none, [], []⟩,
   ⟨(some 8), .nilck (.t 7), none, [], []⟩,
   ⟨(some 9), .faddr 11 (.t 8), none, [], []⟩,
   ⟨(some 10), .load false 1 (.t 9), none, [], []⟩,
   ⟨(some 11), .mv (.t 1), none, [], []⟩,
   ⟨(some 12), .iaddr 2 (.t 10) (.t 11), none, [], []⟩,
   ⟨(some 13), .faddr 1 (.t 12), none, [], []⟩,
   ⟨(some 14), .load false 1 (.t 13), none, [], []⟩,
   ⟨(some 15), .call (.c (.fn 65 [])) [(.t 6), (.t 14)] false, none, [], []⟩,
   ⟨(some 16), .call (.c (.fn 77 [])) [(.t 5), (.t 15)] false, none, [], []⟩,
   ⟨(some 4), .mv (.t 16), none, [], []⟩])
 .ret)), false, false⟩
def c53_l0 : CC :=
 (.seq
 (.region [0, 3, 9, 10] [⟨(some 11), .bin .lss (.t 10) (.t 9), none, [], []⟩])
 (.seq
 (.cond (.t 11)
 .skip
 (.exit 0))
 (.seq
 (.block 1
 (.seq
 (.region [0, 3, 9, 10] [⟨(some 12), .mv (.t 10), none, [], []⟩,
   ⟨(some 4), .mv (.t 12), none, [], []⟩])
 (.seq
 (.region [0, 3, 4, 9, 10] [⟨(some 13), .mv (.t 0), none, [], []⟩,
   ⟨(some 14), .mv (.t 4), none, [], []⟩,
   ⟨(some 15), .call (.c (.fn 51 [])) [(.t 13), (.t 14)] false, none, [], []⟩,
   ⟨(some 16), .mv (.t 15), none, [], []⟩,
   ⟨(some 17), .mv (.t 0), some (16, true), [], []⟩,
   ⟨(some 18), .mv (.t 4), some (16, true), [], []⟩,
   ⟨(some 19), .call (.c (.fn 52 [])) [(.t 17), (.t 18)] false, some (16, true), [], []⟩,
   ⟨(some 20), .bin .lss (.t 19) (.c (.int .i64 0)), some (16, true), [], []⟩,
   ⟨(some 21), .pick (.t 16) (.t 20) (.c (.bool false)), none, [], []⟩])
 (.cond (.t 21)
 (.region [0, 3, 4, 9, 10] [⟨(some 22), .mv (.t 3), none, [], []⟩,
   ⟨(some 23), .mv (.t 4), none, [], []⟩,
   ⟨(some 24), .bslice 3 1 [[.int .i64 0]] [(0, (.t 23))], none, [], []⟩,
   ⟨(some 25), .app 3 1 8 false (.t 22) (.t 24), none, [], []⟩,
   ⟨(some 3), .mv (.t 25), none, [], []⟩])
 .skip))))
 (.region [0, 3, 9, 10] [⟨(some 26), .bin .add (.t 10) (.c (.int .i64 1)), none, [], []⟩,
   ⟨(some 10), .mv (.t 26), none, [], []⟩]))))
/-- (*progeny/logic.pair).lost -/
def c53 : CFn := ⟨28, [.t 2],
 (.seq
 (.region [0] [⟨(some 2), .mv (.c (.nils)), none, [], []⟩])
 (.seq
 (.region [0] [⟨(some 3), .mv (.c (.nils)), none, [], []⟩])
 (.seq
 (.seq
 (.region [0, 3] [⟨(some 5), .mv (.t 0), none, [], []⟩,
   ⟨(some 6), .nilck (.t 5), none, [], []⟩,
   ⟨(some 7), .faddr 11 (.t 6), none, [], []⟩,
   ⟨(some 8), .load false 1 (.t 7), none, [], []⟩,
   ⟨(some 9), .len false (.t 8), none, [], []⟩,
   ⟨(some 10), .mv (.c (.int .i64 0)), none, [], []⟩])
 (.block 0
 (.loop c53_l0)))
 (.seq
 (.region [3] [⟨(some 27), .mv (.t 3), none, [], []⟩,
   ⟨(some 2), .mv (.t 27), none, [], []⟩])
 .ret)))), false, false⟩
def c54_l0 : CC :=
 (.seq
 (.seq
 (.region [3, 6, 11, 14] [⟨(some 28), .mv (.t 14), none, [], []⟩,
   ⟨(some 29), .mv (.t 3), none, [], []⟩,
   ⟨(some 30), .len false (.t 29), none, [], []⟩,
   ⟨(some 31), .bin .lss (.t 28) (.t 30), none, [], []⟩])
 (.cond (.t 31)
 .skip
 (.exit 0)))
 (.seq
 (.block 1
 (.seq
 (.draw [3, 6, 11, 14] [⟨(some 35), .load true 4 (.t 6), none, [], []⟩,
   ⟨(some 36), .mv (.t 3), none, [], []⟩,
   ⟨(some 37), .mv (.t 14), none, [], []⟩,
   ⟨(some 38), .iaddr 2 (.t 36) (.t 37), none, [1, 2], []⟩,
   ⟨(some 39), .faddr 0 (.t 38), none, [1, 2, 3], []⟩,
   ⟨(some 40), .load false 1 (.t 39), none, [1, 2, 3, 4], []⟩,
   ⟨(some 41), .mv (.t 3), none, [], []⟩,
   ⟨(some 42), .mv (.t 14), none, [], []⟩,
   ⟨(some 43), .iaddr 2 (.t 41) (.t 42), none, [6, 7], []⟩,
   ⟨(some 44), .faddr 1 (.t 43), none, [6, 7, 8], []⟩,
   ⟨(some 45), .load false 1 (.t 44), none, [6, 7, 8, 9], []⟩,
   ⟨(some 46), .call (.c (.fn 79 [])) [(.t 35), (.t 40), (.t 45)] false, none, (u 11), []⟩,
   ⟨(some 34), .mv (.t 46), none, (u 12), []⟩,
   ⟨(some 47), .extract (.t 34) 0, none, (u 13), []⟩,
   ⟨(some 48), .extract (.t 34) 1, none, (u 13), []⟩,
   ⟨(some 15), .mv (.t 47), none, (u 14), []⟩,
   ⟨(some 16), .mv (.t 48), none, (u 16), []⟩])
 (.seq
 (.region [3, 6, 11, 14, 15] [⟨(some 49), .mv (.t 3), none, [], []⟩,
   ⟨(some 50), .mv (.t 14), none, [], []⟩,
   ⟨(some 51), .iaddr 2 (.t 49) (.t 50), none, [], []⟩,
   ⟨(some 52), .faddr 0 (.t 51), none, [], []⟩,
   ⟨(some 53), .load false 1 (.t 52), none, [], []⟩,
   ⟨(some 54), .bin .eql (.t 53) (.c (.int .i64 0)), none, [], []⟩,
   ⟨(some 55), .mv (.t 54), none, [], []⟩,
   ⟨(some 56), .mv (.t 15), some (55, true), [], []⟩,
   ⟨(some 57), .mv (.t 11), some (55, true), [], []⟩,
   ⟨(some 58), .bin .eql (.t 56) (.t 57), some (55, true), [], []⟩,
   ⟨(some 59), .pick (.t 55) (.t 58) (.c (.bool false)), none, [], []⟩])
 (.cond (.t 59)
 (.seq
 (.region [14] [⟨(some 60), .mv (.t 14), none, [], []⟩,
   ⟨(some 10), .mv (.t 60), none, [], []⟩])
 .ret)
 .skip))))
 (.region [3, 6, 11, 14] [⟨(some 32), .mv (.t 14), none, [], []⟩,
   ⟨(some 33), .bin .add (.t 32) (.c (.int .i64 1)), none, [], []⟩,
   ⟨(some 14), .mv (.t 33), none, [], []⟩])))
/-- progeny/progenyref19.above -/
def c54 : CFn := ⟨61, [.t 10],
 (.seq
 (.region [0, 1, 2, 3, 4] [⟨(some 5), .box 25 4 (.t 0), none, [], []⟩,
   ⟨(some 6), .box 25 4 (.t 1), none, [], []⟩,
   ⟨(some 7), .box 27 3 (.t 2), none, [], []⟩,
   ⟨(some 10), .mv (.c (.int .i64 0)), none, [], []⟩])
 (.seq
 (.region [3, 4, 5, 6, 7] [⟨(some 18), .load true 4 (.t 5), none, [], []⟩,
   ⟨(some 19), .faddr 0 (.t 7), none, [], []⟩,
   ⟨(some 20), .load false 1 (.t 19), none, [], []⟩,
   ⟨(some 21), .mv (.t 4), none, [], []⟩,
   ⟨(some 22), .faddr 1 (.t 7), none, [], []⟩,
   ⟨(some 23), .load false 1 (.t 22), none, [], []⟩,
   ⟨(some 24), .call (.c (.fn 78 [])) [(.t 18), (.t 20), (.t 21), (.t 23)] false, none, [], []⟩,
   ⟨(some 17), .mv (.t 24), none, [], []⟩,
   ⟨(some 25), .extract (.t 17) 0, none, [], []⟩,
   ⟨(some 26), .extract (.t 17) 1, none, [], []⟩,
   ⟨(some 27), .extract (.t 17) 2, none, [], []⟩,
   ⟨(some 11), .mv (.t 25), none, [], []⟩,
   ⟨(some 12), .mv (.t 26), none, [], []⟩,
   ⟨(some 13), .mv (.t 27), none, [], []⟩])
 (.seq
 (.seq
 (.region [3, 6, 11] [⟨(some 14), .mv (.c (.int .i64 0)), none, [], []⟩])
 (.block 0
 (.loop c54_l0)))
 (.seq
 (.region [] [⟨(some 10), .mv (.c (.int .i64 (-1))), none, [], []⟩])
 .ret)))), false, false⟩
/-- progeny/plain.Path -/
def c55 : CFn := ⟨21, [.t 6, .t 7],
 (.seq
 (.region [0, 1, 2] [⟨(some 3), .box 25 4 (.t 0), none, [], []⟩,
   ⟨(some 6), .mv (.c (.nils)), none, [], []⟩,
   ⟨(some 7), .mv (.c (.int .i64 0)), none, [], []⟩])
 (.seq
 (.seq
 (.region [1, 2, 3] [⟨(some 9), .load true 4 (.t 3), none, [], []⟩,
   ⟨(some 10), .mv (.t 1), none, [], []⟩,
   ⟨(some 11), .mv (.t 2), none, [], []⟩,
   ⟨(some 12), .bslice 3 1 [[.int .i64 0]] [(0, (.t 11))], none, [], []⟩,
   ⟨(some 13), .call (.c (.fn 61 [])) [(.t 9), (.t 10), (.t 12)] false, none, [], []⟩,
   ⟨(some 8), .mv (.t 13), none, [], []⟩])
 (.seq
 (.region [1, 2, 3, 8] [⟨(some 14), .mv (.t 8), none, [], []⟩,
   ⟨(some 15), .bin .neq (.t 14) (.c (.int .i64 0)), none, [], []⟩])
 (.cond (.t 15)
 (.seq
 (.region [8] [⟨(some 16), .mv (.t 8), none, [], []⟩,
   ⟨(some 6), .mv (.c (.nils)), none, [], []⟩,
   ⟨(some 7), .mv (.t 16), none, [], []⟩])
 .ret)
 .skip)))
 (.seq
 (.region [1, 2, 3] [⟨(some 17), .load true 4 (.t 3), none, [], []⟩,
   ⟨(some 18), .mv (.t 1), none, [], []⟩,
   ⟨(some 19), .mv (.t 2), none, [], []⟩,
   ⟨(some 20), .call (.c (.fn 80 [])) [(.t 17), (.t 18), (.t 19)] true, none, [], []⟩,
   ⟨(some 6), .mv (.t 20), none, [], []⟩,
   ⟨(some 7), .mv (.c (.int .i64 0)), none, [], []⟩])
 .ret))), false, false⟩
/-- slices.Contains[[]int,int] -/
def c56 : CFn := ⟨9, [.t 4],
 (.seq
 (.region [0, 1] [⟨(some 4), .mv (.c (.bool false)), none, [], []⟩])
 (.seq
 (.region [0, 1] [⟨(some 5), .mv (.t 0), none, [], []⟩,
   ⟨(some 6), .mv (.t 1), none, [], []⟩,
   ⟨(some 7), .call (.c (.fn 81 [])) [(.t 5), (.t 6)] false, none, [], []⟩,
   ⟨(some 8), .bin .geq (.t 7) (.c (.int .i64 0)), none, [], []⟩,
   ⟨(some 4), .mv (.t 8), none, [], []⟩])
 .ret)), false, false⟩
def c57_l0 : CC :=
 (.seq
 (.seq
 (.region [1, 2, 3, 7] [⟨(some 8), .mv (.t 2), none, [], []⟩,
   ⟨(some 9), .bin .geq (.t 8) (.c (.int .i64 0)), none, [], []⟩])
 (.cond (.t 9)
 .skip
 (.exit 0)))
 (.block 1
 (.seq
 (.region [1, 2, 3, 7] [⟨(some 10), .mv (.t 2), none, [], []⟩,
   ⟨(some 11), .bslice 3 1 [[.int .i64 0]] [(0, (.t 10))], none, [], []⟩,
   ⟨(some 12), .mv (.t 7), none, [], []⟩,
   ⟨(some 13), .app 3 1 8 false (.t 11) (.t 12), none, [], []⟩,
   ⟨(some 7), .mv (.t 13), none, [], []⟩])
 (.region [1, 2, 3, 7] [⟨(some 14), .load true 4 (.t 3), none, [], []⟩,
   ⟨(some 15), .mv (.t 1), none, [], []⟩,
   ⟨(some 16), .mv (.t 2), none, [], []⟩,
   ⟨(some 17), .call (.c (.fn 82 [])) [(.t 14), (.t 15), (.t 16)] false, none, [], []⟩,
   ⟨(some 2), .mv (.t 17), none, [], []⟩]))))
/-- progeny/progenyref13.Way -/
def c57 : CFn := ⟨19, [.t 6],
 (.seq
 (.region [0, 1, 2] [⟨(some 3), .box 25 4 (.t 0), none, [], []⟩,
   ⟨(some 6), .mv (.c (.nils)), none, [], []⟩])
 (.seq
 (.region [1, 2, 3] [⟨(some 7), .mv (.c (.nils)), none, [], []⟩])
 (.seq
 (.block 0
 (.loop c57_l0))
 (.seq
 (.region [7] [⟨(some 18), .mv (.t 7), none, [], []⟩,
   ⟨(some 6), .mv (.t 18), none, [], []⟩])
 .ret)))), false, false⟩
/-- progeny/progenylaw13.Shop -/
def c60 : CFn := ⟨11, [.cell 0 true 4],
 (.seq
 (.region [] [⟨(some 0), .box 25 4 (.c (.agg [.str ⟨#[]⟩, .int .i64 0, .nils, .nils])), none, [], []⟩])
 (.seq
 (.region [0] [⟨(some 1), .build [.str ⟨#[]⟩, .int .i64 0, .int .i64 0] [(0, 1, (.c (.str ⟨#[67, 85, 83, 84, 78, 79]⟩))), (2, 1, (.c (.int .i64 1)))], none, [], []⟩,
   ⟨(some 2), .bslice 101 3 [[.str ⟨#[]⟩, .int .i64 0, .int .i64 0]] [(0, (.t 1))], none, [], []⟩,
   ⟨(some 3), .build [.str ⟨#[]⟩, .int .i64 0, .int .i64 0, .int .i64 0, .nils, .int .i64 0, .bool false, .bool false] [(0, 1, (.c (.str ⟨#[67, 85, 83, 84]⟩))), (1, 1, (.c (.int .i64 (-1)))), (2, 1, (.c (.int .i64 1))), (3, 1, (.c (.int .i64 10))), (4, 1, (.t 2)), (6, 1, (.c (.bool true)))], none, [], []⟩,
   ⟨(some 4), .build [.str ⟨#[]⟩, .int .i64 0, .int .i64 0] [(0, 1, (.c (.str ⟨#[79, 82, 68, 78, 79]⟩))), (2, 1, (.c (.int .i64 1)))], none, [], []⟩,
   ⟨(some 5), .bslice 101 3 [[.str ⟨#[]⟩, .int .i64 0, .int .i64 0]] [(0, (.t 4))], none, [], []⟩,
   ⟨(some 6), .build [.str ⟨#[]⟩, .int .i64 0, .int .i64 0, .int .i64 0, .nils, .int .i64 0, .bool false, .bool false] [(0, 1, (.c (.str ⟨#[79, 82, 68, 69, 82]⟩))), (1, 1, (.c (.int .i64 0))), (2, 1, (.c (.int .i64 1))), (3, 1, (.c (.int .i64 12))), (4, 1, (.t 5)), (6, 1, (.c (.bool true)))], none, [], []⟩,
   ⟨(some 7), .build [.str ⟨#[]⟩, .int .i64 0, .int .i64 0, .int .i64 0, .nils, .int .i64 0, .bool false, .bool false] [(0, 1, (.c (.str ⟨#[73, 84, 69, 77]⟩))), (1, 1, (.c (.int .i64 1))), (2, 1, (.c (.int .i64 1))), (3, 1, (.c (.int .i64 8))), (5, 1, (.c (.int .i64 (-1)))), (7, 1, (.c (.bool true)))], none, [], []⟩,
   ⟨(some 8), .build [.str ⟨#[]⟩, .int .i64 0, .int .i64 0, .int .i64 0, .nils, .int .i64 0, .bool false, .bool false] [(0, 1, (.c (.str ⟨#[80, 72, 79, 78, 69]⟩))), (1, 1, (.c (.int .i64 0))), (2, 1, (.c (.int .i64 1))), (3, 1, (.c (.int .i64 8))), (5, 1, (.c (.int .i64 (-1))))], none, [], []⟩,
   ⟨(some 9), .bslice 87 8 [[.str ⟨#[]⟩, .int .i64 0, .int .i64 0, .int .i64 0, .nils, .int .i64 0, .bool false, .bool false], [.str ⟨#[]⟩, .int .i64 0, .int .i64 0, .int .i64 0, .nils, .int .i64 0, .bool false, .bool false], [.str ⟨#[]⟩, .int .i64 0, .int .i64 0, .int .i64 0, .nils, .int .i64 0, .bool false, .bool false], [.str ⟨#[]⟩, .int .i64 0, .int .i64 0, .int .i64 0, .nils, .int .i64 0, .bool false, .bool false]] [(0, (.t 3)), (1, (.t 6)), (2, (.t 7)), (3, (.t 8))], none, [], []⟩,
   ⟨(some 10), .build [.str ⟨#[]⟩, .int .i64 0, .nils, .nils] [(0, 1, (.c (.str ⟨#[83, 72, 79, 80]⟩))), (1, 1, (.c (.int .i64 4))), (2, 1, (.t 9))], none, [], []⟩,
   ⟨none, .store 4 (.t 0) (.t 10), none, [], []⟩])
 .ret)), false, false⟩
/-- progeny/plain.forest -/
def c61 : CFn := ⟨20, [.t 6],
 (.seq
 (.region [0, 1, 2] [⟨(some 3), .box 25 4 (.t 0), none, [], []⟩,
   ⟨(some 4), .box 28 1 (.t 1), none, [], []⟩,
   ⟨(some 6), .mv (.c (.int .i64 0)), none, [], []⟩])
 (.seq
 (.block 0
 (.seq
 (.region [2, 3, 4] [⟨(some 8), .load true 4 (.t 3), none, [], []⟩,
   ⟨(some 9), .call (.c (.fn 42 [])) [(.t 8)] false, none, [], []⟩,
   ⟨(some 10), .un .not (.t 9), none, [], []⟩,
   ⟨(some 7), .mv (.t 10), none, [], []⟩])
 (.cond (.t 7)
 (.seq
 (.region [] [⟨(some 6), .mv (.c (.int .i64 100)), none, [], []⟩])
 .ret)
 (.seq
 (.region [2, 3, 4] [⟨(some 12), .load true 4 (.t 3), none, [], []⟩,
   ⟨(some 13), .load false 1 (.t 4), none, [], []⟩,
   ⟨(some 14), .call (.c (.fn 85 [])) [(.t 12), (.t 13)] false, none, [], []⟩,
   ⟨(some 15), .un .not (.t 14), none, [], []⟩,
   ⟨(some 11), .mv (.t 15), none, [], []⟩])
 (.cond (.t 11)
 (.seq
 (.region [] [⟨(some 6), .mv (.c (.int .i64 120)), none, [], []⟩])
 .ret)
 (.seq
 (.region [2, 4] [⟨(some 17), .mv (.t 2), none, [], []⟩,
   ⟨(some 18), .mkfn 87 [(.t 4)], none, [], []⟩,
   ⟨(some 19), .call (.c (.fn 86 [])) [(.t 17), (.t 18)] false, none, [], []⟩,
   ⟨(some 16), .mv (.t 19), none, [], []⟩])
 (.cond (.t 16)
 (.seq
 (.region [] [⟨(some 6), .mv (.c (.int .i64 2)), none, [], []⟩])
 .ret)
 .skip)))))))
 (.seq
 (.region [] [⟨(some 6), .mv (.c (.int .i64 0)), none, [], []⟩])
 .ret))), false, false⟩
/-- slices.Delete[[]progeny/api.Item,progeny/api.Item] -/
def c62 : CFn := ⟨33, [.t 6],
 (.seq
 (.region [0, 1, 2] [⟨(some 6), .mv (.c (.nils)), none, [], []⟩])
 (.seq
 (.region [0, 1, 2] [⟨(some 8), .mv (.t 0), none, [], []⟩,
   ⟨(some 9), .mv (.t 1), none, [], []⟩,
   ⟨(some 10), .mv (.t 2), none, [], []⟩,
   ⟨(some 11), .mv (.t 0), none, [], []⟩,
   ⟨(some 12), .len false (.t 11), none, [], []⟩,
   ⟨(some 13), .slc 2 (.t 8) (some (.t 9)) (some (.t 10)) (some (.t 12)), none, [], []⟩])
 (.seq
 (.seq
 (.region [0, 1, 2] [⟨(some 14), .mv (.t 1), none, [], []⟩,
   ⟨(some 15), .mv (.t 2), none, [], []⟩,
   ⟨(some 16), .bin .eql (.t 14) (.t 15), none, [], []⟩])
 (.cond (.t 16)
 (.seq
 (.region [0] [⟨(some 17), .mv (.t 0), none, [], []⟩,
   ⟨(some 6), .mv (.t 17), none, [], []⟩])
 .ret)
 .skip))
 (.seq
 (.region [0, 1, 2] [⟨(some 18), .mv (.t 0), none, [], []⟩,
   ⟨(some 19), .len false (.t 18), none, [], []⟩,
   ⟨(some 7), .mv (.t 19), none, [], []⟩])
 (.seq
 (.draw [0, 1, 2, 7] [⟨(some 20), .mv (.t 0), none, [], []⟩,
   ⟨(some 21), .mv (.t 1), none, [], []⟩,
   ⟨(some 22), .slc 2 (.t 20) none (some (.t 21)) none, none, [0, 1], []⟩,
   ⟨(some 23), .mv (.t 0), none, [], []⟩,
   ⟨(some 24), .mv (.t 2), none, [], []⟩,
   ⟨(some 25), .slc 2 (.t 23) (some (.t 24)) none none, none, [3, 4], []⟩,
   ⟨(some 26), .app 44 2 24 true (.t 22) (.t 25), none, (u 6), []⟩,
   ⟨(some 0), .mv (.t 26), none, (u 7), []⟩])
 (.seq
 (.region [0, 7] [⟨(some 27), .mv (.t 0), none, [], []⟩,
   ⟨(some 28), .mv (.t 0), none, [], []⟩,
   ⟨(some 29), .len false (.t 28), none, [], []⟩,
   ⟨(some 30), .mv (.t 7), none, [], []⟩,
   ⟨(some 31), .slc 2 (.t 27) (some (.t 29)) (some (.t 30)) none, none, [], []⟩,
   ⟨none, .clear 2 [.int .i64 0, .str ⟨#[]⟩] (.t 31), none, [], []⟩])
 (.seq
 (.region [0] [⟨(some 32), .mv (.t 0), none, [], []⟩,
   ⟨(some 6), .mv (.t 32), none, [], []⟩])
 .ret))))))), false, false⟩
def c63_l0 : CC :=
 (.seq
 (.seq
 (.draw [1, 2, 3, 7] [⟨(some 17), .mv (.t 2), none, [], []⟩,
   ⟨(some 18), .mv (.t 1), none, [], []⟩,
   ⟨(some 19), .len false (.t 18), none, [1], []⟩,
   ⟨(some 20), .bin .lss (.t 17) (.t 19), none, [0, 1, 2], []⟩,
   ⟨(some 21), .mv (.t 20), none, (u 4), []⟩,
   ⟨(some 22), .load true 4 (.t 3), some (21, true), (u 5), []⟩,
   ⟨(some 23), .mv (.t 1), some (21, true), (u 5), []⟩,
   ⟨(some 24), .mv (.t 2), some (21, true), (u 5), []⟩,
   ⟨(some 25), .iaddr 2 (.t 23) (.t 24), some (21, true), (u 5 ++ [6, 7]), []⟩,
   ⟨(some 26), .faddr 0 (.t 25), some (21, true), (u 5 ++ [6, 7, 8]), []⟩,
   ⟨(some 27), .load false 1 (.t 26), some (21, true), (u 5 ++ [6, 7, 8, 9]), []⟩,
   ⟨(some 28), .call (.c (.fn 88 [])) [(.t 22), (.t 27)] false, some (21, true), (u 11), []⟩,
   ⟨(some 29), .mv (.t 7), some (21, true), (u 5), []⟩,
   ⟨(some 30), .bin .gtr (.t 28) (.t 29), some (21, true), (u 13), []⟩,
   ⟨(some 31), .pick (.t 21) (.t 30) (.c (.bool false)), none, (u 14), []⟩])
 (.cond (.t 31)
 .skip
 (.exit 0)))
 (.seq
 (.block 1
 .skip)
 (.region [1, 2, 3, 7] [⟨(some 32), .mv (.t 2), none, [], []⟩,
   ⟨(some 33), .bin .add (.t 32) (.c (.int .i64 1)), none, [], []⟩,
   ⟨(some 2), .mv (.t 33), none, [], []⟩])))
/-- progeny/plain.end -/
def c63 : CFn := ⟨35, [.t 6],
 (.seq
 (.region [0, 1, 2] [⟨(some 3), .box 25 4 (.t 0), none, [], []⟩,
   ⟨(some 6), .mv (.c (.int .i64 0)), none, [], []⟩])
 (.seq
 (.draw [1, 2, 3] [⟨(some 8), .load true 4 (.t 3), none, [], []⟩,
   ⟨(some 9), .mv (.t 1), none, [], []⟩,
   ⟨(some 10), .mv (.t 2), none, [], []⟩,
   ⟨(some 11), .iaddr 2 (.t 9) (.t 10), none, [1, 2], []⟩,
   ⟨(some 12), .faddr 0 (.t 11), none, [1, 2, 3], []⟩,
   ⟨(some 13), .load false 1 (.t 12), none, [1, 2, 3, 4], []⟩,
   ⟨(some 14), .call (.c (.fn 88 [])) [(.t 8), (.t 13)] false, none, (u 6), []⟩,
   ⟨(some 7), .mv (.t 14), none, (u 7), []⟩])
 (.seq
 (.seq
 (.region [1, 2, 3, 7] [⟨(some 15), .mv (.t 2), none, [], []⟩,
   ⟨(some 16), .bin .add (.t 15) (.c (.int .i64 1)), none, [], []⟩,
   ⟨(some 2), .mv (.t 16), none, [], []⟩])
 (.block 0
 (.loop c63_l0)))
 (.seq
 (.region [2] [⟨(some 34), .mv (.t 2), none, [], []⟩,
   ⟨(some 6), .mv (.t 34), none, [], []⟩])
 .ret)))), false, false⟩
/-- progeny/dbd.KeyOf -/
def c64 : CFn := ⟨45, [.t 6, .t 7],
 (.seq
 (.region [0, 1, 2] [⟨(some 3), .box 25 4 (.t 0), none, [], []⟩,
   ⟨(some 6), .mv (.c (.str ⟨#[]⟩)), none, [], []⟩,
   ⟨(some 7), .mv (.c (.int .i64 0)), none, [], []⟩])
 (.seq
 (.seq
 (.region [1, 2, 3] [⟨(some 12), .load true 4 (.t 3), none, [], []⟩,
   ⟨(some 13), .mv (.t 1), none, [], []⟩,
   ⟨(some 14), .bslice 3 1 [[.int .i64 0]] [(0, (.t 13))], none, [], []⟩,
   ⟨(some 15), .call (.c (.fn 89 [])) [(.t 12), (.t 14)] false, none, [], []⟩,
   ⟨(some 8), .mv (.t 15), none, [], []⟩])
 (.seq
 (.region [1, 2, 3, 8] [⟨(some 16), .mv (.t 8), none, [], []⟩,
   ⟨(some 17), .bin .neq (.t 16) (.c (.int .i64 0)), none, [], []⟩])
 (.cond (.t 17)
 (.seq
 (.region [8] [⟨(some 18), .mv (.t 8), none, [], []⟩,
   ⟨(some 6), .mv (.c (.str ⟨#[]⟩)), none, [], []⟩,
   ⟨(some 7), .mv (.t 18), none, [], []⟩])
 .ret)
 .skip)))
 (.seq
 (.region [1, 2, 3] [⟨(some 19), .faddr 2 (.t 3), none, [], []⟩,
   ⟨(some 20), .load false 1 (.t 19), none, [], []⟩,
   ⟨(some 21), .mv (.t 1), none, [], []⟩,
   ⟨(some 22), .iaddr 8 (.t 20) (.t 21), none, [], []⟩,
   ⟨(some 23), .load true 8 (.t 22), none, [], []⟩,
   ⟨(some 9), .box 87 8 (.c (.agg [.str ⟨#[]⟩, .int .i64 0, .int .i64 0, .int .i64 0, .nils, .int .i64 0, .bool false, .bool false])), none, [], []⟩,
   ⟨none, .store 8 (.t 9) (.t 23), none, [], []⟩])
 (.seq
 (.block 0
 (.seq
 (.region [2, 9] [⟨(some 25), .load true 8 (.t 9), none, [], []⟩,
   ⟨(some 26), .mv (.t 2), none, [], []⟩,
   ⟨(some 27), .call (.c (.fn 90 [])) [(.t 25), (.t 26)] false, none, [], []⟩,
   ⟨(some 28), .un .not (.t 27), none, [], []⟩,
   ⟨(some 24), .mv (.t 28), none, [], []⟩])
 (.cond (.t 24)
 (.seq
 (.region [] [⟨(some 6), .mv (.c (.str ⟨#[]⟩)), none, [], []⟩,
   ⟨(some 7), .mv (.c (.int .i64 2)), none, [], []⟩])
 .ret)
 (.seq
 (.region [2, 9] [⟨(some 30), .faddr 5 (.t 9), none, [], []⟩,
   ⟨(some 31), .load false 1 (.t 30), none, [], []⟩,
   ⟨(some 32), .bin .lss (.t 31) (.c (.int .i64 0)), none, [], []⟩,
   ⟨(some 29), .mv (.t 32), none, [], []⟩])
 (.cond (.t 29)
 (.seq
 (.region [] [⟨(some 6), .mv (.c (.str ⟨#[]⟩)), none, [], []⟩,
   ⟨(some 7), .mv (.c (.int .i64 0)), none, [], []⟩])
 .ret)
 .skip)))))
 (.seq
 (.region [2, 9] [⟨(some 34), .faddr 4 (.t 9), none, [], []⟩,
   ⟨(some 35), .load false 1 (.t 34), none, [], []⟩,
   ⟨(some 36), .faddr 5 (.t 9), none, [], []⟩,
   ⟨(some 37), .load false 1 (.t 36), none, [], []⟩,
   ⟨(some 38), .iaddr 3 (.t 35) (.t 37), none, [], []⟩,
   ⟨(some 39), .load true 3 (.t 38), none, [], []⟩,
   ⟨(some 40), .mv (.t 2), none, [], []⟩,
   ⟨(some 41), .call (.c (.fn 91 [])) [(.t 39), (.t 40)] false, none, [], []⟩,
   ⟨(some 33), .mv (.t 41), none, [], []⟩,
   ⟨(some 42), .extract (.t 33) 0, none, [], []⟩,
   ⟨(some 43), .extract (.t 33) 1, none, [], []⟩,
   ⟨(some 10), .mv (.t 42), none, [], []⟩,
   ⟨(some 11), .mv (.t 43), none, [], []⟩])
 (.seq
 (.region [10] [⟨(some 44), .mv (.t 10), none, [], []⟩,
   ⟨(some 6), .mv (.t 44), none, [], []⟩,
   ⟨(some 7), .mv (.c (.int .i64 0)), none, [], []⟩])
 .ret)))))), false, false⟩
/-- (*progeny/logic.pair).key -/
def c65 : CFn := ⟨35, [.t 4],
 (.seq
 (.region [0, 1] [⟨(some 4), .mv (.c (.str ⟨#[]⟩)), none, [], []⟩])
 (.seq
 (.draw [0, 1] [⟨(some 6), .mv (.t 0), none, [], []⟩,
   ⟨(some 7), .nilck (.t 6), none, [0], []⟩,
   ⟨(some 8), .faddr 0 (.t 7), none, [0, 1], []⟩,
   ⟨(some 9), .faddr 2 (.t 8), none, [0, 1, 2], []⟩,
   ⟨(some 10), .load false 1 (.t 9), none, (u 4), [21]⟩,
   ⟨(some 11), .mv (.t 0), none, [], []⟩,
   ⟨(some 12), .nilck (.t 11), none, [5], []⟩,
   ⟨(some 13), .faddr 8 (.t 12), none, [5, 6], []⟩,
   ⟨(some 14), .faddr 0 (.t 13), none, [5, 6, 7], []⟩,
   ⟨(some 15), .load false 1 (.t 14), none, [5, 6, 7, 8], [21]⟩,
   ⟨(some 16), .iaddr 8 (.t 10) (.t 15), none, (u 10), []⟩,
   ⟨(some 17), .faddr 4 (.t 16), none, (u 11), []⟩,
   ⟨(some 18), .load false 1 (.t 17), none, (u 12), [21]⟩,
   ⟨(some 19), .mv (.t 0), none, [], []⟩,
   ⟨(some 20), .nilck (.t 19), none, [13], []⟩,
   ⟨(some 21), .faddr 8 (.t 20), none, [13, 14], []⟩,
   ⟨(some 22), .faddr 1 (.t 21), none, [13, 14, 15], []⟩,
   ⟨(some 23), .load false 1 (.t 22), none, [13, 14, 15, 16], [21]⟩,
   ⟨(some 24), .iaddr 3 (.t 18) (.t 23), none, (u 18), []⟩,
   ⟨(some 25), .load true 3 (.t 24), none, (u 19), [21]⟩,
   ⟨(some 5), .box 101 3 (.c (.agg [.str ⟨#[]⟩, .int .i64 0, .int .i64 0])), none, [], []⟩,
   ⟨none, .store 3 (.t 5) (.t 25), none, (u 21), []⟩])
 (.seq
 (.region [1, 5] [⟨(some 26), .mv (.t 1), none, [], []⟩,
   ⟨(some 27), .faddr 1 (.t 5), none, [], []⟩,
   ⟨(some 28), .load false 1 (.t 27), none, [], []⟩,
   ⟨(some 29), .faddr 1 (.t 5), none, [], []⟩,
   ⟨(some 30), .load false 1 (.t 29), none, [], []⟩,
   ⟨(some 31), .faddr 2 (.t 5), none, [], []⟩,
   ⟨(some 32), .load false 1 (.t 31), none, [], []⟩,
   ⟨(some 33), .bin .add (.t 30) (.t 32), none, [], []⟩,
   ⟨(some 34), .slcs (.t 26) (some (.t 28)) (some (.t 33)), none, [], []⟩,
   ⟨(some 4), .mv (.t 34), none, [], []⟩])
 .ret))), false, false⟩
def c66_l0 : CC :=
 (.seq
 (.seq
 (.region [0, 1, 3] [⟨(some 7), .mv (.t 3), none, [], []⟩,
   ⟨(some 8), .bin .geq (.t 7) (.c (.int .i64 0)), none, [], []⟩])
 (.cond (.t 8)
 .skip
 (.exit 0)))
 (.seq
 (.block 1
 (.seq
 (.region [0, 1, 3] [⟨(some 11), .mv (.t 0), none, [], []⟩,
   ⟨(some 12), .mv (.t 3), none, [], []⟩,
   ⟨(some 13), .load false 1 (.t 1), none, [], []⟩,
   ⟨(some 14), .mv (.t 3), none, [], []⟩,
   ⟨(some 15), .iaddr 1 (.t 13) (.t 14), none, [], []⟩,
   ⟨(some 16), .load false 1 (.t 15), none, [], []⟩,
   ⟨(some 17), .call (.t 11) [(.t 12), (.t 16)] false, none, [], []⟩,
   ⟨(some 18), .un .not (.t 17), none, [], []⟩])
 (.cond (.t 18)
 .ret
 .skip)))
 (.region [0, 1, 3] [⟨(some 9), .mv (.t 3), none, [], []⟩,
   ⟨(some 10), .bin .sub (.t 9) (.c (.int .i64 1)), none, [], []⟩,
   ⟨(some 3), .mv (.t 10), none, [], []⟩])))
/-- slices.Backward[[]int,int]$1 -/
def c66 : CFn := ⟨19, [],
 (.seq
 (.region [0, 1] [⟨(some 4), .load false 1 (.t 1), none, [], []⟩,
   ⟨(some 5), .len false (.t 4), none, [], []⟩,
   ⟨(some 6), .bin .sub (.t 5) (.c (.int .i64 1)), none, [], []⟩,
   ⟨(some 3), .mv (.t 6), none, [], []⟩])
 (.block 0
 (.loop c66_l0))), false, false⟩
def c67_l0 : CC :=
 (.seq
 (.seq
 (.region [1, 2, 7] [⟨(some 17), .mv (.t 7), none, [], []⟩,
   ⟨(some 18), .mv (.t 2), none, [], []⟩,
   ⟨(some 19), .len false (.t 18), none, [], []⟩,
   ⟨(some 20), .bin .lss (.t 17) (.t 19), none, [], []⟩])
 (.cond (.t 20)
 .skip
 (.exit 1)))
 (.seq
 (.block 2
 (.seq
 (.region [1, 2, 7] [⟨(some 23), .mv (.t 2), none, [], []⟩,
   ⟨(some 24), .mv (.t 7), none, [], []⟩,
   ⟨(some 25), .iaddr 1 (.t 23) (.t 24), none, [], []⟩,
   ⟨(some 26), .load false 1 (.t 25), none, [], []⟩,
   ⟨(some 27), .bin .lss (.t 26) (.c (.int .i64 0)), none, [], []⟩,
   ⟨(some 28), .mv (.t 27), none, [], []⟩,
   ⟨(some 29), .mv (.t 2), some (28, false), [], []⟩,
   ⟨(some 30), .mv (.t 7), some (28, false), [], []⟩,
   ⟨(some 31), .iaddr 1 (.t 29) (.t 30), some (28, false), [], []⟩,
   ⟨(some 32), .load false 1 (.t 31), some (28, false), [], []⟩,
   ⟨(some 33), .mv (.t 1), some (28, false), [], []⟩,
   ⟨(some 34), .len false (.t 33), some (28, false), [], []⟩,
   ⟨(some 35), .bin .geq (.t 32) (.t 34), some (28, false), [], []⟩,
   ⟨(some 36), .pick (.t 28) (.c (.bool true)) (.t 35), none, [], []⟩])
 (.cond (.t 36)
 (.seq
 (.region [] [⟨(some 6), .mv (.c (.int .i64 2)), none, [], []⟩])
 .ret)
 .skip)))
 (.region [1, 2, 7] [⟨(some 21), .mv (.t 7), none, [], []⟩,
   ⟨(some 22), .bin .add (.t 21) (.c (.int .i64 1)), none, [], []⟩,
   ⟨(some 7), .mv (.t 22), none, [], []⟩])))
/-- progeny/progenyref13.Asked -/
def c67 : CFn := ⟨37, [.t 6],
 (.seq
 (.region [0, 1, 2] [⟨(some 3), .box 25 4 (.t 0), none, [], []⟩,
   ⟨(some 6), .mv (.c (.int .i64 0)), none, [], []⟩])
 (.seq
 (.block 0
 (.seq
 (.region [1, 2, 3] [⟨(some 9), .load true 4 (.t 3), none, [], []⟩,
   ⟨(some 10), .call (.c (.fn 44 [])) [(.t 9)] false, none, [], []⟩,
   ⟨(some 11), .un .not (.t 10), none, [], []⟩,
   ⟨(some 8), .mv (.t 11), none, [], []⟩])
 (.cond (.t 8)
 (.seq
 (.region [] [⟨(some 6), .mv (.c (.int .i64 100)), none, [], []⟩])
 .ret)
 (.seq
 (.region [1, 2, 3] [⟨(some 13), .load true 4 (.t 3), none, [], []⟩,
   ⟨(some 14), .mv (.t 1), none, [], []⟩,
   ⟨(some 15), .call (.c (.fn 92 [])) [(.t 13), (.t 14)] false, none, [], []⟩,
   ⟨(some 16), .un .not (.t 15), none, [], []⟩,
   ⟨(some 12), .mv (.t 16), none, [], []⟩])
 (.cond (.t 12)
 (.seq
 (.region [] [⟨(some 6), .mv (.c (.int .i64 120)), none, [], []⟩])
 .ret)
 .skip)))))
 (.seq
 (.seq
 (.region [1, 2] [⟨(some 7), .mv (.c (.int .i64 0)), none, [], []⟩])
 (.block 1
 (.loop c67_l0)))
 (.seq
 (.region [] [⟨(some 6), .mv (.c (.int .i64 0)), none, [], []⟩])
 .ret)))), false, false⟩
def c69_l0 : CC :=
 (.seq
 (.region [0, 6, 7] [⟨(some 8), .bin .lss (.t 7) (.t 6), none, [], []⟩])
 (.seq
 (.cond (.t 8)
 .skip
 (.exit 0))
 (.seq
 (.block 1
 (.seq
 (.region [0, 6, 7] [⟨(some 9), .mv (.t 7), none, [], []⟩,
   ⟨(some 3), .mv (.t 9), none, [], []⟩])
 (.seq
 (.region [0, 3, 6, 7] [⟨(some 10), .mv (.t 0), none, [], []⟩,
   ⟨(some 11), .mv (.t 3), none, [], []⟩,
   ⟨(some 12), .idx (.t 10) (.t 11), none, [], []⟩,
   ⟨(some 13), .bin .geq (.t 12) (.c (.int .u8 65)), none, [], []⟩,
   ⟨(some 14), .mv (.t 13), none, [], []⟩,
   ⟨(some 15), .mv (.t 0), some (14, true), [], []⟩,
   ⟨(some 16), .mv (.t 3), some (14, true), [], []⟩,
   ⟨(some 17), .idx (.t 15) (.t 16), some (14, true), [], []⟩,
   ⟨(some 18), .bin .leq (.t 17) (.c (.int .u8 90)), some (14, true), [], []⟩,
   ⟨(some 19), .pick (.t 14) (.t 18) (.c (.bool false)), none, [], []⟩,
   ⟨(some 4), .mv (.t 19), none, [], []⟩])
 (.seq
 (.region [0, 3, 4, 6, 7] [⟨(some 20), .mv (.t 4), none, [], []⟩,
   ⟨(some 21), .un .not (.t 20), none, [], []⟩,
   ⟨(some 22), .mv (.t 21), none, [], []⟩,
   ⟨(some 23), .mv (.t 3), some (22, true), [], []⟩,
   ⟨(some 24), .bin .eql (.t 23) (.c (.int .i64 0)), some (22, true), [], []⟩,
   ⟨(some 25), .mv (.t 24), some (22, true), [], []⟩,
   ⟨(some 26), .mv (.t 0), some (25, false), [], []⟩,
   ⟨(some 27), .mv (.t 3), some (25, false), [], []⟩,
   ⟨(some 28), .idx (.t 26) (.t 27), some (25, false), [], []⟩,
   ⟨(some 29), .bin .lss (.t 28) (.c (.int .u8 48)), some (25, false), [], []⟩,
   ⟨(some 30), .pick (.t 25) (.c (.bool true)) (.t 29), some (22, true), [], []⟩,
   ⟨(some 31), .mv (.t 30), some (22, true), [], []⟩,
   ⟨(some 32), .mv (.t 0), some (31, false), [], []⟩,
   ⟨(some 33), .mv (.t 3), some (31, false), [], []⟩,
   ⟨(some 34), .idx (.t 32) (.t 33), some (31, false), [], []⟩,
   ⟨(some 35), .bin .gtr (.t 34) (.c (.int .u8 57)), some (31, false), [], []⟩,
   ⟨(some 36), .pick (.t 31) (.c (.bool true)) (.t 35), some (22, true), [], []⟩,
   ⟨(some 37), .pick (.t 22) (.t 36) (.c (.bool false)), none, [], []⟩])
 (.cond (.t 37)
 (.seq
 (.region [] [⟨(some 2), .mv (.c (.bool false)), none, [], []⟩])
 .ret)
 .skip)))))
 (.region [0, 6, 7] [⟨(some 38), .bin .add (.t 7) (.c (.int .i64 1)), none, [], []⟩,
   ⟨(some 7), .mv (.t 38), none, [], []⟩]))))
/-- progeny/dbd.IsName -/
def c69 : CFn := ⟨47, [.t 2],
 (.seq
 (.region [0] [⟨(some 2), .mv (.c (.bool false)), none, [], []⟩])
 (.seq
 (.seq
 (.region [0] [⟨(some 5), .mv (.t 0), none, [], []⟩,
   ⟨(some 6), .len true (.t 5), none, [], []⟩,
   ⟨(some 7), .mv (.c (.int .i64 0)), none, [], []⟩])
 (.block 0
 (.loop c69_l0)))
 (.seq
 (.region [0] [⟨(some 39), .mv (.t 0), none, [], []⟩,
   ⟨(some 40), .len true (.t 39), none, [], []⟩,
   ⟨(some 41), .bin .geq (.t 40) (.c (.int .i64 1)), none, [], []⟩,
   ⟨(some 42), .mv (.t 41), none, [], []⟩,
   ⟨(some 43), .mv (.t 0), some (42, true), [], []⟩,
   ⟨(some 44), .len true (.t 43), some (42, true), [], []⟩,
   ⟨(some 45), .bin .leq (.t 44) (.c (.int .i64 8)), some (42, true), [], []⟩,
   ⟨(some 46), .pick (.t 42) (.t 45) (.c (.bool false)), none, [], []⟩,
   ⟨(some 2), .mv (.t 46), none, [], []⟩])
 .ret))), false, false⟩
def c70_l0 : CC :=
 (.seq
 (.region [0, 3, 15, 16, 17] [⟨(some 18), .bin .lss (.t 17) (.t 16), none, [], []⟩])
 (.seq
 (.cond (.t 18)
 .skip
 (.exit 0))
 (.seq
 (.block 1
 (.seq
 (.region [0, 3, 15, 16, 17] [⟨(some 19), .mv (.t 17), none, [], []⟩,
   ⟨(some 20), .iaddr 8 (.t 15) (.t 17), none, [], []⟩,
   ⟨(some 21), .load true 8 (.t 20), none, [], []⟩,
   ⟨(some 5), .box 87 8 (.c (.agg [.str ⟨#[]⟩, .int .i64 0, .int .i64 0, .int .i64 0, .nils, .int .i64 0, .bool false, .bool false])), none, [], []⟩,
   ⟨(some 4), .mv (.t 19), none, [], []⟩,
   ⟨none, .store 8 (.t 5) (.t 21), none, [], []⟩])
 (.seq
 (.seq
 (.region [0, 3, 4, 5, 15, 16, 17] [⟨(some 22), .load true 8 (.t 5), none, [], []⟩,
   ⟨(some 23), .call (.c (.fn 94 [])) [(.t 22)] false, none, [], []⟩,
   ⟨(some 24), .un .not (.t 23), none, [], []⟩,
   ⟨(some 25), .mv (.t 24), none, [], []⟩,
   ⟨(some 26), .mv (.t 0), some (25, false), [], []⟩,
   ⟨(some 27), .mv (.t 4), some (25, false), [], []⟩,
   ⟨(some 28), .slc 8 (.t 26) none (some (.t 27)) none, some (25, false), [], []⟩,
   ⟨(some 29), .mkfn 96 [(.t 5)], some (25, false), [], []⟩,
   ⟨(some 30), .call (.c (.fn 95 [])) [(.t 28), (.t 29)] false, some (25, false), [], []⟩,
   ⟨(some 31), .pick (.t 25) (.c (.bool true)) (.t 30), none, [], []⟩])
 (.cond (.t 31)
 (.seq
 (.region [] [⟨(some 2), .mv (.c (.bool false)), none, [], []⟩])
 .ret)
 .skip))
 (.seq
 (.region [0, 3, 4, 5, 15, 16, 17] [⟨(some 32), .mv (.t 3), none, [], []⟩,
   ⟨(some 33), .faddr 1 (.t 5), none, [], []⟩,
   ⟨(some 34), .load false 1 (.t 33), none, [], []⟩,
   ⟨(some 35), .call (.c (.fn 81 [])) [(.t 32), (.t 34)] false, none, [], []⟩,
   ⟨(some 6), .mv (.t 35), none, [], []⟩])
 (.seq
 (.seq
 (.region [0, 3, 4, 5, 6, 15, 16, 17] [⟨(some 36), .mv (.t 4), none, [], []⟩,
   ⟨(some 37), .bin .eql (.t 36) (.c (.int .i64 0)), none, [], []⟩,
   ⟨(some 38), .mv (.t 37), none, [], []⟩,
   ⟨(some 39), .faddr 1 (.t 5), some (38, true), [], []⟩,
   ⟨(some 40), .load false 1 (.t 39), some (38, true), [], []⟩,
   ⟨(some 41), .bin .neq (.t 40) (.c (.int .i64 (-1))), some (38, true), [], []⟩,
   ⟨(some 42), .mv (.t 41), some (38, true), [], []⟩,
   ⟨(some 43), .faddr 5 (.t 5), some (42, false), [], []⟩,
   ⟨(some 44), .load false 1 (.t 43), some (42, false), [], []⟩,
   ⟨(some 45), .bin .lss (.t 44) (.c (.int .i64 0)), some (42, false), [], []⟩,
   ⟨(some 46), .pick (.t 42) (.c (.bool true)) (.t 45), some (38, true), [], []⟩,
   ⟨(some 47), .mv (.t 46), some (38, true), [], []⟩,
   ⟨(some 48), .faddr 6 (.t 5), some (47, false), [], []⟩,
   ⟨(some 49), .load false 1 (.t 48), some (47, false), [], []⟩,
   ⟨(some 50), .un .not (.t 49), some (47, false), [], []⟩,
   ⟨(some 51), .pick (.t 47) (.c (.bool true)) (.t 50), some (38, true), [], []⟩,
   ⟨(some 52), .mv (.t 51), some (38, true), [], []⟩,
   ⟨(some 53), .faddr 4 (.t 5), some (52, false), [], []⟩,
   ⟨(some 54), .load false 1 (.t 53), some (52, false), [], []⟩,
   ⟨(some 55), .faddr 5 (.t 5), some (52, false), [], []⟩,
   ⟨(some 56), .load false 1 (.t 55), some (52, false), [], []⟩,
   ⟨(some 57), .iaddr 3 (.t 54) (.t 56), some (52, false), [], []⟩,
   ⟨(some 58), .faddr 2 (.t 57), some (52, false), [], []⟩,
   ⟨(some 59), .load false 1 (.t 58), some (52, false), [], []⟩,
   ⟨(some 60), .bin .gtr (.t 59) (.c (.int .i64 24)), some (52, false), [], []⟩,
   ⟨(some 61), .pick (.t 52) (.c (.bool true)) (.t 60), some (38, true), [], []⟩,
   ⟨(some 62), .pick (.t 38) (.t 61) (.c (.bool false)), none, [], []⟩,
   ⟨(some 63), .mv (.t 62), none, [], []⟩,
   ⟨(some 64), .mv (.t 4), some (63, false), [], []⟩,
   ⟨(some 65), .bin .gtr (.t 64) (.c (.int .i64 0)), some (63, false), [], []⟩,
   ⟨(some 66), .mv (.t 65), some (63, false), [], []⟩,
   ⟨(some 67), .mv (.t 6), some (66, true), [], []⟩,
   ⟨(some 68), .bin .lss (.t 67) (.c (.int .i64 0)), some (66, true), [], []⟩,
   ⟨(some 69), .pick (.t 66) (.t 68) (.c (.bool false)), some (63, false), [], []⟩,
   ⟨(some 70), .pick (.t 63) (.c (.bool true)) (.t 69), none, [], []⟩])
 (.cond (.t 70)
 (.seq
 (.region [] [⟨(some 2), .mv (.c (.bool false)), none, [], []⟩])
 .ret)
 .skip))
 (.seq
 (.region [0, 3, 4, 6, 15, 16, 17] [⟨(some 71), .mv (.t 3), none, [], []⟩,
   ⟨(some 72), .mv (.t 6), none, [], []⟩,
   ⟨(some 73), .bin .add (.t 72) (.c (.int .i64 1)), none, [], []⟩,
   ⟨(some 74), .slc 1 (.t 71) none (some (.t 73)) none, none, [], []⟩,
   ⟨(some 75), .mv (.t 4), none, [], []⟩,
   ⟨(some 76), .bslice 3 1 [[.int .i64 0]] [(0, (.t 75))], none, [], []⟩,
   ⟨(some 77), .app 3 1 8 false (.t 74) (.t 76), none, [], []⟩,
   ⟨(some 3), .mv (.t 77), none, [], []⟩])
 (.seq
 (.region [0, 3, 15, 16, 17] [⟨(some 78), .mv (.t 3), none, [], []⟩,
   ⟨(some 79), .len false (.t 78), none, [], []⟩,
   ⟨(some 80), .bin .gtr (.t 79) (.c (.int .i64 5)), none, [], []⟩])
 (.cond (.t 80)
 (.seq
 (.region [] [⟨(some 2), .mv (.c (.bool false)), none, [], []⟩])
 .ret)
 .skip))))))))
 (.region [0, 3, 15, 16, 17] [⟨(some 81), .bin .add (.t 17) (.c (.int .i64 1)), none, [], []⟩,
   ⟨(some 17), .mv (.t 81), none, [], []⟩]))))
/-- progeny/dbd.areTypes -/
def c70 : CFn := ⟨82, [.t 2],
 (.seq
 (.region [0] [⟨(some 2), .mv (.c (.bool false)), none, [], []⟩])
 (.seq
 (.seq
 (.region [0] [⟨(some 7), .mv (.t 0), none, [], []⟩,
   ⟨(some 8), .len false (.t 7), none, [], []⟩,
   ⟨(some 9), .bin .lss (.t 8) (.c (.int .i64 1)), none, [], []⟩,
   ⟨(some 10), .mv (.t 9), none, [], []⟩,
   ⟨(some 11), .mv (.t 0), some (10, false), [], []⟩,
   ⟨(some 12), .len false (.t 11), some (10, false), [], []⟩,
   ⟨(some 13), .bin .gtr (.t 12) (.c (.int .i64 8)), some (10, false), [], []⟩,
   ⟨(some 14), .pick (.t 10) (.c (.bool true)) (.t 13), none, [], []⟩])
 (.cond (.t 14)
 (.seq
 (.region [] [⟨(some 2), .mv (.c (.bool false)), none, [], []⟩])
 .ret)
 .skip))
 (.seq
 (.region [0] [⟨(some 3), .mv (.c (.nils)), none, [], []⟩])
 (.seq
 (.seq
 (.region [0, 3] [⟨(some 15), .mv (.t 0), none, [], []⟩,
   ⟨(some 16), .len false (.t 15), none, [], []⟩,
   ⟨(some 17), .mv (.c (.int .i64 0)), none, [], []⟩])
 (.block 0
 (.loop c70_l0)))
 (.seq
 (.region [] [⟨(some 2), .mv (.c (.bool true)), none, [], []⟩])
 .ret))))), false, false⟩
def c71_l0 : CC :=
 (.seq
 (.region [0, 1, 8, 9, 10] [⟨(some 11), .bin .lss (.t 10) (.t 9), none, [], []⟩])
 (.seq
 (.cond (.t 11)
 .skip
 (.exit 0))
 (.seq
 (.block 1
 (.seq
 (.region [0, 1, 8, 9, 10] [⟨(some 12), .mv (.t 10), none, [], []⟩,
   ⟨(some 13), .iaddr 4 (.t 8) (.t 10), none, [], []⟩,
   ⟨(some 14), .load true 4 (.t 13), none, [], []⟩,
   ⟨(some 6), .box 106 4 (.c (.agg [.str ⟨#[]⟩, .int .i64 0, .int .i64 0, .str ⟨#[]⟩])), none, [], []⟩,
   ⟨(some 5), .mv (.t 12), none, [], []⟩,
   ⟨none, .store 4 (.t 6) (.t 14), none, [], []⟩])
 (.seq
 (.seq
 (.region [0, 1, 5, 6, 8, 9, 10] [⟨(some 15), .faddr 0 (.t 6), none, [], []⟩,
   ⟨(some 16), .load false 1 (.t 15), none, [], []⟩,
   ⟨(some 17), .call (.c (.fn 69 [])) [(.t 16)] false, none, [], []⟩,
   ⟨(some 18), .un .not (.t 17), none, [], []⟩,
   ⟨(some 19), .mv (.t 18), none, [], []⟩,
   ⟨(some 20), .faddr 1 (.t 6), some (19, false), [], []⟩,
   ⟨(some 21), .load false 1 (.t 20), some (19, false), [], []⟩,
   ⟨(some 22), .bin .lss (.t 21) (.c (.int .i64 0)), some (19, false), [], []⟩,
   ⟨(some 23), .pick (.t 19) (.c (.bool true)) (.t 22), none, [], []⟩,
   ⟨(some 24), .mv (.t 23), none, [], []⟩,
   ⟨(some 25), .faddr 1 (.t 6), some (24, false), [], []⟩,
   ⟨(some 26), .load false 1 (.t 25), some (24, false), [], []⟩,
   ⟨(some 27), .mv (.t 1), some (24, false), [], []⟩,
   ⟨(some 28), .len false (.t 27), some (24, false), [], []⟩,
   ⟨(some 29), .bin .geq (.t 26) (.t 28), some (24, false), [], []⟩,
   ⟨(some 30), .pick (.t 24) (.c (.bool true)) (.t 29), none, [], []⟩,
   ⟨(some 31), .mv (.t 30), none, [], []⟩,
   ⟨(some 32), .faddr 3 (.t 6), some (31, false), [], []⟩,
   ⟨(some 33), .load false 1 (.t 32), some (31, false), [], []⟩,
   ⟨(some 34), .len true (.t 33), some (31, false), [], []⟩,
   ⟨(some 35), .bin .gtr (.t 34) (.c (.int .i64 1)), some (31, false), [], []⟩,
   ⟨(some 36), .pick (.t 31) (.c (.bool true)) (.t 35), none, [], []⟩,
   ⟨(some 37), .mv (.t 36), none, [], []⟩,
   ⟨(some 38), .mv (.t 0), some (37, false), [], []⟩,
   ⟨(some 39), .mv (.t 5), some (37, false), [], []⟩,
   ⟨(some 40), .slc 4 (.t 38) none (some (.t 39)) none, some (37, false), [], []⟩,
   ⟨(some 41), .mkfn 98 [(.t 6)], some (37, false), [], []⟩,
   ⟨(some 42), .call (.c (.fn 97 [])) [(.t 40), (.t 41)] false, some (37, false), [], []⟩,
   ⟨(some 43), .pick (.t 37) (.c (.bool true)) (.t 42), none, [], []⟩])
 (.cond (.t 43)
 (.seq
 (.region [] [⟨(some 4), .mv (.c (.bool false)), none, [], []⟩])
 .ret)
 .skip))
 (.seq
 (.region [0, 1, 6, 8, 9, 10] [⟨(some 44), .mv (.t 1), none, [], []⟩,
   ⟨(some 45), .faddr 1 (.t 6), none, [], []⟩,
   ⟨(some 46), .load false 1 (.t 45), none, [], []⟩,
   ⟨(some 47), .iaddr 8 (.t 44) (.t 46), none, [], []⟩,
   ⟨(some 48), .faddr 4 (.t 47), none, [], []⟩,
   ⟨(some 49), .load false 1 (.t 48), none, [], []⟩,
   ⟨(some 7), .mv (.t 49), none, [], []⟩])
 (.seq
 (.region [0, 1, 6, 7, 8, 9, 10] [⟨(some 50), .faddr 2 (.t 6), none, [], []⟩,
   ⟨(some 51), .load false 1 (.t 50), none, [], []⟩,
   ⟨(some 52), .bin .lss (.t 51) (.c (.int .i64 0)), none, [], []⟩,
   ⟨(some 53), .mv (.t 52), none, [], []⟩,
   ⟨(some 54), .faddr 2 (.t 6), some (53, false), [], []⟩,
   ⟨(some 55), .load false 1 (.t 54), some (53, false), [], []⟩,
   ⟨(some 56), .mv (.t 7), some (53, false), [], []⟩,
   ⟨(some 57), .len false (.t 56), some (53, false), [], []⟩,
   ⟨(some 58), .bin .geq (.t 55) (.t 57), some (53, false), [], []⟩,
   ⟨(some 59), .pick (.t 53) (.c (.bool true)) (.t 58), none, [], []⟩,
   ⟨(some 60), .mv (.t 59), none, [], []⟩,
   ⟨(some 61), .mv (.t 7), some (60, false), [], []⟩,
   ⟨(some 62), .faddr 2 (.t 6), some (60, false), [], []⟩,
   ⟨(some 63), .load false 1 (.t 62), some (60, false), [], []⟩,
   ⟨(some 64), .iaddr 3 (.t 61) (.t 63), some (60, false), [], []⟩,
   ⟨(some 65), .faddr 2 (.t 64), some (60, false), [], []⟩,
   ⟨(some 66), .load false 1 (.t 65), some (60, false), [], []⟩,
   ⟨(some 67), .bin .gtr (.t 66) (.c (.int .i64 20)), some (60, false), [], []⟩,
   ⟨(some 68), .pick (.t 60) (.c (.bool true)) (.t 67), none, [], []⟩])
 (.cond (.t 68)
 (.seq
 (.region [] [⟨(some 4), .mv (.c (.bool false)), none, [], []⟩])
 .ret)
 .skip))))))
 (.region [0, 1, 8, 9, 10] [⟨(some 69), .bin .add (.t 10) (.c (.int .i64 1)), none, [], []⟩,
   ⟨(some 10), .mv (.t 69), none, [], []⟩]))))
/-- progeny/dbd.areIndexes -/
def c71 : CFn := ⟨73, [.t 4],
 (.seq
 (.region [0, 1] [⟨(some 4), .mv (.c (.bool false)), none, [], []⟩])
 (.seq
 (.seq
 (.region [0, 1] [⟨(some 8), .mv (.t 0), none, [], []⟩,
   ⟨(some 9), .len false (.t 8), none, [], []⟩,
   ⟨(some 10), .mv (.c (.int .i64 0)), none, [], []⟩])
 (.block 0
 (.loop c71_l0)))
 (.seq
 (.region [0] [⟨(some 70), .mv (.t 0), none, [], []⟩,
   ⟨(some 71), .len false (.t 70), none, [], []⟩,
   ⟨(some 72), .bin .leq (.t 71) (.c (.int .i64 3)), none, [], []⟩,
   ⟨(some 4), .mv (.t 72), none, [], []⟩])
 .ret))), false, false⟩
def c72_l0 : CC :=
 (.seq
 (.seq
 (.region [0, 3] [⟨(some 5), .mv (.t 3), none, [], []⟩,
   ⟨(some 6), .mv (.t 0), none, [], []⟩,
   ⟨(some 7), .len true (.t 6), none, [], []⟩,
   ⟨(some 8), .bin .lss (.t 5) (.t 7), none, [], []⟩])
 (.cond (.t 8)
 .skip
 (.exit 0)))
 (.seq
 (.block 1
 (.seq
 (.region [0, 3] [⟨(some 11), .mv (.t 0), none, [], []⟩,
   ⟨(some 12), .mv (.t 3), none, [], []⟩,
   ⟨(some 13), .idx (.t 11) (.t 12), none, [], []⟩,
   ⟨(some 14), .bin .geq (.t 13) (.c (.int .u8 65)), none, [], []⟩,
   ⟨(some 15), .mv (.t 14), none, [], []⟩,
   ⟨(some 16), .mv (.t 0), some (15, true), [], []⟩,
   ⟨(some 17), .mv (.t 3), some (15, true), [], []⟩,
   ⟨(some 18), .idx (.t 16) (.t 17), some (15, true), [], []⟩,
   ⟨(some 19), .bin .leq (.t 18) (.c (.int .u8 90)), some (15, true), [], []⟩,
   ⟨(some 20), .pick (.t 15) (.t 19) (.c (.bool false)), none, [], []⟩,
   ⟨(some 4), .mv (.t 20), none, [], []⟩])
 (.seq
 (.region [0, 3, 4] [⟨(some 21), .mv (.t 4), none, [], []⟩,
   ⟨(some 22), .un .not (.t 21), none, [], []⟩,
   ⟨(some 23), .mv (.t 22), none, [], []⟩,
   ⟨(some 24), .mv (.t 3), some (23, true), [], []⟩,
   ⟨(some 25), .bin .eql (.t 24) (.c (.int .i64 0)), some (23, true), [], []⟩,
   ⟨(some 26), .mv (.t 25), some (23, true), [], []⟩,
   ⟨(some 27), .mv (.t 0), some (26, false), [], []⟩,
   ⟨(some 28), .mv (.t 3), some (26, false), [], []⟩,
   ⟨(some 29), .idx (.t 27) (.t 28), some (26, false), [], []⟩,
   ⟨(some 30), .bin .lss (.t 29) (.c (.int .u8 48)), some (26, false), [], []⟩,
   ⟨(some 31), .pick (.t 26) (.c (.bool true)) (.t 30), some (23, true), [], []⟩,
   ⟨(some 32), .mv (.t 31), some (23, true), [], []⟩,
   ⟨(some 33), .mv (.t 0), some (32, false), [], []⟩,
   ⟨(some 34), .mv (.t 3), some (32, false), [], []⟩,
   ⟨(some 35), .idx (.t 33) (.t 34), some (32, false), [], []⟩,
   ⟨(some 36), .bin .gtr (.t 35) (.c (.int .u8 57)), some (32, false), [], []⟩,
   ⟨(some 37), .pick (.t 32) (.c (.bool true)) (.t 36), some (23, true), [], []⟩,
   ⟨(some 38), .pick (.t 23) (.t 37) (.c (.bool false)), none, [], []⟩])
 (.cond (.t 38)
 (.seq
 (.region [] [⟨(some 2), .mv (.c (.bool false)), none, [], []⟩])
 .ret)
 .skip))))
 (.region [0, 3] [⟨(some 9), .mv (.t 3), none, [], []⟩,
   ⟨(some 10), .bin .add (.t 9) (.c (.int .i64 1)), none, [], []⟩,
   ⟨(some 3), .mv (.t 10), none, [], []⟩])))
/-- progeny/progenyref11.IsName -/
def c72 : CFn := ⟨47, [.t 2],
 (.seq
 (.region [0] [⟨(some 2), .mv (.c (.bool false)), none, [], []⟩])
 (.seq
 (.seq
 (.region [0] [⟨(some 3), .mv (.c (.int .i64 0)), none, [], []⟩])
 (.block 0
 (.loop c72_l0)))
 (.seq
 (.region [0] [⟨(some 39), .mv (.t 0), none, [], []⟩,
   ⟨(some 40), .len true (.t 39), none, [], []⟩,
   ⟨(some 41), .bin .geq (.t 40) (.c (.int .i64 1)), none, [], []⟩,
   ⟨(some 42), .mv (.t 41), none, [], []⟩,
   ⟨(some 43), .mv (.t 0), some (42, true), [], []⟩,
   ⟨(some 44), .len true (.t 43), some (42, true), [], []⟩,
   ⟨(some 45), .bin .leq (.t 44) (.c (.int .i64 8)), some (42, true), [], []⟩,
   ⟨(some 46), .pick (.t 42) (.t 45) (.c (.bool false)), none, [], []⟩,
   ⟨(some 2), .mv (.t 46), none, [], []⟩])
 .ret))), false, false⟩
def c73_l0 : CC :=
 (.seq
 (.seq
 (.region [1, 3, 4, 5] [⟨(some 49), .mv (.t 5), none, [], []⟩,
   ⟨(some 50), .mv (.t 3), none, [], []⟩,
   ⟨(some 51), .bin .lss (.t 49) (.t 50), none, [], []⟩])
 (.cond (.t 51)
 .skip
 (.exit 2)))
 (.seq
 (.block 3
 (.seq
 (.draw [1, 3, 4, 5] [⟨(some 54), .faddr 4 (.t 1), none, [], []⟩,
   ⟨(some 55), .load false 1 (.t 54), none, [0], []⟩,
   ⟨(some 56), .mv (.t 5), none, [], []⟩,
   ⟨(some 57), .iaddr 3 (.t 55) (.t 56), none, [0, 1, 2], []⟩,
   ⟨(some 58), .faddr 0 (.t 57), none, (u 4), []⟩,
   ⟨(some 59), .load false 1 (.t 58), none, (u 5), []⟩,
   ⟨(some 60), .faddr 0 (.t 4), none, [], []⟩,
   ⟨(some 61), .load false 1 (.t 60), none, [6], []⟩,
   ⟨(some 62), .bin .eql (.t 59) (.t 61), none, (u 8), []⟩])
 (.cond (.t 62)
 (.seq
 (.region [] [⟨(some 2), .mv (.c (.bool false)), none, [], []⟩])
 .ret)
 .skip)))
 (.region [1, 3, 4, 5] [⟨(some 52), .mv (.t 5), none, [], []⟩,
   ⟨(some 53), .bin .add (.t 52) (.c (.int .i64 1)), none, [], []⟩,
   ⟨(some 5), .mv (.t 53), none, [], []⟩])))
def c73_l1 : CC :=
 (.seq
 (.seq
 (.region [1, 3] [⟨(some 6), .mv (.t 3), none, [], []⟩,
   ⟨(some 7), .faddr 4 (.t 1), none, [], []⟩,
   ⟨(some 8), .load false 1 (.t 7), none, [], []⟩,
   ⟨(some 9), .len false (.t 8), none, [], []⟩,
   ⟨(some 10), .bin .lss (.t 6) (.t 9), none, [], []⟩])
 (.cond (.t 10)
 .skip
 (.exit 0)))
 (.seq
 (.block 1
 (.seq
 (.region [1, 3] [⟨(some 13), .faddr 4 (.t 1), none, [], []⟩,
   ⟨(some 14), .load false 1 (.t 13), none, [], []⟩,
   ⟨(some 15), .mv (.t 3), none, [], []⟩,
   ⟨(some 16), .iaddr 3 (.t 14) (.t 15), none, [], []⟩,
   ⟨(some 17), .load true 3 (.t 16), none, [], []⟩,
   ⟨(some 4), .box 101 3 (.c (.agg [.str ⟨#[]⟩, .int .i64 0, .int .i64 0])), none, [], []⟩,
   ⟨none, .store 3 (.t 4) (.t 17), none, [], []⟩])
 (.seq
 (.seq
 (.region [1, 3, 4] [⟨(some 18), .faddr 0 (.t 4), none, [], []⟩,
   ⟨(some 19), .load false 1 (.t 18), none, [], []⟩,
   ⟨(some 20), .call (.c (.fn 72 [])) [(.t 19)] false, none, [], []⟩,
   ⟨(some 21), .un .not (.t 20), none, [], []⟩,
   ⟨(some 22), .mv (.t 21), none, [], []⟩,
   ⟨(some 23), .faddr 1 (.t 4), some (22, false), [], []⟩,
   ⟨(some 24), .load false 1 (.t 23), some (22, false), [], []⟩,
   ⟨(some 25), .bin .lss (.t 24) (.c (.int .i64 0)), some (22, false), [], []⟩,
   ⟨(some 26), .pick (.t 22) (.c (.bool true)) (.t 25), none, [], []⟩,
   ⟨(some 27), .mv (.t 26), none, [], []⟩,
   ⟨(some 28), .faddr 1 (.t 4), some (27, false), [], []⟩,
   ⟨(some 29), .load false 1 (.t 28), some (27, false), [], []⟩,
   ⟨(some 30), .faddr 3 (.t 1), some (27, false), [], []⟩,
   ⟨(some 31), .load false 1 (.t 30), some (27, false), [], []⟩,
   ⟨(some 32), .bin .gtr (.t 29) (.t 31), some (27, false), [], []⟩,
   ⟨(some 33), .pick (.t 27) (.c (.bool true)) (.t 32), none, [], []⟩,
   ⟨(some 34), .mv (.t 33), none, [], []⟩,
   ⟨(some 35), .faddr 2 (.t 4), some (34, false), [], []⟩,
   ⟨(some 36), .load false 1 (.t 35), some (34, false), [], []⟩,
   ⟨(some 37), .bin .lss (.t 36) (.c (.int .i64 1)), some (34, false), [], []⟩,
   ⟨(some 38), .pick (.t 34) (.c (.bool true)) (.t 37), none, [], []⟩,
   ⟨(some 39), .mv (.t 38), none, [], []⟩,
   ⟨(some 40), .faddr 2 (.t 4), some (39, false), [], []⟩,
   ⟨(some 41), .load false 1 (.t 40), some (39, false), [], []⟩,
   ⟨(some 42), .faddr 3 (.t 1), some (39, false), [], []⟩,
   ⟨(some 43), .load false 1 (.t 42), some (39, false), [], []⟩,
   ⟨(some 44), .faddr 1 (.t 4), some (39, false), [], []⟩,
   ⟨(some 45), .load false 1 (.t 44), some (39, false), [], []⟩,
   ⟨(some 46), .bin .sub (.t 43) (.t 45), some (39, false), [], []⟩,
   ⟨(some 47), .bin .gtr (.t 41) (.t 46), some (39, false), [], []⟩,
   ⟨(some 48), .pick (.t 39) (.c (.bool true)) (.t 47), none, [], []⟩])
 (.cond (.t 48)
 (.seq
 (.region [] [⟨(some 2), .mv (.c (.bool false)), none, [], []⟩])
 .ret)
 .skip))
 (.seq
 (.region [1, 3, 4] [⟨(some 5), .mv (.c (.int .i64 0)), none, [], []⟩])
 (.block 2
 (.loop c73_l0))))))
 (.region [1, 3] [⟨(some 11), .mv (.t 3), none, [], []⟩,
   ⟨(some 12), .bin .add (.t 11) (.c (.int .i64 1)), none, [], []⟩,
   ⟨(some 3), .mv (.t 12), none, [], []⟩])))
/-- progeny/progenyref11.fields -/
def c73 : CFn := ⟨112, [.t 2],
 (.seq
 (.region [0] [⟨(some 1), .box 87 8 (.t 0), none, [], []⟩,
   ⟨(some 2), .mv (.c (.bool false)), none, [], []⟩])
 (.seq
 (.seq
 (.region [1] [⟨(some 3), .mv (.c (.int .i64 0)), none, [], []⟩])
 (.block 0
 (.loop c73_l1)))
 (.seq
 (.seq
 (.region [1] [⟨(some 63), .faddr 5 (.t 1), none, [], []⟩,
   ⟨(some 64), .load false 1 (.t 63), none, [], []⟩,
   ⟨(some 65), .bin .lss (.t 64) (.c (.int .i64 (-1))), none, [], []⟩,
   ⟨(some 66), .mv (.t 65), none, [], []⟩,
   ⟨(some 67), .faddr 5 (.t 1), some (66, false), [], []⟩,
   ⟨(some 68), .load false 1 (.t 67), some (66, false), [], []⟩,
   ⟨(some 69), .faddr 4 (.t 1), some (66, false), [], []⟩,
   ⟨(some 70), .load false 1 (.t 69), some (66, false), [], []⟩,
   ⟨(some 71), .len false (.t 70), some (66, false), [], []⟩,
   ⟨(some 72), .bin .geq (.t 68) (.t 71), some (66, false), [], []⟩,
   ⟨(some 73), .pick (.t 66) (.c (.bool true)) (.t 72), none, [], []⟩,
   ⟨(some 74), .mv (.t 73), none, [], []⟩,
   ⟨(some 75), .faddr 5 (.t 1), some (74, false), [], []⟩,
   ⟨(some 76), .load false 1 (.t 75), some (74, false), [], []⟩,
   ⟨(some 77), .bin .lss (.t 76) (.c (.int .i64 0)), some (74, false), [], []⟩,
   ⟨(some 78), .mv (.t 77), some (74, false), [], []⟩,
   ⟨(some 79), .faddr 6 (.t 1), some (78, true), [], []⟩,
   ⟨(some 80), .load false 1 (.t 79), some (78, true), [], []⟩,
   ⟨(some 81), .pick (.t 78) (.t 80) (.c (.bool false)), some (74, false), [], []⟩,
   ⟨(some 82), .pick (.t 74) (.c (.bool true)) (.t 81), none, [], []⟩])
 (.cond (.t 82)
 (.seq
 (.region [] [⟨(some 2), .mv (.c (.bool false)), none, [], []⟩])
 .ret)
 .skip))
 (.seq
 (.draw [1] [⟨(some 83), .faddr 4 (.t 1), none, [], []⟩,
   ⟨(some 84), .load false 1 (.t 83), none, [0], []⟩,
   ⟨(some 85), .len false (.t 84), none, [0, 1], []⟩,
   ⟨(some 86), .bin .leq (.t 85) (.c (.int .i64 5)), none, [0, 1, 2], []⟩,
   ⟨(some 87), .mv (.t 86), none, (u 4), []⟩,
   ⟨(some 88), .faddr 5 (.t 1), some (87, true), (u 5), []⟩,
   ⟨(some 89), .load false 1 (.t 88), some (87, true), (u 6), []⟩,
   ⟨(some 90), .bin .lss (.t 89) (.c (.int .i64 0)), some (87, true), (u 7), []⟩,
   ⟨(some 91), .mv (.t 90), some (87, true), (u 8), []⟩,
   ⟨(some 92), .faddr 4 (.t 1), some (91, false), (u 9), []⟩,
   ⟨(some 93), .load false 1 (.t 92), some (91, false), (u 10), []⟩,
   ⟨(some 94), .faddr 5 (.t 1), some (91, false), (u 9), []⟩,
   ⟨(some 95), .load false 1 (.t 94), some (91, false), (u 9 ++ [11]), []⟩,
   ⟨(some 96), .iaddr 3 (.t 93) (.t 95), some (91, false), (u 13), []⟩,
   ⟨(some 97), .faddr 1 (.t 96), some (91, false), (u 14), []⟩,
   ⟨(some 98), .load false 1 (.t 97), some (91, false), (u 15), []⟩,
   ⟨(some 99), .faddr 4 (.t 1), some (91, false), (u 9), []⟩,
   ⟨(some 100), .load false 1 (.t 99), some (91, false), (u 9 ++ [16]), []⟩,
   ⟨(some 101), .faddr 5 (.t 1), some (91, false), (u 9), []⟩,
   ⟨(some 102), .load false 1 (.t 101), some (91, false), (u 9 ++ [18]), []⟩,
   ⟨(some 103), .iaddr 3 (.t 100) (.t 102), some (91, false), (u 9 ++ [16, 17, 18, 19]), []⟩,
   ⟨(some 104), .faddr 2 (.t 103), some (91, false), (u 9 ++ [16, 17, 18, 19, 20]), []⟩,
   ⟨(some 105), .load false 1 (.t 104), some (91, false), (u 9 ++ [16, 17, 18, 19, 20, 21]), []⟩,
   ⟨(some 106), .bin .add (.t 98) (.t 105), some (91, false), (u 23), []⟩,
   ⟨(some 107), .faddr 2 (.t 1), some (91, false), (u 9), []⟩,
   ⟨(some 108), .load false 1 (.t 107), some (91, false), (u 9 ++ [24]), []⟩,
   ⟨(some 109), .bin .leq (.t 106) (.t 108), some (91, false), (u 26), []⟩,
   ⟨(some 110), .pick (.t 91) (.c (.bool true)) (.t 109), some (87, true), (u 27), []⟩,
   ⟨(some 111), .pick (.t 87) (.t 110) (.c (.bool false)), none, (u 28), []⟩,
   ⟨(some 2), .mv (.t 111), none, (u 29), []⟩])
 .ret)))), false, false⟩
def c74_l0 : CC :=
 (.seq
 (.seq
 (.region [1, 2, 3] [⟨(some 13), .mv (.t 2), none, [], []⟩,
   ⟨(some 14), .bin .geq (.t 13) (.c (.int .i64 0)), none, [], []⟩])
 (.cond (.t 14)
 .skip
 (.exit 0)))
 (.seq
 (.block 1
 (.seq
 (.region [1, 2, 3] [⟨(some 21), .mv (.t 2), none, [], []⟩,
   ⟨(some 22), .mv (.t 1), none, [], []⟩,
   ⟨(some 23), .bin .eql (.t 21) (.t 22), none, [], []⟩])
 (.cond (.t 23)
 (.seq
 (.region [] [⟨(some 6), .mv (.c (.bool true)), none, [], []⟩])
 .ret)
 .skip)))
 (.region [1, 2, 3] [⟨(some 15), .faddr 2 (.t 3), none, [], []⟩,
   ⟨(some 16), .load false 1 (.t 15), none, [], []⟩,
   ⟨(some 17), .mv (.t 2), none, [], []⟩,
   ⟨(some 18), .iaddr 8 (.t 16) (.t 17), none, [], []⟩,
   ⟨(some 19), .faddr 1 (.t 18), none, [], []⟩,
   ⟨(some 20), .load false 1 (.t 19), none, [], []⟩,
   ⟨(some 2), .mv (.t 20), none, [], []⟩])))
/-- progeny/progenyref11.above -/
def c74 : CFn := ⟨24, [.t 6],
 (.seq
 (.region [0, 1, 2] [⟨(some 3), .box 25 4 (.t 0), none, [], []⟩,
   ⟨(some 6), .mv (.c (.bool false)), none, [], []⟩])
 (.seq
 (.seq
 (.region [1, 2, 3] [⟨(some 7), .faddr 2 (.t 3), none, [], []⟩,
   ⟨(some 8), .load false 1 (.t 7), none, [], []⟩,
   ⟨(some 9), .mv (.t 2), none, [], []⟩,
   ⟨(some 10), .iaddr 8 (.t 8) (.t 9), none, [], []⟩,
   ⟨(some 11), .faddr 1 (.t 10), none, [], []⟩,
   ⟨(some 12), .load false 1 (.t 11), none, [], []⟩,
   ⟨(some 2), .mv (.t 12), none, [], []⟩])
 (.block 0
 (.loop c74_l0)))
 (.seq
 (.region [] [⟨(some 6), .mv (.c (.bool false)), none, [], []⟩])
 .ret))), false, false⟩
def c75_l0 : CC :=
 (.seq
 (.seq
 (.region [1, 2, 5] [⟨(some 6), .mv (.t 1), none, [], []⟩,
   ⟨(some 7), .bin .geq (.t 6) (.c (.int .i64 0)), none, [], []⟩])
 (.cond (.t 7)
 .skip
 (.exit 0)))
 (.block 1
 (.seq
 (.region [1, 2, 5] [⟨(some 8), .mv (.t 1), none, [], []⟩,
   ⟨(some 9), .bslice 3 1 [[.int .i64 0]] [(0, (.t 8))], none, [], []⟩,
   ⟨(some 10), .mv (.t 5), none, [], []⟩,
   ⟨(some 11), .app 3 1 8 false (.t 9) (.t 10), none, [], []⟩,
   ⟨(some 5), .mv (.t 11), none, [], []⟩])
 (.region [1, 2, 5] [⟨(some 12), .faddr 2 (.t 2), none, [], []⟩,
   ⟨(some 13), .load false 1 (.t 12), none, [], []⟩,
   ⟨(some 14), .mv (.t 1), none, [], []⟩,
   ⟨(some 15), .iaddr 8 (.t 13) (.t 14), none, [], []⟩,
   ⟨(some 16), .faddr 1 (.t 15), none, [], []⟩,
   ⟨(some 17), .load false 1 (.t 16), none, [], []⟩,
   ⟨(some 1), .mv (.t 17), none, [], []⟩]))))
/-- progeny/progenyref11.way -/
def c75 : CFn := ⟨19, [.t 4],
 (.seq
 (.region [0, 1] [⟨(some 2), .box 25 4 (.t 0), none, [], []⟩,
   ⟨(some 4), .mv (.c (.nils)), none, [], []⟩])
 (.seq
 (.region [1, 2] [⟨(some 5), .mv (.c (.nils)), none, [], []⟩])
 (.seq
 (.block 0
 (.loop c75_l0))
 (.seq
 (.region [5] [⟨(some 18), .mv (.t 5), none, [], []⟩,
   ⟨(some 4), .mv (.t 18), none, [], []⟩])
 .ret)))), false, false⟩
/-- progeny/plain.Valid -/
def c76 : CFn := ⟨12, [.t 4, .t 5],
 (.seq
 (.region [0, 1] [⟨(some 2), .box 25 4 (.t 0), none, [], []⟩,
   ⟨(some 4), .mv (.c (.bool false)), none, [], []⟩,
   ⟨(some 5), .mv (.c (.int .i64 0)), none, [], []⟩])
 (.seq
 (.seq
 (.region [1, 2] [⟨(some 6), .load true 4 (.t 2), none, [], []⟩,
   ⟨(some 7), .call (.c (.fn 42 [])) [(.t 6)] false, none, [], []⟩,
   ⟨(some 8), .un .not (.t 7), none, [], []⟩])
 (.cond (.t 8)
 (.seq
 (.region [] [⟨(some 4), .mv (.c (.bool false)), none, [], []⟩,
   ⟨(some 5), .mv (.c (.int .i64 100)), none, [], []⟩])
 .ret)
 .skip))
 (.seq
 (.region [1, 2] [⟨(some 9), .load true 4 (.t 2), none, [], []⟩,
   ⟨(some 10), .mv (.t 1), none, [], []⟩,
   ⟨(some 11), .call (.c (.fn 85 [])) [(.t 9), (.t 10)] false, none, [], []⟩,
   ⟨(some 4), .mv (.t 11), none, [], []⟩,
   ⟨(some 5), .mv (.c (.int .i64 0)), none, [], []⟩])
 .ret))), false, false⟩
/-- (*progeny/logic.pair).root -/
def c77 : CFn := ⟨11, [.t 4],
 (.seq
 (.region [0, 1] [⟨(some 2), .box 61 1 (.t 0), none, [], []⟩,
   ⟨(some 3), .box 9 1 (.t 1), none, [], []⟩,
   ⟨(some 4), .mv (.c (.int .i64 0)), none, [], []⟩])
 (.seq
 (.region [2, 3] [⟨(some 5), .load false 1 (.t 2), none, [], []⟩,
   ⟨(some 6), .nilck (.t 5), none, [], []⟩,
   ⟨(some 7), .faddr 12 (.t 6), none, [], []⟩,
   ⟨(some 8), .load false 1 (.t 7), none, [], []⟩,
   ⟨(some 9), .mkfn 100 [(.t 2), (.t 3)], none, [], []⟩,
   ⟨(some 10), .call (.c (.fn 99 [])) [(.t 8), (.t 9)] false, none, [], []⟩,
   ⟨(some 4), .mv (.t 10), none, [], []⟩])
 .ret)), false, false⟩
/-- progeny/progenyref11.Value -/
def c78 : CFn := ⟨69, [.t 8, .t 9, .t 10],
 (.seq
 (.region [0, 1, 2, 3] [⟨(some 4), .box 25 4 (.t 0), none, [], []⟩,
   ⟨(some 8), .mv (.c (.str ⟨#[]⟩)), none, [], []⟩,
   ⟨(some 9), .mv (.c (.bool false)), none, [], []⟩,
   ⟨(some 10), .mv (.c (.int .i64 0)), none, [], []⟩])
 (.seq
 (.region [1, 2, 3, 4] [⟨(some 15), .load true 4 (.t 4), none, [], []⟩,
   ⟨(some 16), .mv (.t 1), none, [], []⟩,
   ⟨(some 17), .mv (.t 2), none, [], []⟩,
   ⟨(some 18), .call (.c (.fn 101 [])) [(.t 15), (.t 16), (.t 17)] false, none, [], []⟩,
   ⟨(some 14), .mv (.t 18), none, [], []⟩,
   ⟨(some 19), .extract (.t 14) 0, none, [], []⟩,
   ⟨(some 20), .extract (.t 14) 1, none, [], []⟩,
   ⟨(some 11), .mv (.t 19), none, [], []⟩,
   ⟨(some 12), .mv (.t 20), none, [], []⟩])
 (.seq
 (.block 0
 (.seq
 (.region [1, 2, 3, 4, 11, 12] [⟨(some 22), .mv (.t 12), none, [], []⟩,
   ⟨(some 23), .bin .neq (.t 22) (.c (.int .i64 0)), none, [], []⟩,
   ⟨(some 21), .mv (.t 23), none, [], []⟩])
 (.cond (.t 21)
 (.seq
 (.region [12] [⟨(some 24), .mv (.t 12), none, [], []⟩,
   ⟨(some 8), .mv (.c (.str ⟨#[]⟩)), none, [], []⟩,
   ⟨(some 9), .mv (.c (.bool false)), none, [], []⟩,
   ⟨(some 10), .mv (.t 24), none, [], []⟩])
 .ret)
 (.seq
 (.region [1, 2, 3, 4, 11] [⟨(some 26), .mv (.t 11), none, [], []⟩,
   ⟨(some 27), .un .not (.t 26), none, [], []⟩,
   ⟨(some 28), .mv (.t 27), none, [], []⟩,
   ⟨(some 29), .mv (.t 3), some (28, false), [], []⟩,
   ⟨(some 30), .bin .lss (.t 29) (.c (.int .i64 0)), some (28, false), [], []⟩,
   ⟨(some 31), .pick (.t 28) (.c (.bool true)) (.t 30), none, [], []⟩,
   ⟨(some 32), .mv (.t 31), none, [], []⟩,
   ⟨(some 33), .mv (.t 3), some (32, false), [], []⟩,
   ⟨(some 34), .faddr 2 (.t 4), some (32, false), [], []⟩,
   ⟨(some 35), .load false 1 (.t 34), some (32, false), [], []⟩,
   ⟨(some 36), .mv (.t 1), some (32, false), [], []⟩,
   ⟨(some 37), .iaddr 8 (.t 35) (.t 36), some (32, false), [], []⟩,
   ⟨(some 38), .faddr 4 (.t 37), some (32, false), [], []⟩,
   ⟨(some 39), .load false 1 (.t 38), some (32, false), [], []⟩,
   ⟨(some 40), .len false (.t 39), some (32, false), [], []⟩,
   ⟨(some 41), .bin .geq (.t 33) (.t 40), some (32, false), [], []⟩,
   ⟨(some 42), .pick (.t 32) (.c (.bool true)) (.t 41), none, [], []⟩,
   ⟨(some 25), .mv (.t 42), none, [], []⟩])
 (.cond (.t 25)
 (.seq
 (.region [] [⟨(some 8), .mv (.c (.str ⟨#[]⟩)), none, [], []⟩,
   ⟨(some 9), .mv (.c (.bool false)), none, [], []⟩,
   ⟨(some 10), .mv (.c (.int .i64 2)), none, [], []⟩])
 .ret)
 .skip)))))
 (.seq
 (.region [1, 2, 3, 4] [⟨(some 43), .faddr 2 (.t 4), none, [], []⟩,
   ⟨(some 44), .load false 1 (.t 43), none, [], []⟩,
   ⟨(some 45), .mv (.t 1), none, [], []⟩,
   ⟨(some 46), .iaddr 8 (.t 44) (.t 45), none, [], []⟩,
   ⟨(some 47), .faddr 4 (.t 46), none, [], []⟩,
   ⟨(some 48), .load false 1 (.t 47), none, [], []⟩,
   ⟨(some 49), .mv (.t 3), none, [], []⟩,
   ⟨(some 50), .iaddr 3 (.t 48) (.t 49), none, [], []⟩,
   ⟨(some 51), .load true 3 (.t 50), none, [], []⟩,
   ⟨(some 13), .box 101 3 (.c (.agg [.str ⟨#[]⟩, .int .i64 0, .int .i64 0])), none, [], []⟩,
   ⟨none, .store 3 (.t 13) (.t 51), none, [], []⟩])
 (.seq
 (.seq
 (.region [2, 13] [⟨(some 52), .faddr 1 (.t 13), none, [], []⟩,
   ⟨(some 53), .load false 1 (.t 52), none, [], []⟩,
   ⟨(some 54), .faddr 2 (.t 13), none, [], []⟩,
   ⟨(some 55), .load false 1 (.t 54), none, [], []⟩,
   ⟨(some 56), .bin .add (.t 53) (.t 55), none, [], []⟩,
   ⟨(some 57), .mv (.t 2), none, [], []⟩,
   ⟨(some 58), .len true (.t 57), none, [], []⟩,
   ⟨(some 59), .bin .gtr (.t 56) (.t 58), none, [], []⟩])
 (.cond (.t 59)
 (.seq
 (.region [] [⟨(some 8), .mv (.c (.str ⟨#[]⟩)), none, [], []⟩,
   ⟨(some 9), .mv (.c (.bool false)), none, [], []⟩,
   ⟨(some 10), .mv (.c (.int .i64 0)), none, [], []⟩])
 .ret)
 .skip))
 (.seq
 (.region [2, 13] [⟨(some 60), .mv (.t 2), none, [], []⟩,
   ⟨(some 61), .faddr 1 (.t 13), none, [], []⟩,
   ⟨(some 62), .load false 1 (.t 61), none, [], []⟩,
   ⟨(some 63), .faddr 1 (.t 13), none, [], []⟩,
   ⟨(some 64), .load false 1 (.t 63), none, [], []⟩,
   ⟨(some 65), .faddr 2 (.t 13), none, [], []⟩,
   ⟨(some 66), .load false 1 (.t 65), none, [], []⟩,
   ⟨(some 67), .bin .add (.t 64) (.t 66), none, [], []⟩,
   ⟨(some 68), .slcs (.t 60) (some (.t 62)) (some (.t 67)), none, [], []⟩,
   ⟨(some 8), .mv (.t 68), none, [], []⟩,
   ⟨(some 9), .mv (.c (.bool true)), none, [], []⟩,
   ⟨(some 10), .mv (.c (.int .i64 0)), none, [], []⟩])
 .ret)))))), false, false⟩
/-- progeny/progenyref11.KeyOf -/
def c79 : CFn := ⟨50, [.t 6, .t 7],
 (.seq
 (.region [0, 1, 2] [⟨(some 3), .box 25 4 (.t 0), none, [], []⟩,
   ⟨(some 6), .mv (.c (.str ⟨#[]⟩)), none, [], []⟩,
   ⟨(some 7), .mv (.c (.int .i64 0)), none, [], []⟩])
 (.seq
 (.region [1, 2, 3] [⟨(some 14), .load true 4 (.t 3), none, [], []⟩,
   ⟨(some 15), .mv (.t 1), none, [], []⟩,
   ⟨(some 16), .mv (.t 2), none, [], []⟩,
   ⟨(some 17), .call (.c (.fn 101 [])) [(.t 14), (.t 15), (.t 16)] false, none, [], []⟩,
   ⟨(some 13), .mv (.t 17), none, [], []⟩,
   ⟨(some 18), .extract (.t 13) 0, none, [], []⟩,
   ⟨(some 19), .extract (.t 13) 1, none, [], []⟩,
   ⟨(some 8), .mv (.t 18), none, [], []⟩,
   ⟨(some 9), .mv (.t 19), none, [], []⟩])
 (.seq
 (.block 0
 (.seq
 (.region [1, 2, 3, 8, 9] [⟨(some 21), .mv (.t 9), none, [], []⟩,
   ⟨(some 22), .bin .neq (.t 21) (.c (.int .i64 0)), none, [], []⟩,
   ⟨(some 20), .mv (.t 22), none, [], []⟩])
 (.cond (.t 20)
 (.seq
 (.region [9] [⟨(some 23), .mv (.t 9), none, [], []⟩,
   ⟨(some 6), .mv (.c (.str ⟨#[]⟩)), none, [], []⟩,
   ⟨(some 7), .mv (.t 23), none, [], []⟩])
 .ret)
 (.seq
 (.region [1, 2, 3, 8] [⟨(some 25), .mv (.t 8), none, [], []⟩,
   ⟨(some 26), .un .not (.t 25), none, [], []⟩,
   ⟨(some 24), .mv (.t 26), none, [], []⟩])
 (.cond (.t 24)
 (.seq
 (.region [] [⟨(some 6), .mv (.c (.str ⟨#[]⟩)), none, [], []⟩,
   ⟨(some 7), .mv (.c (.int .i64 2)), none, [], []⟩])
 .ret)
 (.seq
 (.region [1, 2, 3] [⟨(some 28), .faddr 2 (.t 3), none, [], []⟩,
   ⟨(some 29), .load false 1 (.t 28), none, [], []⟩,
   ⟨(some 30), .mv (.t 1), none, [], []⟩,
   ⟨(some 31), .iaddr 8 (.t 29) (.t 30), none, [], []⟩,
   ⟨(some 32), .faddr 5 (.t 31), none, [], []⟩,
   ⟨(some 33), .load false 1 (.t 32), none, [], []⟩,
   ⟨(some 34), .bin .lss (.t 33) (.c (.int .i64 0)), none, [], []⟩,
   ⟨(some 27), .mv (.t 34), none, [], []⟩])
 (.cond (.t 27)
 (.seq
 (.region [] [⟨(some 6), .mv (.c (.str ⟨#[]⟩)), none, [], []⟩,
   ⟨(some 7), .mv (.c (.int .i64 0)), none, [], []⟩])
 .ret)
 .skip)))))))
 (.seq
 (.draw [1, 2, 3] [⟨(some 36), .load true 4 (.t 3), none, [], []⟩,
   ⟨(some 37), .mv (.t 1), none, [], []⟩,
   ⟨(some 38), .mv (.t 2), none, [], []⟩,
   ⟨(some 39), .faddr 2 (.t 3), none, [], []⟩,
   ⟨(some 40), .load false 1 (.t 39), none, [3], []⟩,
   ⟨(some 41), .mv (.t 1), none, [], []⟩,
   ⟨(some 42), .iaddr 8 (.t 40) (.t 41), none, [3, 4, 5], []⟩,
   ⟨(some 43), .faddr 5 (.t 42), none, [3, 4, 5, 6], []⟩,
   ⟨(some 44), .load false 1 (.t 43), none, [3, 4, 5, 6, 7], []⟩,
   ⟨(some 45), .call (.c (.fn 78 [])) [(.t 36), (.t 37), (.t 38), (.t 44)] false, none, (u 9), []⟩,
   ⟨(some 35), .mv (.t 45), none, (u 10), []⟩,
   ⟨(some 46), .extract (.t 35) 0, none, (u 11), []⟩,
   ⟨(some 47), .extract (.t 35) 1, none, (u 11), []⟩,
   ⟨(some 48), .extract (.t 35) 2, none, (u 11), []⟩,
   ⟨(some 10), .mv (.t 46), none, (u 12), []⟩,
   ⟨(some 11), .mv (.t 47), none, (u 13 ++ [14]), []⟩,
   ⟨(some 12), .mv (.t 48), none, (u 16), []⟩])
 (.seq
 (.region [10] [⟨(some 49), .mv (.t 10), none, [], []⟩,
   ⟨(some 6), .mv (.t 49), none, [], []⟩,
   ⟨(some 7), .mv (.c (.int .i64 0)), none, [], []⟩])
 .ret))))), false, false⟩
def c80_l0 : CC :=
 (.seq
 (.seq
 (.region [1, 2, 3, 7] [⟨(some 8), .mv (.t 2), none, [], []⟩,
   ⟨(some 9), .bin .geq (.t 8) (.c (.int .i64 0)), none, [], []⟩])
 (.cond (.t 9)
 .skip
 (.exit 0)))
 (.seq
 (.block 1
 (.region [1, 2, 3, 7] [⟨(some 14), .mv (.t 7), none, [], []⟩,
   ⟨(some 15), .mv (.t 2), none, [], []⟩,
   ⟨(some 16), .bslice 3 1 [[.int .i64 0]] [(0, (.t 15))], none, [], []⟩,
   ⟨(some 17), .app 3 1 8 false (.t 14) (.t 16), none, [], []⟩,
   ⟨(some 7), .mv (.t 17), none, [], []⟩]))
 (.region [1, 2, 3, 7] [⟨(some 10), .load true 4 (.t 3), none, [], []⟩,
   ⟨(some 11), .mv (.t 1), none, [], []⟩,
   ⟨(some 12), .mv (.t 2), none, [], []⟩,
   ⟨(some 13), .call (.c (.fn 102 [])) [(.t 10), (.t 11), (.t 12)] false, none, [], []⟩,
   ⟨(some 2), .mv (.t 13), none, [], []⟩])))
/-- progeny/plain.path -/
def c80 : CFn := ⟨21, [.t 6],
 (.seq
 (.region [0, 1, 2] [⟨(some 3), .box 25 4 (.t 0), none, [], []⟩,
   ⟨(some 6), .mv (.c (.nils)), none, [], []⟩])
 (.seq
 (.region [1, 2, 3] [⟨(some 7), .mv (.c (.nils)), none, [], []⟩])
 (.seq
 (.block 0
 (.loop c80_l0))
 (.seq
 (.region [7] [⟨(some 18), .mv (.t 7), none, [], []⟩,
   ⟨(some 19), .call (.c (.fn 103 [])) [(.t 18)] false, none, [], []⟩])
 (.seq
 (.region [7] [⟨(some 20), .mv (.t 7), none, [], []⟩,
   ⟨(some 6), .mv (.t 20), none, [], []⟩])
 .ret))))), false, false⟩
def c81_l0 : CC :=
 (.seq
 (.region [0, 1, 7, 8] [⟨(some 9), .bin .lss (.t 8) (.t 7), none, [], []⟩])
 (.seq
 (.cond (.t 9)
 .skip
 (.exit 0))
 (.seq
 (.block 1
 (.seq
 (.region [0, 1, 7, 8] [⟨(some 10), .mv (.t 8), none, [], []⟩,
   ⟨(some 5), .mv (.t 10), none, [], []⟩])
 (.seq
 (.region [0, 1, 5, 7, 8] [⟨(some 11), .mv (.t 1), none, [], []⟩,
   ⟨(some 12), .mv (.t 0), none, [], []⟩,
   ⟨(some 13), .mv (.t 5), none, [], []⟩,
   ⟨(some 14), .iaddr 1 (.t 12) (.t 13), none, [], []⟩,
   ⟨(some 15), .load false 1 (.t 14), none, [], []⟩,
   ⟨(some 16), .bin .eql (.t 11) (.t 15), none, [], []⟩])
 (.cond (.t 16)
 (.seq
 (.region [5] [⟨(some 17), .mv (.t 5), none, [], []⟩,
   ⟨(some 4), .mv (.t 17), none, [], []⟩])
 .ret)
 .skip))))
 (.region [0, 1, 7, 8] [⟨(some 18), .bin .add (.t 8) (.c (.int .i64 1)), none, [], []⟩,
   ⟨(some 8), .mv (.t 18), none, [], []⟩]))))
/-- slices.Index[[]int,int] -/
def c81 : CFn := ⟨19, [.t 4],
 (.seq
 (.region [0, 1] [⟨(some 4), .mv (.c (.int .i64 0)), none, [], []⟩])
 (.seq
 (.seq
 (.region [0, 1] [⟨(some 6), .mv (.t 0), none, [], []⟩,
   ⟨(some 7), .len false (.t 6), none, [], []⟩,
   ⟨(some 8), .mv (.c (.int .i64 0)), none, [], []⟩])
 (.block 0
 (.loop c81_l0)))
 (.seq
 (.region [] [⟨(some 4), .mv (.c (.int .i64 (-1))), none, [], []⟩])
 .ret))), false, false⟩
def c82_l0 : CC :=
 (.seq
 (.seq
 (.region [1, 7, 8] [⟨(some 21), .mv (.t 8), none, [], []⟩,
   ⟨(some 22), .bin .geq (.t 21) (.c (.int .i64 0)), none, [], []⟩,
   ⟨(some 23), .mv (.t 22), none, [], []⟩,
   ⟨(some 24), .mv (.t 7), some (23, true), [], []⟩,
   ⟨(some 25), .bin .geq (.t 24) (.c (.int .i64 0)), some (23, true), [], []⟩,
   ⟨(some 26), .pick (.t 23) (.t 25) (.c (.bool false)), none, [], []⟩])
 (.cond (.t 26)
 .skip
 (.exit 0)))
 (.seq
 (.block 1
 (.seq
 (.region [1, 7, 8] [⟨(some 29), .mv (.t 1), none, [], []⟩,
   ⟨(some 30), .mv (.t 8), none, [], []⟩,
   ⟨(some 31), .iaddr 2 (.t 29) (.t 30), none, [], []⟩,
   ⟨(some 32), .faddr 0 (.t 31), none, [], []⟩,
   ⟨(some 33), .load false 1 (.t 32), none, [], []⟩,
   ⟨(some 34), .mv (.t 7), none, [], []⟩,
   ⟨(some 35), .bin .eql (.t 33) (.t 34), none, [], []⟩])
 (.cond (.t 35)
 (.seq
 (.region [8] [⟨(some 36), .mv (.t 8), none, [], []⟩,
   ⟨(some 6), .mv (.t 36), none, [], []⟩])
 .ret)
 .skip)))
 (.region [1, 7, 8] [⟨(some 27), .mv (.t 8), none, [], []⟩,
   ⟨(some 28), .bin .sub (.t 27) (.c (.int .i64 1)), none, [], []⟩,
   ⟨(some 8), .mv (.t 28), none, [], []⟩])))
/-- progeny/progenyref13.parent -/
def c82 : CFn := ⟨37, [.t 6],
 (.seq
 (.region [0, 1, 2] [⟨(some 3), .box 25 4 (.t 0), none, [], []⟩,
   ⟨(some 6), .mv (.c (.int .i64 0)), none, [], []⟩])
 (.seq
 (.draw [1, 2, 3] [⟨(some 9), .faddr 2 (.t 3), none, [], []⟩,
   ⟨(some 10), .load false 1 (.t 9), none, [0], []⟩,
   ⟨(some 11), .mv (.t 1), none, [], []⟩,
   ⟨(some 12), .mv (.t 2), none, [], []⟩,
   ⟨(some 13), .iaddr 2 (.t 11) (.t 12), none, [2, 3], []⟩,
   ⟨(some 14), .faddr 0 (.t 13), none, [2, 3, 4], []⟩,
   ⟨(some 15), .load false 1 (.t 14), none, [2, 3, 4, 5], []⟩,
   ⟨(some 16), .iaddr 8 (.t 10) (.t 15), none, (u 7), []⟩,
   ⟨(some 17), .faddr 1 (.t 16), none, (u 8), []⟩,
   ⟨(some 18), .load false 1 (.t 17), none, (u 9), []⟩,
   ⟨(some 7), .mv (.t 18), none, (u 10), []⟩])
 (.seq
 (.seq
 (.region [1, 2, 7] [⟨(some 19), .mv (.t 2), none, [], []⟩,
   ⟨(some 20), .bin .sub (.t 19) (.c (.int .i64 1)), none, [], []⟩,
   ⟨(some 8), .mv (.t 20), none, [], []⟩])
 (.block 0
 (.loop c82_l0)))
 (.seq
 (.region [] [⟨(some 6), .mv (.c (.int .i64 (-1))), none, [], []⟩])
 .ret)))), false, false⟩
def c85_l0 : CC :=
 (.seq
 (.region [2, 3, 5, 6, 16, 17, 18] [⟨(some 19), .bin .lss (.t 18) (.t 17), none, [], []⟩])
 (.seq
 (.cond (.t 19)
 .skip
 (.exit 0))
 (.seq
 (.block 1
 (.seq
 (.region [2, 3, 5, 6, 16, 17, 18] [⟨(some 20), .mv (.t 18), none, [], []⟩,
   ⟨(some 21), .iaddr 2 (.t 16) (.t 18), none, [], []⟩,
   ⟨(some 22), .load true 2 (.t 21), none, [], []⟩,
   ⟨(some 8), .box 44 2 (.c (.agg [.int .i64 0, .str ⟨#[]⟩])), none, [], []⟩,
   ⟨(some 7), .mv (.t 20), none, [], []⟩,
   ⟨none, .store 2 (.t 8) (.t 22), none, [], []⟩])
 (.seq
 (.seq
 (.region [2, 3, 5, 6, 7, 8, 16, 17, 18] [⟨(some 23), .load true 4 (.t 2), none, [], []⟩,
   ⟨(some 24), .load true 2 (.t 8), none, [], []⟩,
   ⟨(some 25), .call (.c (.fn 104 [])) [(.t 23), (.t 24)] false, none, [], []⟩,
   ⟨(some 26), .un .not (.t 25), none, [], []⟩])
 (.cond (.t 26)
 (.seq
 (.region [] [⟨(some 4), .mv (.c (.bool false)), none, [], []⟩])
 .ret)
 .skip))
 (.seq
 (.region [2, 3, 5, 6, 7, 8, 16, 17, 18] [⟨(some 27), .faddr 2 (.t 2), none, [], []⟩,
   ⟨(some 28), .load false 1 (.t 27), none, [], []⟩,
   ⟨(some 29), .faddr 0 (.t 8), none, [], []⟩,
   ⟨(some 30), .load false 1 (.t 29), none, [], []⟩,
   ⟨(some 31), .iaddr 8 (.t 28) (.t 30), none, [], []⟩,
   ⟨(some 32), .faddr 1 (.t 31), none, [], []⟩,
   ⟨(some 33), .load false 1 (.t 32), none, [], []⟩,
   ⟨(some 9), .box 3 1 (.c (.int .i64 0)), none, [], []⟩,
   ⟨none, .store 1 (.t 9) (.t 33), none, [], []⟩])
 (.seq
 (.region [2, 3, 5, 6, 7, 8, 9, 16, 17, 18] [⟨(some 10), .mv (.c (.int .i64 0)), none, [], []⟩])
 (.seq
 (.seq
 (.region [2, 3, 5, 6, 7, 8, 9, 10, 16, 17, 18] [⟨(some 34), .load false 1 (.t 9), none, [], []⟩,
   ⟨(some 35), .bin .geq (.t 34) (.c (.int .i64 0)), none, [], []⟩])
 (.cond (.t 35)
 (.seq
 (.region [2, 3, 5, 6, 7, 8, 9, 16, 17, 18] [⟨(some 36), .mv (.t 5), none, [], []⟩,
   ⟨(some 37), .mkfn 110 [(.t 3), (.t 9)], none, [], []⟩,
   ⟨(some 38), .call (.c (.fn 109 [])) [(.t 36), (.t 37)] false, none, [], []⟩,
   ⟨(some 39), .bin .add (.c (.int .i64 1)) (.t 38), none, [], []⟩,
   ⟨(some 10), .mv (.t 39), none, [], []⟩])
 (.seq
 (.region [2, 3, 5, 6, 7, 8, 10, 16, 17, 18] [⟨(some 40), .mv (.t 10), none, [], []⟩,
   ⟨(some 41), .bin .eql (.t 40) (.c (.int .i64 0)), none, [], []⟩])
 (.cond (.t 41)
 (.seq
 (.region [] [⟨(some 4), .mv (.c (.bool false)), none, [], []⟩])
 .ret)
 .skip)))
 .skip))
 (.seq
 (.seq
 (.region [2, 3, 5, 6, 7, 8, 10, 16, 17, 18] [⟨(some 42), .mv (.t 6), none, [], []⟩,
   ⟨(some 43), .mv (.t 10), none, [], []⟩,
   ⟨(some 44), .iaddr 1 (.t 42) (.t 43), none, [], []⟩,
   ⟨(some 45), .load false 1 (.t 44), none, [], []⟩,
   ⟨(some 11), .mv (.t 45), none, [], []⟩])
 (.seq
 (.draw [2, 3, 5, 6, 7, 8, 10, 11, 16, 17, 18] [⟨(some 46), .mv (.t 11), none, [], []⟩,
   ⟨(some 47), .bin .geq (.t 46) (.c (.int .i64 0)), none, [0], []⟩,
   ⟨(some 48), .mv (.t 47), none, [0, 1], []⟩,
   ⟨(some 49), .load false 1 (.t 3), some (48, true), [0, 1, 2], []⟩,
   ⟨(some 50), .mv (.t 11), some (48, true), [0, 1, 2], []⟩,
   ⟨(some 51), .iaddr 2 (.t 49) (.t 50), some (48, true), (u 5), []⟩,
   ⟨(some 52), .faddr 0 (.t 51), some (48, true), (u 6), []⟩,
   ⟨(some 53), .load false 1 (.t 52), some (48, true), (u 7), []⟩,
   ⟨(some 54), .faddr 0 (.t 8), some (48, true), [0, 1, 2], []⟩,
   ⟨(some 55), .load false 1 (.t 54), some (48, true), [0, 1, 2, 8], []⟩,
   ⟨(some 56), .bin .gtr (.t 53) (.t 55), some (48, true), (u 10), []⟩,
   ⟨(some 57), .mv (.t 56), some (48, true), (u 11), []⟩,
   ⟨(some 58), .load false 1 (.t 3), some (57, false), (u 12), []⟩,
   ⟨(some 59), .mv (.t 11), some (57, false), (u 12), []⟩,
   ⟨(some 60), .iaddr 2 (.t 58) (.t 59), some (57, false), (u 14), []⟩,
   ⟨(some 61), .faddr 0 (.t 60), some (57, false), (u 15), []⟩,
   ⟨(some 62), .load false 1 (.t 61), some (57, false), (u 16), []⟩,
   ⟨(some 63), .faddr 0 (.t 8), some (57, false), (u 12), []⟩,
   ⟨(some 64), .load false 1 (.t 63), some (57, false), (u 12 ++ [17]), []⟩,
   ⟨(some 65), .bin .eql (.t 62) (.t 64), some (57, false), (u 19), []⟩,
   ⟨(some 66), .mv (.t 65), some (57, false), (u 20), []⟩,
   ⟨(some 67), .faddr 2 (.t 2), some (66, true), (u 21), []⟩,
   ⟨(some 68), .load false 1 (.t 67), some (66, true), (u 22), []⟩,
   ⟨(some 69), .faddr 0 (.t 8), some (66, true), (u 21), []⟩,
   ⟨(some 70), .load false 1 (.t 69), some (66, true), (u 21 ++ [23]), []⟩,
   ⟨(some 71), .iaddr 8 (.t 68) (.t 70), some (66, true), (u 25), []⟩,
   ⟨(some 72), .load true 8 (.t 71), some (66, true), (u 26), []⟩,
   ⟨(some 73), .load false 1 (.t 3), some (66, true), (u 21), []⟩,
   ⟨(some 74), .mv (.t 11), some (66, true), (u 21), []⟩,
   ⟨(some 75), .iaddr 2 (.t 73) (.t 74), some (66, true), (u 21 ++ [27, 28]), []⟩,
   ⟨(some 76), .faddr 1 (.t 75), some (66, true), (u 21 ++ [27, 28, 29]), []⟩,
   ⟨(some 77), .load false 1 (.t 76), some (66, true), (u 21 ++ [27, 28, 29, 30]), []⟩,
   ⟨(some 78), .faddr 1 (.t 8), some (66, true), (u 21), []⟩,
   ⟨(some 79), .load false 1 (.t 78), some (66, true), (u 21 ++ [32]), []⟩,
   ⟨(some 80), .call (.c (.fn 111 [])) [(.t 72), (.t 77), (.t 79)] false, some (66, true), (u 34), []⟩,
   ⟨(some 81), .un .not (.t 80), some (66, true), (u 35), []⟩,
   ⟨(some 82), .pick (.t 66) (.t 81) (.c (.bool false)), some (57, false), (u 36), []⟩,
   ⟨(some 83), .pick (.t 57) (.c (.bool true)) (.t 82), some (48, true), (u 37), []⟩,
   ⟨(some 84), .pick (.t 48) (.t 83) (.c (.bool false)), none, (u 38), []⟩])
 (.cond (.t 84)
 (.seq
 (.region [] [⟨(some 4), .mv (.c (.bool false)), none, [], []⟩])
 .ret)
 .skip)))
 (.draw [2, 3, 5, 6, 7, 10, 16, 17, 18] [⟨(some 85), .mv (.t 5), none, [], []⟩,
   ⟨(some 86), .mv (.t 10), none, [], []⟩,
   ⟨(some 87), .slc 1 (.t 85) none (some (.t 86)) none, none, [0, 1], []⟩,
   ⟨(some 88), .mv (.t 7), none, [], []⟩,
   ⟨(some 89), .flst 3 1 [[.int .i64 0]] [(0, (.t 88))], none, [3], []⟩,
   ⟨(some 90), .app 3 1 8 false (.t 87) (.t 89), none, (u 5), []⟩,
   ⟨(some 91), .mv (.t 6), none, [], []⟩,
   ⟨(some 92), .mv (.t 10), none, [], []⟩,
   ⟨(some 93), .slc 1 (.t 91) none (some (.t 92)) none, none, [6, 7], [5]⟩,
   ⟨(some 94), .mv (.t 7), none, [], []⟩,
   ⟨(some 95), .flst 3 1 [[.int .i64 0], [.int .i64 0]] [(0, (.t 94)), (1, (.c (.int .i64 (-1))))], none, [9], []⟩,
   ⟨(some 96), .app 3 1 8 false (.t 93) (.t 95), none, (u 11), []⟩,
   ⟨(some 5), .mv (.t 90), none, (u 12), []⟩,
   ⟨(some 6), .mv (.t 96), none, (u 13), []⟩]))))))))
 (.region [2, 3, 5, 6, 16, 17, 18] [⟨(some 97), .bin .add (.t 18) (.c (.int .i64 1)), none, [], []⟩,
   ⟨(some 18), .mv (.t 97), none, [], []⟩]))))
/-- progeny/plain.valid -/
def c85 : CFn := ⟨98, [.t 4],
 (.seq
 (.region [0, 1] [⟨(some 2), .box 25 4 (.t 0), none, [], []⟩,
   ⟨(some 3), .box 28 1 (.t 1), none, [], []⟩,
   ⟨(some 4), .mv (.c (.bool false)), none, [], []⟩])
 (.seq
 (.seq
 (.region [2, 3] [⟨(some 12), .load false 1 (.t 3), none, [], []⟩,
   ⟨(some 13), .len false (.t 12), none, [], []⟩,
   ⟨(some 14), .bin .gtr (.t 13) (.c (.int .i64 200)), none, [], []⟩])
 (.cond (.t 14)
 (.seq
 (.region [] [⟨(some 4), .mv (.c (.bool false)), none, [], []⟩])
 .ret)
 .skip))
 (.seq
 (.region [2, 3] [⟨(some 5), .mv (.c (.nils)), none, [], []⟩])
 (.seq
 (.region [2, 3, 5] [⟨(some 15), .bslice 3 1 [[.int .i64 0]] [(0, (.c (.int .i64 (-1))))], none, [], []⟩,
   ⟨(some 6), .mv (.t 15), none, [], []⟩])
 (.seq
 (.seq
 (.region [2, 3, 5, 6] [⟨(some 16), .load false 1 (.t 3), none, [], []⟩,
   ⟨(some 17), .len false (.t 16), none, [], []⟩,
   ⟨(some 18), .mv (.c (.int .i64 0)), none, [], []⟩])
 (.block 0
 (.loop c85_l0)))
 (.seq
 (.region [] [⟨(some 4), .mv (.c (.bool true)), none, [], []⟩])
 .ret)))))), false, false⟩
/-- slices.ContainsFunc[[]int,int] -/
def c86 : CFn := ⟨9, [.t 4],
 (.seq
 (.region [0, 1] [⟨(some 4), .mv (.c (.bool false)), none, [], []⟩])
 (.seq
 (.region [0, 1] [⟨(some 5), .mv (.t 0), none, [], []⟩,
   ⟨(some 6), .mv (.t 1), none, [], []⟩,
   ⟨(some 7), .call (.c (.fn 109 [])) [(.t 5), (.t 6)] false, none, [], []⟩,
   ⟨(some 8), .bin .geq (.t 7) (.c (.int .i64 0)), none, [], []⟩,
   ⟨(some 4), .mv (.t 8), none, [], []⟩])
 .ret)), false, false⟩
/-- progeny/plain.forest$1 -/
def c87 : CFn := ⟨12, [.t 3],
 (.seq
 (.region [0, 1] [⟨(some 3), .mv (.c (.bool false)), none, [], []⟩])
 (.seq
 (.region [0, 1] [⟨(some 4), .mv (.t 0), none, [], []⟩,
   ⟨(some 5), .bin .lss (.t 4) (.c (.int .i64 0)), none, [], []⟩,
   ⟨(some 6), .mv (.t 5), none, [], []⟩,
   ⟨(some 7), .mv (.t 0), some (6, false), [], []⟩,
   ⟨(some 8), .load false 1 (.t 1), some (6, false), [], []⟩,
   ⟨(some 9), .len false (.t 8), some (6, false), [], []⟩,
   ⟨(some 10), .bin .geq (.t 7) (.t 9), some (6, false), [], []⟩,
   ⟨(some 11), .pick (.t 6) (.c (.bool true)) (.t 10), none, [], []⟩,
   ⟨(some 3), .mv (.t 11), none, [], []⟩])
 .ret)), false, false⟩
def c88_l0 : CC :=
 (.seq
 (.seq
 (.region [1, 2, 5] [⟨(some 6), .mv (.t 1), none, [], []⟩,
   ⟨(some 7), .bin .geq (.t 6) (.c (.int .i64 0)), none, [], []⟩])
 (.cond (.t 7)
 .skip
 (.exit 0)))
 (.seq
 (.block 1
 (.region [1, 2, 5] [⟨(some 14), .mv (.t 5), none, [], []⟩,
   ⟨(some 15), .bin .add (.t 14) (.c (.int .i64 1)), none, [], []⟩,
   ⟨(some 5), .mv (.t 15), none, [], []⟩]))
 (.region [1, 2, 5] [⟨(some 8), .faddr 2 (.t 2), none, [], []⟩,
   ⟨(some 9), .load false 1 (.t 8), none, [], []⟩,
   ⟨(some 10), .mv (.t 1), none, [], []⟩,
   ⟨(some 11), .iaddr 8 (.t 9) (.t 10), none, [], []⟩,
   ⟨(some 12), .faddr 1 (.t 11), none, [], []⟩,
   ⟨(some 13), .load false 1 (.t 12), none, [], []⟩,
   ⟨(some 1), .mv (.t 13), none, [], []⟩])))
/-- progeny/plain.depth -/
def c88 : CFn := ⟨17, [.t 4],
 (.seq
 (.region [0, 1] [⟨(some 2), .box 25 4 (.t 0), none, [], []⟩,
   ⟨(some 4), .mv (.c (.int .i64 0)), none, [], []⟩])
 (.seq
 (.region [1, 2] [⟨(some 5), .mv (.c (.int .i64 0)), none, [], []⟩])
 (.seq
 (.block 0
 (.loop c88_l0))
 (.seq
 (.region [5] [⟨(some 16), .mv (.t 5), none, [], []⟩,
   ⟨(some 4), .mv (.t 16), none, [], []⟩])
 .ret)))), false, false⟩
/-- progeny/dbd.asked -/
def c89 : CFn := ⟨13, [.t 4],
 (.seq
 (.region [0, 1] [⟨(some 2), .box 25 4 (.t 0), none, [], []⟩,
   ⟨(some 4), .mv (.c (.int .i64 0)), none, [], []⟩])
 (.seq
 (.block 0
 (.seq
 (.region [1, 2] [⟨(some 6), .load true 4 (.t 2), none, [], []⟩,
   ⟨(some 7), .call (.c (.fn 42 [])) [(.t 6)] false, none, [], []⟩,
   ⟨(some 8), .un .not (.t 7), none, [], []⟩,
   ⟨(some 5), .mv (.t 8), none, [], []⟩])
 (.cond (.t 5)
 (.seq
 (.region [] [⟨(some 4), .mv (.c (.int .i64 100)), none, [], []⟩])
 .ret)
 (.seq
 (.region [1, 2] [⟨(some 10), .mv (.t 1), none, [], []⟩,
   ⟨(some 11), .mkfn 112 [(.t 2)], none, [], []⟩,
   ⟨(some 12), .call (.c (.fn 86 [])) [(.t 10), (.t 11)] false, none, [], []⟩,
   ⟨(some 9), .mv (.t 12), none, [], []⟩])
 (.cond (.t 9)
 (.seq
 (.region [] [⟨(some 4), .mv (.c (.int .i64 2)), none, [], []⟩])
 .ret)
 .skip)))))
 (.seq
 (.region [] [⟨(some 4), .mv (.c (.int .i64 0)), none, [], []⟩])
 .ret))), false, false⟩
/-- progeny/dbd.fits -/
def c90 : CFn := ⟨17, [.t 4],
 (.seq
 (.region [0, 1] [⟨(some 2), .box 87 8 (.t 0), none, [], []⟩,
   ⟨(some 4), .mv (.c (.bool false)), none, [], []⟩])
 (.seq
 (.region [1, 2] [⟨(some 5), .mv (.t 1), none, [], []⟩,
   ⟨(some 6), .len true (.t 5), none, [], []⟩,
   ⟨(some 7), .faddr 2 (.t 2), none, [], []⟩,
   ⟨(some 8), .load false 1 (.t 7), none, [], []⟩,
   ⟨(some 9), .bin .geq (.t 6) (.t 8), none, [], []⟩,
   ⟨(some 10), .mv (.t 9), none, [], []⟩,
   ⟨(some 11), .mv (.t 1), some (10, true), [], []⟩,
   ⟨(some 12), .len true (.t 11), some (10, true), [], []⟩,
   ⟨(some 13), .faddr 3 (.t 2), some (10, true), [], []⟩,
   ⟨(some 14), .load false 1 (.t 13), some (10, true), [], []⟩,
   ⟨(some 15), .bin .leq (.t 12) (.t 14), some (10, true), [], []⟩,
   ⟨(some 16), .pick (.t 10) (.t 15) (.c (.bool false)), none, [], []⟩,
   ⟨(some 4), .mv (.t 16), none, [], []⟩])
 .ret)), false, false⟩
/-- progeny/dbd.value -/
def c91 : CFn := ⟨23, [.t 4, .t 5],
 (.seq
 (.region [0, 1] [⟨(some 2), .box 101 3 (.t 0), none, [], []⟩,
   ⟨(some 4), .mv (.c (.str ⟨#[]⟩)), none, [], []⟩,
   ⟨(some 5), .mv (.c (.bool false)), none, [], []⟩])
 (.seq
 (.seq
 (.region [1, 2] [⟨(some 6), .faddr 1 (.t 2), none, [], []⟩,
   ⟨(some 7), .load false 1 (.t 6), none, [], []⟩,
   ⟨(some 8), .faddr 2 (.t 2), none, [], []⟩,
   ⟨(some 9), .load false 1 (.t 8), none, [], []⟩,
   ⟨(some 10), .bin .add (.t 7) (.t 9), none, [], []⟩,
   ⟨(some 11), .mv (.t 1), none, [], []⟩,
   ⟨(some 12), .len true (.t 11), none, [], []⟩,
   ⟨(some 13), .bin .gtr (.t 10) (.t 12), none, [], []⟩])
 (.cond (.t 13)
 (.seq
 (.region [] [⟨(some 4), .mv (.c (.str ⟨#[]⟩)), none, [], []⟩,
   ⟨(some 5), .mv (.c (.bool false)), none, [], []⟩])
 .ret)
 .skip))
 (.seq
 (.region [1, 2] [⟨(some 14), .mv (.t 1), none, [], []⟩,
   ⟨(some 15), .faddr 1 (.t 2), none, [], []⟩,
   ⟨(some 16), .load false 1 (.t 15), none, [], []⟩,
   ⟨(some 17), .faddr 1 (.t 2), none, [], []⟩,
   ⟨(some 18), .load false 1 (.t 17), none, [], []⟩,
   ⟨(some 19), .faddr 2 (.t 2), none, [], []⟩,
   ⟨(some 20), .load false 1 (.t 19), none, [], []⟩,
   ⟨(some 21), .bin .add (.t 18) (.t 20), none, [], []⟩,
   ⟨(some 22), .slcs (.t 14) (some (.t 16)) (some (.t 21)), none, [], []⟩,
   ⟨(some 4), .mv (.t 22), none, [], []⟩,
   ⟨(some 5), .mv (.c (.bool true)), none, [], []⟩])
 .ret))), false, false⟩
def c92_l0 : CC :=
 (.seq
 (.seq
 (.region [1, 2, 5] [⟨(some 14), .mv (.t 5), none, [], []⟩,
   ⟨(some 15), .mv (.t 1), none, [], []⟩,
   ⟨(some 16), .len false (.t 15), none, [], []⟩,
   ⟨(some 17), .bin .lss (.t 14) (.t 16), none, [], []⟩])
 (.cond (.t 17)
 .skip
 (.exit 0)))
 (.seq
 (.block 1
 (.seq
 (.draw [1, 2, 5] [⟨(some 20), .mv (.t 1), none, [], []⟩,
   ⟨(some 21), .mv (.t 5), none, [], []⟩,
   ⟨(some 22), .iaddr 2 (.t 20) (.t 21), none, [0, 1], []⟩,
   ⟨(some 23), .faddr 0 (.t 22), none, [0, 1, 2], []⟩,
   ⟨(some 24), .load false 1 (.t 23), none, (u 4), []⟩,
   ⟨(some 25), .bin .lss (.t 24) (.c (.int .i64 0)), none, (u 5), []⟩,
   ⟨(some 26), .mv (.t 25), none, (u 6), []⟩,
   ⟨(some 27), .mv (.t 1), some (26, false), (u 7), []⟩,
   ⟨(some 28), .mv (.t 5), some (26, false), (u 7), []⟩,
   ⟨(some 29), .iaddr 2 (.t 27) (.t 28), some (26, false), (u 9), []⟩,
   ⟨(some 30), .faddr 0 (.t 29), some (26, false), (u 10), []⟩,
   ⟨(some 31), .load false 1 (.t 30), some (26, false), (u 11), []⟩,
   ⟨(some 32), .faddr 2 (.t 2), some (26, false), (u 7), []⟩,
   ⟨(some 33), .load false 1 (.t 32), some (26, false), (u 7 ++ [12]), []⟩,
   ⟨(some 34), .len false (.t 33), some (26, false), (u 7 ++ [12, 13]), []⟩,
   ⟨(some 35), .bin .geq (.t 31) (.t 34), some (26, false), (u 15), []⟩,
   ⟨(some 36), .pick (.t 26) (.c (.bool true)) (.t 35), none, (u 16), []⟩,
   ⟨(some 37), .mv (.t 36), none, (u 17), []⟩,
   ⟨(some 38), .mv (.t 1), some (37, false), (u 18), []⟩,
   ⟨(some 39), .mv (.t 5), some (37, false), (u 18), []⟩,
   ⟨(some 40), .iaddr 2 (.t 38) (.t 39), some (37, false), (u 20), []⟩,
   ⟨(some 41), .faddr 1 (.t 40), some (37, false), (u 21), []⟩,
   ⟨(some 42), .load false 1 (.t 41), some (37, false), (u 22), []⟩,
   ⟨(some 43), .len true (.t 42), some (37, false), (u 23), []⟩,
   ⟨(some 44), .faddr 2 (.t 2), some (37, false), (u 18), []⟩,
   ⟨(some 45), .load false 1 (.t 44), some (37, false), (u 18 ++ [24]), []⟩,
   ⟨(some 46), .mv (.t 1), some (37, false), (u 18), []⟩,
   ⟨(some 47), .mv (.t 5), some (37, false), (u 18), []⟩,
   ⟨(some 48), .iaddr 2 (.t 46) (.t 47), some (37, false), (u 18 ++ [26, 27]), []⟩,
   ⟨(some 49), .faddr 0 (.t 48), some (37, false), (u 18 ++ [26, 27, 28]), []⟩,
   ⟨(some 50), .load false 1 (.t 49), some (37, false), (u 18 ++ [26, 27, 28, 29]), []⟩,
   ⟨(some 51), .iaddr 8 (.t 45) (.t 50), some (37, false), (u 18 ++ [24, 25, 26, 27, 28, 29, 30]), []⟩,
   ⟨(some 52), .faddr 2 (.t 51), some (37, false), (u 18 ++ [24, 25, 26, 27, 28, 29, 30, 31]), []⟩,
   ⟨(some 53), .load false 1 (.t 52), some (37, false), (u 18 ++ [24, 25, 26, 27, 28, 29, 30, 31, 32]), []⟩,
   ⟨(some 54), .bin .lss (.t 43) (.t 53), some (37, false), (u 34), []⟩,
   ⟨(some 55), .pick (.t 37) (.c (.bool true)) (.t 54), none, (u 35), []⟩,
   ⟨(some 56), .mv (.t 55), none, (u 36), []⟩,
   ⟨(some 57), .mv (.t 1), some (56, false), (u 37), []⟩,
   ⟨(some 58), .mv (.t 5), some (56, false), (u 37), []⟩,
   ⟨(some 59), .iaddr 2 (.t 57) (.t 58), some (56, false), (u 39), []⟩,
   ⟨(some 60), .faddr 1 (.t 59), some (56, false), (u 40), []⟩,
   ⟨(some 61), .load false 1 (.t 60), some (56, false), (u 41), []⟩,
   ⟨(some 62), .len true (.t 61), some (56, false), (u 42), []⟩,
   ⟨(some 63), .faddr 2 (.t 2), some (56, false), (u 37), []⟩,
   ⟨(some 64), .load false 1 (.t 63), some (56, false), (u 37 ++ [43]), []⟩,
   ⟨(some 65), .mv (.t 1), some (56, false), (u 37), []⟩,
   ⟨(some 66), .mv (.t 5), some (56, false), (u 37), []⟩,
   ⟨(some 67), .iaddr 2 (.t 65) (.t 66), some (56, false), (u 37 ++ [45, 46]), []⟩,
   ⟨(some 68), .faddr 0 (.t 67), some (56, false), (u 37 ++ [45, 46, 47]), []⟩,
   ⟨(some 69), .load false 1 (.t 68), some (56, false), (u 37 ++ [45, 46, 47, 48]), []⟩,
   ⟨(some 70), .iaddr 8 (.t 64) (.t 69), some (56, false), (u 37 ++ [43, 44, 45, 46, 47, 48, 49]), []⟩,
   ⟨(some 71), .faddr 3 (.t 70), some (56, false), (u 37 ++ [43, 44, 45, 46, 47, 48, 49, 50]), []⟩,
   ⟨(some 72), .load false 1 (.t 71), some (56, false), (u 37 ++ [43, 44, 45, 46, 47, 48, 49, 50, 51]), []⟩,
   ⟨(some 73), .bin .gtr (.t 62) (.t 72), some (56, false), (u 53), []⟩,
   ⟨(some 74), .pick (.t 56) (.c (.bool true)) (.t 73), none, (u 54), []⟩])
 (.cond (.t 74)
 (.seq
 (.region [] [⟨(some 4), .mv (.c (.bool false)), none, [], []⟩])
 .ret)
 .skip)))
 (.region [1, 2, 5] [⟨(some 18), .mv (.t 5), none, [], []⟩,
   ⟨(some 19), .bin .add (.t 18) (.c (.int .i64 1)), none, [], []⟩,
   ⟨(some 5), .mv (.t 19), none, [], []⟩])))
def c92_l1 : CC :=
 (.seq
 (.seq
 (.region [1, 2, 6, 7, 8] [⟨(some 97), .mv (.t 8), none, [], []⟩,
   ⟨(some 98), .mv (.t 7), none, [], []⟩,
   ⟨(some 99), .bin .gtr (.t 97) (.t 98), none, [], []⟩,
   ⟨(some 100), .mv (.t 99), none, [], []⟩,
   ⟨(some 101), .load true 4 (.t 2), some (100, true), [], []⟩,
   ⟨(some 102), .mv (.t 1), some (100, true), [], []⟩,
   ⟨(some 103), .mv (.t 8), some (100, true), [], []⟩,
   ⟨(some 104), .call (.c (.fn 82 [])) [(.t 101), (.t 102), (.t 103)] false, some (100, true), [], []⟩,
   ⟨(some 105), .mv (.t 7), some (100, true), [], []⟩,
   ⟨(some 106), .bin .neq (.t 104) (.t 105), some (100, true), [], []⟩,
   ⟨(some 107), .pick (.t 100) (.t 106) (.c (.bool false)), none, [], []⟩])
 (.cond (.t 107)
 .skip
 (.exit 4)))
 (.block 5
 (.region [1, 2, 6, 7, 8] [⟨(some 108), .load true 4 (.t 2), none, [], []⟩,
   ⟨(some 109), .mv (.t 1), none, [], []⟩,
   ⟨(some 110), .mv (.t 8), none, [], []⟩,
   ⟨(some 111), .call (.c (.fn 82 [])) [(.t 108), (.t 109), (.t 110)] false, none, [], []⟩,
   ⟨(some 8), .mv (.t 111), none, [], []⟩])))
def c92_l2 : CC :=
 (.seq
 (.seq
 (.region [1, 2, 6] [⟨(some 75), .mv (.t 6), none, [], []⟩,
   ⟨(some 76), .mv (.t 1), none, [], []⟩,
   ⟨(some 77), .len false (.t 76), none, [], []⟩,
   ⟨(some 78), .bin .lss (.t 75) (.t 77), none, [], []⟩])
 (.cond (.t 78)
 .skip
 (.exit 2)))
 (.seq
 (.block 3
 (.seq
 (.region [1, 2, 6] [⟨(some 81), .load true 4 (.t 2), none, [], []⟩,
   ⟨(some 82), .mv (.t 1), none, [], []⟩,
   ⟨(some 83), .mv (.t 6), none, [], []⟩,
   ⟨(some 84), .call (.c (.fn 82 [])) [(.t 81), (.t 82), (.t 83)] false, none, [], []⟩,
   ⟨(some 7), .mv (.t 84), none, [], []⟩])
 (.seq
 (.seq
 (.region [1, 2, 6, 7] [⟨(some 85), .mv (.t 7), none, [], []⟩,
   ⟨(some 86), .bin .lss (.t 85) (.c (.int .i64 0)), none, [], []⟩,
   ⟨(some 87), .mv (.t 86), none, [], []⟩,
   ⟨(some 88), .mv (.t 1), some (87, true), [], []⟩,
   ⟨(some 89), .mv (.t 6), some (87, true), [], []⟩,
   ⟨(some 90), .iaddr 2 (.t 88) (.t 89), some (87, true), [], []⟩,
   ⟨(some 91), .faddr 0 (.t 90), some (87, true), [], []⟩,
   ⟨(some 92), .load false 1 (.t 91), some (87, true), [], []⟩,
   ⟨(some 93), .bin .neq (.t 92) (.c (.int .i64 0)), some (87, true), [], []⟩,
   ⟨(some 94), .pick (.t 87) (.t 93) (.c (.bool false)), none, [], []⟩])
 (.cond (.t 94)
 (.seq
 (.region [] [⟨(some 4), .mv (.c (.bool false)), none, [], []⟩])
 .ret)
 .skip))
 (.seq
 (.region [1, 2, 6, 7] [⟨(some 95), .mv (.t 6), none, [], []⟩,
   ⟨(some 96), .bin .sub (.t 95) (.c (.int .i64 1)), none, [], []⟩,
   ⟨(some 8), .mv (.t 96), none, [], []⟩])
 (.seq
 (.block 4
 (.loop c92_l1))
 (.seq
 (.seq
 (.region [1, 2, 6, 7, 8] [⟨(some 112), .mv (.t 8), none, [], []⟩,
   ⟨(some 113), .mv (.t 7), none, [], []⟩,
   ⟨(some 114), .bin .lss (.t 112) (.t 113), none, [], []⟩])
 (.cond (.t 114)
 (.seq
 (.region [] [⟨(some 4), .mv (.c (.bool false)), none, [], []⟩])
 .ret)
 .skip))
 (.seq
 (.seq
 (.region [1, 2, 6, 7, 8] [⟨(some 115), .mv (.t 8), none, [], []⟩,
   ⟨(some 116), .mv (.t 7), none, [], []⟩,
   ⟨(some 117), .bin .eql (.t 115) (.t 116), none, [], []⟩])
 (.cond (.t 117)
 (.exit 3)
 .skip))
 (.seq
 (.seq
 (.draw [1, 2, 6, 8] [⟨(some 118), .mv (.t 1), none, [], []⟩,
   ⟨(some 119), .mv (.t 8), none, [], []⟩,
   ⟨(some 120), .iaddr 2 (.t 118) (.t 119), none, [0, 1], []⟩,
   ⟨(some 121), .faddr 0 (.t 120), none, [0, 1, 2], []⟩,
   ⟨(some 122), .load false 1 (.t 121), none, (u 4), []⟩,
   ⟨(some 123), .mv (.t 1), none, [], []⟩,
   ⟨(some 124), .mv (.t 6), none, [], []⟩,
   ⟨(some 125), .iaddr 2 (.t 123) (.t 124), none, [5, 6], []⟩,
   ⟨(some 126), .faddr 0 (.t 125), none, [5, 6, 7], []⟩,
   ⟨(some 127), .load false 1 (.t 126), none, [5, 6, 7, 8], []⟩,
   ⟨(some 128), .bin .gtr (.t 122) (.t 127), none, (u 10), []⟩])
 (.cond (.t 128)
 (.seq
 (.region [] [⟨(some 4), .mv (.c (.bool false)), none, [], []⟩])
 .ret)
 .skip))
 (.seq
 (.draw [1, 2, 6, 8] [⟨(some 129), .mv (.t 1), none, [], []⟩,
   ⟨(some 130), .mv (.t 8), none, [], []⟩,
   ⟨(some 131), .iaddr 2 (.t 129) (.t 130), none, [0, 1], []⟩,
   ⟨(some 132), .faddr 0 (.t 131), none, [0, 1, 2], []⟩,
   ⟨(some 133), .load false 1 (.t 132), none, (u 4), []⟩,
   ⟨(some 134), .mv (.t 1), none, [], []⟩,
   ⟨(some 135), .mv (.t 6), none, [], []⟩,
   ⟨(some 136), .iaddr 2 (.t 134) (.t 135), none, [5, 6], []⟩,
   ⟨(some 137), .faddr 0 (.t 136), none, [5, 6, 7], []⟩,
   ⟨(some 138), .load false 1 (.t 137), none, [5, 6, 7, 8], []⟩,
   ⟨(some 139), .bin .eql (.t 133) (.t 138), none, (u 10), []⟩,
   ⟨(some 140), .mv (.t 139), none, (u 11), []⟩,
   ⟨(some 141), .faddr 2 (.t 2), some (140, true), (u 12), []⟩,
   ⟨(some 142), .load false 1 (.t 141), some (140, true), (u 13), []⟩,
   ⟨(some 143), .mv (.t 1), some (140, true), (u 12), []⟩,
   ⟨(some 144), .mv (.t 6), some (140, true), (u 12), []⟩,
   ⟨(some 145), .iaddr 2 (.t 143) (.t 144), some (140, true), (u 12 ++ [14, 15]), []⟩,
   ⟨(some 146), .faddr 0 (.t 145), some (140, true), (u 12 ++ [14, 15, 16]), []⟩,
   ⟨(some 147), .load false 1 (.t 146), some (140, true), (u 12 ++ [14, 15, 16, 17]), []⟩,
   ⟨(some 148), .iaddr 8 (.t 142) (.t 147), some (140, true), (u 19), []⟩,
   ⟨(some 149), .faddr 5 (.t 148), some (140, true), (u 20), []⟩,
   ⟨(some 150), .load false 1 (.t 149), some (140, true), (u 21), []⟩,
   ⟨(some 151), .bin .geq (.t 150) (.c (.int .i64 0)), some (140, true), (u 22), []⟩,
   ⟨(some 152), .pick (.t 140) (.t 151) (.c (.bool false)), none, (u 23), []⟩])
 (.cond (.t 152)
 (.seq
 (.draw [1, 2, 6, 8] [⟨(some 153), .load true 4 (.t 2), none, [], []⟩,
   ⟨(some 154), .mv (.t 1), none, [], []⟩,
   ⟨(some 155), .mv (.t 8), none, [], []⟩,
   ⟨(some 156), .iaddr 2 (.t 154) (.t 155), none, [1, 2], []⟩,
   ⟨(some 157), .load true 2 (.t 156), none, [1, 2, 3], []⟩,
   ⟨(some 158), .call (.c (.fn 113 [])) [(.t 153), (.t 157)] false, none, (u 5), []⟩,
   ⟨(some 159), .load true 4 (.t 2), none, [], [5]⟩,
   ⟨(some 160), .mv (.t 1), none, [], []⟩,
   ⟨(some 161), .mv (.t 6), none, [], []⟩,
   ⟨(some 162), .iaddr 2 (.t 160) (.t 161), none, [7, 8], []⟩,
   ⟨(some 163), .load true 2 (.t 162), none, [7, 8, 9], [5]⟩,
   ⟨(some 164), .call (.c (.fn 113 [])) [(.t 159), (.t 163)] false, none, (u 11), []⟩,
   ⟨(some 9), .mv (.t 158), none, (u 12), []⟩,
   ⟨(some 10), .mv (.t 164), none, (u 13), []⟩])
 (.seq
 (.draw [1, 2, 6, 9, 10] [⟨(some 165), .mv (.t 9), none, [], []⟩,
   ⟨(some 166), .mv (.t 10), none, [], []⟩,
   ⟨(some 167), .bin .gtr (.t 165) (.t 166), none, [0, 1], []⟩,
   ⟨(some 168), .mv (.t 167), none, [0, 1, 2], []⟩,
   ⟨(some 169), .mv (.t 9), some (168, false), (u 4), []⟩,
   ⟨(some 170), .mv (.t 10), some (168, false), (u 4), []⟩,
   ⟨(some 171), .bin .eql (.t 169) (.t 170), some (168, false), (u 6), []⟩,
   ⟨(some 172), .mv (.t 171), some (168, false), (u 7), []⟩,
   ⟨(some 173), .faddr 2 (.t 2), some (172, true), (u 8), []⟩,
   ⟨(some 174), .load false 1 (.t 173), some (172, true), (u 9), []⟩,
   ⟨(some 175), .mv (.t 1), some (172, true), (u 8), []⟩,
   ⟨(some 176), .mv (.t 6), some (172, true), (u 8), []⟩,
   ⟨(some 177), .iaddr 2 (.t 175) (.t 176), some (172, true), (u 8 ++ [10, 11]), []⟩,
   ⟨(some 178), .faddr 0 (.t 177), some (172, true), (u 8 ++ [10, 11, 12]), []⟩,
   ⟨(some 179), .load false 1 (.t 178), some (172, true), (u 8 ++ [10, 11, 12, 13]), []⟩,
   ⟨(some 180), .iaddr 8 (.t 174) (.t 179), some (172, true), (u 15), []⟩,
   ⟨(some 181), .faddr 6 (.t 180), some (172, true), (u 16), []⟩,
   ⟨(some 182), .load false 1 (.t 181), some (172, true), (u 17), []⟩,
   ⟨(some 183), .pick (.t 172) (.t 182) (.c (.bool false)), some (168, false), (u 18), []⟩,
   ⟨(some 184), .pick (.t 168) (.c (.bool true)) (.t 183), none, (u 19), []⟩])
 (.cond (.t 184)
 (.seq
 (.region [] [⟨(some 4), .mv (.c (.bool false)), none, [], []⟩])
 .ret)
 .skip)))
 .skip))))))))))
 (.region [1, 2, 6] [⟨(some 79), .mv (.t 6), none, [], []⟩,
   ⟨(some 80), .bin .add (.t 79) (.c (.int .i64 1)), none, [], []⟩,
   ⟨(some 6), .mv (.t 80), none, [], []⟩])))
/-- progeny/progenyref13.right -/
def c92 : CFn := ⟨185, [.t 4],
 (.seq
 (.region [0, 1] [⟨(some 2), .box 25 4 (.t 0), none, [], []⟩,
   ⟨(some 4), .mv (.c (.bool false)), none, [], []⟩])
 (.seq
 (.seq
 (.region [1, 2] [⟨(some 11), .mv (.t 1), none, [], []⟩,
   ⟨(some 12), .len false (.t 11), none, [], []⟩,
   ⟨(some 13), .bin .gtr (.t 12) (.c (.int .i64 200)), none, [], []⟩])
 (.cond (.t 13)
 (.seq
 (.region [] [⟨(some 4), .mv (.c (.bool false)), none, [], []⟩])
 .ret)
 .skip))
 (.seq
 (.seq
 (.region [1, 2] [⟨(some 5), .mv (.c (.int .i64 0)), none, [], []⟩])
 (.block 0
 (.loop c92_l0)))
 (.seq
 (.seq
 (.region [1, 2] [⟨(some 6), .mv (.c (.int .i64 0)), none, [], []⟩])
 (.block 2
 (.loop c92_l2)))
 (.seq
 (.region [] [⟨(some 4), .mv (.c (.bool true)), none, [], []⟩])
 .ret))))), false, false⟩
/-- progeny/dbd.isType -/
def c94 : CFn := ⟨70, [.t 2],
 (.seq
 (.region [0] [⟨(some 1), .box 87 8 (.t 0), none, [], []⟩,
   ⟨(some 2), .mv (.c (.bool false)), none, [], []⟩])
 (.seq
 (.block 0
 (.seq
 (.region [1] [⟨(some 4), .faddr 0 (.t 1), none, [], []⟩,
   ⟨(some 5), .load false 1 (.t 4), none, [], []⟩,
   ⟨(some 6), .call (.c (.fn 69 [])) [(.t 5)] false, none, [], []⟩,
   ⟨(some 7), .un .not (.t 6), none, [], []⟩,
   ⟨(some 8), .mv (.t 7), none, [], []⟩,
   ⟨(some 9), .faddr 2 (.t 1), some (8, false), [], []⟩,
   ⟨(some 10), .load false 1 (.t 9), some (8, false), [], []⟩,
   ⟨(some 11), .bin .lss (.t 10) (.c (.int .i64 1)), some (8, false), [], []⟩,
   ⟨(some 12), .pick (.t 8) (.c (.bool true)) (.t 11), none, [], []⟩,
   ⟨(some 13), .mv (.t 12), none, [], []⟩,
   ⟨(some 14), .faddr 2 (.t 1), some (13, false), [], []⟩,
   ⟨(some 15), .load false 1 (.t 14), some (13, false), [], []⟩,
   ⟨(some 16), .faddr 3 (.t 1), some (13, false), [], []⟩,
   ⟨(some 17), .load false 1 (.t 16), some (13, false), [], []⟩,
   ⟨(some 18), .bin .gtr (.t 15) (.t 17), some (13, false), [], []⟩,
   ⟨(some 19), .pick (.t 13) (.c (.bool true)) (.t 18), none, [], []⟩,
   ⟨(some 20), .mv (.t 19), none, [], []⟩,
   ⟨(some 21), .faddr 3 (.t 1), some (20, false), [], []⟩,
   ⟨(some 22), .load false 1 (.t 21), some (20, false), [], []⟩,
   ⟨(some 23), .bin .gtr (.t 22) (.c (.int .i64 40)), some (20, false), [], []⟩,
   ⟨(some 24), .pick (.t 20) (.c (.bool true)) (.t 23), none, [], []⟩,
   ⟨(some 25), .mv (.t 24), none, [], []⟩,
   ⟨(some 26), .faddr 4 (.t 1), some (25, false), [], []⟩,
   ⟨(some 27), .load false 1 (.t 26), some (25, false), [], []⟩,
   ⟨(some 28), .faddr 3 (.t 1), some (25, false), [], []⟩,
   ⟨(some 29), .load false 1 (.t 28), some (25, false), [], []⟩,
   ⟨(some 30), .call (.c (.fn 114 [])) [(.t 27), (.t 29)] false, some (25, false), [], []⟩,
   ⟨(some 31), .un .not (.t 30), some (25, false), [], []⟩,
   ⟨(some 32), .pick (.t 25) (.c (.bool true)) (.t 31), none, [], []⟩,
   ⟨(some 3), .mv (.t 32), none, [], []⟩])
 (.cond (.t 3)
 (.seq
 (.region [] [⟨(some 2), .mv (.c (.bool false)), none, [], []⟩])
 .ret)
 (.seq
 (.region [1] [⟨(some 34), .faddr 5 (.t 1), none, [], []⟩,
   ⟨(some 35), .load false 1 (.t 34), none, [], []⟩,
   ⟨(some 36), .bin .eql (.t 35) (.c (.int .i64 (-1))), none, [], []⟩,
   ⟨(some 33), .mv (.t 36), none, [], []⟩])
 (.cond (.t 33)
 (.seq
 (.region [1] [⟨(some 37), .faddr 6 (.t 1), none, [], []⟩,
   ⟨(some 38), .load false 1 (.t 37), none, [], []⟩,
   ⟨(some 39), .un .not (.t 38), none, [], []⟩,
   ⟨(some 2), .mv (.t 39), none, [], []⟩])
 .ret)
 (.seq
 (.region [1] [⟨(some 41), .faddr 5 (.t 1), none, [], []⟩,
   ⟨(some 42), .load false 1 (.t 41), none, [], []⟩,
   ⟨(some 43), .bin .lss (.t 42) (.c (.int .i64 0)), none, [], []⟩,
   ⟨(some 44), .mv (.t 43), none, [], []⟩,
   ⟨(some 45), .faddr 5 (.t 1), some (44, false), [], []⟩,
   ⟨(some 46), .load false 1 (.t 45), some (44, false), [], []⟩,
   ⟨(some 47), .faddr 4 (.t 1), some (44, false), [], []⟩,
   ⟨(some 48), .load false 1 (.t 47), some (44, false), [], []⟩,
   ⟨(some 49), .len false (.t 48), some (44, false), [], []⟩,
   ⟨(some 50), .bin .geq (.t 46) (.t 49), some (44, false), [], []⟩,
   ⟨(some 51), .pick (.t 44) (.c (.bool true)) (.t 50), none, [], []⟩,
   ⟨(some 40), .mv (.t 51), none, [], []⟩])
 (.cond (.t 40)
 (.seq
 (.region [] [⟨(some 2), .mv (.c (.bool false)), none, [], []⟩])
 .ret)
 .skip)))))))
 (.seq
 (.draw [1] [⟨(some 52), .faddr 4 (.t 1), none, [], []⟩,
   ⟨(some 53), .load false 1 (.t 52), none, [0], []⟩,
   ⟨(some 54), .faddr 5 (.t 1), none, [], []⟩,
   ⟨(some 55), .load false 1 (.t 54), none, [2], []⟩,
   ⟨(some 56), .iaddr 3 (.t 53) (.t 55), none, (u 4), []⟩,
   ⟨(some 57), .faddr 1 (.t 56), none, (u 5), []⟩,
   ⟨(some 58), .load false 1 (.t 57), none, (u 6), []⟩,
   ⟨(some 59), .faddr 4 (.t 1), none, [], []⟩,
   ⟨(some 60), .load false 1 (.t 59), none, [7], []⟩,
   ⟨(some 61), .faddr 5 (.t 1), none, [], []⟩,
   ⟨(some 62), .load false 1 (.t 61), none, [9], []⟩,
   ⟨(some 63), .iaddr 3 (.t 60) (.t 62), none, [7, 8, 9, 10], []⟩,
   ⟨(some 64), .faddr 2 (.t 63), none, [7, 8, 9, 10, 11], []⟩,
   ⟨(some 65), .load false 1 (.t 64), none, [7, 8, 9, 10, 11, 12], []⟩,
   ⟨(some 66), .bin .add (.t 58) (.t 65), none, (u 14), []⟩,
   ⟨(some 67), .faddr 2 (.t 1), none, [], []⟩,
   ⟨(some 68), .load false 1 (.t 67), none, [15], []⟩,
   ⟨(some 69), .bin .leq (.t 66) (.t 68), none, (u 17), []⟩,
   ⟨(some 2), .mv (.t 69), none, (u 18), []⟩])
 .ret))), false, false⟩
/-- slices.ContainsFunc[[]progeny/api.Type,progeny/api.Type] -/
def c95 : CFn := ⟨9, [.t 4],
 (.seq
 (.region [0, 1] [⟨(some 4), .mv (.c (.bool false)), none, [], []⟩])
 (.seq
 (.region [0, 1] [⟨(some 5), .mv (.t 0), none, [], []⟩,
   ⟨(some 6), .mv (.t 1), none, [], []⟩,
   ⟨(some 7), .call (.c (.fn 115 [])) [(.t 5), (.t 6)] false, none, [], []⟩,
   ⟨(some 8), .bin .geq (.t 7) (.c (.int .i64 0)), none, [], []⟩,
   ⟨(some 4), .mv (.t 8), none, [], []⟩])
 .ret)), false, false⟩
/-- progeny/dbd.areTypes$1 -/
def c96 : CFn := ⟨9, [.t 3],
 (.seq
 (.region [0, 1] [⟨(some 2), .box 87 8 (.t 0), none, [], []⟩,
   ⟨(some 3), .mv (.c (.bool false)), none, [], []⟩])
 (.seq
 (.region [1, 2] [⟨(some 4), .faddr 0 (.t 2), none, [], []⟩,
   ⟨(some 5), .load false 1 (.t 4), none, [], []⟩,
   ⟨(some 6), .faddr 0 (.t 1), none, [], []⟩,
   ⟨(some 7), .load false 1 (.t 6), none, [], []⟩,
   ⟨(some 8), .bin .eql (.t 5) (.t 7), none, [], []⟩,
   ⟨(some 3), .mv (.t 8), none, [], []⟩])
 .ret)), false, false⟩
/-- slices.ContainsFunc[[]progeny/api.Search,progeny/api.Search] -/
def c97 : CFn := ⟨9, [.t 4],
 (.seq
 (.region [0, 1] [⟨(some 4), .mv (.c (.bool false)), none, [], []⟩])
 (.seq
 (.region [0, 1] [⟨(some 5), .mv (.t 0), none, [], []⟩,
   ⟨(some 6), .mv (.t 1), none, [], []⟩,
   ⟨(some 7), .call (.c (.fn 116 [])) [(.t 5), (.t 6)] false, none, [], []⟩,
   ⟨(some 8), .bin .geq (.t 7) (.c (.int .i64 0)), none, [], []⟩,
   ⟨(some 4), .mv (.t 8), none, [], []⟩])
 .ret)), false, false⟩
/-- progeny/dbd.areIndexes$1 -/
def c98 : CFn := ⟨9, [.t 3],
 (.seq
 (.region [0, 1] [⟨(some 2), .box 106 4 (.t 0), none, [], []⟩,
   ⟨(some 3), .mv (.c (.bool false)), none, [], []⟩])
 (.seq
 (.region [1, 2] [⟨(some 4), .faddr 0 (.t 2), none, [], []⟩,
   ⟨(some 5), .load false 1 (.t 4), none, [], []⟩,
   ⟨(some 6), .faddr 0 (.t 1), none, [], []⟩,
   ⟨(some 7), .load false 1 (.t 6), none, [], []⟩,
   ⟨(some 8), .bin .eql (.t 5) (.t 7), none, [], []⟩,
   ⟨(some 3), .mv (.t 8), none, [], []⟩])
 .ret)), false, false⟩
def c99_l0 : CC :=
 (.seq
 (.region [0, 1, 7, 8] [⟨(some 9), .bin .lss (.t 8) (.t 7), none, [], []⟩])
 (.seq
 (.cond (.t 9)
 .skip
 (.exit 0))
 (.seq
 (.block 1
 (.seq
 (.region [0, 1, 7, 8] [⟨(some 10), .mv (.t 8), none, [], []⟩,
   ⟨(some 5), .mv (.t 10), none, [], []⟩])
 (.seq
 (.region [0, 1, 5, 7, 8] [⟨(some 11), .mv (.t 1), none, [], []⟩,
   ⟨(some 12), .mv (.t 0), none, [], []⟩,
   ⟨(some 13), .mv (.t 5), none, [], []⟩,
   ⟨(some 14), .iaddr 2 (.t 12) (.t 13), none, [], []⟩,
   ⟨(some 15), .load true 2 (.t 14), none, [], []⟩,
   ⟨(some 16), .call (.t 11) [(.t 15)] false, none, [], []⟩])
 (.cond (.t 16)
 (.seq
 (.region [5] [⟨(some 17), .mv (.t 5), none, [], []⟩,
   ⟨(some 4), .mv (.t 17), none, [], []⟩])
 .ret)
 .skip))))
 (.region [0, 1, 7, 8] [⟨(some 18), .bin .add (.t 8) (.c (.int .i64 1)), none, [], []⟩,
   ⟨(some 8), .mv (.t 18), none, [], []⟩]))))
/-- slices.IndexFunc[[]progeny/api.Item,progeny/api.Item] -/
def c99 : CFn := ⟨19, [.t 4],
 (.seq
 (.region [0, 1] [⟨(some 4), .mv (.c (.int .i64 0)), none, [], []⟩])
 (.seq
 (.seq
 (.region [0, 1] [⟨(some 6), .mv (.t 0), none, [], []⟩,
   ⟨(some 7), .len false (.t 6), none, [], []⟩,
   ⟨(some 8), .mv (.c (.int .i64 0)), none, [], []⟩])
 (.block 0
 (.loop c99_l0)))
 (.seq
 (.region [] [⟨(some 4), .mv (.c (.int .i64 (-1))), none, [], []⟩])
 .ret))), false, false⟩
/-- (*progeny/logic.pair).root$1 -/
def c100 : CFn := ⟨23, [.t 4],
 (.seq
 (.region [0, 1, 2] [⟨(some 3), .box 44 2 (.t 0), none, [], []⟩,
   ⟨(some 4), .mv (.c (.bool false)), none, [], []⟩])
 (.seq
 (.seq
 (.region [1, 2, 3] [⟨(some 7), .faddr 0 (.t 3), none, [], []⟩,
   ⟨(some 8), .load false 1 (.t 7), none, [], []⟩,
   ⟨(some 9), .bin .neq (.t 8) (.c (.int .i64 0)), none, [], []⟩])
 (.cond (.t 9)
 (.seq
 (.region [] [⟨(some 4), .mv (.c (.bool false)), none, [], []⟩])
 .ret)
 .skip))
 (.seq
 (.draw [1, 2, 3] [⟨(some 11), .load false 1 (.t 1), none, [], []⟩,
   ⟨(some 12), .nilck (.t 11), none, [0], []⟩,
   ⟨(some 13), .faddr 4 (.t 12), none, [0, 1], []⟩,
   ⟨(some 14), .load true 4 (.t 13), none, [0, 1, 2], []⟩,
   ⟨(some 15), .faddr 1 (.t 3), none, [], []⟩,
   ⟨(some 16), .load false 1 (.t 15), none, [4], []⟩,
   ⟨(some 17), .call (.c (.fn 64 [])) [(.t 14), (.c (.int .i64 0)), (.t 16)] false, none, (u 6), []⟩,
   ⟨(some 10), .mv (.t 17), none, (u 7), []⟩,
   ⟨(some 18), .extract (.t 10) 0, none, (u 8), []⟩,
   ⟨(some 19), .extract (.t 10) 1, none, (u 8), []⟩,
   ⟨(some 5), .mv (.t 18), none, (u 9), []⟩,
   ⟨(some 6), .mv (.t 19), none, (u 11), []⟩])
 (.seq
 (.region [2, 5] [⟨(some 20), .mv (.t 5), none, [], []⟩,
   ⟨(some 21), .load false 1 (.t 2), none, [], []⟩,
   ⟨(some 22), .bin .eql (.t 20) (.t 21), none, [], []⟩,
   ⟨(some 4), .mv (.t 22), none, [], []⟩])
 .ret)))), false, false⟩
/-- progeny/progenyref11.Fits -/
def c101 : CFn := ⟨36, [.t 6, .t 7],
 (.seq
 (.region [0, 1, 2] [⟨(some 3), .box 25 4 (.t 0), none, [], []⟩,
   ⟨(some 6), .mv (.c (.bool false)), none, [], []⟩,
   ⟨(some 7), .mv (.c (.int .i64 0)), none, [], []⟩])
 (.seq
 (.seq
 (.region [1, 2, 3] [⟨(some 9), .load true 4 (.t 3), none, [], []⟩,
   ⟨(some 10), .mv (.t 1), none, [], []⟩,
   ⟨(some 11), .bslice 3 1 [[.int .i64 0]] [(0, (.t 10))], none, [], []⟩,
   ⟨(some 12), .call (.c (.fn 117 [])) [(.t 9), (.t 11)] false, none, [], []⟩,
   ⟨(some 8), .mv (.t 12), none, [], []⟩])
 (.seq
 (.region [1, 2, 3, 8] [⟨(some 13), .mv (.t 8), none, [], []⟩,
   ⟨(some 14), .bin .neq (.t 13) (.c (.int .i64 0)), none, [], []⟩])
 (.cond (.t 14)
 (.seq
 (.region [8] [⟨(some 15), .mv (.t 8), none, [], []⟩,
   ⟨(some 6), .mv (.c (.bool false)), none, [], []⟩,
   ⟨(some 7), .mv (.t 15), none, [], []⟩])
 .ret)
 .skip)))
 (.seq
 (.region [1, 2, 3] [⟨(some 16), .mv (.t 2), none, [], []⟩,
   ⟨(some 17), .len true (.t 16), none, [], []⟩,
   ⟨(some 18), .faddr 2 (.t 3), none, [], []⟩,
   ⟨(some 19), .load false 1 (.t 18), none, [], []⟩,
   ⟨(some 20), .mv (.t 1), none, [], []⟩,
   ⟨(some 21), .iaddr 8 (.t 19) (.t 20), none, [], []⟩,
   ⟨(some 22), .faddr 2 (.t 21), none, [], []⟩,
   ⟨(some 23), .load false 1 (.t 22), none, [], []⟩,
   ⟨(some 24), .bin .geq (.t 17) (.t 23), none, [], []⟩,
   ⟨(some 25), .mv (.t 24), none, [], []⟩,
   ⟨(some 26), .mv (.t 2), some (25, true), [], []⟩,
   ⟨(some 27), .len true (.t 26), some (25, true), [], []⟩,
   ⟨(some 28), .faddr 2 (.t 3), some (25, true), [], []⟩,
   ⟨(some 29), .load false 1 (.t 28), some (25, true), [], []⟩,
   ⟨(some 30), .mv (.t 1), some (25, true), [], []⟩,
   ⟨(some 31), .iaddr 8 (.t 29) (.t 30), some (25, true), [], []⟩,
   ⟨(some 32), .faddr 3 (.t 31), some (25, true), [], []⟩,
   ⟨(some 33), .load false 1 (.t 32), some (25, true), [], []⟩,
   ⟨(some 34), .bin .leq (.t 27) (.t 33), some (25, true), [], []⟩,
   ⟨(some 35), .pick (.t 25) (.t 34) (.c (.bool false)), none, [], []⟩,
   ⟨(some 6), .mv (.t 35), none, [], []⟩,
   ⟨(some 7), .mv (.c (.int .i64 0)), none, [], []⟩])
 .ret))), false, false⟩
def c102_l0 : CC :=
 (.seq
 (.seq
 (.region [1, 2, 7] [⟨(some 22), .mv (.t 1), none, [], []⟩,
   ⟨(some 23), .mv (.t 2), none, [], []⟩,
   ⟨(some 24), .iaddr 2 (.t 22) (.t 23), none, [], []⟩,
   ⟨(some 25), .faddr 0 (.t 24), none, [], []⟩,
   ⟨(some 26), .load false 1 (.t 25), none, [], []⟩,
   ⟨(some 27), .mv (.t 7), none, [], []⟩,
   ⟨(some 28), .bin .neq (.t 26) (.t 27), none, [], []⟩])
 (.cond (.t 28)
 .skip
 (.exit 0)))
 (.seq
 (.block 1
 .skip)
 (.region [1, 2, 7] [⟨(some 29), .mv (.t 2), none, [], []⟩,
   ⟨(some 30), .bin .sub (.t 29) (.c (.int .i64 1)), none, [], []⟩,
   ⟨(some 2), .mv (.t 30), none, [], []⟩])))
/-- progeny/plain.parent -/
def c102 : CFn := ⟨32, [.t 6],
 (.seq
 (.region [0, 1, 2] [⟨(some 3), .box 25 4 (.t 0), none, [], []⟩,
   ⟨(some 6), .mv (.c (.int .i64 0)), none, [], []⟩])
 (.seq
 (.draw [1, 2, 3] [⟨(some 8), .faddr 2 (.t 3), none, [], []⟩,
   ⟨(some 9), .load false 1 (.t 8), none, [0], []⟩,
   ⟨(some 10), .mv (.t 1), none, [], []⟩,
   ⟨(some 11), .mv (.t 2), none, [], []⟩,
   ⟨(some 12), .iaddr 2 (.t 10) (.t 11), none, [2, 3], []⟩,
   ⟨(some 13), .faddr 0 (.t 12), none, [2, 3, 4], []⟩,
   ⟨(some 14), .load false 1 (.t 13), none, [2, 3, 4, 5], []⟩,
   ⟨(some 15), .iaddr 8 (.t 9) (.t 14), none, (u 7), []⟩,
   ⟨(some 16), .faddr 1 (.t 15), none, (u 8), []⟩,
   ⟨(some 17), .load false 1 (.t 16), none, (u 9), []⟩,
   ⟨(some 7), .mv (.t 17), none, (u 10), []⟩])
 (.seq
 (.seq
 (.region [1, 2, 7] [⟨(some 18), .mv (.t 7), none, [], []⟩,
   ⟨(some 19), .bin .lss (.t 18) (.c (.int .i64 0)), none, [], []⟩])
 (.cond (.t 19)
 (.seq
 (.region [] [⟨(some 6), .mv (.c (.int .i64 (-1))), none, [], []⟩])
 .ret)
 .skip))
 (.seq
 (.seq
 (.region [1, 2, 7] [⟨(some 20), .mv (.t 2), none, [], []⟩,
   ⟨(some 21), .bin .sub (.t 20) (.c (.int .i64 1)), none, [], []⟩,
   ⟨(some 2), .mv (.t 21), none, [], []⟩])
 (.block 0
 (.loop c102_l0)))
 (.seq
 (.region [2] [⟨(some 31), .mv (.t 2), none, [], []⟩,
   ⟨(some 6), .mv (.t 31), none, [], []⟩])
 .ret))))), false, false⟩
def c103_l0 : CC :=
 (.seq
 (.seq
 (.region [0, 2, 3] [⟨(some 7), .mv (.t 2), none, [], []⟩,
   ⟨(some 8), .mv (.t 3), none, [], []⟩,
   ⟨(some 9), .bin .lss (.t 7) (.t 8), none, [], []⟩])
 (.cond (.t 9)
 .skip
 (.exit 0)))
 (.seq
 (.block 1
 (.draw [0, 2, 3] [⟨(some 14), .mv (.t 0), none, [], []⟩,
   ⟨(some 15), .mv (.t 2), none, [], []⟩,
   ⟨(some 16), .mv (.t 0), none, [], []⟩,
   ⟨(some 17), .mv (.t 3), none, [], []⟩,
   ⟨(some 18), .mv (.t 0), none, [], []⟩,
   ⟨(some 19), .mv (.t 3), none, [], []⟩,
   ⟨(some 20), .iaddr 1 (.t 18) (.t 19), none, [4, 5], []⟩,
   ⟨(some 21), .load false 1 (.t 20), none, [4, 5, 6], []⟩,
   ⟨(some 22), .mv (.t 0), none, [], []⟩,
   ⟨(some 23), .mv (.t 2), none, [], []⟩,
   ⟨(some 24), .iaddr 1 (.t 22) (.t 23), none, [8, 9], []⟩,
   ⟨(some 25), .load false 1 (.t 24), none, [8, 9, 10], []⟩,
   ⟨(some 26), .iaddr 1 (.t 14) (.t 15), none, [0, 1, 4, 5, 6, 7, 8, 9, 10, 11], []⟩,
   ⟨none, .store 1 (.t 26) (.t 21), none, [0, 1, 4, 5, 6, 7, 8, 9, 10, 11, 12], []⟩,
   ⟨(some 27), .iaddr 1 (.t 16) (.t 17), none, (u 14), []⟩,
   ⟨none, .store 1 (.t 27) (.t 25), none, (u 15), []⟩]))
 (.region [0, 2, 3] [⟨(some 10), .mv (.t 2), none, [], []⟩,
   ⟨(some 11), .bin .add (.t 10) (.c (.int .i64 1)), none, [], []⟩,
   ⟨(some 12), .mv (.t 3), none, [], []⟩,
   ⟨(some 13), .bin .sub (.t 12) (.c (.int .i64 1)), none, [], []⟩,
   ⟨(some 2), .mv (.t 11), none, [], []⟩,
   ⟨(some 3), .mv (.t 13), none, [], []⟩])))
/-- slices.Reverse[[]int,int] -/
def c103 : CFn := ⟨28, [],
 (.seq
 (.region [0] [⟨(some 4), .mv (.t 0), none, [], []⟩,
   ⟨(some 5), .len false (.t 4), none, [], []⟩,
   ⟨(some 6), .bin .sub (.t 5) (.c (.int .i64 1)), none, [], []⟩,
   ⟨(some 2), .mv (.c (.int .i64 0)), none, [], []⟩,
   ⟨(some 3), .mv (.t 6), none, [], []⟩])
 (.block 0
 (.loop c103_l0))), false, false⟩
/-- progeny/plain.fits -/
def c104 : CFn := ⟨42, [.t 4],
 (.seq
 (.region [0, 1] [⟨(some 2), .box 25 4 (.t 0), none, [], []⟩,
   ⟨(some 3), .box 44 2 (.t 1), none, [], []⟩,
   ⟨(some 4), .mv (.c (.bool false)), none, [], []⟩])
 (.seq
 (.draw [2, 3] [⟨(some 5), .faddr 0 (.t 3), none, [], []⟩,
   ⟨(some 6), .load false 1 (.t 5), none, [0], []⟩,
   ⟨(some 7), .bin .geq (.t 6) (.c (.int .i64 0)), none, [0, 1], []⟩,
   ⟨(some 8), .mv (.t 7), none, [0, 1, 2], []⟩,
   ⟨(some 9), .faddr 0 (.t 3), some (8, true), (u 4), []⟩,
   ⟨(some 10), .load false 1 (.t 9), some (8, true), (u 5), []⟩,
   ⟨(some 11), .faddr 2 (.t 2), some (8, true), (u 4), []⟩,
   ⟨(some 12), .load false 1 (.t 11), some (8, true), (u 4 ++ [6]), []⟩,
   ⟨(some 13), .len false (.t 12), some (8, true), (u 4 ++ [6, 7]), []⟩,
   ⟨(some 14), .bin .lss (.t 10) (.t 13), some (8, true), (u 9), []⟩,
   ⟨(some 15), .pick (.t 8) (.t 14) (.c (.bool false)), none, (u 10), []⟩,
   ⟨(some 16), .mv (.t 15), none, (u 11), []⟩,
   ⟨(some 17), .faddr 1 (.t 3), some (16, true), (u 12), []⟩,
   ⟨(some 18), .load false 1 (.t 17), some (16, true), (u 13), []⟩,
   ⟨(some 19), .len true (.t 18), some (16, true), (u 14), []⟩,
   ⟨(some 20), .faddr 2 (.t 2), some (16, true), (u 12), []⟩,
   ⟨(some 21), .load false 1 (.t 20), some (16, true), (u 12 ++ [15]), []⟩,
   ⟨(some 22), .faddr 0 (.t 3), some (16, true), (u 12), []⟩,
   ⟨(some 23), .load false 1 (.t 22), some (16, true), (u 12 ++ [17]), []⟩,
   ⟨(some 24), .iaddr 8 (.t 21) (.t 23), some (16, true), (u 12 ++ [15, 16, 17, 18]), []⟩,
   ⟨(some 25), .faddr 2 (.t 24), some (16, true), (u 12 ++ [15, 16, 17, 18, 19]), []⟩,
   ⟨(some 26), .load false 1 (.t 25), some (16, true), (u 12 ++ [15, 16, 17, 18, 19, 20]), []⟩,
   ⟨(some 27), .bin .geq (.t 19) (.t 26), some (16, true), (u 22), []⟩,
   ⟨(some 28), .pick (.t 16) (.t 27) (.c (.bool false)), none, (u 23), []⟩,
   ⟨(some 29), .mv (.t 28), none, (u 24), []⟩,
   ⟨(some 30), .faddr 1 (.t 3), some (29, true), (u 25), []⟩,
   ⟨(some 31), .load false 1 (.t 30), some (29, true), (u 26), []⟩,
   ⟨(some 32), .len true (.t 31), some (29, true), (u 27), []⟩,
   ⟨(some 33), .faddr 2 (.t 2), some (29, true), (u 25), []⟩,
   ⟨(some 34), .load false 1 (.t 33), some (29, true), (u 25 ++ [28]), []⟩,
   ⟨(some 35), .faddr 0 (.t 3), some (29, true), (u 25), []⟩,
   ⟨(some 36), .load false 1 (.t 35), some (29, true), (u 25 ++ [30]), []⟩,
   ⟨(some 37), .iaddr 8 (.t 34) (.t 36), some (29, true), (u 25 ++ [28, 29, 30, 31]), []⟩,
   ⟨(some 38), .faddr 3 (.t 37), some (29, true), (u 25 ++ [28, 29, 30, 31, 32]), []⟩,
   ⟨(some 39), .load false 1 (.t 38), some (29, true), (u 25 ++ [28, 29, 30, 31, 32, 33]), []⟩,
   ⟨(some 40), .bin .leq (.t 32) (.t 39), some (29, true), (u 35), []⟩,
   ⟨(some 41), .pick (.t 29) (.t 40) (.c (.bool false)), none, (u 36), []⟩,
   ⟨(some 4), .mv (.t 41), none, (u 37), []⟩])
 .ret)), false, false⟩
/-- progeny/plain.key -/
def c105 : CFn := ⟨24, [.t 4],
 (.seq
 (.region [0, 1] [⟨(some 2), .box 87 8 (.t 0), none, [], []⟩,
   ⟨(some 4), .mv (.c (.str ⟨#[]⟩)), none, [], []⟩])
 (.seq
 (.seq
 (.region [1, 2] [⟨(some 6), .faddr 5 (.t 2), none, [], []⟩,
   ⟨(some 7), .load false 1 (.t 6), none, [], []⟩,
   ⟨(some 8), .bin .lss (.t 7) (.c (.int .i64 0)), none, [], []⟩])
 (.cond (.t 8)
 (.seq
 (.region [] [⟨(some 4), .mv (.c (.str ⟨#[]⟩)), none, [], []⟩])
 .ret)
 .skip))
 (.seq
 (.region [1, 2] [⟨(some 9), .faddr 4 (.t 2), none, [], []⟩,
   ⟨(some 10), .load false 1 (.t 9), none, [], []⟩,
   ⟨(some 11), .faddr 5 (.t 2), none, [], []⟩,
   ⟨(some 12), .load false 1 (.t 11), none, [], []⟩,
   ⟨(some 13), .iaddr 3 (.t 10) (.t 12), none, [], []⟩,
   ⟨(some 14), .load true 3 (.t 13), none, [], []⟩,
   ⟨(some 5), .box 101 3 (.c (.agg [.str ⟨#[]⟩, .int .i64 0, .int .i64 0])), none, [], []⟩,
   ⟨none, .store 3 (.t 5) (.t 14), none, [], []⟩])
 (.seq
 (.region [1, 5] [⟨(some 15), .mv (.t 1), none, [], []⟩,
   ⟨(some 16), .faddr 1 (.t 5), none, [], []⟩,
   ⟨(some 17), .load false 1 (.t 16), none, [], []⟩,
   ⟨(some 18), .faddr 1 (.t 5), none, [], []⟩,
   ⟨(some 19), .load false 1 (.t 18), none, [], []⟩,
   ⟨(some 20), .faddr 2 (.t 5), none, [], []⟩,
   ⟨(some 21), .load false 1 (.t 20), none, [], []⟩,
   ⟨(some 22), .bin .add (.t 19) (.t 21), none, [], []⟩,
   ⟨(some 23), .slcs (.t 15) (some (.t 17)) (some (.t 22)), none, [], []⟩,
   ⟨(some 4), .mv (.t 23), none, [], []⟩])
 .ret)))), false, false⟩
def c109_l0 : CC :=
 (.seq
 (.region [0, 1, 7, 8] [⟨(some 9), .bin .lss (.t 8) (.t 7), none, [], []⟩])
 (.seq
 (.cond (.t 9)
 .skip
 (.exit 0))
 (.seq
 (.block 1
 (.seq
 (.region [0, 1, 7, 8] [⟨(some 10), .mv (.t 8), none, [], []⟩,
   ⟨(some 5), .mv (.t 10), none, [], []⟩])
 (.seq
 (.region [0, 1, 5, 7, 8] [⟨(some 11), .mv (.t 1), none, [], []⟩,
   ⟨(some 12), .mv (.t 0), none, [], []⟩,
   ⟨(some 13), .mv (.t 5), none, [], []⟩,
   ⟨(some 14), .iaddr 1 (.t 12) (.t 13), none, [], []⟩,
   ⟨(some 15), .load false 1 (.t 14), none, [], []⟩,
   ⟨(some 16), .call (.t 11) [(.t 15)] false, none, [], []⟩])
 (.cond (.t 16)
 (.seq
 (.region [5] [⟨(some 17), .mv (.t 5), none, [], []⟩,
   ⟨(some 4), .mv (.t 17), none, [], []⟩])
 .ret)
 .skip))))
 (.region [0, 1, 7, 8] [⟨(some 18), .bin .add (.t 8) (.c (.int .i64 1)), none, [], []⟩,
   ⟨(some 8), .mv (.t 18), none, [], []⟩]))))
/-- slices.IndexFunc[[]int,int] -/
def c109 : CFn := ⟨19, [.t 4],
 (.seq
 (.region [0, 1] [⟨(some 4), .mv (.c (.int .i64 0)), none, [], []⟩])
 (.seq
 (.seq
 (.region [0, 1] [⟨(some 6), .mv (.t 0), none, [], []⟩,
   ⟨(some 7), .len false (.t 6), none, [], []⟩,
   ⟨(some 8), .mv (.c (.int .i64 0)), none, [], []⟩])
 (.block 0
 (.loop c109_l0)))
 (.seq
 (.region [] [⟨(some 4), .mv (.c (.int .i64 (-1))), none, [], []⟩])
 .ret))), false, false⟩
/-- progeny/plain.valid$1 -/
def c110 : CFn := ⟨12, [.t 4],
 (.seq
 (.region [0, 1, 2] [⟨(some 4), .mv (.c (.bool false)), none, [], []⟩])
 (.seq
 (.draw [0, 1, 2] [⟨(some 5), .load false 1 (.t 1), none, [], []⟩,
   ⟨(some 6), .mv (.t 0), none, [], []⟩,
   ⟨(some 7), .iaddr 2 (.t 5) (.t 6), none, [0, 1], []⟩,
   ⟨(some 8), .faddr 0 (.t 7), none, [0, 1, 2], []⟩,
   ⟨(some 9), .load false 1 (.t 8), none, (u 4), []⟩,
   ⟨(some 10), .load false 1 (.t 2), none, [], []⟩,
   ⟨(some 11), .bin .eql (.t 9) (.t 10), none, (u 6), []⟩,
   ⟨(some 4), .mv (.t 11), none, (u 7), []⟩])
 .ret)), false, false⟩
/-- progeny/plain.inOrder -/
def c111 : CFn := ⟨31, [.t 6],
 (.seq
 (.region [0, 1, 2] [⟨(some 3), .box 87 8 (.t 0), none, [], []⟩,
   ⟨(some 6), .mv (.c (.bool false)), none, [], []⟩])
 (.seq
 (.seq
 (.region [1, 2, 3] [⟨(some 9), .faddr 5 (.t 3), none, [], []⟩,
   ⟨(some 10), .load false 1 (.t 9), none, [], []⟩,
   ⟨(some 11), .bin .lss (.t 10) (.c (.int .i64 0)), none, [], []⟩])
 (.cond (.t 11)
 (.seq
 (.region [] [⟨(some 6), .mv (.c (.bool true)), none, [], []⟩])
 .ret)
 .skip))
 (.seq
 (.draw [1, 2, 3] [⟨(some 12), .load true 8 (.t 3), none, [], []⟩,
   ⟨(some 13), .mv (.t 1), none, [], []⟩,
   ⟨(some 14), .call (.c (.fn 105 [])) [(.t 12), (.t 13)] false, none, [0, 1], []⟩,
   ⟨(some 15), .load true 8 (.t 3), none, [], [2]⟩,
   ⟨(some 16), .mv (.t 2), none, [], []⟩,
   ⟨(some 17), .call (.c (.fn 105 [])) [(.t 15), (.t 16)] false, none, (u 5), []⟩,
   ⟨(some 7), .mv (.t 14), none, (u 6), []⟩,
   ⟨(some 8), .mv (.t 17), none, (u 7), []⟩])
 (.seq
 (.region [3, 7, 8] [⟨(some 18), .mv (.t 7), none, [], []⟩,
   ⟨(some 19), .mv (.t 8), none, [], []⟩,
   ⟨(some 20), .bin .lss (.t 18) (.t 19), none, [], []⟩,
   ⟨(some 21), .mv (.t 20), none, [], []⟩,
   ⟨(some 22), .mv (.t 7), some (21, false), [], []⟩,
   ⟨(some 23), .mv (.t 8), some (21, false), [], []⟩,
   ⟨(some 24), .bin .eql (.t 22) (.t 23), some (21, false), [], []⟩,
   ⟨(some 25), .mv (.t 24), some (21, false), [], []⟩,
   ⟨(some 26), .faddr 6 (.t 3), some (25, true), [], []⟩,
   ⟨(some 27), .load false 1 (.t 26), some (25, true), [], []⟩,
   ⟨(some 28), .un .not (.t 27), some (25, true), [], []⟩,
   ⟨(some 29), .pick (.t 25) (.t 28) (.c (.bool false)), some (21, false), [], []⟩,
   ⟨(some 30), .pick (.t 21) (.c (.bool true)) (.t 29), none, [], []⟩,
   ⟨(some 6), .mv (.t 30), none, [], []⟩])
 .ret)))), false, false⟩
/-- progeny/dbd.asked$1 -/
def c112 : CFn := ⟨13, [.t 3],
 (.seq
 (.region [0, 1] [⟨(some 3), .mv (.c (.bool false)), none, [], []⟩])
 (.seq
 (.region [0, 1] [⟨(some 4), .mv (.t 0), none, [], []⟩,
   ⟨(some 5), .bin .lss (.t 4) (.c (.int .i64 0)), none, [], []⟩,
   ⟨(some 6), .mv (.t 5), none, [], []⟩,
   ⟨(some 7), .mv (.t 0), some (6, false), [], []⟩,
   ⟨(some 8), .faddr 2 (.t 1), some (6, false), [], []⟩,
   ⟨(some 9), .load false 1 (.t 8), some (6, false), [], []⟩,
   ⟨(some 10), .len false (.t 9), some (6, false), [], []⟩,
   ⟨(some 11), .bin .geq (.t 7) (.t 10), some (6, false), [], []⟩,
   ⟨(some 12), .pick (.t 6) (.c (.bool true)) (.t 11), none, [], []⟩,
   ⟨(some 3), .mv (.t 12), none, [], []⟩])
 .ret)), false, false⟩
/-- progeny/progenyref13.key -/
def c113 : CFn := ⟨40, [.t 4],
 (.seq
 (.region [0, 1] [⟨(some 2), .box 25 4 (.t 0), none, [], []⟩,
   ⟨(some 3), .box 44 2 (.t 1), none, [], []⟩,
   ⟨(some 4), .mv (.c (.str ⟨#[]⟩)), none, [], []⟩])
 (.seq
 (.region [2, 3] [⟨(some 6), .faddr 2 (.t 2), none, [], []⟩,
   ⟨(some 7), .load false 1 (.t 6), none, [], []⟩,
   ⟨(some 8), .faddr 0 (.t 3), none, [], []⟩,
   ⟨(some 9), .load false 1 (.t 8), none, [], []⟩,
   ⟨(some 10), .iaddr 8 (.t 7) (.t 9), none, [], []⟩,
   ⟨(some 11), .load true 8 (.t 10), none, [], []⟩,
   ⟨(some 5), .box 87 8 (.c (.agg [.str ⟨#[]⟩, .int .i64 0, .int .i64 0, .int .i64 0, .nils, .int .i64 0, .bool false, .bool false])), none, [], []⟩,
   ⟨none, .store 8 (.t 5) (.t 11), none, [], []⟩])
 (.seq
 (.seq
 (.region [3, 5] [⟨(some 12), .faddr 5 (.t 5), none, [], []⟩,
   ⟨(some 13), .load false 1 (.t 12), none, [], []⟩,
   ⟨(some 14), .bin .lss (.t 13) (.c (.int .i64 0)), none, [], []⟩])
 (.cond (.t 14)
 (.seq
 (.region [] [⟨(some 4), .mv (.c (.str ⟨#[]⟩)), none, [], []⟩])
 .ret)
 .skip))
 (.seq
 (.draw [3, 5] [⟨(some 15), .faddr 1 (.t 3), none, [], []⟩,
   ⟨(some 16), .load false 1 (.t 15), none, [0], []⟩,
   ⟨(some 17), .faddr 4 (.t 5), none, [], []⟩,
   ⟨(some 18), .load false 1 (.t 17), none, [2], []⟩,
   ⟨(some 19), .faddr 5 (.t 5), none, [], []⟩,
   ⟨(some 20), .load false 1 (.t 19), none, [4], []⟩,
   ⟨(some 21), .iaddr 3 (.t 18) (.t 20), none, [2, 3, 4, 5], []⟩,
   ⟨(some 22), .faddr 1 (.t 21), none, [2, 3, 4, 5, 6], []⟩,
   ⟨(some 23), .load false 1 (.t 22), none, [2, 3, 4, 5, 6, 7], []⟩,
   ⟨(some 24), .faddr 4 (.t 5), none, [], []⟩,
   ⟨(some 25), .load false 1 (.t 24), none, [9], []⟩,
   ⟨(some 26), .faddr 5 (.t 5), none, [], []⟩,
   ⟨(some 27), .load false 1 (.t 26), none, [11], []⟩,
   ⟨(some 28), .iaddr 3 (.t 25) (.t 27), none, [9, 10, 11, 12], []⟩,
   ⟨(some 29), .faddr 1 (.t 28), none, [9, 10, 11, 12, 13], []⟩,
   ⟨(some 30), .load false 1 (.t 29), none, [9, 10, 11, 12, 13, 14], []⟩,
   ⟨(some 31), .faddr 4 (.t 5), none, [], []⟩,
   ⟨(some 32), .load false 1 (.t 31), none, [16], []⟩,
   ⟨(some 33), .faddr 5 (.t 5), none, [], []⟩,
   ⟨(some 34), .load false 1 (.t 33), none, [18], []⟩,
   ⟨(some 35), .iaddr 3 (.t 32) (.t 34), none, [16, 17, 18, 19], []⟩,
   ⟨(some 36), .faddr 2 (.t 35), none, [16, 17, 18, 19, 20], []⟩,
   ⟨(some 37), .load false 1 (.t 36), none, [16, 17, 18, 19, 20, 21], []⟩,
   ⟨(some 38), .bin .add (.t 30) (.t 37), none, [9, 10, 11, 12, 13, 14, 15, 16, 17, 18, 19, 20, 21, 22], []⟩,
   ⟨(some 39), .slcs (.t 16) (some (.t 23)) (some (.t 38)), none, (u 24), []⟩,
   ⟨(some 4), .mv (.t 39), none, (u 25), []⟩])
 .ret)))), false, false⟩
def c114_l0 : CC :=
 (.seq
 (.region [0, 1, 7, 8, 9] [⟨(some 10), .bin .lss (.t 9) (.t 8), none, [], []⟩])
 (.seq
 (.cond (.t 10)
 .skip
 (.exit 0))
 (.seq
 (.block 1
 (.seq
 (.region [0, 1, 7, 8, 9] [⟨(some 11), .mv (.t 9), none, [], []⟩,
   ⟨(some 12), .iaddr 3 (.t 7) (.t 9), none, [], []⟩,
   ⟨(some 13), .load true 3 (.t 12), none, [], []⟩,
   ⟨(some 6), .box 101 3 (.c (.agg [.str ⟨#[]⟩, .int .i64 0, .int .i64 0])), none, [], []⟩,
   ⟨(some 5), .mv (.t 11), none, [], []⟩,
   ⟨none, .store 3 (.t 6) (.t 13), none, [], []⟩])
 (.seq
 (.seq
 (.region [0, 1, 5, 6, 7, 8, 9] [⟨(some 14), .faddr 0 (.t 6), none, [], []⟩,
   ⟨(some 15), .load false 1 (.t 14), none, [], []⟩,
   ⟨(some 16), .call (.c (.fn 69 [])) [(.t 15)] false, none, [], []⟩,
   ⟨(some 17), .un .not (.t 16), none, [], []⟩,
   ⟨(some 18), .mv (.t 17), none, [], []⟩,
   ⟨(some 19), .faddr 1 (.t 6), some (18, false), [], []⟩,
   ⟨(some 20), .load false 1 (.t 19), some (18, false), [], []⟩,
   ⟨(some 21), .bin .lss (.t 20) (.c (.int .i64 0)), some (18, false), [], []⟩,
   ⟨(some 22), .pick (.t 18) (.c (.bool true)) (.t 21), none, [], []⟩,
   ⟨(some 23), .mv (.t 22), none, [], []⟩,
   ⟨(some 24), .faddr 1 (.t 6), some (23, false), [], []⟩,
   ⟨(some 25), .load false 1 (.t 24), some (23, false), [], []⟩,
   ⟨(some 26), .mv (.t 1), some (23, false), [], []⟩,
   ⟨(some 27), .bin .geq (.t 25) (.t 26), some (23, false), [], []⟩,
   ⟨(some 28), .pick (.t 23) (.c (.bool true)) (.t 27), none, [], []⟩,
   ⟨(some 29), .mv (.t 28), none, [], []⟩,
   ⟨(some 30), .faddr 2 (.t 6), some (29, false), [], []⟩,
   ⟨(some 31), .load false 1 (.t 30), some (29, false), [], []⟩,
   ⟨(some 32), .bin .lss (.t 31) (.c (.int .i64 1)), some (29, false), [], []⟩,
   ⟨(some 33), .pick (.t 29) (.c (.bool true)) (.t 32), none, [], []⟩,
   ⟨(some 34), .mv (.t 33), none, [], []⟩,
   ⟨(some 35), .faddr 2 (.t 6), some (34, false), [], []⟩,
   ⟨(some 36), .load false 1 (.t 35), some (34, false), [], []⟩,
   ⟨(some 37), .mv (.t 1), some (34, false), [], []⟩,
   ⟨(some 38), .faddr 1 (.t 6), some (34, false), [], []⟩,
   ⟨(some 39), .load false 1 (.t 38), some (34, false), [], []⟩,
   ⟨(some 40), .bin .sub (.t 37) (.t 39), some (34, false), [], []⟩,
   ⟨(some 41), .bin .gtr (.t 36) (.t 40), some (34, false), [], []⟩,
   ⟨(some 42), .pick (.t 34) (.c (.bool true)) (.t 41), none, [], []⟩])
 (.cond (.t 42)
 (.seq
 (.region [] [⟨(some 4), .mv (.c (.bool false)), none, [], []⟩])
 .ret)
 .skip))
 (.seq
 (.region [0, 1, 5, 6, 7, 8, 9] [⟨(some 43), .mv (.t 0), none, [], []⟩,
   ⟨(some 44), .mv (.t 5), none, [], []⟩,
   ⟨(some 45), .slc 3 (.t 43) none (some (.t 44)) none, none, [], []⟩,
   ⟨(some 46), .mkfn 120 [(.t 6)], none, [], []⟩,
   ⟨(some 47), .call (.c (.fn 119 [])) [(.t 45), (.t 46)] false, none, [], []⟩])
 (.cond (.t 47)
 (.seq
 (.region [] [⟨(some 4), .mv (.c (.bool false)), none, [], []⟩])
 .ret)
 .skip)))))
 (.region [0, 1, 7, 8, 9] [⟨(some 48), .bin .add (.t 9) (.c (.int .i64 1)), none, [], []⟩,
   ⟨(some 9), .mv (.t 48), none, [], []⟩]))))
/-- progeny/dbd.areFields -/
def c114 : CFn := ⟨52, [.t 4],
 (.seq
 (.region [0, 1] [⟨(some 4), .mv (.c (.bool false)), none, [], []⟩])
 (.seq
 (.seq
 (.region [0, 1] [⟨(some 7), .mv (.t 0), none, [], []⟩,
   ⟨(some 8), .len false (.t 7), none, [], []⟩,
   ⟨(some 9), .mv (.c (.int .i64 0)), none, [], []⟩])
 (.block 0
 (.loop c114_l0)))
 (.seq
 (.region [0] [⟨(some 49), .mv (.t 0), none, [], []⟩,
   ⟨(some 50), .len false (.t 49), none, [], []⟩,
   ⟨(some 51), .bin .leq (.t 50) (.c (.int .i64 5)), none, [], []⟩,
   ⟨(some 4), .mv (.t 51), none, [], []⟩])
 .ret))), false, false⟩
def c115_l0 : CC :=
 (.seq
 (.region [0, 1, 7, 8] [⟨(some 9), .bin .lss (.t 8) (.t 7), none, [], []⟩])
 (.seq
 (.cond (.t 9)
 .skip
 (.exit 0))
 (.seq
 (.block 1
 (.seq
 (.region [0, 1, 7, 8] [⟨(some 10), .mv (.t 8), none, [], []⟩,
   ⟨(some 5), .mv (.t 10), none, [], []⟩])
 (.seq
 (.region [0, 1, 5, 7, 8] [⟨(some 11), .mv (.t 1), none, [], []⟩,
   ⟨(some 12), .mv (.t 0), none, [], []⟩,
   ⟨(some 13), .mv (.t 5), none, [], []⟩,
   ⟨(some 14), .iaddr 8 (.t 12) (.t 13), none, [], []⟩,
   ⟨(some 15), .load true 8 (.t 14), none, [], []⟩,
   ⟨(some 16), .call (.t 11) [(.t 15)] false, none, [], []⟩])
 (.cond (.t 16)
 (.seq
 (.region [5] [⟨(some 17), .mv (.t 5), none, [], []⟩,
   ⟨(some 4), .mv (.t 17), none, [], []⟩])
 .ret)
 .skip))))
 (.region [0, 1, 7, 8] [⟨(some 18), .bin .add (.t 8) (.c (.int .i64 1)), none, [], []⟩,
   ⟨(some 8), .mv (.t 18), none, [], []⟩]))))
/-- slices.IndexFunc[[]progeny/api.Type,progeny/api.Type] -/
def c115 : CFn := ⟨19, [.t 4],
 (.seq
 (.region [0, 1] [⟨(some 4), .mv (.c (.int .i64 0)), none, [], []⟩])
 (.seq
 (.seq
 (.region [0, 1] [⟨(some 6), .mv (.t 0), none, [], []⟩,
   ⟨(some 7), .len false (.t 6), none, [], []⟩,
   ⟨(some 8), .mv (.c (.int .i64 0)), none, [], []⟩])
 (.block 0
 (.loop c115_l0)))
 (.seq
 (.region [] [⟨(some 4), .mv (.c (.int .i64 (-1))), none, [], []⟩])
 .ret))), false, false⟩
def c116_l0 : CC :=
 (.seq
 (.region [0, 1, 7, 8] [⟨(some 9), .bin .lss (.t 8) (.t 7), none, [], []⟩])
 (.seq
 (.cond (.t 9)
 .skip
 (.exit 0))
 (.seq
 (.block 1
 (.seq
 (.region [0, 1, 7, 8] [⟨(some 10), .mv (.t 8), none, [], []⟩,
   ⟨(some 5), .mv (.t 10), none, [], []⟩])
 (.seq
 (.region [0, 1, 5, 7, 8] [⟨(some 11), .mv (.t 1), none, [], []⟩,
   ⟨(some 12), .mv (.t 0), none, [], []⟩,
   ⟨(some 13), .mv (.t 5), none, [], []⟩,
   ⟨(some 14), .iaddr 4 (.t 12) (.t 13), none, [], []⟩,
   ⟨(some 15), .load true 4 (.t 14), none, [], []⟩,
   ⟨(some 16), .call (.t 11) [(.t 15)] false, none, [], []⟩])
 (.cond (.t 16)
 (.seq
 (.region [5] [⟨(some 17), .mv (.t 5), none, [], []⟩,
   ⟨(some 4), .mv (.t 17), none, [], []⟩])
 .ret)
 .skip))))
 (.region [0, 1, 7, 8] [⟨(some 18), .bin .add (.t 8) (.c (.int .i64 1)), none, [], []⟩,
   ⟨(some 8), .mv (.t 18), none, [], []⟩]))))
/-- slices.IndexFunc[[]progeny/api.Search,progeny/api.Search] -/
def c116 : CFn := ⟨19, [.t 4],
 (.seq
 (.region [0, 1] [⟨(some 4), .mv (.c (.int .i64 0)), none, [], []⟩])
 (.seq
 (.seq
 (.region [0, 1] [⟨(some 6), .mv (.t 0), none, [], []⟩,
   ⟨(some 7), .len false (.t 6), none, [], []⟩,
   ⟨(some 8), .mv (.c (.int .i64 0)), none, [], []⟩])
 (.block 0
 (.loop c116_l0)))
 (.seq
 (.region [] [⟨(some 4), .mv (.c (.int .i64 (-1))), none, [], []⟩])
 .ret))), false, false⟩
def c117_l0 : CC :=
 (.seq
 (.seq
 (.region [1, 2, 5] [⟨(some 9), .mv (.t 5), none, [], []⟩,
   ⟨(some 10), .mv (.t 1), none, [], []⟩,
   ⟨(some 11), .len false (.t 10), none, [], []⟩,
   ⟨(some 12), .bin .lss (.t 9) (.t 11), none, [], []⟩])
 (.cond (.t 12)
 .skip
 (.exit 0)))
 (.seq
 (.block 1
 (.seq
 (.draw [1, 2, 5] [⟨(some 15), .load true 4 (.t 2), none, [], []⟩,
   ⟨(some 16), .mv (.t 1), none, [], []⟩,
   ⟨(some 17), .mv (.t 5), none, [], []⟩,
   ⟨(some 18), .iaddr 1 (.t 16) (.t 17), none, [1, 2], []⟩,
   ⟨(some 19), .load false 1 (.t 18), none, [1, 2, 3], []⟩,
   ⟨(some 20), .call (.c (.fn 121 [])) [(.t 15), (.t 19)] false, none, (u 5), []⟩,
   ⟨(some 21), .un .not (.t 20), none, (u 6), []⟩])
 (.cond (.t 21)
 (.seq
 (.region [] [⟨(some 4), .mv (.c (.int .i64 2)), none, [], []⟩])
 .ret)
 .skip)))
 (.region [1, 2, 5] [⟨(some 13), .mv (.t 5), none, [], []⟩,
   ⟨(some 14), .bin .add (.t 13) (.c (.int .i64 1)), none, [], []⟩,
   ⟨(some 5), .mv (.t 14), none, [], []⟩])))
/-- progeny/progenyref11.asked -/
def c117 : CFn := ⟨22, [.t 4],
 (.seq
 (.region [0, 1] [⟨(some 2), .box 25 4 (.t 0), none, [], []⟩,
   ⟨(some 4), .mv (.c (.int .i64 0)), none, [], []⟩])
 (.seq
 (.seq
 (.region [1, 2] [⟨(some 6), .load true 4 (.t 2), none, [], []⟩,
   ⟨(some 7), .call (.c (.fn 44 [])) [(.t 6)] false, none, [], []⟩,
   ⟨(some 8), .un .not (.t 7), none, [], []⟩])
 (.cond (.t 8)
 (.seq
 (.region [] [⟨(some 4), .mv (.c (.int .i64 100)), none, [], []⟩])
 .ret)
 .skip))
 (.seq
 (.seq
 (.region [1, 2] [⟨(some 5), .mv (.c (.int .i64 0)), none, [], []⟩])
 (.block 0
 (.loop c117_l0)))
 (.seq
 (.region [] [⟨(some 4), .mv (.c (.int .i64 0)), none, [], []⟩])
 .ret)))), false, false⟩
/-- slices.ContainsFunc[[]progeny/api.Field,progeny/api.Field] -/
def c119 : CFn := ⟨9, [.t 4],
 (.seq
 (.region [0, 1] [⟨(some 4), .mv (.c (.bool false)), none, [], []⟩])
 (.seq
 (.region [0, 1] [⟨(some 5), .mv (.t 0), none, [], []⟩,
   ⟨(some 6), .mv (.t 1), none, [], []⟩,
   ⟨(some 7), .call (.c (.fn 123 [])) [(.t 5), (.t 6)] false, none, [], []⟩,
   ⟨(some 8), .bin .geq (.t 7) (.c (.int .i64 0)), none, [], []⟩,
   ⟨(some 4), .mv (.t 8), none, [], []⟩])
 .ret)), false, false⟩
/-- progeny/dbd.areFields$1 -/
def c120 : CFn := ⟨9, [.t 3],
 (.seq
 (.region [0, 1] [⟨(some 2), .box 101 3 (.t 0), none, [], []⟩,
   ⟨(some 3), .mv (.c (.bool false)), none, [], []⟩])
 (.seq
 (.region [1, 2] [⟨(some 4), .faddr 0 (.t 2), none, [], []⟩,
   ⟨(some 5), .load false 1 (.t 4), none, [], []⟩,
   ⟨(some 6), .faddr 0 (.t 1), none, [], []⟩,
   ⟨(some 7), .load false 1 (.t 6), none, [], []⟩,
   ⟨(some 8), .bin .eql (.t 5) (.t 7), none, [], []⟩,
   ⟨(some 3), .mv (.t 8), none, [], []⟩])
 .ret)), false, false⟩
/-- progeny/progenyref11.isType -/
def c121 : CFn := ⟨14, [.t 4],
 (.seq
 (.region [0, 1] [⟨(some 2), .box 25 4 (.t 0), none, [], []⟩,
   ⟨(some 4), .mv (.c (.bool false)), none, [], []⟩])
 (.seq
 (.region [1, 2] [⟨(some 5), .mv (.t 1), none, [], []⟩,
   ⟨(some 6), .bin .geq (.t 5) (.c (.int .i64 0)), none, [], []⟩,
   ⟨(some 7), .mv (.t 6), none, [], []⟩,
   ⟨(some 8), .mv (.t 1), some (7, true), [], []⟩,
   ⟨(some 9), .faddr 2 (.t 2), some (7, true), [], []⟩,
   ⟨(some 10), .load false 1 (.t 9), some (7, true), [], []⟩,
   ⟨(some 11), .len false (.t 10), some (7, true), [], []⟩,
   ⟨(some 12), .bin .lss (.t 8) (.t 11), some (7, true), [], []⟩,
   ⟨(some 13), .pick (.t 7) (.t 12) (.c (.bool false)), none, [], []⟩,
   ⟨(some 4), .mv (.t 13), none, [], []⟩])
 .ret)), false, false⟩
def c123_l0 : CC :=
 (.seq
 (.region [0, 1, 7, 8] [⟨(some 9), .bin .lss (.t 8) (.t 7), none, [], []⟩])
 (.seq
 (.cond (.t 9)
 .skip
 (.exit 0))
 (.seq
 (.block 1
 (.seq
 (.region [0, 1, 7, 8] [⟨(some 10), .mv (.t 8), none, [], []⟩,
   ⟨(some 5), .mv (.t 10), none, [], []⟩])
 (.seq
 (.region [0, 1, 5, 7, 8] [⟨(some 11), .mv (.t 1), none, [], []⟩,
   ⟨(some 12), .mv (.t 0), none, [], []⟩,
   ⟨(some 13), .mv (.t 5), none, [], []⟩,
   ⟨(some 14), .iaddr 3 (.t 12) (.t 13), none, [], []⟩,
   ⟨(some 15), .load true 3 (.t 14), none, [], []⟩,
   ⟨(some 16), .call (.t 11) [(.t 15)] false, none, [], []⟩])
 (.cond (.t 16)
 (.seq
 (.region [5] [⟨(some 17), .mv (.t 5), none, [], []⟩,
   ⟨(some 4), .mv (.t 17), none, [], []⟩])
 .ret)
 .skip))))
 (.region [0, 1, 7, 8] [⟨(some 18), .bin .add (.t 8) (.c (.int .i64 1)), none, [], []⟩,
   ⟨(some 8), .mv (.t 18), none, [], []⟩]))))
/-- slices.IndexFunc[[]progeny/api.Field,progeny/api.Field] -/
def c123 : CFn := ⟨19, [.t 4],
 (.seq
 (.region [0, 1] [⟨(some 4), .mv (.c (.int .i64 0)), none, [], []⟩])
 (.seq
 (.seq
 (.region [0, 1] [⟨(some 6), .mv (.t 0), none, [], []⟩,
   ⟨(some 7), .len false (.t 6), none, [], []⟩,
   ⟨(some 8), .mv (.c (.int .i64 0)), none, [], []⟩])
 (.block 0
 (.loop c123_l0)))
 (.seq
 (.region [] [⟨(some 4), .mv (.c (.int .i64 (-1))), none, [], []⟩])
 .ret))), false, false⟩

def ctab : List (Nat × CFn) := [(7, c7), (9, c9), (10, c10), (11, c11), (14, c14), (18, c18), (19, c19), (20, c20), (22, c22), (23, c23), (24, c24), (28, c28), (29, c29), (30, c30), (31, c31), (33, c33), (34, c34), (35, c35), (36, c36), (37, c37), (38, c38), (39, c39), (40, c40), (42, c42), (44, c44), (46, c46), (47, c47), (48, c48), (49, c49), (50, c50), (51, c51), (52, c52), (53, c53), (54, c54), (55, c55), (56, c56), (57, c57), (60, c60), (61, c61), (62, c62), (63, c63), (64, c64), (65, c65), (66, c66), (67, c67), (69, c69), (70, c70), (71, c71), (72, c72), (73, c73), (74, c74), (75, c75), (76, c76), (77, c77), (78, c78), (79, c79), (80, c80), (81, c81), (82, c82), (85, c85), (86, c86), (87, c87), (88, c88), (89, c89), (90, c90), (91, c91), (92, c92), (94, c94), (95, c95), (96, c96), (97, c97), (98, c98), (99, c99), (100, c100), (101, c101), (102, c102), (103, c103), (104, c104), (105, c105), (109, c109), (110, c110), (111, c111), (112, c112), (113, c113), (114, c114), (115, c115), (116, c116), (117, c117), (119, c119), (120, c120), (121, c121), (123, c123)]
def utab : List (Nat × CFn) := [(43, c43), (45, c45)]
def cprog (f : Nat) : Option CFn := ((ctab ++ utab).find? fun p => p.1 == f).map (·.2)
theorem ok_all : ctab.all (fun p => okFn Go.Proofs.Try.prog p.1 p.2) = true := by kernel_rfl
theorem cprog_ok {f : Nat} {c : CFn} (h : cprog f = some c) : okFn Go.Proofs.Try.prog f c = true ∨ (f, c) ∈ utab := by
  unfold cprog at h
  cases hf : (ctab ++ utab).find? fun p => p.1 == f with
  | none => rw [hf] at h; cases h
  | some p =>
    rw [hf] at h
    simp only [Option.map_some, Option.some.injEq] at h
    have h1 := List.mem_of_find?_eq_some hf
    have h2 := List.find?_some hf
    simp only [beq_iff_eq] at h2
    rcases List.mem_append.1 h1 with h1 | h1
    · have h3 := List.all_eq_true.1 ok_all p h1
      rw [← h, ← h2]; exact .inl h3
    · rw [← h, ← h2]; exact .inr h1
theorem at7 : cprog 7 = some c7 := rfl
theorem at9 : cprog 9 = some c9 := rfl
theorem at10 : cprog 10 = some c10 := rfl
theorem at11 : cprog 11 = some c11 := rfl
theorem at14 : cprog 14 = some c14 := rfl
theorem at18 : cprog 18 = some c18 := rfl
theorem at19 : cprog 19 = some c19 := rfl
theorem at20 : cprog 20 = some c20 := rfl
theorem at22 : cprog 22 = some c22 := rfl
theorem at23 : cprog 23 = some c23 := rfl
theorem at24 : cprog 24 = some c24 := rfl
theorem at28 : cprog 28 = some c28 := rfl
theorem at29 : cprog 29 = some c29 := rfl
theorem at30 : cprog 30 = some c30 := rfl
theorem at31 : cprog 31 = some c31 := rfl
theorem at33 : cprog 33 = some c33 := rfl
theorem at34 : cprog 34 = some c34 := rfl
theorem at35 : cprog 35 = some c35 := rfl
theorem at36 : cprog 36 = some c36 := rfl
theorem at37 : cprog 37 = some c37 := rfl
theorem at38 : cprog 38 = some c38 := rfl
theorem at39 : cprog 39 = some c39 := rfl
theorem at40 : cprog 40 = some c40 := rfl
theorem at42 : cprog 42 = some c42 := rfl
theorem at43 : cprog 43 = some c43 := rfl
theorem at44 : cprog 44 = some c44 := rfl
theorem at45 : cprog 45 = some c45 := rfl
theorem at46 : cprog 46 = some c46 := rfl
theorem at47 : cprog 47 = some c47 := rfl
theorem at48 : cprog 48 = some c48 := rfl
theorem at49 : cprog 49 = some c49 := rfl
theorem at50 : cprog 50 = some c50 := rfl
theorem at51 : cprog 51 = some c51 := rfl
theorem at52 : cprog 52 = some c52 := rfl
theorem at53 : cprog 53 = some c53 := rfl
theorem at54 : cprog 54 = some c54 := rfl
theorem at55 : cprog 55 = some c55 := rfl
theorem at56 : cprog 56 = some c56 := rfl
theorem at57 : cprog 57 = some c57 := rfl
theorem at60 : cprog 60 = some c60 := rfl
theorem at61 : cprog 61 = some c61 := rfl
theorem at62 : cprog 62 = some c62 := rfl
theorem at63 : cprog 63 = some c63 := rfl
theorem at64 : cprog 64 = some c64 := rfl
theorem at65 : cprog 65 = some c65 := rfl
theorem at66 : cprog 66 = some c66 := rfl
theorem at67 : cprog 67 = some c67 := rfl
theorem at69 : cprog 69 = some c69 := rfl
theorem at70 : cprog 70 = some c70 := rfl
theorem at71 : cprog 71 = some c71 := rfl
theorem at72 : cprog 72 = some c72 := rfl
theorem at73 : cprog 73 = some c73 := rfl
theorem at74 : cprog 74 = some c74 := rfl
theorem at75 : cprog 75 = some c75 := rfl
theorem at76 : cprog 76 = some c76 := rfl
theorem at77 : cprog 77 = some c77 := rfl
theorem at78 : cprog 78 = some c78 := rfl
theorem at79 : cprog 79 = some c79 := rfl
theorem at80 : cprog 80 = some c80 := rfl
theorem at81 : cprog 81 = some c81 := rfl
theorem at82 : cprog 82 = some c82 := rfl
theorem at85 : cprog 85 = some c85 := rfl
theorem at86 : cprog 86 = some c86 := rfl
theorem at87 : cprog 87 = some c87 := rfl
theorem at88 : cprog 88 = some c88 := rfl
theorem at89 : cprog 89 = some c89 := rfl
theorem at90 : cprog 90 = some c90 := rfl
theorem at91 : cprog 91 = some c91 := rfl
theorem at92 : cprog 92 = some c92 := rfl
theorem at94 : cprog 94 = some c94 := rfl
theorem at95 : cprog 95 = some c95 := rfl
theorem at96 : cprog 96 = some c96 := rfl
theorem at97 : cprog 97 = some c97 := rfl
theorem at98 : cprog 98 = some c98 := rfl
theorem at99 : cprog 99 = some c99 := rfl
theorem at100 : cprog 100 = some c100 := rfl
theorem at101 : cprog 101 = some c101 := rfl
theorem at102 : cprog 102 = some c102 := rfl
theorem at103 : cprog 103 = some c103 := rfl
theorem at104 : cprog 104 = some c104 := rfl
theorem at105 : cprog 105 = some c105 := rfl
theorem at109 : cprog 109 = some c109 := rfl
theorem at110 : cprog 110 = some c110 := rfl
theorem at111 : cprog 111 = some c111 := rfl
theorem at112 : cprog 112 = some c112 := rfl
theorem at113 : cprog 113 = some c113 := rfl
theorem at114 : cprog 114 = some c114 := rfl
theorem at115 : cprog 115 = some c115 := rfl
theorem at116 : cprog 116 = some c116 := rfl
theorem at117 : cprog 117 = some c117 := rfl
theorem at119 : cprog 119 = some c119 := rfl
theorem at120 : cprog 120 = some c120 := rfl
theorem at121 : cprog 121 = some c121 := rfl
theorem at123 : cprog 123 = some c123 := rfl
end Go.Proofs.Ytbchmbddcdionaa.Code
