/- The compact code of the functions, printed by a program of ours (gen.py); the kernel checks it against the program's own form. -/
import Derived.Test.YtcbmakanokmdjaaInsP
import Derived.Test.YtcbmakanokmdjaaProg
import Derived.KernelRfl
namespace Go.Proofs.Ytcbmakanokmdjaa.Code
open Go.Proofs.Ytcbmakanokmdjaa.Ev
abbrev u (n : Nat) : List Nat := List.range n

/-- progeny/progenylaw13.PlainBack -/
def c8 : CFn := ⟨208, [.t 6],
 (.seq
 (.region [0, 1, 2] [⟨(some 3), .box 25 4 (.t 0), none, [], []⟩,
   ⟨(some 5), .box 35 4 (.t 2), none, [], []⟩,
   ⟨(some 6), .mv (.c (.bool false)), none, [], []⟩])
 (.seq
 (.draw [1, 3, 5] [⟨(some 24), .faddr 0 (.t 5), none, [], []⟩,
   ⟨(some 25), .load false 1 (.t 24), none, [0], [10]⟩,
   ⟨(some 26), .faddr 1 (.t 5), none, [], []⟩,
   ⟨(some 27), .load false 1 (.t 26), none, [2], [10]⟩,
   ⟨(some 28), .faddr 2 (.t 5), none, [], []⟩,
   ⟨(some 29), .load false 1 (.t 28), none, [4], [10]⟩,
   ⟨(some 30), .build [.int .i64 0, .int .i64 0, .int .i64 0] [(0, 1, (.t 25)), (1, 1, (.t 27)), (2, 1, (.t 29))], none, (u 6), []⟩,
   ⟨(some 31), .faddr 3 (.t 5), none, [], []⟩,
   ⟨(some 32), .load false 1 (.t 31), none, [7], [10, 11]⟩,
   ⟨(some 7), .box 57 3 (.c (.agg [.int .i64 0, .int .i64 0, .int .i64 0])), none, [], []⟩,
   ⟨none, .store 3 (.t 7) (.t 30), none, (u 7 ++ [9]), []⟩,
   ⟨(some 8), .mv (.t 32), none, (u 11), []⟩])
 (.seq
 (.seq
 (.region [1, 3, 7, 8] [⟨(some 33), .load true 4 (.t 3), none, [], []⟩,
   ⟨(some 34), .mv (.t 1), none, [], []⟩,
   ⟨(some 35), .call (.c (.fn 9 [])) [(.t 33), (.t 34)] false, none, [], []⟩,
   ⟨(some 36), .un .not (.t 35), none, [], []⟩,
   ⟨(some 37), .mv (.t 36), none, [], []⟩,
   ⟨(some 38), .mv (.t 8), some (37, false), [], []⟩,
   ⟨(some 39), .len true (.t 38), some (37, false), [], []⟩,
   ⟨(some 40), .bin .gtr (.t 39) (.c (.int .i64 100)), some (37, false), [], []⟩,
   ⟨(some 41), .pick (.t 37) (.c (.bool true)) (.t 40), none, [], []⟩,
   ⟨(some 42), .mv (.t 41), none, [], []⟩,
   ⟨(some 43), .load true 4 (.t 3), some (42, false), [], []⟩,
   ⟨(some 44), .mv (.t 1), some (42, false), [], []⟩,
   ⟨(some 45), .call (.c (.fn 22 [])) [(.t 43), (.t 44), (.c (.nils))] false, some (42, false), [], []⟩,
   ⟨(some 46), .bin .neq (.t 45) (.c (.int .i64 0)), some (42, false), [], []⟩,
   ⟨(some 47), .pick (.t 42) (.c (.bool true)) (.t 46), none, [], []⟩])
 (.cond (.t 47)
 (.seq
 (.region [] [⟨(some 48), .call (.c (.fn 10 [])) [] false, none, [], []⟩,
   ⟨(some 6), .mv (.t 48), none, [], []⟩])
 .ret)
 .skip))
 (.seq
 (.region [1, 3, 7, 8] [⟨(some 50), .load true 4 (.t 3), none, [], []⟩,
   ⟨(some 51), .mv (.t 1), none, [], []⟩,
   ⟨(some 52), .iaddrA 1 3 (.t 7) (.c (.int .i64 0)), none, [], []⟩,
   ⟨(some 53), .load false 1 (.t 52), none, [], []⟩,
   ⟨(some 54), .iaddrA 1 3 (.t 7) (.c (.int .i64 1)), none, [], []⟩,
   ⟨(some 55), .load false 1 (.t 54), none, [], []⟩,
   ⟨(some 56), .mv (.t 8), none, [], []⟩,
   ⟨(some 57), .call (.c (.fn 26 [])) [(.t 50), (.t 51), (.t 53), (.t 55), (.t 56)] true, none, [], []⟩,
   ⟨(some 49), .mv (.t 57), none, [], []⟩,
   ⟨(some 58), .extract (.t 49) 0, none, [], []⟩,
   ⟨(some 59), .extract (.t 49) 1, none, [], []⟩,
   ⟨(some 60), .extract (.t 49) 2, none, [], []⟩,
   ⟨(some 9), .mv (.t 58), none, [], []⟩,
   ⟨(some 10), .mv (.t 59), none, [], []⟩,
   ⟨(some 11), .mv (.t 60), none, [], []⟩])
 (.seq
 (.seq
 (.region [1, 3, 7, 9, 10, 11] [⟨(some 61), .mv (.t 11), none, [], []⟩,
   ⟨(some 62), .bin .eql (.t 61) (.c (.int .i64 0)), none, [], []⟩])
 (.cond (.t 62)
 (.seq
 (.region [1, 3, 7, 9, 10] [⟨(some 64), .load true 4 (.t 3), none, [], []⟩,
   ⟨(some 65), .mv (.t 9), none, [], []⟩,
   ⟨(some 66), .call (.c (.fn 11 [])) [(.t 64), (.t 65)] false, none, [], []⟩,
   ⟨(some 63), .mv (.t 66), none, [], []⟩,
   ⟨(some 67), .extract (.t 63) 0, none, [], []⟩,
   ⟨(some 68), .extract (.t 63) 1, none, [], []⟩,
   ⟨(some 12), .mv (.t 67), none, [], []⟩,
   ⟨(some 13), .mv (.t 68), none, [], []⟩])
 (.seq
 (.region [1, 3, 7, 9, 10, 12, 13] [⟨(some 70), .load true 4 (.t 3), none, [], []⟩,
   ⟨(some 71), .mv (.t 9), none, [], []⟩,
   ⟨(some 72), .mv (.t 10), none, [], []⟩,
   ⟨(some 73), .call (.c (.fn 15 [])) [(.t 70), (.t 71), (.t 72)] true, none, [], []⟩,
   ⟨(some 69), .mv (.t 73), none, [], []⟩,
   ⟨(some 74), .extract (.t 69) 0, none, [], []⟩,
   ⟨(some 75), .extract (.t 69) 1, none, [], []⟩,
   ⟨(some 14), .mv (.t 74), none, [], []⟩,
   ⟨(some 15), .mv (.t 75), none, [], []⟩])
 (.seq
 (.region [1, 3, 7, 12, 13, 14, 15] [⟨(some 76), .mv (.t 13), none, [], []⟩,
   ⟨(some 77), .bin .neq (.t 76) (.c (.int .i64 0)), none, [], []⟩,
   ⟨(some 78), .mv (.t 77), none, [], []⟩,
   ⟨(some 79), .mv (.t 12), some (78, false), [], []⟩,
   ⟨(some 80), .un .not (.t 79), some (78, false), [], []⟩,
   ⟨(some 81), .pick (.t 78) (.c (.bool true)) (.t 80), none, [], []⟩,
   ⟨(some 82), .mv (.t 81), none, [], []⟩,
   ⟨(some 83), .mv (.t 15), some (82, false), [], []⟩,
   ⟨(some 84), .bin .neq (.t 83) (.c (.int .i64 0)), some (82, false), [], []⟩,
   ⟨(some 85), .pick (.t 82) (.c (.bool true)) (.t 84), none, [], []⟩,
   ⟨(some 86), .mv (.t 85), none, [], []⟩,
   ⟨(some 87), .mv (.t 14), some (86, false), [], []⟩,
   ⟨(some 88), .mv (.t 1), some (86, false), [], []⟩,
   ⟨(some 89), .call (.c (.fn 14 [])) [(.t 87), (.t 88)] false, some (86, false), [], []⟩,
   ⟨(some 90), .un .not (.t 89), some (86, false), [], []⟩,
   ⟨(some 91), .pick (.t 86) (.c (.bool true)) (.t 90), none, [], []⟩])
 (.cond (.t 91)
 (.seq
 (.region [] [⟨(some 6), .mv (.c (.bool false)), none, [], []⟩])
 .ret)
 .skip))))
 .skip))
 (.seq
 (.region [1, 3, 7] [⟨(some 92), .iaddrA 1 3 (.t 7) (.c (.int .i64 2)), none, [], []⟩,
   ⟨(some 93), .load false 1 (.t 92), none, [], []⟩,
   ⟨(some 16), .mv (.t 93), none, [], []⟩])
 (.seq
 (.seq
 (.region [1, 3, 16] [⟨(some 94), .mv (.t 16), none, [], []⟩,
   ⟨(some 95), .bin .lss (.t 94) (.c (.int .i64 0)), none, [], []⟩,
   ⟨(some 96), .mv (.t 95), none, [], []⟩,
   ⟨(some 97), .mv (.t 16), some (96, false), [], []⟩,
   ⟨(some 98), .mv (.t 1), some (96, false), [], []⟩,
   ⟨(some 99), .len false (.t 98), some (96, false), [], []⟩,
   ⟨(some 100), .bin .geq (.t 97) (.t 99), some (96, false), [], []⟩,
   ⟨(some 101), .pick (.t 96) (.c (.bool true)) (.t 100), none, [], []⟩])
 (.cond (.t 101)
 (.seq
 (.region [] [⟨(some 102), .call (.c (.fn 10 [])) [] false, none, [], []⟩,
   ⟨(some 6), .mv (.t 102), none, [], []⟩])
 .ret)
 .skip))
 (.seq
 (.region [1, 3, 16] [⟨(some 104), .load true 4 (.t 3), none, [], []⟩,
   ⟨(some 105), .mv (.t 1), none, [], []⟩,
   ⟨(some 106), .mv (.t 16), none, [], []⟩,
   ⟨(some 107), .call (.c (.fn 28 [])) [(.t 104), (.t 105), (.t 106)] false, none, [], []⟩,
   ⟨(some 103), .mv (.t 107), none, [], []⟩,
   ⟨(some 108), .extract (.t 103) 0, none, [], []⟩,
   ⟨(some 109), .extract (.t 103) 1, none, [], []⟩,
   ⟨(some 17), .mv (.t 108), none, [], []⟩,
   ⟨(some 11), .mv (.t 109), none, [], []⟩])
 (.seq
 (.region [1, 3, 11, 16, 17] [⟨(some 111), .load true 4 (.t 3), none, [], []⟩,
   ⟨(some 112), .mv (.t 1), none, [], []⟩,
   ⟨(some 113), .mv (.t 16), none, [], []⟩,
   ⟨(some 114), .call (.c (.fn 29 [])) [(.t 111), (.t 112), (.t 113)] false, none, [], []⟩,
   ⟨(some 110), .mv (.t 114), none, [], []⟩,
   ⟨(some 115), .extract (.t 110) 0, none, [], []⟩,
   ⟨(some 116), .extract (.t 110) 1, none, [], []⟩,
   ⟨(some 18), .mv (.t 115), none, [], []⟩,
   ⟨(some 19), .mv (.t 116), none, [], []⟩])
 (.seq
 (.region [1, 3, 11, 16, 17, 18, 19] [⟨(some 118), .load true 4 (.t 3), none, [], []⟩,
   ⟨(some 119), .mv (.t 1), none, [], []⟩,
   ⟨(some 120), .mv (.t 16), none, [], []⟩,
   ⟨(some 121), .call (.c (.fn 15 [])) [(.t 118), (.t 119), (.t 120)] true, none, [], []⟩,
   ⟨(some 117), .mv (.t 121), none, [], []⟩,
   ⟨(some 122), .extract (.t 117) 0, none, [], []⟩,
   ⟨(some 123), .extract (.t 117) 1, none, [], []⟩,
   ⟨(some 9), .mv (.t 122), none, [], []⟩,
   ⟨(some 20), .mv (.t 123), none, [], []⟩])
 (.seq
 (.seq
 (.region [1, 3, 9, 11, 16, 17, 18, 19, 20] [⟨(some 124), .mv (.t 11), none, [], []⟩,
   ⟨(some 125), .bin .neq (.t 124) (.c (.int .i64 0)), none, [], []⟩,
   ⟨(some 126), .mv (.t 125), none, [], []⟩,
   ⟨(some 127), .mv (.t 19), some (126, false), [], []⟩,
   ⟨(some 128), .bin .neq (.t 127) (.c (.int .i64 0)), some (126, false), [], []⟩,
   ⟨(some 129), .pick (.t 126) (.c (.bool true)) (.t 128), none, [], []⟩,
   ⟨(some 130), .mv (.t 129), none, [], []⟩,
   ⟨(some 131), .mv (.t 20), some (130, false), [], []⟩,
   ⟨(some 132), .bin .neq (.t 131) (.c (.int .i64 0)), some (130, false), [], []⟩,
   ⟨(some 133), .pick (.t 130) (.c (.bool true)) (.t 132), none, [], []⟩,
   ⟨(some 134), .mv (.t 133), none, [], []⟩,
   ⟨(some 135), .mv (.t 9), some (134, false), [], []⟩,
   ⟨(some 136), .len false (.t 135), some (134, false), [], []⟩,
   ⟨(some 137), .mv (.t 1), some (134, false), [], []⟩,
   ⟨(some 138), .len false (.t 137), some (134, false), [], []⟩,
   ⟨(some 139), .mv (.t 17), some (134, false), [], []⟩,
   ⟨(some 140), .mv (.t 16), some (134, false), [], []⟩,
   ⟨(some 141), .bin .sub (.t 139) (.t 140), some (134, false), [], []⟩,
   ⟨(some 142), .bin .sub (.t 138) (.t 141), some (134, false), [], []⟩,
   ⟨(some 143), .bin .neq (.t 136) (.t 142), some (134, false), [], []⟩,
   ⟨(some 144), .pick (.t 134) (.c (.bool true)) (.t 143), none, [], []⟩])
 (.cond (.t 144)
 (.seq
 (.region [] [⟨(some 6), .mv (.c (.bool false)), none, [], []⟩])
 .ret)
 .skip))
 (.seq
 (.seq
 (.region [1, 3, 9, 16, 17, 18] [⟨(some 146), .load true 4 (.t 3), none, [], []⟩,
   ⟨(some 147), .mv (.t 9), none, [], []⟩,
   ⟨(some 148), .call (.c (.fn 11 [])) [(.t 146), (.t 147)] false, none, [], []⟩,
   ⟨(some 145), .mv (.t 148), none, [], []⟩,
   ⟨(some 149), .extract (.t 145) 0, none, [], []⟩,
   ⟨(some 150), .extract (.t 145) 1, none, [], []⟩,
   ⟨(some 21), .mv (.t 149), none, [], []⟩,
   ⟨(some 22), .mv (.t 150), none, [], []⟩])
 (.seq
 (.region [1, 3, 9, 16, 17, 18, 21, 22] [⟨(some 151), .mv (.t 22), none, [], []⟩,
   ⟨(some 152), .bin .neq (.t 151) (.c (.int .i64 0)), none, [], []⟩,
   ⟨(some 153), .mv (.t 152), none, [], []⟩,
   ⟨(some 154), .mv (.t 21), some (153, false), [], []⟩,
   ⟨(some 155), .un .not (.t 154), some (153, false), [], []⟩,
   ⟨(some 156), .pick (.t 153) (.c (.bool true)) (.t 155), none, [], []⟩])
 (.cond (.t 156)
 (.seq
 (.region [] [⟨(some 6), .mv (.c (.bool false)), none, [], []⟩])
 .ret)
 .skip)))
 (.seq
 (.seq
 (.draw [1, 3, 9, 16, 17, 18] [⟨(some 157), .mv (.t 17), none, [], []⟩,
   ⟨(some 158), .mv (.t 16), none, [], []⟩,
   ⟨(some 159), .bin .add (.t 158) (.c (.int .i64 1)), none, [1], []⟩,
   ⟨(some 160), .bin .neq (.t 157) (.t 159), none, [0, 1, 2], []⟩,
   ⟨(some 161), .mv (.t 160), none, (u 4), []⟩,
   ⟨(some 162), .faddr 2 (.t 3), some (161, false), (u 5), []⟩,
   ⟨(some 163), .load false 1 (.t 162), some (161, false), (u 6), []⟩,
   ⟨(some 164), .mv (.t 1), some (161, false), (u 5), []⟩,
   ⟨(some 165), .mv (.t 16), some (161, false), (u 5), []⟩,
   ⟨(some 166), .iaddr 2 (.t 164) (.t 165), some (161, false), (u 5 ++ [7, 8]), []⟩,
   ⟨(some 167), .faddr 0 (.t 166), some (161, false), (u 5 ++ [7, 8, 9]), []⟩,
   ⟨(some 168), .load false 1 (.t 167), some (161, false), (u 5 ++ [7, 8, 9, 10]), []⟩,
   ⟨(some 169), .iaddr 8 (.t 163) (.t 168), some (161, false), (u 12), []⟩,
   ⟨(some 170), .faddr 6 (.t 169), some (161, false), (u 13), []⟩,
   ⟨(some 171), .load false 1 (.t 170), some (161, false), (u 14), []⟩,
   ⟨(some 172), .un .not (.t 171), some (161, false), (u 15), []⟩,
   ⟨(some 173), .pick (.t 161) (.c (.bool true)) (.t 172), none, (u 16), []⟩])
 (.cond (.t 173)
 (.seq
 (.region [] [⟨(some 174), .call (.c (.fn 10 [])) [] false, none, [], []⟩,
   ⟨(some 6), .mv (.t 174), none, [], []⟩])
 .ret)
 .skip))
 (.seq
 (.draw [1, 3, 9, 16, 18] [⟨(some 176), .load true 4 (.t 3), none, [], []⟩,
   ⟨(some 177), .mv (.t 9), none, [], []⟩,
   ⟨(some 178), .mv (.t 18), none, [], []⟩,
   ⟨(some 179), .mv (.t 1), none, [], []⟩,
   ⟨(some 180), .mv (.t 16), none, [], []⟩,
   ⟨(some 181), .iaddr 2 (.t 179) (.t 180), none, [3, 4], []⟩,
   ⟨(some 182), .faddr 0 (.t 181), none, [3, 4, 5], []⟩,
   ⟨(some 183), .load false 1 (.t 182), none, [3, 4, 5, 6], []⟩,
   ⟨(some 184), .mv (.t 1), none, [], []⟩,
   ⟨(some 185), .mv (.t 16), none, [], []⟩,
   ⟨(some 186), .iaddr 2 (.t 184) (.t 185), none, [8, 9], []⟩,
   ⟨(some 187), .faddr 1 (.t 186), none, [8, 9, 10], []⟩,
   ⟨(some 188), .load false 1 (.t 187), none, [8, 9, 10, 11], []⟩,
   ⟨(some 189), .call (.c (.fn 26 [])) [(.t 176), (.t 177), (.t 178), (.t 183), (.t 188)] true, none, (u 13), []⟩,
   ⟨(some 175), .mv (.t 189), none, (u 14), []⟩,
   ⟨(some 190), .extract (.t 175) 0, none, (u 15), []⟩,
   ⟨(some 191), .extract (.t 175) 1, none, (u 15), []⟩,
   ⟨(some 192), .extract (.t 175) 2, none, (u 15), []⟩,
   ⟨(some 23), .mv (.t 190), none, (u 16), []⟩,
   ⟨(some 10), .mv (.t 191), none, (u 17 ++ [18]), []⟩,
   ⟨(some 11), .mv (.t 192), none, (u 20), []⟩])
 (.seq
 (.region [1, 10, 11, 16, 23] [⟨(some 193), .mv (.t 11), none, [], []⟩,
   ⟨(some 194), .bin .eql (.t 193) (.c (.int .i64 0)), none, [], []⟩,
   ⟨(some 195), .mv (.t 194), none, [], []⟩,
   ⟨(some 196), .mv (.t 10), some (195, true), [], []⟩,
   ⟨(some 197), .mv (.t 16), some (195, true), [], []⟩,
   ⟨(some 198), .bin .eql (.t 196) (.t 197), some (195, true), [], []⟩,
   ⟨(some 199), .pick (.t 195) (.t 198) (.c (.bool false)), none, [], []⟩,
   ⟨(some 200), .mv (.t 199), none, [], []⟩,
   ⟨(some 201), .mv (.t 23), some (200, true), [], []⟩,
   ⟨(some 202), .mv (.t 1), some (200, true), [], []⟩,
   ⟨(some 203), .call (.c (.fn 14 [])) [(.t 201), (.t 202)] false, some (200, true), [], []⟩,
   ⟨(some 204), .pick (.t 200) (.t 203) (.c (.bool false)), none, [], []⟩,
   ⟨(some 205), .mv (.t 204), none, [], []⟩,
   ⟨(some 206), .call (.c (.fn 10 [])) [] false, some (205, true), [], []⟩,
   ⟨(some 207), .pick (.t 205) (.t 206) (.c (.bool false)), none, [], []⟩,
   ⟨(some 6), .mv (.t 207), none, [], []⟩])
 .ret))))))))))))))), false, false⟩
def c9_l0 : CC :=
 (.seq
 (.seq
 (.region [1, 2, 5] [⟨(some 7), .mv (.t 5), none, [], []⟩,
   ⟨(some 8), .faddr 2 (.t 2), none, [], []⟩,
   ⟨(some 9), .load false 1 (.t 8), none, [], []⟩,
   ⟨(some 10), .len false (.t 9), none, [], []⟩,
   ⟨(some 11), .bin .lss (.t 7) (.t 10), none, [], []⟩])
 (.cond (.t 11)
 .skip
 (.exit 0)))
 (.seq
 (.block 1
 (.seq
 (.region [1, 2, 5] [⟨(some 14), .faddr 2 (.t 2), none, [], []⟩,
   ⟨(some 15), .load false 1 (.t 14), none, [], []⟩,
   ⟨(some 16), .mv (.t 5), none, [], []⟩,
   ⟨(some 17), .iaddr 8 (.t 15) (.t 16), none, [], []⟩,
   ⟨(some 18), .faddr 4 (.t 17), none, [], []⟩,
   ⟨(some 19), .load false 1 (.t 18), none, [], []⟩,
   ⟨(some 20), .len false (.t 19), none, [], []⟩,
   ⟨(some 21), .bin .gtr (.t 20) (.c (.int .i64 10)), none, [], []⟩])
 (.cond (.t 21)
 (.seq
 (.region [] [⟨(some 4), .mv (.c (.bool false)), none, [], []⟩])
 .ret)
 .skip)))
 (.region [1, 2, 5] [⟨(some 12), .mv (.t 5), none, [], []⟩,
   ⟨(some 13), .bin .add (.t 12) (.c (.int .i64 1)), none, [], []⟩,
   ⟨(some 5), .mv (.t 13), none, [], []⟩])))
def c9_l1 : CC :=
 (.seq
 (.seq
 (.region [1, 2, 6] [⟨(some 22), .mv (.t 6), none, [], []⟩,
   ⟨(some 23), .mv (.t 1), none, [], []⟩,
   ⟨(some 24), .len false (.t 23), none, [], []⟩,
   ⟨(some 25), .bin .lss (.t 22) (.t 24), none, [], []⟩])
 (.cond (.t 25)
 .skip
 (.exit 2)))
 (.seq
 (.block 3
 (.seq
 (.region [1, 2, 6] [⟨(some 28), .mv (.t 1), none, [], []⟩,
   ⟨(some 29), .mv (.t 6), none, [], []⟩,
   ⟨(some 30), .iaddr 2 (.t 28) (.t 29), none, [], []⟩,
   ⟨(some 31), .faddr 1 (.t 30), none, [], []⟩,
   ⟨(some 32), .load false 1 (.t 31), none, [], []⟩,
   ⟨(some 33), .len true (.t 32), none, [], []⟩,
   ⟨(some 34), .bin .gtr (.t 33) (.c (.int .i64 100)), none, [], []⟩])
 (.cond (.t 34)
 (.seq
 (.region [] [⟨(some 4), .mv (.c (.bool false)), none, [], []⟩])
 .ret)
 .skip)))
 (.region [1, 2, 6] [⟨(some 26), .mv (.t 6), none, [], []⟩,
   ⟨(some 27), .bin .add (.t 26) (.c (.int .i64 1)), none, [], []⟩,
   ⟨(some 6), .mv (.t 27), none, [], []⟩])))
/-- progeny/progenylaw13.Small -/
def c9 : CFn := ⟨50, [.t 4],
 (.seq
 (.region [0, 1] [⟨(some 2), .box 25 4 (.t 0), none, [], []⟩,
   ⟨(some 4), .mv (.c (.bool false)), none, [], []⟩])
 (.seq
 (.seq
 (.region [1, 2] [⟨(some 5), .mv (.c (.int .i64 0)), none, [], []⟩])
 (.block 0
 (.loop c9_l0)))
 (.seq
 (.seq
 (.region [1, 2] [⟨(some 6), .mv (.c (.int .i64 0)), none, [], []⟩])
 (.block 2
 (.loop c9_l1)))
 (.seq
 (.region [1, 2] [⟨(some 35), .faddr 2 (.t 2), none, [], []⟩,
   ⟨(some 36), .load false 1 (.t 35), none, [], []⟩,
   ⟨(some 37), .len false (.t 36), none, [], []⟩,
   ⟨(some 38), .bin .leq (.t 37) (.c (.int .i64 12)), none, [], []⟩,
   ⟨(some 39), .mv (.t 38), none, [], []⟩,
   ⟨(some 40), .faddr 3 (.t 2), some (39, true), [], []⟩,
   ⟨(some 41), .load false 1 (.t 40), some (39, true), [], []⟩,
   ⟨(some 42), .len false (.t 41), some (39, true), [], []⟩,
   ⟨(some 43), .bin .leq (.t 42) (.c (.int .i64 6)), some (39, true), [], []⟩,
   ⟨(some 44), .pick (.t 39) (.t 43) (.c (.bool false)), none, [], []⟩,
   ⟨(some 45), .mv (.t 44), none, [], []⟩,
   ⟨(some 46), .mv (.t 1), some (45, true), [], []⟩,
   ⟨(some 47), .len false (.t 46), some (45, true), [], []⟩,
   ⟨(some 48), .bin .leq (.t 47) (.c (.int .i64 60)), some (45, true), [], []⟩,
   ⟨(some 49), .pick (.t 45) (.t 48) (.c (.bool false)), none, [], []⟩,
   ⟨(some 4), .mv (.t 49), none, [], []⟩])
 .ret)))), false, false⟩
/-- progeny/progenylaw13.First -/
def c10 : CFn := ⟨51, [.t 0],
 (.seq
 (.region [] [⟨(some 0), .mv (.c (.bool false)), none, [], []⟩])
 (.seq
 (.region [] [⟨(some 9), .call (.c (.fn 30 [])) [] false, none, [], []⟩,
   ⟨(some 10), .call (.c (.fn 31 [])) [] false, none, [], []⟩,
   ⟨(some 1), .box 25 4 (.c (.agg [.str ⟨#[]⟩, .int .i64 0, .nils, .nils])), none, [], []⟩,
   ⟨none, .store 4 (.t 1) (.t 9), none, [], []⟩,
   ⟨(some 2), .mv (.t 10), none, [], []⟩])
 (.seq
 (.region [1, 2] [⟨(some 12), .load true 4 (.t 1), none, [], []⟩,
   ⟨(some 13), .mv (.t 2), none, [], []⟩,
   ⟨(some 14), .call (.c (.fn 29 [])) [(.t 12), (.t 13), (.c (.int .i64 4))] false, none, [], []⟩,
   ⟨(some 11), .mv (.t 14), none, [], []⟩,
   ⟨(some 15), .extract (.t 11) 0, none, [], []⟩,
   ⟨(some 16), .extract (.t 11) 1, none, [], []⟩,
   ⟨(some 3), .mv (.t 15), none, [], []⟩,
   ⟨(some 4), .mv (.t 16), none, [], []⟩])
 (.seq
 (.region [1, 2, 3, 4] [⟨(some 18), .load true 4 (.t 1), none, [], []⟩,
   ⟨(some 19), .mv (.t 2), none, [], []⟩,
   ⟨(some 20), .call (.c (.fn 28 [])) [(.t 18), (.t 19), (.c (.int .i64 1))] false, none, [], []⟩,
   ⟨(some 17), .mv (.t 20), none, [], []⟩,
   ⟨(some 21), .extract (.t 17) 0, none, [], []⟩,
   ⟨(some 22), .extract (.t 17) 1, none, [], []⟩,
   ⟨(some 5), .mv (.t 21), none, [], []⟩,
   ⟨(some 6), .mv (.t 22), none, [], []⟩])
 (.seq
 (.region [1, 2, 3, 4, 5, 6] [⟨(some 24), .load true 4 (.t 1), none, [], []⟩,
   ⟨(some 25), .mv (.t 2), none, [], []⟩,
   ⟨(some 26), .call (.c (.fn 24 [])) [(.t 24), (.t 25), (.c (.int .i64 0)), (.c (.int .i64 1)), (.c (.str ⟨#[54]⟩))] false, none, [], []⟩,
   ⟨(some 23), .mv (.t 26), none, [], []⟩,
   ⟨(some 27), .extract (.t 23) 0, none, [], []⟩,
   ⟨(some 28), .extract (.t 23) 1, none, [], []⟩,
   ⟨(some 7), .mv (.t 27), none, [], []⟩,
   ⟨(some 8), .mv (.t 28), none, [], []⟩])
 (.seq
 (.region [3, 4, 5, 6, 7, 8] [⟨(some 29), .mv (.t 4), none, [], []⟩,
   ⟨(some 30), .bin .eql (.t 29) (.c (.int .i64 0)), none, [], []⟩,
   ⟨(some 31), .mv (.t 30), none, [], []⟩,
   ⟨(some 32), .mv (.t 6), some (31, true), [], []⟩,
   ⟨(some 33), .bin .eql (.t 32) (.c (.int .i64 0)), some (31, true), [], []⟩,
   ⟨(some 34), .pick (.t 31) (.t 33) (.c (.bool false)), none, [], []⟩,
   ⟨(some 35), .mv (.t 34), none, [], []⟩,
   ⟨(some 36), .mv (.t 8), some (35, true), [], []⟩,
   ⟨(some 37), .bin .eql (.t 36) (.c (.int .i64 0)), some (35, true), [], []⟩,
   ⟨(some 38), .pick (.t 35) (.t 37) (.c (.bool false)), none, [], []⟩,
   ⟨(some 39), .mv (.t 38), none, [], []⟩,
   ⟨(some 40), .mv (.t 3), some (39, true), [], []⟩,
   ⟨(some 41), .bin .eql (.t 40) (.c (.int .i64 0)), some (39, true), [], []⟩,
   ⟨(some 42), .pick (.t 39) (.t 41) (.c (.bool false)), none, [], []⟩,
   ⟨(some 43), .mv (.t 42), none, [], []⟩,
   ⟨(some 44), .mv (.t 5), some (43, true), [], []⟩,
   ⟨(some 45), .bin .eql (.t 44) (.c (.int .i64 3)), some (43, true), [], []⟩,
   ⟨(some 46), .pick (.t 43) (.t 45) (.c (.bool false)), none, [], []⟩,
   ⟨(some 47), .mv (.t 46), none, [], []⟩,
   ⟨(some 48), .mv (.t 7), some (47, true), [], []⟩,
   ⟨(some 49), .bin .eql (.t 48) (.c (.int .i64 3)), some (47, true), [], []⟩,
   ⟨(some 50), .pick (.t 47) (.t 49) (.c (.bool false)), none, [], []⟩,
   ⟨(some 0), .mv (.t 50), none, [], []⟩])
 .ret)))))), false, true⟩
/-- progeny/plain.Valid -/
def c11 : CFn := ⟨12, [.t 4, .t 5],
 (.seq
 (.region [0, 1] [⟨(some 2), .box 25 4 (.t 0), none, [], []⟩,
   ⟨(some 4), .mv (.c (.bool false)), none, [], []⟩,
   ⟨(some 5), .mv (.c (.int .i64 0)), none, [], []⟩])
 (.seq
 (.seq
 (.region [1, 2] [⟨(some 6), .load true 4 (.t 2), none, [], []⟩,
   ⟨(some 7), .call (.c (.fn 32 [])) [(.t 6)] false, none, [], []⟩,
   ⟨(some 8), .un .not (.t 7), none, [], []⟩])
 (.cond (.t 8)
 (.seq
 (.region [] [⟨(some 4), .mv (.c (.bool false)), none, [], []⟩,
   ⟨(some 5), .mv (.c (.int .i64 100)), none, [], []⟩])
 .ret)
 .skip))
 (.seq
 (.region [1, 2] [⟨(some 9), .load true 4 (.t 2), none, [], []⟩,
   ⟨(some 10), .mv (.t 1), none, [], []⟩,
   ⟨(some 11), .call (.c (.fn 33 [])) [(.t 9), (.t 10)] false, none, [], []⟩,
   ⟨(some 4), .mv (.t 11), none, [], []⟩,
   ⟨(some 5), .mv (.c (.int .i64 0)), none, [], []⟩])
 .ret))), false, false⟩
def c14_l0 : CC :=
 (.seq
 (.seq
 (.region [0, 1, 5] [⟨(some 11), .mv (.t 5), none, [], []⟩,
   ⟨(some 12), .mv (.t 0), none, [], []⟩,
   ⟨(some 13), .len false (.t 12), none, [], []⟩,
   ⟨(some 14), .bin .lss (.t 11) (.t 13), none, [], []⟩])
 (.cond (.t 14)
 .skip
 (.exit 0)))
 (.seq
 (.block 1
 (.seq
 (.draw [0, 1, 5] [⟨(some 17), .mv (.t 0), none, [], []⟩,
   ⟨(some 18), .mv (.t 5), none, [], []⟩,
   ⟨(some 19), .iaddr 2 (.t 17) (.t 18), none, [0, 1], []⟩,
   ⟨(some 20), .load true 2 (.t 19), none, [0, 1, 2], []⟩,
   ⟨(some 21), .mv (.t 1), none, [], []⟩,
   ⟨(some 22), .mv (.t 5), none, [], []⟩,
   ⟨(some 23), .iaddr 2 (.t 21) (.t 22), none, [4, 5], []⟩,
   ⟨(some 24), .load true 2 (.t 23), none, [4, 5, 6], []⟩,
   ⟨(some 25), .eqs true [0, 2] (.t 20) (.t 24), none, (u 8), []⟩])
 (.cond (.t 25)
 (.seq
 (.region [] [⟨(some 4), .mv (.c (.bool false)), none, [], []⟩])
 .ret)
 .skip)))
 (.region [0, 1, 5] [⟨(some 15), .mv (.t 5), none, [], []⟩,
   ⟨(some 16), .bin .add (.t 15) (.c (.int .i64 1)), none, [], []⟩,
   ⟨(some 5), .mv (.t 16), none, [], []⟩])))
/-- progeny/progenyref13.Same -/
def c14 : CFn := ⟨26, [.t 4],
 (.seq
 (.region [0, 1] [⟨(some 4), .mv (.c (.bool false)), none, [], []⟩])
 (.seq
 (.seq
 (.region [0, 1] [⟨(some 6), .mv (.t 0), none, [], []⟩,
   ⟨(some 7), .len false (.t 6), none, [], []⟩,
   ⟨(some 8), .mv (.t 1), none, [], []⟩,
   ⟨(some 9), .len false (.t 8), none, [], []⟩,
   ⟨(some 10), .bin .neq (.t 7) (.t 9), none, [], []⟩])
 (.cond (.t 10)
 (.seq
 (.region [] [⟨(some 4), .mv (.c (.bool false)), none, [], []⟩])
 .ret)
 .skip))
 (.seq
 (.seq
 (.region [0, 1] [⟨(some 5), .mv (.c (.int .i64 0)), none, [], []⟩])
 (.block 0
 (.loop c14_l0)))
 (.seq
 (.region [] [⟨(some 4), .mv (.c (.bool true)), none, [], []⟩])
 .ret)))), false, false⟩
/-- progeny/plain.Delete -/
def c15 : CFn := ⟨25, [.t 6, .t 7],
 (.seq
 (.region [0, 1, 2] [⟨(some 3), .box 25 4 (.t 0), none, [], []⟩,
   ⟨(some 6), .mv (.c (.nils)), none, [], []⟩,
   ⟨(some 7), .mv (.c (.int .i64 0)), none, [], []⟩])
 (.seq
 (.seq
 (.region [1, 2, 3] [⟨(some 9), .load true 4 (.t 3), none, [], []⟩,
   ⟨(some 10), .mv (.t 1), none, [], []⟩,
   ⟨(some 11), .mv (.t 2), none, [], []⟩,
   ⟨(some 12), .bslice 3 1 [[.int .i64 0]] [(0, (.t 11))], none, [], []⟩,
   ⟨(some 13), .call (.c (.fn 37 [])) [(.t 9), (.t 10), (.t 12)] false, none, [], []⟩,
   ⟨(some 8), .mv (.t 13), none, [], []⟩])
 (.seq
 (.region [1, 2, 3, 8] [⟨(some 14), .mv (.t 8), none, [], []⟩,
   ⟨(some 15), .bin .neq (.t 14) (.c (.int .i64 0)), none, [], []⟩])
 (.cond (.t 15)
 (.seq
 (.region [8] [⟨(some 16), .mv (.t 8), none, [], []⟩,
   ⟨(some 6), .mv (.c (.nils)), none, [], []⟩,
   ⟨(some 7), .mv (.t 16), none, [], []⟩])
 .ret)
 .skip)))
 (.seq
 (.draw [1, 2, 3] [⟨(some 17), .mv (.t 1), none, [], []⟩,
   ⟨(some 18), .call (.c (.fn 39 [])) [(.t 17)] false, none, [0], []⟩,
   ⟨(some 19), .mv (.t 2), none, [], []⟩,
   ⟨(some 20), .load true 4 (.t 3), none, [], [1]⟩,
   ⟨(some 21), .mv (.t 1), none, [], []⟩,
   ⟨(some 22), .mv (.t 2), none, [], []⟩,
   ⟨(some 23), .call (.c (.fn 40 [])) [(.t 20), (.t 21), (.t 22)] false, none, [0, 1, 3, 4, 5], []⟩,
   ⟨(some 24), .call (.c (.fn 38 [])) [(.t 18), (.t 19), (.t 23)] false, none, (u 7), []⟩,
   ⟨(some 6), .mv (.t 24), none, (u 8), []⟩,
   ⟨(some 7), .mv (.c (.int .i64 0)), none, (u 9), []⟩])
 .ret))), false, false⟩
def c22_l0 : CC :=
 (.seq
 (.seq
 (.region [1, 2, 7] [⟨(some 17), .mv (.t 7), none, [], []⟩,
   ⟨(some 18), .mv (.t 2), none, [], []⟩,
   ⟨(some 19), .len false (.t 18), none, [], []⟩,
   ⟨(some 20), .bin .lss (.t 17) (.t 19), none, [], []⟩])
 (.cond (.t 20)
 .skip
 (.exit 1)))
 (.seq
 (.block 2
 (.seq
 (.region [1, 2, 7] [⟨(some 23), .mv (.t 2), none, [], []⟩,
   ⟨(some 24), .mv (.t 7), none, [], []⟩,
   ⟨(some 25), .iaddr 1 (.t 23) (.t 24), none, [], []⟩,
   ⟨(some 26), .load false 1 (.t 25), none, [], []⟩,
   ⟨(some 27), .bin .lss (.t 26) (.c (.int .i64 0)), none, [], []⟩,
   ⟨(some 28), .mv (.t 27), none, [], []⟩,
   ⟨(some 29), .mv (.t 2), some (28, false), [], []⟩,
   ⟨(some 30), .mv (.t 7), some (28, false), [], []⟩,
   ⟨(some 31), .iaddr 1 (.t 29) (.t 30), some (28, false), [], []⟩,
   ⟨(some 32), .load false 1 (.t 31), some (28, false), [], []⟩,
   ⟨(some 33), .mv (.t 1), some (28, false), [], []⟩,
   ⟨(some 34), .len false (.t 33), some (28, false), [], []⟩,
   ⟨(some 35), .bin .geq (.t 32) (.t 34), some (28, false), [], []⟩,
   ⟨(some 36), .pick (.t 28) (.c (.bool true)) (.t 35), none, [], []⟩])
 (.cond (.t 36)
 (.seq
 (.region [] [⟨(some 6), .mv (.c (.int .i64 2)), none, [], []⟩])
 .ret)
 .skip)))
 (.region [1, 2, 7] [⟨(some 21), .mv (.t 7), none, [], []⟩,
   ⟨(some 22), .bin .add (.t 21) (.c (.int .i64 1)), none, [], []⟩,
   ⟨(some 7), .mv (.t 22), none, [], []⟩])))
/-- progeny/progenyref13.Asked -/
def c22 : CFn := ⟨37, [.t 6],
 (.seq
 (.region [0, 1, 2] [⟨(some 3), .box 25 4 (.t 0), none, [], []⟩,
   ⟨(some 6), .mv (.c (.int .i64 0)), none, [], []⟩])
 (.seq
 (.block 0
 (.seq
 (.region [1, 2, 3] [⟨(some 9), .load true 4 (.t 3), none, [], []⟩,
   ⟨(some 10), .call (.c (.fn 34 [])) [(.t 9)] false, none, [], []⟩,
   ⟨(some 11), .un .not (.t 10), none, [], []⟩,
   ⟨(some 8), .mv (.t 11), none, [], []⟩])
 (.cond (.t 8)
 (.seq
 (.region [] [⟨(some 6), .mv (.c (.int .i64 100)), none, [], []⟩])
 .ret)
 (.seq
 (.region [1, 2, 3] [⟨(some 13), .load true 4 (.t 3), none, [], []⟩,
   ⟨(some 14), .mv (.t 1), none, [], []⟩,
   ⟨(some 15), .call (.c (.fn 35 [])) [(.t 13), (.t 14)] false, none, [], []⟩,
   ⟨(some 16), .un .not (.t 15), none, [], []⟩,
   ⟨(some 12), .mv (.t 16), none, [], []⟩])
 (.cond (.t 12)
 (.seq
 (.region [] [⟨(some 6), .mv (.c (.int .i64 120)), none, [], []⟩])
 .ret)
 .skip)))))
 (.seq
 (.seq
 (.region [1, 2] [⟨(some 7), .mv (.c (.int .i64 0)), none, [], []⟩])
 (.block 1
 (.loop c22_l0)))
 (.seq
 (.region [] [⟨(some 6), .mv (.c (.int .i64 0)), none, [], []⟩])
 .ret)))), false, false⟩
/-- progeny/plain.Place -/
def c24 : CFn := ⟨20, [.t 10, .t 11],
 (.seq
 (.region [0, 1, 2, 3, 4] [⟨(some 5), .box 25 4 (.t 0), none, [], []⟩,
   ⟨(some 10), .mv (.c (.int .i64 0)), none, [], []⟩,
   ⟨(some 11), .mv (.c (.int .i64 0)), none, [], []⟩])
 (.seq
 (.region [1, 2, 3, 4, 5] [⟨(some 12), .load true 4 (.t 5), none, [], []⟩,
   ⟨(some 13), .mv (.t 1), none, [], []⟩,
   ⟨(some 14), .mv (.t 2), none, [], []⟩,
   ⟨(some 15), .mv (.t 3), none, [], []⟩,
   ⟨(some 16), .mv (.t 4), none, [], []⟩,
   ⟨(some 17), .call (.c (.fn 50 [])) [(.t 12), (.t 13), (.t 14), (.t 15), (.t 16)] false, none, [], []⟩,
   ⟨(some 18), .extract (.t 17) 0, none, [], []⟩,
   ⟨(some 19), .extract (.t 17) 1, none, [], []⟩,
   ⟨(some 10), .mv (.t 18), none, [], []⟩,
   ⟨(some 11), .mv (.t 19), none, [], []⟩])
 .ret)), false, false⟩
/-- progeny/plain.Insert -/
def c26 : CFn := ⟨41, [.t 10, .t 11, .t 12],
 (.seq
 (.region [0, 1, 2, 3, 4] [⟨(some 5), .box 25 4 (.t 0), none, [], []⟩,
   ⟨(some 10), .mv (.c (.nils)), none, [], []⟩,
   ⟨(some 11), .mv (.c (.int .i64 0)), none, [], []⟩,
   ⟨(some 12), .mv (.c (.int .i64 0)), none, [], []⟩])
 (.seq
 (.region [1, 2, 3, 4, 5] [⟨(some 16), .load true 4 (.t 5), none, [], []⟩,
   ⟨(some 17), .mv (.t 1), none, [], []⟩,
   ⟨(some 18), .mv (.t 2), none, [], []⟩,
   ⟨(some 19), .mv (.t 3), none, [], []⟩,
   ⟨(some 20), .mv (.t 4), none, [], []⟩,
   ⟨(some 21), .call (.c (.fn 50 [])) [(.t 16), (.t 17), (.t 18), (.t 19), (.t 20)] false, none, [], []⟩,
   ⟨(some 15), .mv (.t 21), none, [], []⟩,
   ⟨(some 22), .extract (.t 15) 0, none, [], []⟩,
   ⟨(some 23), .extract (.t 15) 1, none, [], []⟩,
   ⟨(some 13), .mv (.t 22), none, [], []⟩,
   ⟨(some 14), .mv (.t 23), none, [], []⟩])
 (.seq
 (.block 0
 (.seq
 (.region [1, 3, 4, 13, 14] [⟨(some 25), .mv (.t 14), none, [], []⟩,
   ⟨(some 26), .bin .neq (.t 25) (.c (.int .i64 0)), none, [], []⟩,
   ⟨(some 24), .mv (.t 26), none, [], []⟩])
 (.cond (.t 24)
 (.seq
 (.region [14] [⟨(some 27), .mv (.t 14), none, [], []⟩,
   ⟨(some 10), .mv (.c (.nils)), none, [], []⟩,
   ⟨(some 11), .mv (.c (.int .i64 0)), none, [], []⟩,
   ⟨(some 12), .mv (.t 27), none, [], []⟩])
 .ret)
 (.seq
 (.region [1, 3, 4, 13] [⟨(some 29), .mv (.t 1), none, [], []⟩,
   ⟨(some 30), .len false (.t 29), none, [], []⟩,
   ⟨(some 31), .bin .geq (.t 30) (.c (.int .i64 200)), none, [], []⟩,
   ⟨(some 28), .mv (.t 31), none, [], []⟩])
 (.cond (.t 28)
 (.seq
 (.region [] [⟨(some 10), .mv (.c (.nils)), none, [], []⟩,
   ⟨(some 11), .mv (.c (.int .i64 0)), none, [], []⟩,
   ⟨(some 12), .mv (.c (.int .i64 4)), none, [], []⟩])
 .ret)
 .skip)))))
 (.seq
 (.region [1, 3, 4, 13] [⟨(some 32), .mv (.t 1), none, [], []⟩,
   ⟨(some 33), .call (.c (.fn 39 [])) [(.t 32)] false, none, [], []⟩,
   ⟨(some 34), .mv (.t 13), none, [], []⟩,
   ⟨(some 35), .mv (.t 3), none, [], []⟩,
   ⟨(some 36), .mv (.t 4), none, [], []⟩,
   ⟨(some 37), .build [.int .i64 0, .str ⟨#[]⟩] [(0, 1, (.t 35)), (1, 1, (.t 36))], none, [], []⟩,
   ⟨(some 38), .bslice 50 2 [[.int .i64 0, .str ⟨#[]⟩]] [(0, (.t 37))], none, [], []⟩,
   ⟨(some 39), .call (.c (.fn 52 [])) [(.t 33), (.t 34), (.t 38)] false, none, [], []⟩,
   ⟨(some 40), .mv (.t 13), none, [], []⟩,
   ⟨(some 10), .mv (.t 39), none, [], []⟩,
   ⟨(some 11), .mv (.t 40), none, [], []⟩,
   ⟨(some 12), .mv (.c (.int .i64 0)), none, [], []⟩])
 .ret)))), false, false⟩
/-- progeny/plain.End -/
def c28 : CFn := ⟨21, [.t 6, .t 7],
 (.seq
 (.region [0, 1, 2] [⟨(some 3), .box 25 4 (.t 0), none, [], []⟩,
   ⟨(some 6), .mv (.c (.int .i64 0)), none, [], []⟩,
   ⟨(some 7), .mv (.c (.int .i64 0)), none, [], []⟩])
 (.seq
 (.seq
 (.region [1, 2, 3] [⟨(some 9), .load true 4 (.t 3), none, [], []⟩,
   ⟨(some 10), .mv (.t 1), none, [], []⟩,
   ⟨(some 11), .mv (.t 2), none, [], []⟩,
   ⟨(some 12), .bslice 3 1 [[.int .i64 0]] [(0, (.t 11))], none, [], []⟩,
   ⟨(some 13), .call (.c (.fn 37 [])) [(.t 9), (.t 10), (.t 12)] false, none, [], []⟩,
   ⟨(some 8), .mv (.t 13), none, [], []⟩])
 (.seq
 (.region [1, 2, 3, 8] [⟨(some 14), .mv (.t 8), none, [], []⟩,
   ⟨(some 15), .bin .neq (.t 14) (.c (.int .i64 0)), none, [], []⟩])
 (.cond (.t 15)
 (.seq
 (.region [8] [⟨(some 16), .mv (.t 8), none, [], []⟩,
   ⟨(some 6), .mv (.c (.int .i64 0)), none, [], []⟩,
   ⟨(some 7), .mv (.t 16), none, [], []⟩])
 .ret)
 .skip)))
 (.seq
 (.region [1, 2, 3] [⟨(some 17), .load true 4 (.t 3), none, [], []⟩,
   ⟨(some 18), .mv (.t 1), none, [], []⟩,
   ⟨(some 19), .mv (.t 2), none, [], []⟩,
   ⟨(some 20), .call (.c (.fn 40 [])) [(.t 17), (.t 18), (.t 19)] false, none, [], []⟩,
   ⟨(some 6), .mv (.t 20), none, [], []⟩,
   ⟨(some 7), .mv (.c (.int .i64 0)), none, [], []⟩])
 .ret))), false, false⟩
/-- progeny/plain.Parent -/
def c29 : CFn := ⟨21, [.t 6, .t 7],
 (.seq
 (.region [0, 1, 2] [⟨(some 3), .box 25 4 (.t 0), none, [], []⟩,
   ⟨(some 6), .mv (.c (.int .i64 0)), none, [], []⟩,
   ⟨(some 7), .mv (.c (.int .i64 0)), none, [], []⟩])
 (.seq
 (.seq
 (.region [1, 2, 3] [⟨(some 9), .load true 4 (.t 3), none, [], []⟩,
   ⟨(some 10), .mv (.t 1), none, [], []⟩,
   ⟨(some 11), .mv (.t 2), none, [], []⟩,
   ⟨(some 12), .bslice 3 1 [[.int .i64 0]] [(0, (.t 11))], none, [], []⟩,
   ⟨(some 13), .call (.c (.fn 37 [])) [(.t 9), (.t 10), (.t 12)] false, none, [], []⟩,
   ⟨(some 8), .mv (.t 13), none, [], []⟩])
 (.seq
 (.region [1, 2, 3, 8] [⟨(some 14), .mv (.t 8), none, [], []⟩,
   ⟨(some 15), .bin .neq (.t 14) (.c (.int .i64 0)), none, [], []⟩])
 (.cond (.t 15)
 (.seq
 (.region [8] [⟨(some 16), .mv (.t 8), none, [], []⟩,
   ⟨(some 6), .mv (.c (.int .i64 0)), none, [], []⟩,
   ⟨(some 7), .mv (.t 16), none, [], []⟩])
 .ret)
 .skip)))
 (.seq
 (.region [1, 2, 3] [⟨(some 17), .load true 4 (.t 3), none, [], []⟩,
   ⟨(some 18), .mv (.t 1), none, [], []⟩,
   ⟨(some 19), .mv (.t 2), none, [], []⟩,
   ⟨(some 20), .call (.c (.fn 53 [])) [(.t 17), (.t 18), (.t 19)] false, none, [], []⟩,
   ⟨(some 6), .mv (.t 20), none, [], []⟩,
   ⟨(some 7), .mv (.c (.int .i64 0)), none, [], []⟩])
 .ret))), false, false⟩
/-- progeny/progenylaw13.Shop -/
def c30 : CFn := ⟨11, [.cell 0 true 4],
 (.seq
 (.region [] [⟨(some 0), .box 25 4 (.c (.agg [.str ⟨#[]⟩, .int .i64 0, .nils, .nils])), none, [], []⟩])
 (.seq
 (.region [0] [⟨(some 1), .build [.str ⟨#[]⟩, .int .i64 0, .int .i64 0] [(0, 1, (.c (.str ⟨#[67, 85, 83, 84, 78, 79]⟩))), (2, 1, (.c (.int .i64 1)))], none, [], []⟩,
   ⟨(some 2), .bslice 79 3 [[.str ⟨#[]⟩, .int .i64 0, .int .i64 0]] [(0, (.t 1))], none, [], []⟩,
   ⟨(some 3), .build [.str ⟨#[]⟩, .int .i64 0, .int .i64 0, .int .i64 0, .nils, .int .i64 0, .bool false, .bool false] [(0, 1, (.c (.str ⟨#[67, 85, 83, 84]⟩))), (1, 1, (.c (.int .i64 (-1)))), (2, 1, (.c (.int .i64 1))), (3, 1, (.c (.int .i64 10))), (4, 1, (.t 2)), (6, 1, (.c (.bool true)))], none, [], []⟩,
   ⟨(some 4), .build [.str ⟨#[]⟩, .int .i64 0, .int .i64 0] [(0, 1, (.c (.str ⟨#[79, 82, 68, 78, 79]⟩))), (2, 1, (.c (.int .i64 1)))], none, [], []⟩,
   ⟨(some 5), .bslice 79 3 [[.str ⟨#[]⟩, .int .i64 0, .int .i64 0]] [(0, (.t 4))], none, [], []⟩,
   ⟨(some 6), .build [.str ⟨#[]⟩, .int .i64 0, .int .i64 0, .int .i64 0, .nils, .int .i64 0, .bool false, .bool false] [(0, 1, (.c (.str ⟨#[79, 82, 68, 69, 82]⟩))), (1, 1, (.c (.int .i64 0))), (2, 1, (.c (.int .i64 1))), (3, 1, (.c (.int .i64 12))), (4, 1, (.t 5)), (6, 1, (.c (.bool true)))], none, [], []⟩,
   ⟨(some 7), .build [.str ⟨#[]⟩, .int .i64 0, .int .i64 0, .int .i64 0, .nils, .int .i64 0, .bool false, .bool false] [(0, 1, (.c (.str ⟨#[73, 84, 69, 77]⟩))), (1, 1, (.c (.int .i64 1))), (2, 1, (.c (.int .i64 1))), (3, 1, (.c (.int .i64 8))), (5, 1, (.c (.int .i64 (-1)))), (7, 1, (.c (.bool true)))], none, [], []⟩,
   ⟨(some 8), .build [.str ⟨#[]⟩, .int .i64 0, .int .i64 0, .int .i64 0, .nils, .int .i64 0, .bool false, .bool false] [(0, 1, (.c (.str ⟨#[80, 72, 79, 78, 69]⟩))), (1, 1, (.c (.int .i64 0))), (2, 1, (.c (.int .i64 1))), (3, 1, (.c (.int .i64 8))), (5, 1, (.c (.int .i64 (-1))))], none, [], []⟩,
   ⟨(some 9), .bslice 61 8 [[.str ⟨#[]⟩, .int .i64 0, .int .i64 0, .int .i64 0, .nils, .int .i64 0, .bool false, .bool false], [.str ⟨#[]⟩, .int .i64 0, .int .i64 0, .int .i64 0, .nils, .int .i64 0, .bool false, .bool false], [.str ⟨#[]⟩, .int .i64 0, .int .i64 0, .int .i64 0, .nils, .int .i64 0, .bool false, .bool false], [.str ⟨#[]⟩, .int .i64 0, .int .i64 0, .int .i64 0, .nils, .int .i64 0, .bool false, .bool false]] [(0, (.t 3)), (1, (.t 6)), (2, (.t 7)), (3, (.t 8))], none, [], []⟩,
   ⟨(some 10), .build [.str ⟨#[]⟩, .int .i64 0, .nils, .nils] [(0, 1, (.c (.str ⟨#[83, 72, 79, 80]⟩))), (1, 1, (.c (.int .i64 4))), (2, 1, (.t 9))], none, [], []⟩,
   ⟨none, .store 4 (.t 0) (.t 10), none, [], []⟩])
 .ret)), false, false⟩
/-- progeny/progenylaw13.Forest -/
def c31 : CFn := ⟨8, [.t 0],
 (.seq
 (.region [] [⟨(some 0), .mv (.c (.nils)), none, [], []⟩])
 (.seq
 (.region [] [⟨(some 1), .build [.int .i64 0, .str ⟨#[]⟩] [(0, 1, (.c (.int .i64 0))), (1, 1, (.c (.str ⟨#[49]⟩)))], none, [], []⟩,
   ⟨(some 2), .build [.int .i64 0, .str ⟨#[]⟩] [(0, 1, (.c (.int .i64 1))), (1, 1, (.c (.str ⟨#[53]⟩)))], none, [], []⟩,
   ⟨(some 3), .build [.int .i64 0, .str ⟨#[]⟩] [(0, 1, (.c (.int .i64 2))), (1, 1, (.c (.str ⟨#[120]⟩)))], none, [], []⟩,
   ⟨(some 4), .build [.int .i64 0, .str ⟨#[]⟩] [(0, 1, (.c (.int .i64 1))), (1, 1, (.c (.str ⟨#[55]⟩)))], none, [], []⟩,
   ⟨(some 5), .build [.int .i64 0, .str ⟨#[]⟩] [(0, 1, (.c (.int .i64 3))), (1, 1, (.c (.str ⟨#[112]⟩)))], none, [], []⟩,
   ⟨(some 6), .build [.int .i64 0, .str ⟨#[]⟩] [(0, 1, (.c (.int .i64 0))), (1, 1, (.c (.str ⟨#[50]⟩)))], none, [], []⟩,
   ⟨(some 7), .bslice 50 2 [[.int .i64 0, .str ⟨#[]⟩], [.int .i64 0, .str ⟨#[]⟩], [.int .i64 0, .str ⟨#[]⟩], [.int .i64 0, .str ⟨#[]⟩], [.int .i64 0, .str ⟨#[]⟩], [.int .i64 0, .str ⟨#[]⟩]] [(0, (.t 1)), (1, (.t 2)), (2, (.t 3)), (3, (.t 4)), (4, (.t 5)), (5, (.t 6))], none, [], []⟩,
   ⟨(some 0), .mv (.t 7), none, [], []⟩])
 .ret)), false, false⟩
/-- progeny/dbd.Valid -/
def c32 : CFn := ⟨28, [.t 2],
 (.seq
 (.region [0] [⟨(some 1), .box 25 4 (.t 0), none, [], []⟩,
   ⟨(some 2), .mv (.c (.bool false)), none, [], []⟩])
 (.seq
 (.region [1] [⟨(some 3), .faddr 0 (.t 1), none, [], []⟩,
   ⟨(some 4), .load false 1 (.t 3), none, [], []⟩,
   ⟨(some 5), .call (.c (.fn 54 [])) [(.t 4)] false, none, [], []⟩,
   ⟨(some 6), .mv (.t 5), none, [], []⟩,
   ⟨(some 7), .faddr 1 (.t 1), some (6, true), [], []⟩,
   ⟨(some 8), .load false 1 (.t 7), some (6, true), [], []⟩,
   ⟨(some 9), .bin .geq (.t 8) (.c (.int .i64 1)), some (6, true), [], []⟩,
   ⟨(some 10), .pick (.t 6) (.t 9) (.c (.bool false)), none, [], []⟩,
   ⟨(some 11), .mv (.t 10), none, [], []⟩,
   ⟨(some 12), .faddr 1 (.t 1), some (11, true), [], []⟩,
   ⟨(some 13), .load false 1 (.t 12), some (11, true), [], []⟩,
   ⟨(some 14), .bin .leq (.t 13) (.c (.int .i64 4)), some (11, true), [], []⟩,
   ⟨(some 15), .pick (.t 11) (.t 14) (.c (.bool false)), none, [], []⟩,
   ⟨(some 16), .mv (.t 15), none, [], []⟩,
   ⟨(some 17), .faddr 2 (.t 1), some (16, true), [], []⟩,
   ⟨(some 18), .load false 1 (.t 17), some (16, true), [], []⟩,
   ⟨(some 19), .call (.c (.fn 55 [])) [(.t 18)] false, some (16, true), [], []⟩,
   ⟨(some 20), .pick (.t 16) (.t 19) (.c (.bool false)), none, [], []⟩,
   ⟨(some 21), .mv (.t 20), none, [], []⟩,
   ⟨(some 22), .faddr 3 (.t 1), some (21, true), [], []⟩,
   ⟨(some 23), .load false 1 (.t 22), some (21, true), [], []⟩,
   ⟨(some 24), .faddr 2 (.t 1), some (21, true), [], []⟩,
   ⟨(some 25), .load false 1 (.t 24), some (21, true), [], []⟩,
   ⟨(some 26), .call (.c (.fn 56 [])) [(.t 23), (.t 25)] false, some (21, true), [], []⟩,
   ⟨(some 27), .pick (.t 21) (.t 26) (.c (.bool false)), none, [], []⟩,
   ⟨(some 2), .mv (.t 27), none, [], []⟩])
 .ret)), false, false⟩
def c33_l0 : CC :=
 (.seq
 (.region [2, 3, 5, 6, 16, 17, 18] [⟨(some 19), .bin .lss (.t 18) (.t 17), none, [], []⟩])
 (.seq
 (.cond (.t 19)
 .skip
 (.exit 0))
 (.seq
 (.block 1
 (.seq
 (.region [2, 3, 5, 6, 16, 17, 18] [⟨(some 20), .mv (.t 18), none, [], []⟩,
   ⟨(some 21), .iaddr 2 (.t 16) (.t 18), none, [], []⟩,
   ⟨(some 22), .load true 2 (.t 21), none, [], []⟩,
   ⟨(some 8), .box 50 2 (.c (.agg [.int .i64 0, .str ⟨#[]⟩])), none, [], []⟩,
   ⟨(some 7), .mv (.t 20), none, [], []⟩,
   ⟨none, .store 2 (.t 8) (.t 22), none, [], []⟩])
 (.seq
 (.seq
 (.region [2, 3, 5, 6, 7, 8, 16, 17, 18] [⟨(some 23), .load true 4 (.t 2), none, [], []⟩,
   ⟨(some 24), .load true 2 (.t 8), none, [], []⟩,
   ⟨(some 25), .call (.c (.fn 42 [])) [(.t 23), (.t 24)] false, none, [], []⟩,
   ⟨(some 26), .un .not (.t 25), none, [], []⟩])
 (.cond (.t 26)
 (.seq
 (.region [] [⟨(some 4), .mv (.c (.bool false)), none, [], []⟩])
 .ret)
 .skip))
 (.seq
 (.region [2, 3, 5, 6, 7, 8, 16, 17, 18] [⟨(some 27), .faddr 2 (.t 2), none, [], []⟩,
   ⟨(some 28), .load false 1 (.t 27), none, [], []⟩,
   ⟨(some 29), .faddr 0 (.t 8), none, [], []⟩,
   ⟨(some 30), .load false 1 (.t 29), none, [], []⟩,
   ⟨(some 31), .iaddr 8 (.t 28) (.t 30), none, [], []⟩,
   ⟨(some 32), .faddr 1 (.t 31), none, [], []⟩,
   ⟨(some 33), .load false 1 (.t 32), none, [], []⟩,
   ⟨(some 9), .box 3 1 (.c (.int .i64 0)), none, [], []⟩,
   ⟨none, .store 1 (.t 9) (.t 33), none, [], []⟩])
 (.seq
 (.region [2, 3, 5, 6, 7, 8, 9, 16, 17, 18] [⟨(some 10), .mv (.c (.int .i64 0)), none, [], []⟩])
 (.seq
 (.seq
 (.region [2, 3, 5, 6, 7, 8, 9, 10, 16, 17, 18] [⟨(some 34), .load false 1 (.t 9), none, [], []⟩,
   ⟨(some 35), .bin .geq (.t 34) (.c (.int .i64 0)), none, [], []⟩])
 (.cond (.t 35)
 (.seq
 (.region [2, 3, 5, 6, 7, 8, 9, 16, 17, 18] [⟨(some 36), .mv (.t 5), none, [], []⟩,
   ⟨(some 37), .mkfn 58 [(.t 3), (.t 9)], none, [], []⟩,
   ⟨(some 38), .call (.c (.fn 57 [])) [(.t 36), (.t 37)] false, none, [], []⟩,
   ⟨(some 39), .bin .add (.c (.int .i64 1)) (.t 38), none, [], []⟩,
   ⟨(some 10), .mv (.t 39), none, [], []⟩])
 (.seq
 (.region [2, 3, 5, 6, 7, 8, 10, 16, 17, 18] [⟨(some 40), .mv (.t 10), none, [], []⟩,
   ⟨(some 41), .bin .eql (.t 40) (.c (.int .i64 0)), none, [], []⟩])
 (.cond (.t 41)
 (.seq
 (.region [] [⟨(some 4), .mv (.c (.bool false)), none, [], []⟩])
 .ret)
 .skip)))
 .skip))
 (.seq
 (.seq
 (.region [2, 3, 5, 6, 7, 8, 10, 16, 17, 18] [⟨(some 42), .mv (.t 6), none, [], []⟩,
   ⟨(some 43), .mv (.t 10), none, [], []⟩,
   ⟨(some 44), .iaddr 1 (.t 42) (.t 43), none, [], []⟩,
   ⟨(some 45), .load false 1 (.t 44), none, [], []⟩,
   ⟨(some 11), .mv (.t 45), none, [], []⟩])
 (.seq
 (.draw [2, 3, 5, 6, 7, 8, 10, 11, 16, 17, 18] [⟨(some 46), .mv (.t 11), none, [], []⟩,
   ⟨(some 47), .bin .geq (.t 46) (.c (.int .i64 0)), none, [0], []⟩,
   ⟨(some 48), .mv (.t 47), none, [0, 1], []⟩,
   ⟨(some 49), .load false 1 (.t 3), some (48, true), [0, 1, 2], []⟩,
   ⟨(some 50), .mv (.t 11), some (48, true), [0, 1, 2], []⟩,
   ⟨(some 51), .iaddr 2 (.t 49) (.t 50), some (48, true), (u 5), []⟩,
   ⟨(some 52), .faddr 0 (.t 51), some (48, true), (u 6), []⟩,
   ⟨(some 53), .load false 1 (.t 52), some (48, true), (u 7), []⟩,
   ⟨(some 54), .faddr 0 (.t 8), some (48, true), [0, 1, 2], []⟩,
   ⟨(some 55), .load false 1 (.t 54), some (48, true), [0, 1, 2, 8], []⟩,
   ⟨(some 56), .bin .gtr (.t 53) (.t 55), some (48, true), (u 10), []⟩,
   ⟨(some 57), .mv (.t 56), some (48, true), (u 11), []⟩,
   ⟨(some 58), .load false 1 (.t 3), some (57, false), (u 12), []⟩,
   ⟨(some 59), .mv (.t 11), some (57, false), (u 12), []⟩,
   ⟨(some 60), .iaddr 2 (.t 58) (.t 59), some (57, false), (u 14), []⟩,
   ⟨(some 61), .faddr 0 (.t 60), some (57, false), (u 15), []⟩,
   ⟨(some 62), .load false 1 (.t 61), some (57, false), (u 16), []⟩,
   ⟨(some 63), .faddr 0 (.t 8), some (57, false), (u 12), []⟩,
   ⟨(some 64), .load false 1 (.t 63), some (57, false), (u 12 ++ [17]), []⟩,
   ⟨(some 65), .bin .eql (.t 62) (.t 64), some (57, false), (u 19), []⟩,
   ⟨(some 66), .mv (.t 65), some (57, false), (u 20), []⟩,
   ⟨(some 67), .faddr 2 (.t 2), some (66, true), (u 21), []⟩,
   ⟨(some 68), .load false 1 (.t 67), some (66, true), (u 22), []⟩,
   ⟨(some 69), .faddr 0 (.t 8), some (66, true), (u 21), []⟩,
   ⟨(some 70), .load false 1 (.t 69), some (66, true), (u 21 ++ [23]), []⟩,
   ⟨(some 71), .iaddr 8 (.t 68) (.t 70), some (66, true), (u 25), []⟩,
   ⟨(some 72), .load true 8 (.t 71), some (66, true), (u 26), []⟩,
   ⟨(some 73), .load false 1 (.t 3), some (66, true), (u 21), []⟩,
   ⟨(some 74), .mv (.t 11), some (66, true), (u 21), []⟩,
   ⟨(some 75), .iaddr 2 (.t 73) (.t 74), some (66, true), (u 21 ++ [27, 28]), []⟩,
   ⟨(some 76), .faddr 1 (.t 75), some (66, true), (u 21 ++ [27, 28, 29]), []⟩,
   ⟨(some 77), .load false 1 (.t 76), some (66, true), (u 21 ++ [27, 28, 29, 30]), []⟩,
   ⟨(some 78), .faddr 1 (.t 8), some (66, true), (u 21), []⟩,
   ⟨(some 79), .load false 1 (.t 78), some (66, true), (u 21 ++ [32]), []⟩,
   ⟨(some 80), .call (.c (.fn 59 [])) [(.t 72), (.t 77), (.t 79)] false, some (66, true), (u 34), []⟩,
   ⟨(some 81), .un .not (.t 80), some (66, true), (u 35), []⟩,
   ⟨(some 82), .pick (.t 66) (.t 81) (.c (.bool false)), some (57, false), (u 36), []⟩,
   ⟨(some 83), .pick (.t 57) (.c (.bool true)) (.t 82), some (48, true), (u 37), []⟩,
   ⟨(some 84), .pick (.t 48) (.t 83) (.c (.bool false)), none, (u 38), []⟩])
 (.cond (.t 84)
 (.seq
 (.region [] [⟨(some 4), .mv (.c (.bool false)), none, [], []⟩])
 .ret)
 .skip)))
 (.draw [2, 3, 5, 6, 7, 10, 16, 17, 18] [⟨(some 85), .mv (.t 5), none, [], []⟩,
   ⟨(some 86), .mv (.t 10), none, [], []⟩,
   ⟨(some 87), .slc 1 (.t 85) none (some (.t 86)) none, none, [0, 1], []⟩,
   ⟨(some 88), .mv (.t 7), none, [], []⟩,
   ⟨(some 89), .flst 3 1 [[.int .i64 0]] [(0, (.t 88))], none, [3], []⟩,
   ⟨(some 90), .app 3 1 8 false (.t 87) (.t 89), none, (u 5), []⟩,
   ⟨(some 91), .mv (.t 6), none, [], []⟩,
   ⟨(some 92), .mv (.t 10), none, [], []⟩,
   ⟨(some 93), .slc 1 (.t 91) none (some (.t 92)) none, none, [6, 7], [5]⟩,
   ⟨(some 94), .mv (.t 7), none, [], []⟩,
   ⟨(some 95), .flst 3 1 [[.int .i64 0], [.int .i64 0]] [(0, (.t 94)), (1, (.c (.int .i64 (-1))))], none, [9], []⟩,
   ⟨(some 96), .app 3 1 8 false (.t 93) (.t 95), none, (u 11), []⟩,
   ⟨(some 5), .mv (.t 90), none, (u 12), []⟩,
   ⟨(some 6), .mv (.t 96), none, (u 13), []⟩]))))))))
 (.region [2, 3, 5, 6, 16, 17, 18] [⟨(some 97), .bin .add (.t 18) (.c (.int .i64 1)), none, [], []⟩,
   ⟨(some 18), .mv (.t 97), none, [], []⟩]))))
/-- progeny/plain.valid -/
def c33 : CFn := ⟨98, [.t 4],
 (.seq
 (.region [0, 1] [⟨(some 2), .box 25 4 (.t 0), none, [], []⟩,
   ⟨(some 3), .box 26 1 (.t 1), none, [], []⟩,
   ⟨(some 4), .mv (.c (.bool false)), none, [], []⟩])
 (.seq
 (.seq
 (.region [2, 3] [⟨(some 12), .load false 1 (.t 3), none, [], []⟩,
   ⟨(some 13), .len false (.t 12), none, [], []⟩,
   ⟨(some 14), .bin .gtr (.t 13) (.c (.int .i64 200)), none, [], []⟩])
 (.cond (.t 14)
 (.seq
 (.region [] [⟨(some 4), .mv (.c (.bool false)), none, [], []⟩])
 .ret)
 .skip))
 (.seq
 (.region [2, 3] [⟨(some 5), .mv (.c (.nils)), none, [], []⟩])
 (.seq
 (.region [2, 3, 5] [⟨(some 15), .bslice 3 1 [[.int .i64 0]] [(0, (.c (.int .i64 (-1))))], none, [], []⟩,
   ⟨(some 6), .mv (.t 15), none, [], []⟩])
 (.seq
 (.seq
 (.region [2, 3, 5, 6] [⟨(some 16), .load false 1 (.t 3), none, [], []⟩,
   ⟨(some 17), .len false (.t 16), none, [], []⟩,
   ⟨(some 18), .mv (.c (.int .i64 0)), none, [], []⟩])
 (.block 0
 (.loop c33_l0)))
 (.seq
 (.region [] [⟨(some 4), .mv (.c (.bool true)), none, [], []⟩])
 .ret)))))), false, false⟩
def c34_l0 : CC :=
 (.seq
 (.seq
 (.region [1, 3, 4, 5] [⟨(some 79), .mv (.t 5), none, [], []⟩,
   ⟨(some 80), .mv (.t 3), none, [], []⟩,
   ⟨(some 81), .bin .lss (.t 79) (.t 80), none, [], []⟩])
 (.cond (.t 81)
 .skip
 (.exit 2)))
 (.seq
 (.block 3
 (.seq
 (.draw [1, 3, 4, 5] [⟨(some 84), .faddr 2 (.t 1), none, [], []⟩,
   ⟨(some 85), .load false 1 (.t 84), none, [0], []⟩,
   ⟨(some 86), .mv (.t 5), none, [], []⟩,
   ⟨(some 87), .iaddr 8 (.t 85) (.t 86), none, [0, 1, 2], []⟩,
   ⟨(some 88), .faddr 0 (.t 87), none, (u 4), []⟩,
   ⟨(some 89), .load false 1 (.t 88), none, (u 5), []⟩,
   ⟨(some 90), .faddr 0 (.t 4), none, [], []⟩,
   ⟨(some 91), .load false 1 (.t 90), none, [6], []⟩,
   ⟨(some 92), .bin .eql (.t 89) (.t 91), none, (u 8), []⟩])
 (.cond (.t 92)
 (.seq
 (.region [] [⟨(some 2), .mv (.c (.bool false)), none, [], []⟩])
 .ret)
 .skip)))
 (.region [1, 3, 4, 5] [⟨(some 82), .mv (.t 5), none, [], []⟩,
   ⟨(some 83), .bin .add (.t 82) (.c (.int .i64 1)), none, [], []⟩,
   ⟨(some 5), .mv (.t 83), none, [], []⟩])))
def c34_l1 : CC :=
 (.seq
 (.seq
 (.region [1, 3] [⟨(some 41), .mv (.t 3), none, [], []⟩,
   ⟨(some 42), .faddr 2 (.t 1), none, [], []⟩,
   ⟨(some 43), .load false 1 (.t 42), none, [], []⟩,
   ⟨(some 44), .len false (.t 43), none, [], []⟩,
   ⟨(some 45), .bin .lss (.t 41) (.t 44), none, [], []⟩])
 (.cond (.t 45)
 .skip
 (.exit 0)))
 (.seq
 (.block 1
 (.seq
 (.region [1, 3] [⟨(some 48), .faddr 2 (.t 1), none, [], []⟩,
   ⟨(some 49), .load false 1 (.t 48), none, [], []⟩,
   ⟨(some 50), .mv (.t 3), none, [], []⟩,
   ⟨(some 51), .iaddr 8 (.t 49) (.t 50), none, [], []⟩,
   ⟨(some 52), .load true 8 (.t 51), none, [], []⟩,
   ⟨(some 4), .box 61 8 (.c (.agg [.str ⟨#[]⟩, .int .i64 0, .int .i64 0, .int .i64 0, .nils, .int .i64 0, .bool false, .bool false])), none, [], []⟩,
   ⟨none, .store 8 (.t 4) (.t 52), none, [], []⟩])
 (.seq
 (.seq
 (.region [1, 3, 4] [⟨(some 53), .faddr 0 (.t 4), none, [], []⟩,
   ⟨(some 54), .load false 1 (.t 53), none, [], []⟩,
   ⟨(some 55), .call (.c (.fn 60 [])) [(.t 54)] false, none, [], []⟩,
   ⟨(some 56), .un .not (.t 55), none, [], []⟩,
   ⟨(some 57), .mv (.t 56), none, [], []⟩,
   ⟨(some 58), .faddr 2 (.t 4), some (57, false), [], []⟩,
   ⟨(some 59), .load false 1 (.t 58), some (57, false), [], []⟩,
   ⟨(some 60), .bin .lss (.t 59) (.c (.int .i64 1)), some (57, false), [], []⟩,
   ⟨(some 61), .pick (.t 57) (.c (.bool true)) (.t 60), none, [], []⟩,
   ⟨(some 62), .mv (.t 61), none, [], []⟩,
   ⟨(some 63), .faddr 2 (.t 4), some (62, false), [], []⟩,
   ⟨(some 64), .load false 1 (.t 63), some (62, false), [], []⟩,
   ⟨(some 65), .faddr 3 (.t 4), some (62, false), [], []⟩,
   ⟨(some 66), .load false 1 (.t 65), some (62, false), [], []⟩,
   ⟨(some 67), .bin .gtr (.t 64) (.t 66), some (62, false), [], []⟩,
   ⟨(some 68), .pick (.t 62) (.c (.bool true)) (.t 67), none, [], []⟩,
   ⟨(some 69), .mv (.t 68), none, [], []⟩,
   ⟨(some 70), .faddr 3 (.t 4), some (69, false), [], []⟩,
   ⟨(some 71), .load false 1 (.t 70), some (69, false), [], []⟩,
   ⟨(some 72), .bin .gtr (.t 71) (.c (.int .i64 40)), some (69, false), [], []⟩,
   ⟨(some 73), .pick (.t 69) (.c (.bool true)) (.t 72), none, [], []⟩,
   ⟨(some 74), .mv (.t 73), none, [], []⟩,
   ⟨(some 75), .load true 8 (.t 4), some (74, false), [], []⟩,
   ⟨(some 76), .call (.c (.fn 61 [])) [(.t 75)] false, some (74, false), [], []⟩,
   ⟨(some 77), .un .not (.t 76), some (74, false), [], []⟩,
   ⟨(some 78), .pick (.t 74) (.c (.bool true)) (.t 77), none, [], []⟩])
 (.cond (.t 78)
 (.seq
 (.region [] [⟨(some 2), .mv (.c (.bool false)), none, [], []⟩])
 .ret)
 .skip))
 (.seq
 (.seq
 (.region [1, 3, 4] [⟨(some 5), .mv (.c (.int .i64 0)), none, [], []⟩])
 (.block 2
 (.loop c34_l0)))
 (.seq
 (.seq
 (.region [1, 3, 4] [⟨(some 93), .mv (.t 3), none, [], []⟩,
   ⟨(some 94), .bin .eql (.t 93) (.c (.int .i64 0)), none, [], []⟩])
 (.cond (.t 94)
 (.seq
 (.seq
 (.region [1, 3, 4] [⟨(some 95), .faddr 1 (.t 4), none, [], []⟩,
   ⟨(some 96), .load false 1 (.t 95), none, [], []⟩,
   ⟨(some 97), .bin .neq (.t 96) (.c (.int .i64 (-1))), none, [], []⟩,
   ⟨(some 98), .mv (.t 97), none, [], []⟩,
   ⟨(some 99), .faddr 5 (.t 4), some (98, false), [], []⟩,
   ⟨(some 100), .load false 1 (.t 99), some (98, false), [], []⟩,
   ⟨(some 101), .bin .lss (.t 100) (.c (.int .i64 0)), some (98, false), [], []⟩,
   ⟨(some 102), .pick (.t 98) (.c (.bool true)) (.t 101), none, [], []⟩,
   ⟨(some 103), .mv (.t 102), none, [], []⟩,
   ⟨(some 104), .faddr 6 (.t 4), some (103, false), [], []⟩,
   ⟨(some 105), .load false 1 (.t 104), some (103, false), [], []⟩,
   ⟨(some 106), .un .not (.t 105), some (103, false), [], []⟩,
   ⟨(some 107), .pick (.t 103) (.c (.bool true)) (.t 106), none, [], []⟩,
   ⟨(some 108), .mv (.t 107), none, [], []⟩,
   ⟨(some 109), .faddr 4 (.t 4), some (108, false), [], []⟩,
   ⟨(some 110), .load false 1 (.t 109), some (108, false), [], []⟩,
   ⟨(some 111), .faddr 5 (.t 4), some (108, false), [], []⟩,
   ⟨(some 112), .load false 1 (.t 111), some (108, false), [], []⟩,
   ⟨(some 113), .iaddr 3 (.t 110) (.t 112), some (108, false), [], []⟩,
   ⟨(some 114), .faddr 2 (.t 113), some (108, false), [], []⟩,
   ⟨(some 115), .load false 1 (.t 114), some (108, false), [], []⟩,
   ⟨(some 116), .bin .gtr (.t 115) (.c (.int .i64 24)), some (108, false), [], []⟩,
   ⟨(some 117), .pick (.t 108) (.c (.bool true)) (.t 116), none, [], []⟩])
 (.cond (.t 117)
 (.seq
 (.region [] [⟨(some 2), .mv (.c (.bool false)), none, [], []⟩])
 .ret)
 .skip))
 (.exit 1))
 .skip))
 (.seq
 (.region [1, 3, 4] [⟨(some 118), .faddr 1 (.t 4), none, [], []⟩,
   ⟨(some 119), .load false 1 (.t 118), none, [], []⟩,
   ⟨(some 120), .bin .lss (.t 119) (.c (.int .i64 0)), none, [], []⟩,
   ⟨(some 121), .mv (.t 120), none, [], []⟩,
   ⟨(some 122), .faddr 1 (.t 4), some (121, false), [], []⟩,
   ⟨(some 123), .load false 1 (.t 122), some (121, false), [], []⟩,
   ⟨(some 124), .mv (.t 3), some (121, false), [], []⟩,
   ⟨(some 125), .bin .geq (.t 123) (.t 124), some (121, false), [], []⟩,
   ⟨(some 126), .pick (.t 121) (.c (.bool true)) (.t 125), none, [], []⟩,
   ⟨(some 127), .mv (.t 126), none, [], []⟩,
   ⟨(some 128), .faddr 1 (.t 4), some (127, false), [], []⟩,
   ⟨(some 129), .load false 1 (.t 128), some (127, false), [], []⟩,
   ⟨(some 130), .mv (.t 3), some (127, false), [], []⟩,
   ⟨(some 131), .bin .sub (.t 130) (.c (.int .i64 1)), some (127, false), [], []⟩,
   ⟨(some 132), .bin .neq (.t 129) (.t 131), some (127, false), [], []⟩,
   ⟨(some 133), .mv (.t 132), some (127, false), [], []⟩,
   ⟨(some 134), .load true 4 (.t 1), some (133, true), [], []⟩,
   ⟨(some 135), .faddr 1 (.t 4), some (133, true), [], []⟩,
   ⟨(some 136), .load false 1 (.t 135), some (133, true), [], []⟩,
   ⟨(some 137), .mv (.t 3), some (133, true), [], []⟩,
   ⟨(some 138), .bin .sub (.t 137) (.c (.int .i64 1)), some (133, true), [], []⟩,
   ⟨(some 139), .call (.c (.fn 62 [])) [(.t 134), (.t 136), (.t 138)] false, some (133, true), [], []⟩,
   ⟨(some 140), .un .not (.t 139), some (133, true), [], []⟩,
   ⟨(some 141), .pick (.t 133) (.t 140) (.c (.bool false)), some (127, false), [], []⟩,
   ⟨(some 142), .pick (.t 127) (.c (.bool true)) (.t 141), none, [], []⟩,
   ⟨(some 143), .mv (.t 142), none, [], []⟩,
   ⟨(some 144), .load true 4 (.t 1), some (143, false), [], []⟩,
   ⟨(some 145), .mv (.t 3), some (143, false), [], []⟩,
   ⟨(some 146), .call (.c (.fn 63 [])) [(.t 144), (.t 145)] true, some (143, false), [], []⟩,
   ⟨(some 147), .len false (.t 146), some (143, false), [], []⟩,
   ⟨(some 148), .bin .gtr (.t 147) (.c (.int .i64 5)), some (143, false), [], []⟩,
   ⟨(some 149), .pick (.t 143) (.c (.bool true)) (.t 148), none, [], []⟩])
 (.cond (.t 149)
 (.seq
 (.region [] [⟨(some 2), .mv (.c (.bool false)), none, [], []⟩])
 .ret)
 .skip)))))))
 (.region [1, 3] [⟨(some 46), .mv (.t 3), none, [], []⟩,
   ⟨(some 47), .bin .add (.t 46) (.c (.int .i64 1)), none, [], []⟩,
   ⟨(some 3), .mv (.t 47), none, [], []⟩])))
def c34_l2 : CC :=
 (.seq
 (.seq
 (.region [1, 6, 7, 8] [⟨(some 218), .mv (.t 8), none, [], []⟩,
   ⟨(some 219), .mv (.t 6), none, [], []⟩,
   ⟨(some 220), .bin .lss (.t 218) (.t 219), none, [], []⟩])
 (.cond (.t 220)
 .skip
 (.exit 6)))
 (.seq
 (.block 7
 (.seq
 (.draw [1, 6, 7, 8] [⟨(some 223), .faddr 3 (.t 1), none, [], []⟩,
   ⟨(some 224), .load false 1 (.t 223), none, [0], []⟩,
   ⟨(some 225), .mv (.t 8), none, [], []⟩,
   ⟨(some 226), .iaddr 4 (.t 224) (.t 225), none, [0, 1, 2], []⟩,
   ⟨(some 227), .faddr 0 (.t 226), none, (u 4), []⟩,
   ⟨(some 228), .load false 1 (.t 227), none, (u 5), []⟩,
   ⟨(some 229), .faddr 0 (.t 7), none, [], []⟩,
   ⟨(some 230), .load false 1 (.t 229), none, [6], []⟩,
   ⟨(some 231), .bin .eql (.t 228) (.t 230), none, (u 8), []⟩])
 (.cond (.t 231)
 (.seq
 (.region [] [⟨(some 2), .mv (.c (.bool false)), none, [], []⟩])
 .ret)
 .skip)))
 (.region [1, 6, 7, 8] [⟨(some 221), .mv (.t 8), none, [], []⟩,
   ⟨(some 222), .bin .add (.t 221) (.c (.int .i64 1)), none, [], []⟩,
   ⟨(some 8), .mv (.t 222), none, [], []⟩])))
def c34_l3 : CC :=
 (.seq
 (.seq
 (.region [1, 6] [⟨(some 150), .mv (.t 6), none, [], []⟩,
   ⟨(some 151), .faddr 3 (.t 1), none, [], []⟩,
   ⟨(some 152), .load false 1 (.t 151), none, [], []⟩,
   ⟨(some 153), .len false (.t 152), none, [], []⟩,
   ⟨(some 154), .bin .lss (.t 150) (.t 153), none, [], []⟩])
 (.cond (.t 154)
 .skip
 (.exit 4)))
 (.seq
 (.block 5
 (.seq
 (.region [1, 6] [⟨(some 157), .faddr 3 (.t 1), none, [], []⟩,
   ⟨(some 158), .load false 1 (.t 157), none, [], []⟩,
   ⟨(some 159), .mv (.t 6), none, [], []⟩,
   ⟨(some 160), .iaddr 4 (.t 158) (.t 159), none, [], []⟩,
   ⟨(some 161), .load true 4 (.t 160), none, [], []⟩,
   ⟨(some 7), .box 75 4 (.c (.agg [.str ⟨#[]⟩, .int .i64 0, .int .i64 0, .str ⟨#[]⟩])), none, [], []⟩,
   ⟨none, .store 4 (.t 7) (.t 161), none, [], []⟩])
 (.seq
 (.seq
 (.draw [1, 6, 7] [⟨(some 162), .faddr 0 (.t 7), none, [], []⟩,
   ⟨(some 163), .load false 1 (.t 162), none, [0], []⟩,
   ⟨(some 164), .call (.c (.fn 60 [])) [(.t 163)] false, none, [0, 1], []⟩,
   ⟨(some 165), .un .not (.t 164), none, [0, 1, 2], []⟩,
   ⟨(some 166), .mv (.t 165), none, (u 4), []⟩,
   ⟨(some 167), .faddr 1 (.t 7), some (166, false), (u 5), []⟩,
   ⟨(some 168), .load false 1 (.t 167), some (166, false), (u 6), []⟩,
   ⟨(some 169), .bin .lss (.t 168) (.c (.int .i64 0)), some (166, false), (u 7), []⟩,
   ⟨(some 170), .pick (.t 166) (.c (.bool true)) (.t 169), none, (u 8), []⟩,
   ⟨(some 171), .mv (.t 170), none, (u 9), []⟩,
   ⟨(some 172), .faddr 1 (.t 7), some (171, false), (u 10), []⟩,
   ⟨(some 173), .load false 1 (.t 172), some (171, false), (u 11), []⟩,
   ⟨(some 174), .faddr 2 (.t 1), some (171, false), (u 10), []⟩,
   ⟨(some 175), .load false 1 (.t 174), some (171, false), (u 10 ++ [12]), []⟩,
   ⟨(some 176), .len false (.t 175), some (171, false), (u 10 ++ [12, 13]), []⟩,
   ⟨(some 177), .bin .geq (.t 173) (.t 176), some (171, false), (u 15), []⟩,
   ⟨(some 178), .pick (.t 171) (.c (.bool true)) (.t 177), none, (u 16), []⟩,
   ⟨(some 179), .mv (.t 178), none, (u 17), []⟩,
   ⟨(some 180), .faddr 2 (.t 7), some (179, false), (u 18), []⟩,
   ⟨(some 181), .load false 1 (.t 180), some (179, false), (u 19), []⟩,
   ⟨(some 182), .bin .lss (.t 181) (.c (.int .i64 0)), some (179, false), (u 20), []⟩,
   ⟨(some 183), .pick (.t 179) (.c (.bool true)) (.t 182), none, (u 21), []⟩,
   ⟨(some 184), .mv (.t 183), none, (u 22), []⟩,
   ⟨(some 185), .faddr 2 (.t 7), some (184, false), (u 23), []⟩,
   ⟨(some 186), .load false 1 (.t 185), some (184, false), (u 24), []⟩,
   ⟨(some 187), .faddr 2 (.t 1), some (184, false), (u 23), []⟩,
   ⟨(some 188), .load false 1 (.t 187), some (184, false), (u 23 ++ [25]), []⟩,
   ⟨(some 189), .faddr 1 (.t 7), some (184, false), (u 23), []⟩,
   ⟨(some 190), .load false 1 (.t 189), some (184, false), (u 23 ++ [27]), []⟩,
   ⟨(some 191), .iaddr 8 (.t 188) (.t 190), some (184, false), (u 23 ++ [25, 26, 27, 28]), []⟩,
   ⟨(some 192), .faddr 4 (.t 191), some (184, false), (u 23 ++ [25, 26, 27, 28, 29]), []⟩,
   ⟨(some 193), .load false 1 (.t 192), some (184, false), (u 23 ++ [25, 26, 27, 28, 29, 30]), []⟩,
   ⟨(some 194), .len false (.t 193), some (184, false), (u 23 ++ [25, 26, 27, 28, 29, 30, 31]), []⟩,
   ⟨(some 195), .bin .geq (.t 186) (.t 194), some (184, false), (u 33), []⟩,
   ⟨(some 196), .pick (.t 184) (.c (.bool true)) (.t 195), none, (u 34), []⟩,
   ⟨(some 197), .mv (.t 196), none, (u 35), []⟩,
   ⟨(some 198), .faddr 2 (.t 1), some (197, false), (u 36), []⟩,
   ⟨(some 199), .load false 1 (.t 198), some (197, false), (u 37), []⟩,
   ⟨(some 200), .faddr 1 (.t 7), some (197, false), (u 36), []⟩,
   ⟨(some 201), .load false 1 (.t 200), some (197, false), (u 36 ++ [38]), []⟩,
   ⟨(some 202), .iaddr 8 (.t 199) (.t 201), some (197, false), (u 40), []⟩,
   ⟨(some 203), .faddr 4 (.t 202), some (197, false), (u 41), []⟩,
   ⟨(some 204), .load false 1 (.t 203), some (197, false), (u 42), []⟩,
   ⟨(some 205), .faddr 2 (.t 7), some (197, false), (u 36), []⟩,
   ⟨(some 206), .load false 1 (.t 205), some (197, false), (u 36 ++ [43]), []⟩,
   ⟨(some 207), .iaddr 3 (.t 204) (.t 206), some (197, false), (u 45), []⟩,
   ⟨(some 208), .faddr 2 (.t 207), some (197, false), (u 46), []⟩,
   ⟨(some 209), .load false 1 (.t 208), some (197, false), (u 47), []⟩,
   ⟨(some 210), .bin .gtr (.t 209) (.c (.int .i64 20)), some (197, false), (u 48), []⟩,
   ⟨(some 211), .pick (.t 197) (.c (.bool true)) (.t 210), none, (u 49), []⟩,
   ⟨(some 212), .mv (.t 211), none, (u 50), []⟩,
   ⟨(some 213), .faddr 3 (.t 7), some (212, false), (u 51), []⟩,
   ⟨(some 214), .load false 1 (.t 213), some (212, false), (u 52), []⟩,
   ⟨(some 215), .len true (.t 214), some (212, false), (u 53), []⟩,
   ⟨(some 216), .bin .gtr (.t 215) (.c (.int .i64 1)), some (212, false), (u 54), []⟩,
   ⟨(some 217), .pick (.t 212) (.c (.bool true)) (.t 216), none, (u 55), []⟩])
 (.cond (.t 217)
 (.seq
 (.region [] [⟨(some 2), .mv (.c (.bool false)), none, [], []⟩])
 .ret)
 .skip))
 (.seq
 (.region [1, 6, 7] [⟨(some 8), .mv (.c (.int .i64 0)), none, [], []⟩])
 (.block 6
 (.loop c34_l2))))))
 (.region [1, 6] [⟨(some 155), .mv (.t 6), none, [], []⟩,
   ⟨(some 156), .bin .add (.t 155) (.c (.int .i64 1)), none, [], []⟩,
   ⟨(some 6), .mv (.t 156), none, [], []⟩])))
/-- progeny/progenyref11.Valid -/
def c34 : CFn := ⟨232, [.t 2],
 (.seq
 (.region [0] [⟨(some 1), .box 25 4 (.t 0), none, [], []⟩,
   ⟨(some 2), .mv (.c (.bool false)), none, [], []⟩])
 (.seq
 (.seq
 (.region [1] [⟨(some 9), .faddr 0 (.t 1), none, [], []⟩,
   ⟨(some 10), .load false 1 (.t 9), none, [], []⟩,
   ⟨(some 11), .call (.c (.fn 60 [])) [(.t 10)] false, none, [], []⟩,
   ⟨(some 12), .un .not (.t 11), none, [], []⟩,
   ⟨(some 13), .mv (.t 12), none, [], []⟩,
   ⟨(some 14), .faddr 1 (.t 1), some (13, false), [], []⟩,
   ⟨(some 15), .load false 1 (.t 14), some (13, false), [], []⟩,
   ⟨(some 16), .bin .lss (.t 15) (.c (.int .i64 1)), some (13, false), [], []⟩,
   ⟨(some 17), .pick (.t 13) (.c (.bool true)) (.t 16), none, [], []⟩,
   ⟨(some 18), .mv (.t 17), none, [], []⟩,
   ⟨(some 19), .faddr 1 (.t 1), some (18, false), [], []⟩,
   ⟨(some 20), .load false 1 (.t 19), some (18, false), [], []⟩,
   ⟨(some 21), .bin .gtr (.t 20) (.c (.int .i64 4)), some (18, false), [], []⟩,
   ⟨(some 22), .pick (.t 18) (.c (.bool true)) (.t 21), none, [], []⟩,
   ⟨(some 23), .mv (.t 22), none, [], []⟩,
   ⟨(some 24), .faddr 2 (.t 1), some (23, false), [], []⟩,
   ⟨(some 25), .load false 1 (.t 24), some (23, false), [], []⟩,
   ⟨(some 26), .len false (.t 25), some (23, false), [], []⟩,
   ⟨(some 27), .bin .lss (.t 26) (.c (.int .i64 1)), some (23, false), [], []⟩,
   ⟨(some 28), .pick (.t 23) (.c (.bool true)) (.t 27), none, [], []⟩,
   ⟨(some 29), .mv (.t 28), none, [], []⟩,
   ⟨(some 30), .faddr 2 (.t 1), some (29, false), [], []⟩,
   ⟨(some 31), .load false 1 (.t 30), some (29, false), [], []⟩,
   ⟨(some 32), .len false (.t 31), some (29, false), [], []⟩,
   ⟨(some 33), .bin .gtr (.t 32) (.c (.int .i64 8)), some (29, false), [], []⟩,
   ⟨(some 34), .pick (.t 29) (.c (.bool true)) (.t 33), none, [], []⟩,
   ⟨(some 35), .mv (.t 34), none, [], []⟩,
   ⟨(some 36), .faddr 3 (.t 1), some (35, false), [], []⟩,
   ⟨(some 37), .load false 1 (.t 36), some (35, false), [], []⟩,
   ⟨(some 38), .len false (.t 37), some (35, false), [], []⟩,
   ⟨(some 39), .bin .gtr (.t 38) (.c (.int .i64 3)), some (35, false), [], []⟩,
   ⟨(some 40), .pick (.t 35) (.c (.bool true)) (.t 39), none, [], []⟩])
 (.cond (.t 40)
 (.seq
 (.region [] [⟨(some 2), .mv (.c (.bool false)), none, [], []⟩])
 .ret)
 .skip))
 (.seq
 (.seq
 (.region [1] [⟨(some 3), .mv (.c (.int .i64 0)), none, [], []⟩])
 (.block 0
 (.loop c34_l1)))
 (.seq
 (.seq
 (.region [1] [⟨(some 6), .mv (.c (.int .i64 0)), none, [], []⟩])
 (.block 4
 (.loop c34_l3)))
 (.seq
 (.region [] [⟨(some 2), .mv (.c (.bool true)), none, [], []⟩])
 .ret))))), false, false⟩
def c35_l0 : CC :=
 (.seq
 (.seq
 (.region [1, 2, 5] [⟨(some 14), .mv (.t 5), none, [], []⟩,
   ⟨(some 15), .mv (.t 1), none, [], []⟩,
   ⟨(some 16), .len false (.t 15), none, [], []⟩,
   ⟨(some 17), .bin .lss (.t 14) (.t 16), none, [], []⟩])
 (.cond (.t 17)
 .skip
 (.exit 0)))
 (.seq
 (.block 1
 (.seq
 (.draw [1, 2, 5] [⟨(some 20), .mv (.t 1), none, [], []⟩,
   ⟨(some 21), .mv (.t 5), none, [], []⟩,
   ⟨(some 22), .iaddr 2 (.t 20) (.t 21), none, [0, 1], []⟩,
   ⟨(some 23), .faddr 0 (.t 22), none, [0, 1, 2], []⟩,
   ⟨(some 24), .load false 1 (.t 23), none, (u 4), []⟩,
   ⟨(some 25), .bin .lss (.t 24) (.c (.int .i64 0)), none, (u 5), []⟩,
   ⟨(some 26), .mv (.t 25), none, (u 6), []⟩,
   ⟨(some 27), .mv (.t 1), some (26, false), (u 7), []⟩,
   ⟨(some 28), .mv (.t 5), some (26, false), (u 7), []⟩,
   ⟨(some 29), .iaddr 2 (.t 27) (.t 28), some (26, false), (u 9), []⟩,
   ⟨(some 30), .faddr 0 (.t 29), some (26, false), (u 10), []⟩,
   ⟨(some 31), .load false 1 (.t 30), some (26, false), (u 11), []⟩,
   ⟨(some 32), .faddr 2 (.t 2), some (26, false), (u 7), []⟩,
   ⟨(some 33), .load false 1 (.t 32), some (26, false), (u 7 ++ [12]), []⟩,
   ⟨(some 34), .len false (.t 33), some (26, false), (u 7 ++ [12, 13]), []⟩,
   ⟨(some 35), .bin .geq (.t 31) (.t 34), some (26, false), (u 15), []⟩,
   ⟨(some 36), .pick (.t 26) (.c (.bool true)) (.t 35), none, (u 16), []⟩,
   ⟨(some 37), .mv (.t 36), none, (u 17), []⟩,
   ⟨(some 38), .mv (.t 1), some (37, false), (u 18), []⟩,
   ⟨(some 39), .mv (.t 5), some (37, false), (u 18), []⟩,
   ⟨(some 40), .iaddr 2 (.t 38) (.t 39), some (37, false), (u 20), []⟩,
   ⟨(some 41), .faddr 1 (.t 40), some (37, false), (u 21), []⟩,
   ⟨(some 42), .load false 1 (.t 41), some (37, false), (u 22), []⟩,
   ⟨(some 43), .len true (.t 42), some (37, false), (u 23), []⟩,
   ⟨(some 44), .faddr 2 (.t 2), some (37, false), (u 18), []⟩,
   ⟨(some 45), .load false 1 (.t 44), some (37, false), (u 18 ++ [24]), []⟩,
   ⟨(some 46), .mv (.t 1), some (37, false), (u 18), []⟩,
   ⟨(some 47), .mv (.t 5), some (37, false), (u 18), []⟩,
   ⟨(some 48), .iaddr 2 (.t 46) (.t 47), some (37, false), (u 18 ++ [26, 27]), []⟩,
   ⟨(some 49), .faddr 0 (.t 48), some (37, false), (u 18 ++ [26, 27, 28]), []⟩,
   ⟨(some 50), .load false 1 (.t 49), some (37, false), (u 18 ++ [26, 27, 28, 29]), []⟩,
   ⟨(some 51), .iaddr 8 (.t 45) (.t 50), some (37, false), (u 18 ++ [24, 25, 26, 27, 28, 29, 30]), []⟩,
   ⟨(some 52), .faddr 2 (.t 51), some (37, false), (u 18 ++ [24, 25, 26, 27, 28, 29, 30, 31]), []⟩,
   ⟨(some 53), .load false 1 (.t 52), some (37, false), (u 18 ++ [24, 25, 26, 27, 28, 29, 30, 31, 32]), []⟩,
   ⟨(some 54), .bin .lss (.t 43) (.t 53), some (37, false), (u 34), []⟩,
   ⟨(some 55), .pick (.t 37) (.c (.bool true)) (.t 54), none, (u 35), []⟩,
   ⟨(some 56), .mv (.t 55), none, (u 36), []⟩,
   ⟨(some 57), .mv (.t 1), some (56, false), (u 37), []⟩,
   ⟨(some 58), .mv (.t 5), some (56, false), (u 37), []⟩,
   ⟨(some 59), .iaddr 2 (.t 57) (.t 58), some (56, false), (u 39), []⟩,
   ⟨(some 60), .faddr 1 (.t 59), some (56, false), (u 40), []⟩,
   ⟨(some 61), .load false 1 (.t 60), some (56, false), (u 41), []⟩,
   ⟨(some 62), .len true (.t 61), some (56, false), (u 42), []⟩,
   ⟨(some 63), .faddr 2 (.t 2), some (56, false), (u 37), []⟩,
   ⟨(some 64), .load false 1 (.t 63), some (56, false), (u 37 ++ [43]), []⟩,
   ⟨(some 65), .mv (.t 1), some (56, false), (u 37), []⟩,
   ⟨(some 66), .mv (.t 5), some (56, false), (u 37), []⟩,
   ⟨(some 67), .iaddr 2 (.t 65) (.t 66), some (56, false), (u 37 ++ [45, 46]), []⟩,
   ⟨(some 68), .faddr 0 (.t 67), some (56, false), (u 37 ++ [45, 46, 47]), []⟩,
   ⟨(some 69), .load false 1 (.t 68), some (56, false), (u 37 ++ [45, 46, 47, 48]), []⟩,
   ⟨(some 70), .iaddr 8 (.t 64) (.t 69), some (56, false), (u 37 ++ [43, 44, 45, 46, 47, 48, 49]), []⟩,
   ⟨(some 71), .faddr 3 (.t 70), some (56, false), (u 37 ++ [43, 44, 45, 46, 47, 48, 49, 50]), []⟩,
   ⟨(some 72), .load false 1 (.t 71), some (56, false), (u 37 ++ [43, 44, 45, 46, 47, 48, 49, 50, 51]), []⟩,
   ⟨(some 73), .bin .gtr (.t 62) (.t 72), some (56, false), (u 53), []⟩,
   ⟨(some 74), .pick (.t 56) (.c (.bool true)) (.t 73), none, (u 54), []⟩])
 (.cond (.t 74)
 (.seq
 (.region [] [⟨(some 4), .mv (.c (.bool false)), none, [], []⟩])
 .ret)
 .skip)))
 (.region [1, 2, 5] [⟨(some 18), .mv (.t 5), none, [], []⟩,
   ⟨(some 19), .bin .add (.t 18) (.c (.int .i64 1)), none, [], []⟩,
   ⟨(some 5), .mv (.t 19), none, [], []⟩])))
def c35_l1 : CC :=
 (.seq
 (.seq
 (.region [1, 2, 6, 7, 8] [⟨(some 97), .mv (.t 8), none, [], []⟩,
   ⟨(some 98), .mv (.t 7), none, [], []⟩,
   ⟨(some 99), .bin .gtr (.t 97) (.t 98), none, [], []⟩,
   ⟨(some 100), .mv (.t 99), none, [], []⟩,
   ⟨(some 101), .load true 4 (.t 2), some (100, true), [], []⟩,
   ⟨(some 102), .mv (.t 1), some (100, true), [], []⟩,
   ⟨(some 103), .mv (.t 8), some (100, true), [], []⟩,
   ⟨(some 104), .call (.c (.fn 64 [])) [(.t 101), (.t 102), (.t 103)] false, some (100, true), [], []⟩,
   ⟨(some 105), .mv (.t 7), some (100, true), [], []⟩,
   ⟨(some 106), .bin .neq (.t 104) (.t 105), some (100, true), [], []⟩,
   ⟨(some 107), .pick (.t 100) (.t 106) (.c (.bool false)), none, [], []⟩])
 (.cond (.t 107)
 .skip
 (.exit 4)))
 (.block 5
 (.region [1, 2, 6, 7, 8] [⟨(some 108), .load true 4 (.t 2), none, [], []⟩,
   ⟨(some 109), .mv (.t 1), none, [], []⟩,
   ⟨(some 110), .mv (.t 8), none, [], []⟩,
   ⟨(some 111), .call (.c (.fn 64 [])) [(.t 108), (.t 109), (.t 110)] false, none, [], []⟩,
   ⟨(some 8), .mv (.t 111), none, [], []⟩])))
def c35_l2 : CC :=
 (.seq
 (.seq
 (.region [1, 2, 6] [⟨(some 75), .mv (.t 6), none, [], []⟩,
   ⟨(some 76), .mv (.t 1), none, [], []⟩,
   ⟨(some 77), .len false (.t 76), none, [], []⟩,
   ⟨(some 78), .bin .lss (.t 75) (.t 77), none, [], []⟩])
 (.cond (.t 78)
 .skip
 (.exit 2)))
 (.seq
 (.block 3
 (.seq
 (.region [1, 2, 6] [⟨(some 81), .load true 4 (.t 2), none, [], []⟩,
   ⟨(some 82), .mv (.t 1), none, [], []⟩,
   ⟨(some 83), .mv (.t 6), none, [], []⟩,
   ⟨(some 84), .call (.c (.fn 64 [])) [(.t 81), (.t 82), (.t 83)] false, none, [], []⟩,
   ⟨(some 7), .mv (.t 84), none, [], []⟩])
 (.seq
 (.seq
 (.region [1, 2, 6, 7] [⟨(some 85), .mv (.t 7), none, [], []⟩,
   ⟨(some 86), .bin .lss (.t 85) (.c (.int .i64 0)), none, [], []⟩,
   ⟨(some 87), .mv (.t 86), none, [], []⟩,
   ⟨(some 88), .mv (.t 1), some (87, true), [], []⟩,
   ⟨(some 89), .mv (.t 6), some (87, true), [], []⟩,
   ⟨(some 90), .iaddr 2 (.t 88) (.t 89), some (87, true), [], []⟩,
   ⟨(some 91), .faddr 0 (.t 90), some (87, true), [], []⟩,
   ⟨(some 92), .load false 1 (.t 91), some (87, true), [], []⟩,
   ⟨(some 93), .bin .neq (.t 92) (.c (.int .i64 0)), some (87, true), [], []⟩,
   ⟨(some 94), .pick (.t 87) (.t 93) (.c (.bool false)), none, [], []⟩])
 (.cond (.t 94)
 (.seq
 (.region [] [⟨(some 4), .mv (.c (.bool false)), none, [], []⟩])
 .ret)
 .skip))
 (.seq
 (.region [1, 2, 6, 7] [⟨(some 95), .mv (.t 6), none, [], []⟩,
   ⟨(some 96), .bin .sub (.t 95) (.c (.int .i64 1)), none, [], []⟩,
   ⟨(some 8), .mv (.t 96), none, [], []⟩])
 (.seq
 (.block 4
 (.loop c35_l1))
 (.seq
 (.seq
 (.region [1, 2, 6, 7, 8] [⟨(some 112), .mv (.t 8), none, [], []⟩,
   ⟨(some 113), .mv (.t 7), none, [], []⟩,
   ⟨(some 114), .bin .lss (.t 112) (.t 113), none, [], []⟩])
 (.cond (.t 114)
 (.seq
 (.region [] [⟨(some 4), .mv (.c (.bool false)), none, [], []⟩])
 .ret)
 .skip))
 (.seq
 (.seq
 (.region [1, 2, 6, 7, 8] [⟨(some 115), .mv (.t 8), none, [], []⟩,
   ⟨(some 116), .mv (.t 7), none, [], []⟩,
   ⟨(some 117), .bin .eql (.t 115) (.t 116), none, [], []⟩])
 (.cond (.t 117)
 (.exit 3)
 .skip))
 (.seq
 (.seq
 (.draw [1, 2, 6, 8] [⟨(some 118), .mv (.t 1), none, [], []⟩,
   ⟨(some 119), .mv (.t 8), none, [], []⟩,
   ⟨(some 120), .iaddr 2 (.t 118) (.t 119), none, [0, 1], []⟩,
   ⟨(some 121), .faddr 0 (.t 120), none, [0, 1, 2], []⟩,
   ⟨(some 122), .load false 1 (.t 121), none, (u 4), []⟩,
   ⟨(some 123), .mv (.t 1), none, [], []⟩,
   ⟨(some 124), .mv (.t 6), none, [], []⟩,
   ⟨(some 125), .iaddr 2 (.t 123) (.t 124), none, [5, 6], []⟩,
   ⟨(some 126), .faddr 0 (.t 125), none, [5, 6, 7], []⟩,
   ⟨(some 127), .load false 1 (.t 126), none, [5, 6, 7, 8], []⟩,
   ⟨(some 128), .bin .gtr (.t 122) (.t 127), none, (u 10), []⟩])
 (.cond (.t 128)
 (.seq
 (.region [] [⟨(some 4), .mv (.c (.bool false)), none, [], []⟩])
 .ret)
 .skip))
 (.seq
 (.draw [1, 2, 6, 8] [⟨(some 129), .mv (.t 1), none, [], []⟩,
   ⟨(some 130), .mv (.t 8), none, [], []⟩,
   ⟨(some 131), .iaddr 2 (.t 129) (.t 130), none, [0, 1], []⟩,
   ⟨(some 132), .faddr 0 (.t 131), none, [0, 1, 2], []⟩,
   ⟨(some 133), .load false 1 (.t 132), none, (u 4), []⟩,
   ⟨(some 134), .mv (.t 1), none, [], []⟩,
   ⟨(some 135), .mv (.t 6), none, [], []⟩,
   ⟨(some 136), .iaddr 2 (.t 134) (.t 135), none, [5, 6], []⟩,
   ⟨(some 137), .faddr 0 (.t 136), none, [5, 6, 7], []⟩,
   ⟨(some 138), .load false 1 (.t 137), none, [5, 6, 7, 8], []⟩,
   ⟨(some 139), .bin .eql (.t 133) (.t 138), none, (u 10), []⟩,
   ⟨(some 140), .mv (.t 139), none, (u 11), []⟩,
   ⟨(some 141), .faddr 2 (.t 2), some (140, true), (u 12), []⟩,
   ⟨(some 142), .load false 1 (.t 141), some (140, true), (u 13), []⟩,
   ⟨(some 143), .mv (.t 1), some (140, true), (u 12), []⟩,
   ⟨(some 144), .mv (.t 6), some (140, true), (u 12), []⟩,
   ⟨(some 145), .iaddr 2 (.t 143) (.t 144), some (140, true), (u 12 ++ [14, 15]), []⟩,
   ⟨(some 146), .faddr 0 (.t 145), some (140, true), (u 12 ++ [14, 15, 16]), []⟩,
   ⟨(some 147), .load false 1 (.t 146), some (140, true), (u 12 ++ [14, 15, 16, 17]), []⟩,
   ⟨(some 148), .iaddr 8 (.t 142) (.t 147), some (140, true), (u 19), []⟩,
   ⟨(some 149), .faddr 5 (.t 148), some (140, true), (u 20), []⟩,
   ⟨(some 150), .load false 1 (.t 149), some (140, true), (u 21), []⟩,
   ⟨(some 151), .bin .geq (.t 150) (.c (.int .i64 0)), some (140, true), (u 22), []⟩,
   ⟨(some 152), .pick (.t 140) (.t 151) (.c (.bool false)), none, (u 23), []⟩])
 (.cond (.t 152)
 (.seq
 (.draw [1, 2, 6, 8] [⟨(some 153), .load true 4 (.t 2), none, [], []⟩,
   ⟨(some 154), .mv (.t 1), none, [], []⟩,
   ⟨(some 155), .mv (.t 8), none, [], []⟩,
   ⟨(some 156), .iaddr 2 (.t 154) (.t 155), none, [1, 2], []⟩,
   ⟨(some 157), .load true 2 (.t 156), none, [1, 2, 3], []⟩,
   ⟨(some 158), .call (.c (.fn 45 [])) [(.t 153), (.t 157)] false, none, (u 5), []⟩,
   ⟨(some 159), .load true 4 (.t 2), none, [], [5]⟩,
   ⟨(some 160), .mv (.t 1), none, [], []⟩,
   ⟨(some 161), .mv (.t 6), none, [], []⟩,
   ⟨(some 162), .iaddr 2 (.t 160) (.t 161), none, [7, 8], []⟩,
   ⟨(some 163), .load true 2 (.t 162), none, [7, 8, 9], [5]⟩,
   ⟨(some 164), .call (.c (.fn 45 [])) [(.t 159), (.t 163)] false, none, (u 11), []⟩,
   ⟨(some 9), .mv (.t 158), none, (u 12), []⟩,
   ⟨(some 10), .mv (.t 164), none, (u 13), []⟩])
 (.seq
 (.draw [1, 2, 6, 9, 10] [⟨(some 165), .mv (.t 9), none, [], []⟩,
   ⟨(some 166), .mv (.t 10), none, [], []⟩,
   ⟨(some 167), .bin .gtr (.t 165) (.t 166), none, [0, 1], []⟩,
   ⟨(some 168), .mv (.t 167), none, [0, 1, 2], []⟩,
   ⟨(some 169), .mv (.t 9), some (168, false), (u 4), []⟩,
   ⟨(some 170), .mv (.t 10), some (168, false), (u 4), []⟩,
   ⟨(some 171), .bin .eql (.t 169) (.t 170), some (168, false), (u 6), []⟩,
   ⟨(some 172), .mv (.t 171), some (168, false), (u 7), []⟩,
   ⟨(some 173), .faddr 2 (.t 2), some (172, true), (u 8), []⟩,
   ⟨(some 174), .load false 1 (.t 173), some (172, true), (u 9), []⟩,
   ⟨(some 175), .mv (.t 1), some (172, true), (u 8), []⟩,
   ⟨(some 176), .mv (.t 6), some (172, true), (u 8), []⟩,
   ⟨(some 177), .iaddr 2 (.t 175) (.t 176), some (172, true), (u 8 ++ [10, 11]), []⟩,
   ⟨(some 178), .faddr 0 (.t 177), some (172, true), (u 8 ++ [10, 11, 12]), []⟩,
   ⟨(some 179), .load false 1 (.t 178), some (172, true), (u 8 ++ [10, 11, 12, 13]), []⟩,
   ⟨(some 180), .iaddr 8 (.t 174) (.t 179), some (172, true), (u 15), []⟩,
   ⟨(some 181), .faddr 6 (.t 180), some (172, true), (u 16), []⟩,
   ⟨(some 182), .load false 1 (.t 181), some (172, true), (u 17), []⟩,
   ⟨(some 183), .pick (.t 172) (.t 182) (.c (.bool false)), some (168, false), (u 18), []⟩,
   ⟨(some 184), .pick (.t 168) (.c (.bool true)) (.t 183), none, (u 19), []⟩])
 (.cond (.t 184)
 (.seq
 (.region [] [⟨(some 4), .mv (.c (.bool false)), none, [], []⟩])
 .ret)
 .skip)))
 .skip))))))))))
 (.region [1, 2, 6] [⟨(some 79), .mv (.t 6), none, [], []⟩,
   ⟨(some 80), .bin .add (.t 79) (.c (.int .i64 1)), none, [], []⟩,
   ⟨(some 6), .mv (.t 80), none, [], []⟩])))
/-- progeny/progenyref13.right -/
def c35 : CFn := ⟨185, [.t 4],
 (.seq
 (.region [0, 1] [⟨(some 2), .box 25 4 (.t 0), none, [], []⟩,
   ⟨(some 4), .mv (.c (.bool false)), none, [], []⟩])
 (.seq
 (.seq
 (.region [1, 2] [⟨(some 11), .mv (.t 1), none, [], []⟩,
   ⟨(some 12), .len false (.t 11), none, [], []⟩,
   ⟨(some 13), .bin .gtr (.t 12) (.c (.int .i64 200)), none, [], []⟩])
 (.cond (.t 13)
 (.seq
 (.region [] [⟨(some 4), .mv (.c (.bool false)), none, [], []⟩])
 .ret)
 .skip))
 (.seq
 (.seq
 (.region [1, 2] [⟨(some 5), .mv (.c (.int .i64 0)), none, [], []⟩])
 (.block 0
 (.loop c35_l0)))
 (.seq
 (.seq
 (.region [1, 2] [⟨(some 6), .mv (.c (.int .i64 0)), none, [], []⟩])
 (.block 2
 (.loop c35_l2)))
 (.seq
 (.region [] [⟨(some 4), .mv (.c (.bool true)), none, [], []⟩])
 .ret))))), false, false⟩
/-- progeny/plain.forest -/
def c37 : CFn := ⟨20, [.t 6],
 (.seq
 (.region [0, 1, 2] [⟨(some 3), .box 25 4 (.t 0), none, [], []⟩,
   ⟨(some 4), .box 26 1 (.t 1), none, [], []⟩,
   ⟨(some 6), .mv (.c (.int .i64 0)), none, [], []⟩])
 (.seq
 (.block 0
 (.seq
 (.region [2, 3, 4] [⟨(some 8), .load true 4 (.t 3), none, [], []⟩,
   ⟨(some 9), .call (.c (.fn 32 [])) [(.t 8)] false, none, [], []⟩,
   ⟨(some 10), .un .not (.t 9), none, [], []⟩,
   ⟨(some 7), .mv (.t 10), none, [], []⟩])
 (.cond (.t 7)
 (.seq
 (.region [] [⟨(some 6), .mv (.c (.int .i64 100)), none, [], []⟩])
 .ret)
 (.seq
 (.region [2, 3, 4] [⟨(some 12), .load true 4 (.t 3), none, [], []⟩,
   ⟨(some 13), .load false 1 (.t 4), none, [], []⟩,
   ⟨(some 14), .call (.c (.fn 33 [])) [(.t 12), (.t 13)] false, none, [], []⟩,
   ⟨(some 15), .un .not (.t 14), none, [], []⟩,
   ⟨(some 11), .mv (.t 15), none, [], []⟩])
 (.cond (.t 11)
 (.seq
 (.region [] [⟨(some 6), .mv (.c (.int .i64 120)), none, [], []⟩])
 .ret)
 (.seq
 (.region [2, 4] [⟨(some 17), .mv (.t 2), none, [], []⟩,
   ⟨(some 18), .mkfn 66 [(.t 4)], none, [], []⟩,
   ⟨(some 19), .call (.c (.fn 65 [])) [(.t 17), (.t 18)] false, none, [], []⟩,
   ⟨(some 16), .mv (.t 19), none, [], []⟩])
 (.cond (.t 16)
 (.seq
 (.region [] [⟨(some 6), .mv (.c (.int .i64 2)), none, [], []⟩])
 .ret)
 .skip)))))))
 (.seq
 (.region [] [⟨(some 6), .mv (.c (.int .i64 0)), none, [], []⟩])
 .ret))), false, false⟩
/-- slices.Delete[[]progeny/api.Item,progeny/api.Item] -/
def c38 : CFn := ⟨33, [.t 6],
 (.seq
 (.region [0, 1, 2] [⟨(some 6), .mv (.c (.nils)), none, [], []⟩])
 (.seq
 (.region [0, 1, 2] [⟨(some 8), .mv (.t 0), none, [], []⟩,
   ⟨(some 9), .mv (.t 1), none, [], []⟩,
   ⟨(some 10), .mv (.t 2), none, [], []⟩,
   ⟨(some 11), .mv (.t 0), none, [], []⟩,
   ⟨(some 12), .len false (.t 11), none, [], []⟩,
   ⟨(some 13), .slc 2 (.t 8) (some (.t 9)) (some (.t 10)) (some (.t 12)), none, [], []⟩])
 (.seq
 (.seq
 (.region [0, 1, 2] [⟨(some 14), .mv (.t 1), none, [], []⟩,
   ⟨(some 15), .mv (.t 2), none, [], []⟩,
   ⟨(some 16), .bin .eql (.t 14) (.t 15), none, [], []⟩])
 (.cond (.t 16)
 (.seq
 (.region [0] [⟨(some 17), .mv (.t 0), none, [], []⟩,
   ⟨(some 6), .mv (.t 17), none, [], []⟩])
 .ret)
 .skip))
 (.seq
 (.region [0, 1, 2] [⟨(some 18), .mv (.t 0), none, [], []⟩,
   ⟨(some 19), .len false (.t 18), none, [], []⟩,
   ⟨(some 7), .mv (.t 19), none, [], []⟩])
 (.seq
 (.draw [0, 1, 2, 7] [⟨(some 20), .mv (.t 0), none, [], []⟩,
   ⟨(some 21), .mv (.t 1), none, [], []⟩,
   ⟨(some 22), .slc 2 (.t 20) none (some (.t 21)) none, none, [0, 1], []⟩,
   ⟨(some 23), .mv (.t 0), none, [], []⟩,
   ⟨(some 24), .mv (.t 2), none, [], []⟩,
   ⟨(some 25), .slc 2 (.t 23) (some (.t 24)) none none, none, [3, 4], []⟩,
   ⟨(some 26), .app 50 2 24 true (.t 22) (.t 25), none, (u 6), []⟩,
   ⟨(some 0), .mv (.t 26), none, (u 7), []⟩])
 (.seq
 (.region [0, 7] [⟨(some 27), .mv (.t 0), none, [], []⟩,
   ⟨(some 28), .mv (.t 0), none, [], []⟩,
   ⟨(some 29), .len false (.t 28), none, [], []⟩,
   ⟨(some 30), .mv (.t 7), none, [], []⟩,
   ⟨(some 31), .slc 2 (.t 27) (some (.t 29)) (some (.t 30)) none, none, [], []⟩,
   ⟨none, .clear 2 [.int .i64 0, .str ⟨#[]⟩] (.t 31), none, [], []⟩])
 (.seq
 (.region [0] [⟨(some 32), .mv (.t 0), none, [], []⟩,
   ⟨(some 6), .mv (.t 32), none, [], []⟩])
 .ret))))))), false, false⟩
/-- slices.Clone[[]progeny/api.Item,progeny/api.Item] -/
def c39 : CFn := ⟨8, [.t 2],
 (.seq
 (.region [0] [⟨(some 2), .mv (.c (.nils)), none, [], []⟩])
 (.seq
 (.seq
 (.region [0] [⟨(some 3), .mv (.t 0), none, [], []⟩,
   ⟨(some 4), .eqn false 1 (.t 3) (.c (.nils)), none, [], []⟩])
 (.cond (.t 4)
 (.seq
 (.region [] [⟨(some 2), .mv (.c (.nils)), none, [], []⟩])
 .ret)
 .skip))
 (.seq
 (.region [0] [⟨(some 5), .bslice 50 2 [] [], none, [], []⟩,
   ⟨(some 6), .mv (.t 0), none, [], []⟩,
   ⟨(some 7), .app 50 2 24 false (.t 5) (.t 6), none, [], []⟩,
   ⟨(some 2), .mv (.t 7), none, [], []⟩])
 .ret))), true, false⟩
def c40_l0 : CC :=
 (.seq
 (.seq
 (.draw [1, 2, 3, 7] [⟨(some 17), .mv (.t 2), none, [], []⟩,
   ⟨(some 18), .mv (.t 1), none, [], []⟩,
   ⟨(some 19), .len false (.t 18), none, [1], []⟩,
   ⟨(some 20), .bin .lss (.t 17) (.t 19), none, [0, 1, 2], []⟩,
   ⟨(some 21), .mv (.t 20), none, (u 4), []⟩,
   ⟨(some 22), .load true 4 (.t 3), some (21, true), (u 5), []⟩,
   ⟨(some 23), .mv (.t 1), some (21, true), (u 5), []⟩,
   ⟨(some 24), .mv (.t 2), some (21, true), (u 5), []⟩,
   ⟨(some 25), .iaddr 2 (.t 23) (.t 24), some (21, true), (u 5 ++ [6, 7]), []⟩,
   ⟨(some 26), .faddr 0 (.t 25), some (21, true), (u 5 ++ [6, 7, 8]), []⟩,
   ⟨(some 27), .load false 1 (.t 26), some (21, true), (u 5 ++ [6, 7, 8, 9]), []⟩,
   ⟨(some 28), .call (.c (.fn 67 [])) [(.t 22), (.t 27)] false, some (21, true), (u 11), []⟩,
   ⟨(some 29), .mv (.t 7), some (21, true), (u 5), []⟩,
   ⟨(some 30), .bin .gtr (.t 28) (.t 29), some (21, true), (u 13), []⟩,
   ⟨(some 31), .pick (.t 21) (.t 30) (.c (.bool false)), none, (u 14), []⟩])
 (.cond (.t 31)
 .skip
 (.exit 0)))
 (.seq
 (.block 1
 .skip)
 (.region [1, 2, 3, 7] [⟨(some 32), .mv (.t 2), none, [], []⟩,
   ⟨(some 33), .bin .add (.t 32) (.c (.int .i64 1)), none, [], []⟩,
   ⟨(some 2), .mv (.t 33), none, [], []⟩])))
/-- progeny/plain.end -/
def c40 : CFn := ⟨35, [.t 6],
 (.seq
 (.region [0, 1, 2] [⟨(some 3), .box 25 4 (.t 0), none, [], []⟩,
   ⟨(some 6), .mv (.c (.int .i64 0)), none, [], []⟩])
 (.seq
 (.draw [1, 2, 3] [⟨(some 8), .load true 4 (.t 3), none, [], []⟩,
   ⟨(some 9), .mv (.t 1), none, [], []⟩,
   ⟨(some 10), .mv (.t 2), none, [], []⟩,
   ⟨(some 11), .iaddr 2 (.t 9) (.t 10), none, [1, 2], []⟩,
   ⟨(some 12), .faddr 0 (.t 11), none, [1, 2, 3], []⟩,
   ⟨(some 13), .load false 1 (.t 12), none, [1, 2, 3, 4], []⟩,
   ⟨(some 14), .call (.c (.fn 67 [])) [(.t 8), (.t 13)] false, none, (u 6), []⟩,
   ⟨(some 7), .mv (.t 14), none, (u 7), []⟩])
 (.seq
 (.seq
 (.region [1, 2, 3, 7] [⟨(some 15), .mv (.t 2), none, [], []⟩,
   ⟨(some 16), .bin .add (.t 15) (.c (.int .i64 1)), none, [], []⟩,
   ⟨(some 2), .mv (.t 16), none, [], []⟩])
 (.block 0
 (.loop c40_l0)))
 (.seq
 (.region [2] [⟨(some 34), .mv (.t 2), none, [], []⟩,
   ⟨(some 6), .mv (.t 34), none, [], []⟩])
 .ret)))), false, false⟩
/-- progeny/plain.fits -/
def c42 : CFn := ⟨42, [.t 4],
 (.seq
 (.region [0, 1] [⟨(some 2), .box 25 4 (.t 0), none, [], []⟩,
   ⟨(some 3), .box 50 2 (.t 1), none, [], []⟩,
   ⟨(some 4), .mv (.c (.bool false)), none, [], []⟩])
 (.seq
 (.draw [2, 3] [⟨(some 5), .faddr 0 (.t 3), none, [], []⟩,
   ⟨(some 6), .load false 1 (.t 5), none, [0], []⟩,
   ⟨(some 7), .bin .geq (.t 6) (.c (.int .i64 0)), none, [0, 1], []⟩,
   ⟨(some 8), .mv (.t 7), none, [0, 1, 2], []⟩,
   ⟨(some 9), .faddr 0 (.t 3), some (8, true), (u 4), []⟩,
   ⟨(some 10), .load false 1 (.t 9), some (8, true), (u 5), []⟩,
   ⟨(some 11), .faddr 2 (.t 2), some (8, true), (u 4), []⟩,
   ⟨(some 12), .load false 1 (.t 11), some (8, true), (u 4 ++ [6]), []⟩,
   ⟨(some 13), .len false (.t 12), some (8, true), (u 4 ++ [6, 7]), []⟩,
   ⟨(some 14), .bin .lss (.t 10) (.t 13), some (8, true), (u 9), []⟩,
   ⟨(some 15), .pick (.t 8) (.t 14) (.c (.bool false)), none, (u 10), []⟩,
   ⟨(some 16), .mv (.t 15), none, (u 11), []⟩,
   ⟨(some 17), .faddr 1 (.t 3), some (16, true), (u 12), []⟩,
   ⟨(some 18), .load false 1 (.t 17), some (16, true), (u 13), []⟩,
   ⟨(some 19), .len true (.t 18), some (16, true), (u 14), []⟩,
   ⟨(some 20), .faddr 2 (.t 2), some (16, true), (u 12), []⟩,
   ⟨(some 21), .load false 1 (.t 20), some (16, true), (u 12 ++ [15]), []⟩,
   ⟨(some 22), .faddr 0 (.t 3), some (16, true), (u 12), []⟩,
   ⟨(some 23), .load false 1 (.t 22), some (16, true), (u 12 ++ [17]), []⟩,
   ⟨(some 24), .iaddr 8 (.t 21) (.t 23), some (16, true), (u 12 ++ [15, 16, 17, 18]), []⟩,
   ⟨(some 25), .faddr 2 (.t 24), some (16, true), (u 12 ++ [15, 16, 17, 18, 19]), []⟩,
   ⟨(some 26), .load false 1 (.t 25), some (16, true), (u 12 ++ [15, 16, 17, 18, 19, 20]), []⟩,
   ⟨(some 27), .bin .geq (.t 19) (.t 26), some (16, true), (u 22), []⟩,
   ⟨(some 28), .pick (.t 16) (.t 27) (.c (.bool false)), none, (u 23), []⟩,
   ⟨(some 29), .mv (.t 28), none, (u 24), []⟩,
   ⟨(some 30), .faddr 1 (.t 3), some (29, true), (u 25), []⟩,
   ⟨(some 31), .load false 1 (.t 30), some (29, true), (u 26), []⟩,
   ⟨(some 32), .len true (.t 31), some (29, true), (u 27), []⟩,
   ⟨(some 33), .faddr 2 (.t 2), some (29, true), (u 25), []⟩,
   ⟨(some 34), .load false 1 (.t 33), some (29, true), (u 25 ++ [28]), []⟩,
   ⟨(some 35), .faddr 0 (.t 3), some (29, true), (u 25), []⟩,
   ⟨(some 36), .load false 1 (.t 35), some (29, true), (u 25 ++ [30]), []⟩,
   ⟨(some 37), .iaddr 8 (.t 34) (.t 36), some (29, true), (u 25 ++ [28, 29, 30, 31]), []⟩,
   ⟨(some 38), .faddr 3 (.t 37), some (29, true), (u 25 ++ [28, 29, 30, 31, 32]), []⟩,
   ⟨(some 39), .load false 1 (.t 38), some (29, true), (u 25 ++ [28, 29, 30, 31, 32, 33]), []⟩,
   ⟨(some 40), .bin .leq (.t 32) (.t 39), some (29, true), (u 35), []⟩,
   ⟨(some 41), .pick (.t 29) (.t 40) (.c (.bool false)), none, (u 36), []⟩,
   ⟨(some 4), .mv (.t 41), none, (u 37), []⟩])
 .ret)), false, false⟩
/-- progeny/plain.key -/
def c43 : CFn := ⟨24, [.t 4],
 (.seq
 (.region [0, 1] [⟨(some 2), .box 61 8 (.t 0), none, [], []⟩,
   ⟨(some 4), .mv (.c (.str ⟨#[]⟩)), none, [], []⟩])
 (.seq
 (.seq
 (.region [1, 2] [⟨(some 6), .faddr 5 (.t 2), none, [], []⟩,
   ⟨(some 7), .load false 1 (.t 6), none, [], []⟩,
   ⟨(some 8), .bin .lss (.t 7) (.c (.int .i64 0)), none, [], []⟩])
 (.cond (.t 8)
 (.seq
 (.region [] [⟨(some 4), .mv (.c (.str ⟨#[]⟩)), none, [], []⟩])
 .ret)
 .skip))
 (.seq
 (.region [1, 2] [⟨(some 9), .faddr 4 (.t 2), none, [], []⟩,
   ⟨(some 10), .load false 1 (.t 9), none, [], []⟩,
   ⟨(some 11), .faddr 5 (.t 2), none, [], []⟩,
   ⟨(some 12), .load false 1 (.t 11), none, [], []⟩,
   ⟨(some 13), .iaddr 3 (.t 10) (.t 12), none, [], []⟩,
   ⟨(some 14), .load true 3 (.t 13), none, [], []⟩,
   ⟨(some 5), .box 79 3 (.c (.agg [.str ⟨#[]⟩, .int .i64 0, .int .i64 0])), none, [], []⟩,
   ⟨none, .store 3 (.t 5) (.t 14), none, [], []⟩])
 (.seq
 (.region [1, 5] [⟨(some 15), .mv (.t 1), none, [], []⟩,
   ⟨(some 16), .faddr 1 (.t 5), none, [], []⟩,
   ⟨(some 17), .load false 1 (.t 16), none, [], []⟩,
   ⟨(some 18), .faddr 1 (.t 5), none, [], []⟩,
   ⟨(some 19), .load false 1 (.t 18), none, [], []⟩,
   ⟨(some 20), .faddr 2 (.t 5), none, [], []⟩,
   ⟨(some 21), .load false 1 (.t 20), none, [], []⟩,
   ⟨(some 22), .bin .add (.t 19) (.t 21), none, [], []⟩,
   ⟨(some 23), .slcs (.t 15) (some (.t 17)) (some (.t 22)), none, [], []⟩,
   ⟨(some 4), .mv (.t 23), none, [], []⟩])
 .ret)))), false, false⟩
/-- progeny/progenyref13.key -/
def c45 : CFn := ⟨40, [.t 4],
 (.seq
 (.region [0, 1] [⟨(some 2), .box 25 4 (.t 0), none, [], []⟩,
   ⟨(some 3), .box 50 2 (.t 1), none, [], []⟩,
   ⟨(some 4), .mv (.c (.str ⟨#[]⟩)), none, [], []⟩])
 (.seq
 (.region [2, 3] [⟨(some 6), .faddr 2 (.t 2), none, [], []⟩,
   ⟨(some 7), .load false 1 (.t 6), none, [], []⟩,
   ⟨(some 8), .faddr 0 (.t 3), none, [], []⟩,
   ⟨(some 9), .load false 1 (.t 8), none, [], []⟩,
   ⟨(some 10), .iaddr 8 (.t 7) (.t 9), none, [], []⟩,
   ⟨(some 11), .load true 8 (.t 10), none, [], []⟩,
   ⟨(some 5), .box 61 8 (.c (.agg [.str ⟨#[]⟩, .int .i64 0, .int .i64 0, .int .i64 0, .nils, .int .i64 0, .bool false, .bool false])), none, [], []⟩,
   ⟨none, .store 8 (.t 5) (.t 11), none, [], []⟩])
 (.seq
 (.seq
 (.region [3, 5] [⟨(some 12), .faddr 5 (.t 5), none, [], []⟩,
   ⟨(some 13), .load false 1 (.t 12), none, [], []⟩,
   ⟨(some 14), .bin .lss (.t 13) (.c (.int .i64 0)), none, [], []⟩])
 (.cond (.t 14)
 (.seq
 (.region [] [⟨(some 4), .mv (.c (.str ⟨#[]⟩)), none, [], []⟩])
 .ret)
 .skip))
 (.seq
 (.draw [3, 5] [⟨(some 15), .faddr 1 (.t 3), none, [], []⟩,
   ⟨(some 16), .load false 1 (.t 15), none, [0], []⟩,
   ⟨(some 17), .faddr 4 (.t 5), none, [], []⟩,
   ⟨(some 18), .load false 1 (.t 17), none, [2], []⟩,
   ⟨(some 19), .faddr 5 (.t 5), none, [], []⟩,
   ⟨(some 20), .load false 1 (.t 19), none, [4], []⟩,
   ⟨(some 21), .iaddr 3 (.t 18) (.t 20), none, [2, 3, 4, 5], []⟩,
   ⟨(some 22), .faddr 1 (.t 21), none, [2, 3, 4, 5, 6], []⟩,
   ⟨(some 23), .load false 1 (.t 22), none, [2, 3, 4, 5, 6, 7], []⟩,
   ⟨(some 24), .faddr 4 (.t 5), none, [], []⟩,
   ⟨(some 25), .load false 1 (.t 24), none, [9], []⟩,
   ⟨(some 26), .faddr 5 (.t 5), none, [], []⟩,
   ⟨(some 27), .load false 1 (.t 26), none, [11], []⟩,
   ⟨(some 28), .iaddr 3 (.t 25) (.t 27), none, [9, 10, 11, 12], []⟩,
   ⟨(some 29), .faddr 1 (.t 28), none, [9, 10, 11, 12, 13], []⟩,
   ⟨(some 30), .load false 1 (.t 29), none, [9, 10, 11, 12, 13, 14], []⟩,
   ⟨(some 31), .faddr 4 (.t 5), none, [], []⟩,
   ⟨(some 32), .load false 1 (.t 31), none, [16], []⟩,
   ⟨(some 33), .faddr 5 (.t 5), none, [], []⟩,
   ⟨(some 34), .load false 1 (.t 33), none, [18], []⟩,
   ⟨(some 35), .iaddr 3 (.t 32) (.t 34), none, [16, 17, 18, 19], []⟩,
   ⟨(some 36), .faddr 2 (.t 35), none, [16, 17, 18, 19, 20], []⟩,
   ⟨(some 37), .load false 1 (.t 36), none, [16, 17, 18, 19, 20, 21], []⟩,
   ⟨(some 38), .bin .add (.t 30) (.t 37), none, [9, 10, 11, 12, 13, 14, 15, 16, 17, 18, 19, 20, 21, 22], []⟩,
   ⟨(some 39), .slcs (.t 16) (some (.t 23)) (some (.t 38)), none, (u 24), []⟩,
   ⟨(some 4), .mv (.t 39), none, (u 25), []⟩])
 .ret)))), false, false⟩
def c47_l0 : CC :=
 (.seq
 (.region [0, 1, 7, 8] [⟨(some 9), .bin .lss (.t 8) (.t 7), none, [], []⟩])
 (.seq
 (.cond (.t 9)
 .skip
 (.exit 0))
 (.seq
 (.block 1
 (.seq
 (.region [0, 1, 7, 8] [⟨(some 10), .mv (.t 8), none, [], []⟩,
   ⟨(some 5), .mv (.t 10), none, [], []⟩])
 (.seq
 (.region [0, 1, 5, 7, 8] [⟨(some 11), .mv (.t 1), none, [], []⟩,
   ⟨(some 12), .mv (.t 0), none, [], []⟩,
   ⟨(some 13), .mv (.t 5), none, [], []⟩,
   ⟨(some 14), .iaddr 1 (.t 12) (.t 13), none, [], []⟩,
   ⟨(some 15), .load false 1 (.t 14), none, [], []⟩,
   ⟨(some 16), .bin .eql (.t 11) (.t 15), none, [], []⟩])
 (.cond (.t 16)
 (.seq
 (.region [5] [⟨(some 17), .mv (.t 5), none, [], []⟩,
   ⟨(some 4), .mv (.t 17), none, [], []⟩])
 .ret)
 .skip))))
 (.region [0, 1, 7, 8] [⟨(some 18), .bin .add (.t 8) (.c (.int .i64 1)), none, [], []⟩,
   ⟨(some 8), .mv (.t 18), none, [], []⟩]))))
/-- slices.Index[[]int,int] -/
def c47 : CFn := ⟨19, [.t 4],
 (.seq
 (.region [0, 1] [⟨(some 4), .mv (.c (.int .i64 0)), none, [], []⟩])
 (.seq
 (.seq
 (.region [0, 1] [⟨(some 6), .mv (.t 0), none, [], []⟩,
   ⟨(some 7), .len false (.t 6), none, [], []⟩,
   ⟨(some 8), .mv (.c (.int .i64 0)), none, [], []⟩])
 (.block 0
 (.loop c47_l0)))
 (.seq
 (.region [] [⟨(some 4), .mv (.c (.int .i64 (-1))), none, [], []⟩])
 .ret))), false, false⟩
def c50_l0 : CC :=
 (.seq
 (.region [1, 3, 5, 13, 14, 15, 16, 83, 84, 85] [⟨(some 86), .bin .lss (.t 85) (.t 84), none, [], []⟩])
 (.seq
 (.cond (.t 86)
 .skip
 (.exit 1))
 (.seq
 (.block 2
 (.seq
 (.region [1, 3, 5, 13, 14, 15, 16, 83, 84, 85] [⟨(some 87), .iaddr 1 (.t 83) (.t 85), none, [], []⟩,
   ⟨(some 88), .load false 1 (.t 87), none, [], []⟩,
   ⟨(some 18), .mv (.t 88), none, [], []⟩])
 (.seq
 (.region [1, 3, 5, 13, 14, 15, 16, 18, 83, 84, 85] [⟨(some 89), .mv (.t 1), none, [], []⟩,
   ⟨(some 90), .mv (.t 18), none, [], []⟩,
   ⟨(some 91), .iaddr 2 (.t 89) (.t 90), none, [], []⟩,
   ⟨(some 92), .faddr 0 (.t 91), none, [], []⟩,
   ⟨(some 93), .load false 1 (.t 92), none, [], []⟩,
   ⟨(some 94), .mv (.t 3), none, [], []⟩,
   ⟨(some 95), .bin .lss (.t 93) (.t 94), none, [], []⟩,
   ⟨(some 19), .mv (.t 95), none, [], []⟩])
 (.seq
 (.seq
 (.region [1, 3, 5, 13, 14, 15, 16, 18, 19, 83, 84, 85] [⟨(some 96), .mv (.t 1), none, [], []⟩,
   ⟨(some 97), .mv (.t 18), none, [], []⟩,
   ⟨(some 98), .iaddr 2 (.t 96) (.t 97), none, [], []⟩,
   ⟨(some 99), .faddr 0 (.t 98), none, [], []⟩,
   ⟨(some 100), .load false 1 (.t 99), none, [], []⟩,
   ⟨(some 101), .mv (.t 3), none, [], []⟩,
   ⟨(some 102), .bin .eql (.t 100) (.t 101), none, [], []⟩])
 (.cond (.t 102)
 (.seq
 (.draw [1, 3, 5, 13, 14, 15, 16, 18, 83, 84, 85] [⟨(some 103), .load true 8 (.t 13), none, [], []⟩,
   ⟨(some 104), .mv (.t 1), none, [], []⟩,
   ⟨(some 105), .mv (.t 18), none, [], []⟩,
   ⟨(some 106), .iaddr 2 (.t 104) (.t 105), none, [1, 2], []⟩,
   ⟨(some 107), .faddr 1 (.t 106), none, [1, 2, 3], []⟩,
   ⟨(some 108), .load false 1 (.t 107), none, [1, 2, 3, 4], []⟩,
   ⟨(some 109), .call (.c (.fn 43 [])) [(.t 103), (.t 108)] false, none, (u 6), []⟩,
   ⟨(some 20), .mv (.t 109), none, (u 7), []⟩])
 (.seq
 (.seq
 (.region [1, 3, 5, 13, 14, 15, 16, 18, 20, 83, 84, 85] [⟨(some 110), .faddr 6 (.t 13), none, [], []⟩,
   ⟨(some 111), .load false 1 (.t 110), none, [], []⟩,
   ⟨(some 112), .mv (.t 111), none, [], []⟩,
   ⟨(some 113), .mv (.t 20), some (112, true), [], []⟩,
   ⟨(some 114), .mv (.t 15), some (112, true), [], []⟩,
   ⟨(some 115), .bin .eql (.t 113) (.t 114), some (112, true), [], []⟩,
   ⟨(some 116), .pick (.t 112) (.t 115) (.c (.bool false)), none, [], []⟩])
 (.cond (.t 116)
 (.seq
 (.region [] [⟨(some 10), .mv (.c (.int .i64 0)), none, [], []⟩,
   ⟨(some 11), .mv (.c (.int .i64 90)), none, [], []⟩])
 .ret)
 .skip))
 (.region [1, 3, 5, 13, 14, 15, 16, 18, 20, 83, 84, 85] [⟨(some 117), .mv (.t 20), none, [], []⟩,
   ⟨(some 118), .mv (.t 15), none, [], []⟩,
   ⟨(some 119), .bin .lss (.t 117) (.t 118), none, [], []⟩,
   ⟨(some 120), .mv (.t 119), none, [], []⟩,
   ⟨(some 121), .mv (.t 20), some (120, false), [], []⟩,
   ⟨(some 122), .mv (.t 15), some (120, false), [], []⟩,
   ⟨(some 123), .bin .eql (.t 121) (.t 122), some (120, false), [], []⟩,
   ⟨(some 124), .mv (.t 123), some (120, false), [], []⟩,
   ⟨(some 125), .faddr 7 (.t 13), some (124, true), [], []⟩,
   ⟨(some 126), .load false 1 (.t 125), some (124, true), [], []⟩,
   ⟨(some 127), .pick (.t 124) (.t 126) (.c (.bool false)), some (120, false), [], []⟩,
   ⟨(some 128), .pick (.t 120) (.c (.bool true)) (.t 127), none, [], []⟩,
   ⟨(some 19), .mv (.t 128), none, [], []⟩])))
 .skip))
 (.seq
 (.region [1, 3, 5, 13, 14, 15, 16, 18, 19, 83, 84, 85] [⟨(some 129), .mv (.t 16), none, [], []⟩,
   ⟨(some 130), .mv (.t 129), none, [], []⟩,
   ⟨(some 131), .mv (.t 19), some (130, false), [], []⟩,
   ⟨(some 132), .un .not (.t 131), some (130, false), [], []⟩,
   ⟨(some 133), .pick (.t 130) (.c (.bool true)) (.t 132), none, [], []⟩,
   ⟨(some 16), .mv (.t 133), none, [], []⟩])
 (.seq
 (.region [1, 3, 5, 13, 14, 15, 16, 18, 83, 84, 85] [⟨(some 134), .mv (.t 16), none, [], []⟩,
   ⟨(some 135), .un .not (.t 134), none, [], []⟩])
 (.cond (.t 135)
 (.region [1, 3, 5, 13, 15, 16, 18, 83, 84, 85] [⟨(some 136), .load true 4 (.t 5), none, [], []⟩,
   ⟨(some 137), .mv (.t 1), none, [], []⟩,
   ⟨(some 138), .mv (.t 18), none, [], []⟩,
   ⟨(some 139), .call (.c (.fn 40 [])) [(.t 136), (.t 137), (.t 138)] false, none, [], []⟩,
   ⟨(some 14), .mv (.t 139), none, [], []⟩])
 .skip)))))))
 (.region [1, 3, 5, 13, 14, 15, 16, 83, 84, 85] [⟨(some 140), .bin .add (.t 85) (.c (.int .i64 1)), none, [], []⟩,
   ⟨(some 85), .mv (.t 140), none, [], []⟩]))))
/-- progeny/plain.place -/
def c50 : CFn := ⟨142, [.t 10, .t 11],
 (.seq
 (.region [0, 1, 2, 3, 4] [⟨(some 5), .box 25 4 (.t 0), none, [], []⟩,
   ⟨(some 10), .mv (.c (.int .i64 0)), none, [], []⟩,
   ⟨(some 11), .mv (.c (.int .i64 0)), none, [], []⟩])
 (.seq
 (.region [1, 2, 3, 4, 5] [⟨(some 21), .load true 4 (.t 5), none, [], []⟩,
   ⟨(some 22), .mv (.t 1), none, [], []⟩,
   ⟨(some 23), .call (.c (.fn 37 [])) [(.t 21), (.t 22), (.c (.nils))] false, none, [], []⟩,
   ⟨(some 12), .mv (.t 23), none, [], []⟩])
 (.seq
 (.block 0
 (.seq
 (.region [1, 2, 3, 4, 5, 12] [⟨(some 25), .mv (.t 12), none, [], []⟩,
   ⟨(some 26), .bin .neq (.t 25) (.c (.int .i64 0)), none, [], []⟩,
   ⟨(some 24), .mv (.t 26), none, [], []⟩])
 (.cond (.t 24)
 (.seq
 (.region [12] [⟨(some 27), .mv (.t 12), none, [], []⟩,
   ⟨(some 10), .mv (.c (.int .i64 0)), none, [], []⟩,
   ⟨(some 11), .mv (.t 27), none, [], []⟩])
 .ret)
 (.seq
 (.region [1, 2, 3, 4, 5] [⟨(some 29), .mv (.t 2), none, [], []⟩,
   ⟨(some 30), .bin .lss (.t 29) (.c (.int .i64 (-1))), none, [], []⟩,
   ⟨(some 31), .mv (.t 30), none, [], []⟩,
   ⟨(some 32), .mv (.t 2), some (31, false), [], []⟩,
   ⟨(some 33), .mv (.t 1), some (31, false), [], []⟩,
   ⟨(some 34), .len false (.t 33), some (31, false), [], []⟩,
   ⟨(some 35), .bin .geq (.t 32) (.t 34), some (31, false), [], []⟩,
   ⟨(some 36), .pick (.t 31) (.c (.bool true)) (.t 35), none, [], []⟩,
   ⟨(some 37), .mv (.t 36), none, [], []⟩,
   ⟨(some 38), .load true 4 (.t 5), some (37, false), [], []⟩,
   ⟨(some 39), .mv (.t 3), some (37, false), [], []⟩,
   ⟨(some 40), .mv (.t 4), some (37, false), [], []⟩,
   ⟨(some 41), .build [.int .i64 0, .str ⟨#[]⟩] [(0, 1, (.t 39)), (1, 1, (.t 40))], some (37, false), [], []⟩,
   ⟨(some 42), .call (.c (.fn 42 [])) [(.t 38), (.t 41)] false, some (37, false), [], []⟩,
   ⟨(some 43), .un .not (.t 42), some (37, false), [], []⟩,
   ⟨(some 44), .pick (.t 37) (.c (.bool true)) (.t 43), none, [], []⟩,
   ⟨(some 28), .mv (.t 44), none, [], []⟩])
 (.cond (.t 28)
 (.seq
 (.region [] [⟨(some 10), .mv (.c (.int .i64 0)), none, [], []⟩,
   ⟨(some 11), .mv (.c (.int .i64 2)), none, [], []⟩])
 .ret)
 (.seq
 (.draw [1, 2, 3, 4, 5] [⟨(some 46), .mv (.t 2), none, [], []⟩,
   ⟨(some 47), .bin .lss (.t 46) (.c (.int .i64 0)), none, [0], []⟩,
   ⟨(some 48), .mv (.t 47), none, [0, 1], []⟩,
   ⟨(some 49), .mv (.t 3), some (48, true), [0, 1, 2], []⟩,
   ⟨(some 50), .bin .neq (.t 49) (.c (.int .i64 0)), some (48, true), (u 4), []⟩,
   ⟨(some 51), .pick (.t 48) (.t 50) (.c (.bool false)), none, (u 5), []⟩,
   ⟨(some 52), .mv (.t 51), none, (u 6), []⟩,
   ⟨(some 53), .mv (.t 2), some (52, false), (u 7), []⟩,
   ⟨(some 54), .bin .geq (.t 53) (.c (.int .i64 0)), some (52, false), (u 8), []⟩,
   ⟨(some 55), .mv (.t 54), some (52, false), (u 9), []⟩,
   ⟨(some 56), .faddr 2 (.t 5), some (55, true), (u 10), []⟩,
   ⟨(some 57), .load false 1 (.t 56), some (55, true), (u 11), []⟩,
   ⟨(some 58), .mv (.t 3), some (55, true), (u 10), []⟩,
   ⟨(some 59), .iaddr 8 (.t 57) (.t 58), some (55, true), (u 13), []⟩,
   ⟨(some 60), .faddr 1 (.t 59), some (55, true), (u 14), []⟩,
   ⟨(some 61), .load false 1 (.t 60), some (55, true), (u 15), []⟩,
   ⟨(some 62), .mv (.t 1), some (55, true), (u 10), []⟩,
   ⟨(some 63), .mv (.t 2), some (55, true), (u 10), []⟩,
   ⟨(some 64), .iaddr 2 (.t 62) (.t 63), some (55, true), (u 10 ++ [16, 17]), []⟩,
   ⟨(some 65), .faddr 0 (.t 64), some (55, true), (u 10 ++ [16, 17, 18]), []⟩,
   ⟨(some 66), .load false 1 (.t 65), some (55, true), (u 10 ++ [16, 17, 18, 19]), []⟩,
   ⟨(some 67), .bin .neq (.t 61) (.t 66), some (55, true), (u 21), []⟩,
   ⟨(some 68), .pick (.t 55) (.t 67) (.c (.bool false)), some (52, false), (u 22), []⟩,
   ⟨(some 69), .pick (.t 52) (.c (.bool true)) (.t 68), none, (u 23), []⟩,
   ⟨(some 45), .mv (.t 69), none, (u 24), []⟩])
 (.cond (.t 45)
 (.seq
 (.region [] [⟨(some 10), .mv (.c (.int .i64 0)), none, [], []⟩,
   ⟨(some 11), .mv (.c (.int .i64 2)), none, [], []⟩])
 .ret)
 .skip)))))))
 (.seq
 (.region [1, 2, 3, 4, 5] [⟨(some 70), .faddr 2 (.t 5), none, [], []⟩,
   ⟨(some 71), .load false 1 (.t 70), none, [], []⟩,
   ⟨(some 72), .mv (.t 3), none, [], []⟩,
   ⟨(some 73), .iaddr 8 (.t 71) (.t 72), none, [], []⟩,
   ⟨(some 74), .load true 8 (.t 73), none, [], []⟩,
   ⟨(some 13), .box 61 8 (.c (.agg [.str ⟨#[]⟩, .int .i64 0, .int .i64 0, .int .i64 0, .nils, .int .i64 0, .bool false, .bool false])), none, [], []⟩,
   ⟨none, .store 8 (.t 13) (.t 74), none, [], []⟩])
 (.seq
 (.region [1, 2, 3, 4, 5, 13] [⟨(some 75), .mv (.t 2), none, [], []⟩,
   ⟨(some 76), .bin .add (.t 75) (.c (.int .i64 1)), none, [], []⟩,
   ⟨(some 14), .mv (.t 76), none, [], []⟩])
 (.seq
 (.region [1, 2, 3, 4, 5, 13, 14] [⟨(some 77), .load true 8 (.t 13), none, [], []⟩,
   ⟨(some 78), .mv (.t 4), none, [], []⟩,
   ⟨(some 79), .call (.c (.fn 43 [])) [(.t 77), (.t 78)] false, none, [], []⟩,
   ⟨(some 15), .mv (.t 79), none, [], []⟩])
 (.seq
 (.region [1, 2, 3, 5, 13, 14, 15] [⟨(some 16), .mv (.c (.bool false)), none, [], []⟩])
 (.seq
 (.seq
 (.region [1, 2, 3, 5, 13, 14, 15, 16] [⟨(some 80), .load true 4 (.t 5), none, [], []⟩,
   ⟨(some 81), .mv (.t 1), none, [], []⟩,
   ⟨(some 82), .mv (.t 2), none, [], []⟩,
   ⟨(some 83), .call (.c (.fn 73 [])) [(.t 80), (.t 81), (.t 82)] true, none, [], []⟩,
   ⟨(some 84), .len false (.t 83), none, [], []⟩,
   ⟨(some 85), .mv (.c (.int .i64 0)), none, [], []⟩])
 (.block 1
 (.loop c50_l0)))
 (.seq
 (.region [14] [⟨(some 141), .mv (.t 14), none, [], []⟩,
   ⟨(some 10), .mv (.t 141), none, [], []⟩,
   ⟨(some 11), .mv (.c (.int .i64 0)), none, [], []⟩])
 .ret))))))))), false, false⟩
/-- slices.Insert[[]progeny/api.Item,progeny/api.Item] -/
def c52 : CFn := ⟨0, [.t 0], .user (pIns 2 50 24), false, false⟩
def c53_l0 : CC :=
 (.seq
 (.seq
 (.region [1, 2, 7] [⟨(some 22), .mv (.t 1), none, [], []⟩,
   ⟨(some 23), .mv (.t 2), none, [], []⟩,
   ⟨(some 24), .iaddr 2 (.t 22) (.t 23), none, [], []⟩,
   ⟨(some 25), .faddr 0 (.t 24), none, [], []⟩,
   ⟨(some 26), .load false 1 (.t 25), none, [], []⟩,
   ⟨(some 27), .mv (.t 7), none, [], []⟩,
   ⟨(some 28), .bin .neq (.t 26) (.t 27), none, [], []⟩])
 (.cond (.t 28)
 .skip
 (.exit 0)))
 (.seq
 (.block 1
 .skip)
 (.region [1, 2, 7] [⟨(some 29), .mv (.t 2), none, [], []⟩,
   ⟨(some 30), .bin .sub (.t 29) (.c (.int .i64 1)), none, [], []⟩,
   ⟨(some 2), .mv (.t 30), none, [], []⟩])))
/-- progeny/plain.parent -/
def c53 : CFn := ⟨32, [.t 6],
 (.seq
 (.region [0, 1, 2] [⟨(some 3), .box 25 4 (.t 0), none, [], []⟩,
   ⟨(some 6), .mv (.c (.int .i64 0)), none, [], []⟩])
 (.seq
 (.draw [1, 2, 3] [⟨(some 8), .faddr 2 (.t 3), none, [], []⟩,
   ⟨(some 9), .load false 1 (.t 8), none, [0], []⟩,
   ⟨(some 10), .mv (.t 1), none, [], []⟩,
   ⟨(some 11), .mv (.t 2), none, [], []⟩,
   ⟨(some 12), .iaddr 2 (.t 10) (.t 11), none, [2, 3], []⟩,
   ⟨(some 13), .faddr 0 (.t 12), none, [2, 3, 4], []⟩,
   ⟨(some 14), .load false 1 (.t 13), none, [2, 3, 4, 5], []⟩,
   ⟨(some 15), .iaddr 8 (.t 9) (.t 14), none, (u 7), []⟩,
   ⟨(some 16), .faddr 1 (.t 15), none, (u 8), []⟩,
   ⟨(some 17), .load false 1 (.t 16), none, (u 9), []⟩,
   ⟨(some 7), .mv (.t 17), none, (u 10), []⟩])
 (.seq
 (.seq
 (.region [1, 2, 7] [⟨(some 18), .mv (.t 7), none, [], []⟩,
   ⟨(some 19), .bin .lss (.t 18) (.c (.int .i64 0)), none, [], []⟩])
 (.cond (.t 19)
 (.seq
 (.region [] [⟨(some 6), .mv (.c (.int .i64 (-1))), none, [], []⟩])
 .ret)
 .skip))
 (.seq
 (.seq
 (.region [1, 2, 7] [⟨(some 20), .mv (.t 2), none, [], []⟩,
   ⟨(some 21), .bin .sub (.t 20) (.c (.int .i64 1)), none, [], []⟩,
   ⟨(some 2), .mv (.t 21), none, [], []⟩])
 (.block 0
 (.loop c53_l0)))
 (.seq
 (.region [2] [⟨(some 31), .mv (.t 2), none, [], []⟩,
   ⟨(some 6), .mv (.t 31), none, [], []⟩])
 .ret))))), false, false⟩
def c54_l0 : CC :=
 (.seq
 (.region [0, 6, 7] [⟨(some 8), .bin .lss (.t 7) (.t 6), none, [], []⟩])
 (.seq
 (.cond (.t 8)
 .skip
 (.exit 0))
 (.seq
 (.block 1
 (.seq
 (.region [0, 6, 7] [⟨(some 9), .mv (.t 7), none, [], []⟩,
   ⟨(some 3), .mv (.t 9), none, [], []⟩])
 (.seq
 (.region [0, 3, 6, 7] [⟨(some 10), .mv (.t 0), none, [], []⟩,
   ⟨(some 11), .mv (.t 3), none, [], []⟩,
   ⟨(some 12), .idx (.t 10) (.t 11), none, [], []⟩,
   ⟨(some 13), .bin .geq (.t 12) (.c (.int .u8 65)), none, [], []⟩,
   ⟨(some 14), .mv (.t 13), none, [], []⟩,
   ⟨(some 15), .mv (.t 0), some (14, true), [], []⟩,
   ⟨(some 16), .mv (.t 3), some (14, true), [], []⟩,
   ⟨(some 17), .idx (.t 15) (.t 16), some (14, true), [], []⟩,
   ⟨(some 18), .bin .leq (.t 17) (.c (.int .u8 90)), some (14, true), [], []⟩,
   ⟨(some 19), .pick (.t 14) (.t 18) (.c (.bool false)), none, [], []⟩,
   ⟨(some 4), .mv (.t 19), none, [], []⟩])
 (.seq
 (.region [0, 3, 4, 6, 7] [⟨(some 20), .mv (.t 4), none, [], []⟩,
   ⟨(some 21), .un .not (.t 20), none, [], []⟩,
   ⟨(some 22), .mv (.t 21), none, [], []⟩,
   ⟨(some 23), .mv (.t 3), some (22, true), [], []⟩,
   ⟨(some 24), .bin .eql (.t 23) (.c (.int .i64 0)), some (22, true), [], []⟩,
   ⟨(some 25), .mv (.t 24), some (22, true), [], []⟩,
   ⟨(some 26), .mv (.t 0), some (25, false), [], []⟩,
   ⟨(some 27), .mv (.t 3), some (25, false), [], []⟩,
   ⟨(some 28), .idx (.t 26) (.t 27), some (25, false), [], []⟩,
   ⟨(some 29), .bin .lss (.t 28) (.c (.int .u8 48)), some (25, false), [], []⟩,
   ⟨(some 30), .pick (.t 25) (.c (.bool true)) (.t 29), some (22, true), [], []⟩,
   ⟨(some 31), .mv (.t 30), some (22, true), [], []⟩,
   ⟨(some 32), .mv (.t 0), some (31, false), [], []⟩,
   ⟨(some 33), .mv (.t 3), some (31, false), [], []⟩,
   ⟨(some 34), .idx (.t 32) (.t 33), some (31, false), [], []⟩,
   ⟨(some 35), .bin .gtr (.t 34) (.c (.int .u8 57)), some (31, false), [], []⟩,
   ⟨(some 36), .pick (.t 31) (.c (.bool true)) (.t 35), some (22, true), [], []⟩,
   ⟨(some 37), .pick (.t 22) (.t 36) (.c (.bool false)), none, [], []⟩])
 (.cond (.t 37)
 (.seq
 (.region [] [⟨(some 2), .mv (.c (.bool false)), none, [], []⟩])
 .ret)
 .skip)))))
 (.region [0, 6, 7] [⟨(some 38), .bin .add (.t 7) (.c (.int .i64 1)), none, [], []⟩,
   ⟨(some 7), .mv (.t 38), none, [], []⟩]))))
/-- progeny/dbd.IsName -/
def c54 : CFn := ⟨47, [.t 2],
 (.seq
 (.region [0] [⟨(some 2), .mv (.c (.bool false)), none, [], []⟩])
 (.seq
 (.seq
 (.region [0] [⟨(some 5), .mv (.t 0), none, [], []⟩,
   ⟨(some 6), .len true (.t 5), none, [], []⟩,
   ⟨(some 7), .mv (.c (.int .i64 0)), none, [], []⟩])
 (.block 0
 (.loop c54_l0)))
 (.seq
 (.region [0] [⟨(some 39), .mv (.t 0), none, [], []⟩,
   ⟨(some 40), .len true (.t 39), none, [], []⟩,
   ⟨(some 41), .bin .geq (.t 40) (.c (.int .i64 1)), none, [], []⟩,
   ⟨(some 42), .mv (.t 41), none, [], []⟩,
   ⟨(some 43), .mv (.t 0), some (42, true), [], []⟩,
   ⟨(some 44), .len true (.t 43), some (42, true), [], []⟩,
   ⟨(some 45), .bin .leq (.t 44) (.c (.int .i64 8)), some (42, true), [], []⟩,
   ⟨(some 46), .pick (.t 42) (.t 45) (.c (.bool false)), none, [], []⟩,
   ⟨(some 2), .mv (.t 46), none, [], []⟩])
 .ret))), false, false⟩
def c55_l0 : CC :=
 (.seq
 (.region [0, 3, 15, 16, 17] [⟨(some 18), .bin .lss (.t 17) (.t 16), none, [], []⟩])
 (.seq
 (.cond (.t 18)
 .skip
 (.exit 0))
 (.seq
 (.block 1
 (.seq
 (.region [0, 3, 15, 16, 17] [⟨(some 19), .mv (.t 17), none, [], []⟩,
   ⟨(some 20), .iaddr 8 (.t 15) (.t 17), none, [], []⟩,
   ⟨(some 21), .load true 8 (.t 20), none, [], []⟩,
   ⟨(some 5), .box 61 8 (.c (.agg [.str ⟨#[]⟩, .int .i64 0, .int .i64 0, .int .i64 0, .nils, .int .i64 0, .bool false, .bool false])), none, [], []⟩,
   ⟨(some 4), .mv (.t 19), none, [], []⟩,
   ⟨none, .store 8 (.t 5) (.t 21), none, [], []⟩])
 (.seq
 (.seq
 (.region [0, 3, 4, 5, 15, 16, 17] [⟨(some 22), .load true 8 (.t 5), none, [], []⟩,
   ⟨(some 23), .call (.c (.fn 77 [])) [(.t 22)] false, none, [], []⟩,
   ⟨(some 24), .un .not (.t 23), none, [], []⟩,
   ⟨(some 25), .mv (.t 24), none, [], []⟩,
   ⟨(some 26), .mv (.t 0), some (25, false), [], []⟩,
   ⟨(some 27), .mv (.t 4), some (25, false), [], []⟩,
   ⟨(some 28), .slc 8 (.t 26) none (some (.t 27)) none, some (25, false), [], []⟩,
   ⟨(some 29), .mkfn 79 [(.t 5)], some (25, false), [], []⟩,
   ⟨(some 30), .call (.c (.fn 78 [])) [(.t 28), (.t 29)] false, some (25, false), [], []⟩,
   ⟨(some 31), .pick (.t 25) (.c (.bool true)) (.t 30), none, [], []⟩])
 (.cond (.t 31)
 (.seq
 (.region [] [⟨(some 2), .mv (.c (.bool false)), none, [], []⟩])
 .ret)
 .skip))
 (.seq
 (.region [0, 3, 4, 5, 15, 16, 17] [⟨(some 32), .mv (.t 3), none, [], []⟩,
   ⟨(some 33), .faddr 1 (.t 5), none, [], []⟩,
   ⟨(some 34), .load false 1 (.t 33), none, [], []⟩,
   ⟨(some 35), .call (.c (.fn 47 [])) [(.t 32), (.t 34)] false, none, [], []⟩,
   ⟨(some 6), .mv (.t 35), none, [], []⟩])
 (.seq
 (.seq
 (.region [0, 3, 4, 5, 6, 15, 16, 17] [⟨(some 36), .mv (.t 4), none, [], []⟩,
   ⟨(some 37), .bin .eql (.t 36) (.c (.int .i64 0)), none, [], []⟩,
   ⟨(some 38), .mv (.t 37), none, [], []⟩,
   ⟨(some 39), .faddr 1 (.t 5), some (38, true), [], []⟩,
   ⟨(some 40), .load false 1 (.t 39), some (38, true), [], []⟩,
   ⟨(some 41), .bin .neq (.t 40) (.c (.int .i64 (-1))), some (38, true), [], []⟩,
   ⟨(some 42), .mv (.t 41), some (38, true), [], []⟩,
   ⟨(some 43), .faddr 5 (.t 5), some (42, false), [], []⟩,
   ⟨(some 44), .load false 1 (.t 43), some (42, false), [], []⟩,
   ⟨(some 45), .bin .lss (.t 44) (.c (.int .i64 0)), some (42, false), [], []⟩,
   ⟨(some 46), .pick (.t 42) (.c (.bool true)) (.t 45), some (38, true), [], []⟩,
   ⟨(some 47), .mv (.t 46), some (38, true), [], []⟩,
   ⟨(some 48), .faddr 6 (.t 5), some (47, false), [], []⟩,
   ⟨(some 49), .load false 1 (.t 48), some (47, false), [], []⟩,
   ⟨(some 50), .un .not (.t 49), some (47, false), [], []⟩,
   ⟨(some 51), .pick (.t 47) (.c (.bool true)) (.t 50), some (38, true), [], []⟩,
   ⟨(some 52), .mv (.t 51), some (38, true), [], []⟩,
   ⟨(some 53), .faddr 4 (.t 5), some (52, false), [], []⟩,
   ⟨(some 54), .load false 1 (.t 53), some (52, false), [], []⟩,
   ⟨(some 55), .faddr 5 (.t 5), some (52, false), [], []⟩,
   ⟨(some 56), .load false 1 (.t 55), some (52, false), [], []⟩,
   ⟨(some 57), .iaddr 3 (.t 54) (.t 56), some (52, false), [], []⟩,
   ⟨(some 58), .faddr 2 (.t 57), some (52, false), [], []⟩,
   ⟨(some 59), .load false 1 (.t 58), some (52, false), [], []⟩,
   ⟨(some 60), .bin .gtr (.t 59) (.c (.int .i64 24)), some (52, false), [], []⟩,
   ⟨(some 61), .pick (.t 52) (.c (.bool true)) (.t 60), some (38, true), [], []⟩,
   ⟨(some 62), .pick (.t 38) (.t 61) (.c (.bool false)), none, [], []⟩,
   ⟨(some 63), .mv (.t 62), none, [], []⟩,
   ⟨(some 64), .mv (.t 4), some (63, false), [], []⟩,
   ⟨(some 65), .bin .gtr (.t 64) (.c (.int .i64 0)), some (63, false), [], []⟩,
   ⟨(some 66), .mv (.t 65), some (63, false), [], []⟩,
   ⟨(some 67), .mv (.t 6), some (66, true), [], []⟩,
   ⟨(some 68), .bin .lss (.t 67) (.c (.int .i64 0)), some (66, true), [], []⟩,
   ⟨(some 69), .pick (.t 66) (.t 68) (.c (.bool false)), some (63, false), [], []⟩,
   ⟨(some 70), .pick (.t 63) (.c (.bool true)) (.t 69), none, [], []⟩])
 (.cond (.t 70)
 (.seq
 (.region [] [⟨(some 2), .mv (.c (.bool false)), none, [], []⟩])
 .ret)
 .skip))
 (.seq
 (.region [0, 3, 4, 6, 15, 16, 17] [⟨(some 71), .mv (.t 3), none, [], []⟩,
   ⟨(some 72), .mv (.t 6), none, [], []⟩,
   ⟨(some 73), .bin .add (.t 72) (.c (.int .i64 1)), none, [], []⟩,
   ⟨(some 74), .slc 1 (.t 71) none (some (.t 73)) none, none, [], []⟩,
   ⟨(some 75), .mv (.t 4), none, [], []⟩,
   ⟨(some 76), .bslice 3 1 [[.int .i64 0]] [(0, (.t 75))], none, [], []⟩,
   ⟨(some 77), .app 3 1 8 false (.t 74) (.t 76), none, [], []⟩,
   ⟨(some 3), .mv (.t 77), none, [], []⟩])
 (.seq
 (.region [0, 3, 15, 16, 17] [⟨(some 78), .mv (.t 3), none, [], []⟩,
   ⟨(some 79), .len false (.t 78), none, [], []⟩,
   ⟨(some 80), .bin .gtr (.t 79) (.c (.int .i64 5)), none, [], []⟩])
 (.cond (.t 80)
 (.seq
 (.region [] [⟨(some 2), .mv (.c (.bool false)), none, [], []⟩])
 .ret)
 .skip))))))))
 (.region [0, 3, 15, 16, 17] [⟨(some 81), .bin .add (.t 17) (.c (.int .i64 1)), none, [], []⟩,
   ⟨(some 17), .mv (.t 81), none, [], []⟩]))))
/-- progeny/dbd.areTypes -/
def c55 : CFn := ⟨82, [.t 2],
 (.seq
 (.region [0] [⟨(some 2), .mv (.c (.bool false)), none, [], []⟩])
 (.seq
 (.seq
 (.region [0] [⟨(some 7), .mv (.t 0), none, [], []⟩,
   ⟨(some 8), .len false (.t 7), none, [], []⟩,
   ⟨(some 9), .bin .lss (.t 8) (.c (.int .i64 1)), none, [], []⟩,
   ⟨(some 10), .mv (.t 9), none, [], []⟩,
   ⟨(some 11), .mv (.t 0), some (10, false), [], []⟩,
   ⟨(some 12), .len false (.t 11), some (10, false), [], []⟩,
   ⟨(some 13), .bin .gtr (.t 12) (.c (.int .i64 8)), some (10, false), [], []⟩,
   ⟨(some 14), .pick (.t 10) (.c (.bool true)) (.t 13), none, [], []⟩])
 (.cond (.t 14)
 (.seq
 (.region [] [⟨(some 2), .mv (.c (.bool false)), none, [], []⟩])
 .ret)
 .skip))
 (.seq
 (.region [0] [⟨(some 3), .mv (.c (.nils)), none, [], []⟩])
 (.seq
 (.seq
 (.region [0, 3] [⟨(some 15), .mv (.t 0), none, [], []⟩,
   ⟨(some 16), .len false (.t 15), none, [], []⟩,
   ⟨(some 17), .mv (.c (.int .i64 0)), none, [], []⟩])
 (.block 0
 (.loop c55_l0)))
 (.seq
 (.region [] [⟨(some 2), .mv (.c (.bool true)), none, [], []⟩])
 .ret))))), false, false⟩
def c56_l0 : CC :=
 (.seq
 (.region [0, 1, 8, 9, 10] [⟨(some 11), .bin .lss (.t 10) (.t 9), none, [], []⟩])
 (.seq
 (.cond (.t 11)
 .skip
 (.exit 0))
 (.seq
 (.block 1
 (.seq
 (.region [0, 1, 8, 9, 10] [⟨(some 12), .mv (.t 10), none, [], []⟩,
   ⟨(some 13), .iaddr 4 (.t 8) (.t 10), none, [], []⟩,
   ⟨(some 14), .load true 4 (.t 13), none, [], []⟩,
   ⟨(some 6), .box 75 4 (.c (.agg [.str ⟨#[]⟩, .int .i64 0, .int .i64 0, .str ⟨#[]⟩])), none, [], []⟩,
   ⟨(some 5), .mv (.t 12), none, [], []⟩,
   ⟨none, .store 4 (.t 6) (.t 14), none, [], []⟩])
 (.seq
 (.seq
 (.region [0, 1, 5, 6, 8, 9, 10] [⟨(some 15), .faddr 0 (.t 6), none, [], []⟩,
   ⟨(some 16), .load false 1 (.t 15), none, [], []⟩,
   ⟨(some 17), .call (.c (.fn 54 [])) [(.t 16)] false, none, [], []⟩,
   ⟨(some 18), .un .not (.t 17), none, [], []⟩,
   ⟨(some 19), .mv (.t 18), none, [], []⟩,
   ⟨(some 20), .faddr 1 (.t 6), some (19, false), [], []⟩,
   ⟨(some 21), .load false 1 (.t 20), some (19, false), [], []⟩,
   ⟨(some 22), .bin .lss (.t 21) (.c (.int .i64 0)), some (19, false), [], []⟩,
   ⟨(some 23), .pick (.t 19) (.c (.bool true)) (.t 22), none, [], []⟩,
   ⟨(some 24), .mv (.t 23), none, [], []⟩,
   ⟨(some 25), .faddr 1 (.t 6), some (24, false), [], []⟩,
   ⟨(some 26), .load false 1 (.t 25), some (24, false), [], []⟩,
   ⟨(some 27), .mv (.t 1), some (24, false), [], []⟩,
   ⟨(some 28), .len false (.t 27), some (24, false), [], []⟩,
   ⟨(some 29), .bin .geq (.t 26) (.t 28), some (24, false), [], []⟩,
   ⟨(some 30), .pick (.t 24) (.c (.bool true)) (.t 29), none, [], []⟩,
   ⟨(some 31), .mv (.t 30), none, [], []⟩,
   ⟨(some 32), .faddr 3 (.t 6), some (31, false), [], []⟩,
   ⟨(some 33), .load false 1 (.t 32), some (31, false), [], []⟩,
   ⟨(some 34), .len true (.t 33), some (31, false), [], []⟩,
   ⟨(some 35), .bin .gtr (.t 34) (.c (.int .i64 1)), some (31, false), [], []⟩,
   ⟨(some 36), .pick (.t 31) (.c (.bool true)) (.t 35), none, [], []⟩,
   ⟨(some 37), .mv (.t 36), none, [], []⟩,
   ⟨(some 38), .mv (.t 0), some (37, false), [], []⟩,
   ⟨(some 39), .mv (.t 5), some (37, false), [], []⟩,
   ⟨(some 40), .slc 4 (.t 38) none (some (.t 39)) none, some (37, false), [], []⟩,
   ⟨(some 41), .mkfn 81 [(.t 6)], some (37, false), [], []⟩,
   ⟨(some 42), .call (.c (.fn 80 [])) [(.t 40), (.t 41)] false, some (37, false), [], []⟩,
   ⟨(some 43), .pick (.t 37) (.c (.bool true)) (.t 42), none, [], []⟩])
 (.cond (.t 43)
 (.seq
 (.region [] [⟨(some 4), .mv (.c (.bool false)), none, [], []⟩])
 .ret)
 .skip))
 (.seq
 (.region [0, 1, 6, 8, 9, 10] [⟨(some 44), .mv (.t 1), none, [], []⟩,
   ⟨(some 45), .faddr 1 (.t 6), none, [], []⟩,
   ⟨(some 46), .load false 1 (.t 45), none, [], []⟩,
   ⟨(some 47), .iaddr 8 (.t 44) (.t 46), none, [], []⟩,
   ⟨(some 48), .faddr 4 (.t 47), none, [], []⟩,
   ⟨(some 49), .load false 1 (.t 48), none, [], []⟩,
   ⟨(some 7), .mv (.t 49), none, [], []⟩])
 (.seq
 (.region [0, 1, 6, 7, 8, 9, 10] [⟨(some 50), .faddr 2 (.t 6), none, [], []⟩,
   ⟨(some 51), .load false 1 (.t 50), none, [], []⟩,
   ⟨(some 52), .bin .lss (.t 51) (.c (.int .i64 0)), none, [], []⟩,
   ⟨(some 53), .mv (.t 52), none, [], []⟩,
   ⟨(some 54), .faddr 2 (.t 6), some (53, false), [], []⟩,
   ⟨(some 55), .load false 1 (.t 54), some (53, false), [], []⟩,
   ⟨(some 56), .mv (.t 7), some (53, false), [], []⟩,
   ⟨(some 57), .len false (.t 56), some (53, false), [], []⟩,
   ⟨(some 58), .bin .geq (.t 55) (.t 57), some (53, false), [], []⟩,
   ⟨(some 59), .pick (.t 53) (.c (.bool true)) (.t 58), none, [], []⟩,
   ⟨(some 60), .mv (.t 59), none, [], []⟩,
   ⟨(some 61), .mv (.t 7), some (60, false), [], []⟩,
   ⟨(some 62), .faddr 2 (.t 6), some (60, false), [], []⟩,
   ⟨(some 63), .load false 1 (.t 62), some (60, false), [], []⟩,
   ⟨(some 64), .iaddr 3 (.t 61) (.t 63), some (60, false), [], []⟩,
   ⟨(some 65), .faddr 2 (.t 64), some (60, false), [], []⟩,
   ⟨(some 66), .load false 1 (.t 65), some (60, false), [], []⟩,
   ⟨(some 67), .bin .gtr (.t 66) (.c (.int .i64 20)), some (60, false), [], []⟩,
   ⟨(some 68), .pick (.t 60) (.c (.bool true)) (.t 67), none, [], []⟩])
 (.cond (.t 68)
 (.seq
 (.region [] [⟨(some 4), .mv (.c (.bool false)), none, [], []⟩])
 .ret)
 .skip))))))
 (.region [0, 1, 8, 9, 10] [⟨(some 69), .bin .add (.t 10) (.c (.int .i64 1)), none, [], []⟩,
   ⟨(some 10), .mv (.t 69), none, [], []⟩]))))
/-- progeny/dbd.areIndexes -/
def c56 : CFn := ⟨73, [.t 4],
 (.seq
 (.region [0, 1] [⟨(some 4), .mv (.c (.bool false)), none, [], []⟩])
 (.seq
 (.seq
 (.region [0, 1] [⟨(some 8), .mv (.t 0), none, [], []⟩,
   ⟨(some 9), .len false (.t 8), none, [], []⟩,
   ⟨(some 10), .mv (.c (.int .i64 0)), none, [], []⟩])
 (.block 0
 (.loop c56_l0)))
 (.seq
 (.region [0] [⟨(some 70), .mv (.t 0), none, [], []⟩,
   ⟨(some 71), .len false (.t 70), none, [], []⟩,
   ⟨(some 72), .bin .leq (.t 71) (.c (.int .i64 3)), none, [], []⟩,
   ⟨(some 4), .mv (.t 72), none, [], []⟩])
 .ret))), false, false⟩
def c57_l0 : CC :=
 (.seq
 (.region [0, 1, 7, 8] [⟨(some 9), .bin .lss (.t 8) (.t 7), none, [], []⟩])
 (.seq
 (.cond (.t 9)
 .skip
 (.exit 0))
 (.seq
 (.block 1
 (.seq
 (.region [0, 1, 7, 8] [⟨(some 10), .mv (.t 8), none, [], []⟩,
   ⟨(some 5), .mv (.t 10), none, [], []⟩])
 (.seq
 (.region [0, 1, 5, 7, 8] [⟨(some 11), .mv (.t 1), none, [], []⟩,
   ⟨(some 12), .mv (.t 0), none, [], []⟩,
   ⟨(some 13), .mv (.t 5), none, [], []⟩,
   ⟨(some 14), .iaddr 1 (.t 12) (.t 13), none, [], []⟩,
   ⟨(some 15), .load false 1 (.t 14), none, [], []⟩,
   ⟨(some 16), .call (.t 11) [(.t 15)] false, none, [], []⟩])
 (.cond (.t 16)
 (.seq
 (.region [5] [⟨(some 17), .mv (.t 5), none, [], []⟩,
   ⟨(some 4), .mv (.t 17), none, [], []⟩])
 .ret)
 .skip))))
 (.region [0, 1, 7, 8] [⟨(some 18), .bin .add (.t 8) (.c (.int .i64 1)), none, [], []⟩,
   ⟨(some 8), .mv (.t 18), none, [], []⟩]))))
/-- slices.IndexFunc[[]int,int] -/
def c57 : CFn := ⟨19, [.t 4],
 (.seq
 (.region [0, 1] [⟨(some 4), .mv (.c (.int .i64 0)), none, [], []⟩])
 (.seq
 (.seq
 (.region [0, 1] [⟨(some 6), .mv (.t 0), none, [], []⟩,
   ⟨(some 7), .len false (.t 6), none, [], []⟩,
   ⟨(some 8), .mv (.c (.int .i64 0)), none, [], []⟩])
 (.block 0
 (.loop c57_l0)))
 (.seq
 (.region [] [⟨(some 4), .mv (.c (.int .i64 (-1))), none, [], []⟩])
 .ret))), false, false⟩
/-- progeny/plain.valid$1 -/
def c58 : CFn := ⟨12, [.t 4],
 (.seq
 (.region [0, 1, 2] [⟨(some 4), .mv (.c (.bool false)), none, [], []⟩])
 (.seq
 (.draw [0, 1, 2] [⟨(some 5), .load false 1 (.t 1), none, [], []⟩,
   ⟨(some 6), .mv (.t 0), none, [], []⟩,
   ⟨(some 7), .iaddr 2 (.t 5) (.t 6), none, [0, 1], []⟩,
   ⟨(some 8), .faddr 0 (.t 7), none, [0, 1, 2], []⟩,
   ⟨(some 9), .load false 1 (.t 8), none, (u 4), []⟩,
   ⟨(some 10), .load false 1 (.t 2), none, [], []⟩,
   ⟨(some 11), .bin .eql (.t 9) (.t 10), none, (u 6), []⟩,
   ⟨(some 4), .mv (.t 11), none, (u 7), []⟩])
 .ret)), false, false⟩
/-- progeny/plain.inOrder -/
def c59 : CFn := ⟨31, [.t 6],
 (.seq
 (.region [0, 1, 2] [⟨(some 3), .box 61 8 (.t 0), none, [], []⟩,
   ⟨(some 6), .mv (.c (.bool false)), none, [], []⟩])
 (.seq
 (.seq
 (.region [1, 2, 3] [⟨(some 9), .faddr 5 (.t 3), none, [], []⟩,
   ⟨(some 10), .load false 1 (.t 9), none, [], []⟩,
   ⟨(some 11), .bin .lss (.t 10) (.c (.int .i64 0)), none, [], []⟩])
 (.cond (.t 11)
 (.seq
 (.region [] [⟨(some 6), .mv (.c (.bool true)), none, [], []⟩])
 .ret)
 .skip))
 (.seq
 (.draw [1, 2, 3] [⟨(some 12), .load true 8 (.t 3), none, [], []⟩,
   ⟨(some 13), .mv (.t 1), none, [], []⟩,
   ⟨(some 14), .call (.c (.fn 43 [])) [(.t 12), (.t 13)] false, none, [0, 1], []⟩,
   ⟨(some 15), .load true 8 (.t 3), none, [], [2]⟩,
   ⟨(some 16), .mv (.t 2), none, [], []⟩,
   ⟨(some 17), .call (.c (.fn 43 [])) [(.t 15), (.t 16)] false, none, (u 5), []⟩,
   ⟨(some 7), .mv (.t 14), none, (u 6), []⟩,
   ⟨(some 8), .mv (.t 17), none, (u 7), []⟩])
 (.seq
 (.region [3, 7, 8] [⟨(some 18), .mv (.t 7), none, [], []⟩,
   ⟨(some 19), .mv (.t 8), none, [], []⟩,
   ⟨(some 20), .bin .lss (.t 18) (.t 19), none, [], []⟩,
   ⟨(some 21), .mv (.t 20), none, [], []⟩,
   ⟨(some 22), .mv (.t 7), some (21, false), [], []⟩,
   ⟨(some 23), .mv (.t 8), some (21, false), [], []⟩,
   ⟨(some 24), .bin .eql (.t 22) (.t 23), some (21, false), [], []⟩,
   ⟨(some 25), .mv (.t 24), some (21, false), [], []⟩,
   ⟨(some 26), .faddr 6 (.t 3), some (25, true), [], []⟩,
   ⟨(some 27), .load false 1 (.t 26), some (25, true), [], []⟩,
   ⟨(some 28), .un .not (.t 27), some (25, true), [], []⟩,
   ⟨(some 29), .pick (.t 25) (.t 28) (.c (.bool false)), some (21, false), [], []⟩,
   ⟨(some 30), .pick (.t 21) (.c (.bool true)) (.t 29), none, [], []⟩,
   ⟨(some 6), .mv (.t 30), none, [], []⟩])
 .ret)))), false, false⟩
def c60_l0 : CC :=
 (.seq
 (.seq
 (.region [0, 3] [⟨(some 5), .mv (.t 3), none, [], []⟩,
   ⟨(some 6), .mv (.t 0), none, [], []⟩,
   ⟨(some 7), .len true (.t 6), none, [], []⟩,
   ⟨(some 8), .bin .lss (.t 5) (.t 7), none, [], []⟩])
 (.cond (.t 8)
 .skip
 (.exit 0)))
 (.seq
 (.block 1
 (.seq
 (.region [0, 3] [⟨(some 11), .mv (.t 0), none, [], []⟩,
   ⟨(some 12), .mv (.t 3), none, [], []⟩,
   ⟨(some 13), .idx (.t 11) (.t 12), none, [], []⟩,
   ⟨(some 14), .bin .geq (.t 13) (.c (.int .u8 65)), none, [], []⟩,
   ⟨(some 15), .mv (.t 14), none, [], []⟩,
   ⟨(some 16), .mv (.t 0), some (15, true), [], []⟩,
   ⟨(some 17), .mv (.t 3), some (15, true), [], []⟩,
   ⟨(some 18), .idx (.t 16) (.t 17), some (15, true), [], []⟩,
   ⟨(some 19), .bin .leq (.t 18) (.c (.int .u8 90)), some (15, true), [], []⟩,
   ⟨(some 20), .pick (.t 15) (.t 19) (.c (.bool false)), none, [], []⟩,
   ⟨(some 4), .mv (.t 20), none, [], []⟩])
 (.seq
 (.region [0, 3, 4] [⟨(some 21), .mv (.t 4), none, [], []⟩,
   ⟨(some 22), .un .not (.t 21), none, [], []⟩,
   ⟨(some 23), .mv (.t 22), none, [], []⟩,
   ⟨(some 24), .mv (.t 3), some (23, true), [], []⟩,
   ⟨(some 25), .bin .eql (.t 24) (.c (.int .i64 0)), some (23, true), [], []⟩,
   ⟨(some 26), .mv (.t 25), some (23, true), [], []⟩,
   ⟨(some 27), .mv (.t 0), some (26, false), [], []⟩,
   ⟨(some 28), .mv (.t 3), some (26, false), [], []⟩,
   ⟨(some 29), .idx (.t 27) (.t 28), some (26, false), [], []⟩,
   ⟨(some 30), .bin .lss (.t 29) (.c (.int .u8 48)), some (26, false), [], []⟩,
   ⟨(some 31), .pick (.t 26) (.c (.bool true)) (.t 30), some (23, true), [], []⟩,
   ⟨(some 32), .mv (.t 31), some (23, true), [], []⟩,
   ⟨(some 33), .mv (.t 0), some (32, false), [], []⟩,
   ⟨(some 34), .mv (.t 3), some (32, false), [], []⟩,
   ⟨(some 35), .idx (.t 33) (.t 34), some (32, false), [], []⟩,
   ⟨(some 36), .bin .gtr (.t 35) (.c (.int .u8 57)), some (32, false), [], []⟩,
   ⟨(some 37), .pick (.t 32) (.c (.bool true)) (.t 36), some (23, true), [], []⟩,
   ⟨(some 38), .pick (.t 23) (.t 37) (.c (.bool false)), none, [], []⟩])
 (.cond (.t 38)
 (.seq
 (.region [] [⟨(some 2), .mv (.c (.bool false)), none, [], []⟩])
 .ret)
 .skip))))
 (.region [0, 3] [⟨(some 9), .mv (.t 3), none, [], []⟩,
   ⟨(some 10), .bin .add (.t 9) (.c (.int .i64 1)), none, [], []⟩,
   ⟨(some 3), .mv (.t 10), none, [], []⟩])))
/-- progeny/progenyref11.IsName -/
def c60 : CFn := ⟨47, [.t 2],
 (.seq
 (.region [0] [⟨(some 2), .mv (.c (.bool false)), none, [], []⟩])
 (.seq
 (.seq
 (.region [0] [⟨(some 3), .mv (.c (.int .i64 0)), none, [], []⟩])
 (.block 0
 (.loop c60_l0)))
 (.seq
 (.region [0] [⟨(some 39), .mv (.t 0), none, [], []⟩,
   ⟨(some 40), .len true (.t 39), none, [], []⟩,
   ⟨(some 41), .bin .geq (.t 40) (.c (.int .i64 1)), none, [], []⟩,
   ⟨(some 42), .mv (.t 41), none, [], []⟩,
   ⟨(some 43), .mv (.t 0), some (42, true), [], []⟩,
   ⟨(some 44), .len true (.t 43), some (42, true), [], []⟩,
   ⟨(some 45), .bin .leq (.t 44) (.c (.int .i64 8)), some (42, true), [], []⟩,
   ⟨(some 46), .pick (.t 42) (.t 45) (.c (.bool false)), none, [], []⟩,
   ⟨(some 2), .mv (.t 46), none, [], []⟩])
 .ret))), false, false⟩
def c61_l0 : CC :=
 (.seq
 (.seq
 (.region [1, 3, 4, 5] [⟨(some 49), .mv (.t 5), none, [], []⟩,
   ⟨(some 50), .mv (.t 3), none, [], []⟩,
   ⟨(some 51), .bin .lss (.t 49) (.t 50), none, [], []⟩])
 (.cond (.t 51)
 .skip
 (.exit 2)))
 (.seq
 (.block 3
 (.seq
 (.draw [1, 3, 4, 5] [⟨(some 54), .faddr 4 (.t 1), none, [], []⟩,
   ⟨(some 55), .load false 1 (.t 54), none, [0], []⟩,
   ⟨(some 56), .mv (.t 5), none, [], []⟩,
   ⟨(some 57), .iaddr 3 (.t 55) (.t 56), none, [0, 1, 2], []⟩,
   ⟨(some 58), .faddr 0 (.t 57), none, (u 4), []⟩,
   ⟨(some 59), .load false 1 (.t 58), none, (u 5), []⟩,
   ⟨(some 60), .faddr 0 (.t 4), none, [], []⟩,
   ⟨(some 61), .load false 1 (.t 60), none, [6], []⟩,
   ⟨(some 62), .bin .eql (.t 59) (.t 61), none, (u 8), []⟩])
 (.cond (.t 62)
 (.seq
 (.region [] [⟨(some 2), .mv (.c (.bool false)), none, [], []⟩])
 .ret)
 .skip)))
 (.region [1, 3, 4, 5] [⟨(some 52), .mv (.t 5), none, [], []⟩,
   ⟨(some 53), .bin .add (.t 52) (.c (.int .i64 1)), none, [], []⟩,
   ⟨(some 5), .mv (.t 53), none, [], []⟩])))
def c61_l1 : CC :=
 (.seq
 (.seq
 (.region [1, 3] [⟨(some 6), .mv (.t 3), none, [], []⟩,
   ⟨(some 7), .faddr 4 (.t 1), none, [], []⟩,
   ⟨(some 8), .load false 1 (.t 7), none, [], []⟩,
   ⟨(some 9), .len false (.t 8), none, [], []⟩,
   ⟨(some 10), .bin .lss (.t 6) (.t 9), none, [], []⟩])
 (.cond (.t 10)
 .skip
 (.exit 0)))
 (.seq
 (.block 1
 (.seq
 (.region [1, 3] [⟨(some 13), .faddr 4 (.t 1), none, [], []⟩,
   ⟨(some 14), .load false 1 (.t 13), none, [], []⟩,
   ⟨(some 15), .mv (.t 3), none, [], []⟩,
   ⟨(some 16), .iaddr 3 (.t 14) (.t 15), none, [], []⟩,
   ⟨(some 17), .load true 3 (.t 16), none, [], []⟩,
   ⟨(some 4), .box 79 3 (.c (.agg [.str ⟨#[]⟩, .int .i64 0, .int .i64 0])), none, [], []⟩,
   ⟨none, .store 3 (.t 4) (.t 17), none, [], []⟩])
 (.seq
 (.seq
 (.region [1, 3, 4] [⟨(some 18), .faddr 0 (.t 4), none, [], []⟩,
   ⟨(some 19), .load false 1 (.t 18), none, [], []⟩,
   ⟨(some 20), .call (.c (.fn 60 [])) [(.t 19)] false, none, [], []⟩,
   ⟨(some 21), .un .not (.t 20), none, [], []⟩,
   ⟨(some 22), .mv (.t 21), none, [], []⟩,
   ⟨(some 23), .faddr 1 (.t 4), some (22, false), [], []⟩,
   ⟨(some 24), .load false 1 (.t 23), some (22, false), [], []⟩,
   ⟨(some 25), .bin .lss (.t 24) (.c (.int .i64 0)), some (22, false), [], []⟩,
   ⟨(some 26), .pick (.t 22) (.c (.bool true)) (.t 25), none, [], []⟩,
   ⟨(some 27), .mv (.t 26), none, [], []⟩,
   ⟨(some 28), .faddr 1 (.t 4), some (27, false), [], []⟩,
   ⟨(some 29), .load false 1 (.t 28), some (27, false), [], []⟩,
   ⟨(some 30), .faddr 3 (.t 1), some (27, false), [], []⟩,
   ⟨(some 31), .load false 1 (.t 30), some (27, false), [], []⟩,
   ⟨(some 32), .bin .gtr (.t 29) (.t 31), some (27, false), [], []⟩,
   ⟨(some 33), .pick (.t 27) (.c (.bool true)) (.t 32), none, [], []⟩,
   ⟨(some 34), .mv (.t 33), none, [], []⟩,
   ⟨(some 35), .faddr 2 (.t 4), some (34, false), [], []⟩,
   ⟨(some 36), .load false 1 (.t 35), some (34, false), [], []⟩,
   ⟨(some 37), .bin .lss (.t 36) (.c (.int .i64 1)), some (34, false), [], []⟩,
   ⟨(some 38), .pick (.t 34) (.c (.bool true)) (.t 37), none, [], []⟩,
   ⟨(some 39), .mv (.t 38), none, [], []⟩,
   ⟨(some 40), .faddr 2 (.t 4), some (39, false), [], []⟩,
   ⟨(some 41), .load false 1 (.t 40), some (39, false), [], []⟩,
   ⟨(some 42), .faddr 3 (.t 1), some (39, false), [], []⟩,
   ⟨(some 43), .load false 1 (.t 42), some (39, false), [], []⟩,
   ⟨(some 44), .faddr 1 (.t 4), some (39, false), [], []⟩,
   ⟨(some 45), .load false 1 (.t 44), some (39, false), [], []⟩,
   ⟨(some 46), .bin .sub (.t 43) (.t 45), some (39, false), [], []⟩,
   ⟨(some 47), .bin .gtr (.t 41) (.t 46), some (39, false), [], []⟩,
   ⟨(some 48), .pick (.t 39) (.c (.bool true)) (.t 47), none, [], []⟩])
 (.cond (.t 48)
 (.seq
 (.region [] [⟨(some 2), .mv (.c (.bool false)), none, [], []⟩])
 .ret)
 .skip))
 (.seq
 (.region [1, 3, 4] [⟨(some 5), .mv (.c (.int .i64 0)), none, [], []⟩])
 (.block 2
 (.loop c61_l0))))))
 (.region [1, 3] [⟨(some 11), .mv (.t 3), none, [], []⟩,
   ⟨(some 12), .bin .add (.t 11) (.c (.int .i64 1)), none, [], []⟩,
   ⟨(some 3), .mv (.t 12), none, [], []⟩])))
/-- progeny/progenyref11.fields -/
def c61 : CFn := ⟨112, [.t 2],
 (.seq
 (.region [0] [⟨(some 1), .box 61 8 (.t 0), none, [], []⟩,
   ⟨(some 2), .mv (.c (.bool false)), none, [], []⟩])
 (.seq
 (.seq
 (.region [1] [⟨(some 3), .mv (.c (.int .i64 0)), none, [], []⟩])
 (.block 0
 (.loop c61_l1)))
 (.seq
 (.seq
 (.region [1] [⟨(some 63), .faddr 5 (.t 1), none, [], []⟩,
   ⟨(some 64), .load false 1 (.t 63), none, [], []⟩,
   ⟨(some 65), .bin .lss (.t 64) (.c (.int .i64 (-1))), none, [], []⟩,
   ⟨(some 66), .mv (.t 65), none, [], []⟩,
   ⟨(some 67), .faddr 5 (.t 1), some (66, false), [], []⟩,
   ⟨(some 68), .load false 1 (.t 67), some (66, false), [], []⟩,
   ⟨(some 69), .faddr 4 (.t 1), some (66, false), [], []⟩,
   ⟨(some 70), .load false 1 (.t 69), some (66, false), [], []⟩,
   ⟨(some 71), .len false (.t 70), some (66, false), [], []⟩,
   ⟨(some 72), .bin .geq (.t 68) (.t 71), some (66, false), [], []⟩,
   ⟨(some 73), .pick (.t 66) (.c (.bool true)) (.t 72), none, [], []⟩,
   ⟨(some 74), .mv (.t 73), none, [], []⟩,
   ⟨(some 75), .faddr 5 (.t 1), some (74, false), [], []⟩,
   ⟨(some 76), .load false 1 (.t 75), some (74, false), [], []⟩,
   ⟨(some 77), .bin .lss (.t 76) (.c (.int .i64 0)), some (74, false), [], []⟩,
   ⟨(some 78), .mv (.t 77), some (74, false), [], []⟩,
   ⟨(some 79), .faddr 6 (.t 1), some (78, true), [], []⟩,
   ⟨(some 80), .load false 1 (.t 79), some (78, true), [], []⟩,
   ⟨(some 81), .pick (.t 78) (.t 80) (.c (.bool false)), some (74, false), [], []⟩,
   ⟨(some 82), .pick (.t 74) (.c (.bool true)) (.t 81), none, [], []⟩])
 (.cond (.t 82)
 (.seq
 (.region [] [⟨(some 2), .mv (.c (.bool false)), none, [], []⟩])
 .ret)
 .skip))
 (.seq
 (.draw [1] [⟨(some 83), .faddr 4 (.t 1), none, [], []⟩,
   ⟨(some 84), .load false 1 (.t 83), none, [0], []⟩,
   ⟨(some 85), .len false (.t 84), none, [0, 1], []⟩,
   ⟨(some 86), .bin .leq (.t 85) (.c (.int .i64 5)), none, [0, 1, 2], []⟩,
   ⟨(some 87), .mv (.t 86), none, (u 4), []⟩,
   ⟨(some 88), .faddr 5 (.t 1), some (87, true), (u 5), []⟩,
   ⟨(some 89), .load false 1 (.t 88), some (87, true), (u 6), []⟩,
   ⟨(some 90), .bin .lss (.t 89) (.c (.int .i64 0)), some (87, true), (u 7), []⟩,
   ⟨(some 91), .mv (.t 90), some (87, true), (u 8), []⟩,
   ⟨(some 92), .faddr 4 (.t 1), some (91, false), (u 9), []⟩,
   ⟨(some 93), .load false 1 (.t 92), some (91, false), (u 10), []⟩,
   ⟨(some 94), .faddr 5 (.t 1), some (91, false), (u 9), []⟩,
   ⟨(some 95), .load false 1 (.t 94), some (91, false), (u 9 ++ [11]), []⟩,
   ⟨(some 96), .iaddr 3 (.t 93) (.t 95), some (91, false), (u 13), []⟩,
   ⟨(some 97), .faddr 1 (.t 96), some (91, false), (u 14), []⟩,
   ⟨(some 98), .load false 1 (.t 97), some (91, false), (u 15), []⟩,
   ⟨(some 99), .faddr 4 (.t 1), some (91, false), (u 9), []⟩,
   ⟨(some 100), .load false 1 (.t 99), some (91, false), (u 9 ++ [16]), []⟩,
   ⟨(some 101), .faddr 5 (.t 1), some (91, false), (u 9), []⟩,
   ⟨(some 102), .load false 1 (.t 101), some (91, false), (u 9 ++ [18]), []⟩,
   ⟨(some 103), .iaddr 3 (.t 100) (.t 102), some (91, false), (u 9 ++ [16, 17, 18, 19]), []⟩,
   ⟨(some 104), .faddr 2 (.t 103), some (91, false), (u 9 ++ [16, 17, 18, 19, 20]), []⟩,
   ⟨(some 105), .load false 1 (.t 104), some (91, false), (u 9 ++ [16, 17, 18, 19, 20, 21]), []⟩,
   ⟨(some 106), .bin .add (.t 98) (.t 105), some (91, false), (u 23), []⟩,
   ⟨(some 107), .faddr 2 (.t 1), some (91, false), (u 9), []⟩,
   ⟨(some 108), .load false 1 (.t 107), some (91, false), (u 9 ++ [24]), []⟩,
   ⟨(some 109), .bin .leq (.t 106) (.t 108), some (91, false), (u 26), []⟩,
   ⟨(some 110), .pick (.t 91) (.c (.bool true)) (.t 109), some (87, true), (u 27), []⟩,
   ⟨(some 111), .pick (.t 87) (.t 110) (.c (.bool false)), none, (u 28), []⟩,
   ⟨(some 2), .mv (.t 111), none, (u 29), []⟩])
 .ret)))), false, false⟩
def c62_l0 : CC :=
 (.seq
 (.seq
 (.region [1, 2, 3] [⟨(some 13), .mv (.t 2), none, [], []⟩,
   ⟨(some 14), .bin .geq (.t 13) (.c (.int .i64 0)), none, [], []⟩])
 (.cond (.t 14)
 .skip
 (.exit 0)))
 (.seq
 (.block 1
 (.seq
 (.region [1, 2, 3] [⟨(some 21), .mv (.t 2), none, [], []⟩,
   ⟨(some 22), .mv (.t 1), none, [], []⟩,
   ⟨(some 23), .bin .eql (.t 21) (.t 22), none, [], []⟩])
 (.cond (.t 23)
 (.seq
 (.region [] [⟨(some 6), .mv (.c (.bool true)), none, [], []⟩])
 .ret)
 .skip)))
 (.region [1, 2, 3] [⟨(some 15), .faddr 2 (.t 3), none, [], []⟩,
   ⟨(some 16), .load false 1 (.t 15), none, [], []⟩,
   ⟨(some 17), .mv (.t 2), none, [], []⟩,
   ⟨(some 18), .iaddr 8 (.t 16) (.t 17), none, [], []⟩,
   ⟨(some 19), .faddr 1 (.t 18), none, [], []⟩,
   ⟨(some 20), .load false 1 (.t 19), none, [], []⟩,
   ⟨(some 2), .mv (.t 20), none, [], []⟩])))
/-- progeny/progenyref11.above -/
def c62 : CFn := ⟨24, [.t 6],
 (.seq
 (.region [0, 1, 2] [⟨(some 3), .box 25 4 (.t 0), none, [], []⟩,
   ⟨(some 6), .mv (.c (.bool false)), none, [], []⟩])
 (.seq
 (.seq
 (.region [1, 2, 3] [⟨(some 7), .faddr 2 (.t 3), none, [], []⟩,
   ⟨(some 8), .load false 1 (.t 7), none, [], []⟩,
   ⟨(some 9), .mv (.t 2), none, [], []⟩,
   ⟨(some 10), .iaddr 8 (.t 8) (.t 9), none, [], []⟩,
   ⟨(some 11), .faddr 1 (.t 10), none, [], []⟩,
   ⟨(some 12), .load false 1 (.t 11), none, [], []⟩,
   ⟨(some 2), .mv (.t 12), none, [], []⟩])
 (.block 0
 (.loop c62_l0)))
 (.seq
 (.region [] [⟨(some 6), .mv (.c (.bool false)), none, [], []⟩])
 .ret))), false, false⟩
def c63_l0 : CC :=
 (.seq
 (.seq
 (.region [1, 2, 5] [⟨(some 6), .mv (.t 1), none, [], []⟩,
   ⟨(some 7), .bin .geq (.t 6) (.c (.int .i64 0)), none, [], []⟩])
 (.cond (.t 7)
 .skip
 (.exit 0)))
 (.block 1
 (.seq
 (.region [1, 2, 5] [⟨(some 8), .mv (.t 1), none, [], []⟩,
   ⟨(some 9), .bslice 3 1 [[.int .i64 0]] [(0, (.t 8))], none, [], []⟩,
   ⟨(some 10), .mv (.t 5), none, [], []⟩,
   ⟨(some 11), .app 3 1 8 false (.t 9) (.t 10), none, [], []⟩,
   ⟨(some 5), .mv (.t 11), none, [], []⟩])
 (.region [1, 2, 5] [⟨(some 12), .faddr 2 (.t 2), none, [], []⟩,
   ⟨(some 13), .load false 1 (.t 12), none, [], []⟩,
   ⟨(some 14), .mv (.t 1), none, [], []⟩,
   ⟨(some 15), .iaddr 8 (.t 13) (.t 14), none, [], []⟩,
   ⟨(some 16), .faddr 1 (.t 15), none, [], []⟩,
   ⟨(some 17), .load false 1 (.t 16), none, [], []⟩,
   ⟨(some 1), .mv (.t 17), none, [], []⟩]))))
/-- progeny/progenyref11.way -/
def c63 : CFn := ⟨19, [.t 4],
 (.seq
 (.region [0, 1] [⟨(some 2), .box 25 4 (.t 0), none, [], []⟩,
   ⟨(some 4), .mv (.c (.nils)), none, [], []⟩])
 (.seq
 (.region [1, 2] [⟨(some 5), .mv (.c (.nils)), none, [], []⟩])
 (.seq
 (.block 0
 (.loop c63_l0))
 (.seq
 (.region [5] [⟨(some 18), .mv (.t 5), none, [], []⟩,
   ⟨(some 4), .mv (.t 18), none, [], []⟩])
 .ret)))), false, false⟩
def c64_l0 : CC :=
 (.seq
 (.seq
 (.region [1, 7, 8] [⟨(some 21), .mv (.t 8), none, [], []⟩,
   ⟨(some 22), .bin .geq (.t 21) (.c (.int .i64 0)), none, [], []⟩,
   ⟨(some 23), .mv (.t 22), none, [], []⟩,
   ⟨(some 24), .mv (.t 7), some (23, true), [], []⟩,
   ⟨(some 25), .bin .geq (.t 24) (.c (.int .i64 0)), some (23, true), [], []⟩,
   ⟨(some 26), .pick (.t 23) (.t 25) (.c (.bool false)), none, [], []⟩])
 (.cond (.t 26)
 .skip
 (.exit 0)))
 (.seq
 (.block 1
 (.seq
 (.region [1, 7, 8] [⟨(some 29), .mv (.t 1), none, [], []⟩,
   ⟨(some 30), .mv (.t 8), none, [], []⟩,
   ⟨(some 31), .iaddr 2 (.t 29) (.t 30), none, [], []⟩,
   ⟨(some 32), .faddr 0 (.t 31), none, [], []⟩,
   ⟨(some 33), .load false 1 (.t 32), none, [], []⟩,
   ⟨(some 34), .mv (.t 7), none, [], []⟩,
   ⟨(some 35), .bin .eql (.t 33) (.t 34), none, [], []⟩])
 (.cond (.t 35)
 (.seq
 (.region [8] [⟨(some 36), .mv (.t 8), none, [], []⟩,
   ⟨(some 6), .mv (.t 36), none, [], []⟩])
 .ret)
 .skip)))
 (.region [1, 7, 8] [⟨(some 27), .mv (.t 8), none, [], []⟩,
   ⟨(some 28), .bin .sub (.t 27) (.c (.int .i64 1)), none, [], []⟩,
   ⟨(some 8), .mv (.t 28), none, [], []⟩])))
/-- progeny/progenyref13.parent -/
def c64 : CFn := ⟨37, [.t 6],
 (.seq
 (.region [0, 1, 2] [⟨(some 3), .box 25 4 (.t 0), none, [], []⟩,
   ⟨(some 6), .mv (.c (.int .i64 0)), none, [], []⟩])
 (.seq
 (.draw [1, 2, 3] [⟨(some 9), .faddr 2 (.t 3), none, [], []⟩,
   ⟨(some 10), .load false 1 (.t 9), none, [0], []⟩,
   ⟨(some 11), .mv (.t 1), none, [], []⟩,
   ⟨(some 12), .mv (.t 2), none, [], []⟩,
   ⟨(some 13), .iaddr 2 (.t 11) (.t 12), none, [2, 3], []⟩,
   ⟨(some 14), .faddr 0 (.t 13), none, [2, 3, 4], []⟩,
   ⟨(some 15), .load false 1 (.t 14), none, [2, 3, 4, 5], []⟩,
   ⟨(some 16), .iaddr 8 (.t 10) (.t 15), none, (u 7), []⟩,
   ⟨(some 17), .faddr 1 (.t 16), none, (u 8), []⟩,
   ⟨(some 18), .load false 1 (.t 17), none, (u 9), []⟩,
   ⟨(some 7), .mv (.t 18), none, (u 10), []⟩])
 (.seq
 (.seq
 (.region [1, 2, 7] [⟨(some 19), .mv (.t 2), none, [], []⟩,
   ⟨(some 20), .bin .sub (.t 19) (.c (.int .i64 1)), none, [], []⟩,
   ⟨(some 8), .mv (.t 20), none, [], []⟩])
 (.block 0
 (.loop c64_l0)))
 (.seq
 (.region [] [⟨(some 6), .mv (.c (.int .i64 (-1))), none, [], []⟩])
 .ret)))), false, false⟩
/-- slices.ContainsFunc[[]int,int] -/
def c65 : CFn := ⟨9, [.t 4],
 (.seq
 (.region [0, 1] [⟨(some 4), .mv (.c (.bool false)), none, [], []⟩])
 (.seq
 (.region [0, 1] [⟨(some 5), .mv (.t 0), none, [], []⟩,
   ⟨(some 6), .mv (.t 1), none, [], []⟩,
   ⟨(some 7), .call (.c (.fn 57 [])) [(.t 5), (.t 6)] false, none, [], []⟩,
   ⟨(some 8), .bin .geq (.t 7) (.c (.int .i64 0)), none, [], []⟩,
   ⟨(some 4), .mv (.t 8), none, [], []⟩])
 .ret)), false, false⟩
/-- progeny/plain.forest$1 -/
def c66 : CFn := ⟨12, [.t 3],
 (.seq
 (.region [0, 1] [⟨(some 3), .mv (.c (.bool false)), none, [], []⟩])
 (.seq
 (.region [0, 1] [⟨(some 4), .mv (.t 0), none, [], []⟩,
   ⟨(some 5), .bin .lss (.t 4) (.c (.int .i64 0)), none, [], []⟩,
   ⟨(some 6), .mv (.t 5), none, [], []⟩,
   ⟨(some 7), .mv (.t 0), some (6, false), [], []⟩,
   ⟨(some 8), .load false 1 (.t 1), some (6, false), [], []⟩,
   ⟨(some 9), .len false (.t 8), some (6, false), [], []⟩,
   ⟨(some 10), .bin .geq (.t 7) (.t 9), some (6, false), [], []⟩,
   ⟨(some 11), .pick (.t 6) (.c (.bool true)) (.t 10), none, [], []⟩,
   ⟨(some 3), .mv (.t 11), none, [], []⟩])
 .ret)), false, false⟩
def c67_l0 : CC :=
 (.seq
 (.seq
 (.region [1, 2, 5] [⟨(some 6), .mv (.t 1), none, [], []⟩,
   ⟨(some 7), .bin .geq (.t 6) (.c (.int .i64 0)), none, [], []⟩])
 (.cond (.t 7)
 .skip
 (.exit 0)))
 (.seq
 (.block 1
 (.region [1, 2, 5] [⟨(some 14), .mv (.t 5), none, [], []⟩,
   ⟨(some 15), .bin .add (.t 14) (.c (.int .i64 1)), none, [], []⟩,
   ⟨(some 5), .mv (.t 15), none, [], []⟩]))
 (.region [1, 2, 5] [⟨(some 8), .faddr 2 (.t 2), none, [], []⟩,
   ⟨(some 9), .load false 1 (.t 8), none, [], []⟩,
   ⟨(some 10), .mv (.t 1), none, [], []⟩,
   ⟨(some 11), .iaddr 8 (.t 9) (.t 10), none, [], []⟩,
   ⟨(some 12), .faddr 1 (.t 11), none, [], []⟩,
   ⟨(some 13), .load false 1 (.t 12), none, [], []⟩,
   ⟨(some 1), .mv (.t 13), none, [], []⟩])))
/-- progeny/plain.depth -/
def c67 : CFn := ⟨17, [.t 4],
 (.seq
 (.region [0, 1] [⟨(some 2), .box 25 4 (.t 0), none, [], []⟩,
   ⟨(some 4), .mv (.c (.int .i64 0)), none, [], []⟩])
 (.seq
 (.region [1, 2] [⟨(some 5), .mv (.c (.int .i64 0)), none, [], []⟩])
 (.seq
 (.block 0
 (.loop c67_l0))
 (.seq
 (.region [5] [⟨(some 16), .mv (.t 5), none, [], []⟩,
   ⟨(some 4), .mv (.t 16), none, [], []⟩])
 .ret)))), false, false⟩
def c73_l0 : CC :=
 (.seq
 (.seq
 (.region [1, 3, 8, 9, 10] [⟨(some 22), .mv (.t 10), none, [], []⟩,
   ⟨(some 23), .mv (.t 8), none, [], []⟩,
   ⟨(some 24), .bin .lss (.t 22) (.t 23), none, [], []⟩])
 (.cond (.t 24)
 .skip
 (.exit 0)))
 (.seq
 (.block 1
 (.region [1, 3, 8, 9, 10] [⟨(some 29), .mv (.t 9), none, [], []⟩,
   ⟨(some 30), .mv (.t 10), none, [], []⟩,
   ⟨(some 31), .bslice 3 1 [[.int .i64 0]] [(0, (.t 30))], none, [], []⟩,
   ⟨(some 32), .app 3 1 8 false (.t 29) (.t 31), none, [], []⟩,
   ⟨(some 9), .mv (.t 32), none, [], []⟩]))
 (.region [1, 3, 8, 9, 10] [⟨(some 25), .load true 4 (.t 3), none, [], []⟩,
   ⟨(some 26), .mv (.t 1), none, [], []⟩,
   ⟨(some 27), .mv (.t 10), none, [], []⟩,
   ⟨(some 28), .call (.c (.fn 40 [])) [(.t 25), (.t 26), (.t 27)] false, none, [], []⟩,
   ⟨(some 10), .mv (.t 28), none, [], []⟩])))
/-- progeny/plain.children -/
def c73 : CFn := ⟨34, [.t 6],
 (.seq
 (.region [0, 1, 2] [⟨(some 3), .box 25 4 (.t 0), none, [], []⟩,
   ⟨(some 6), .mv (.c (.nils)), none, [], []⟩])
 (.seq
 (.region [1, 2, 3] [⟨(some 11), .mv (.t 1), none, [], []⟩,
   ⟨(some 12), .len false (.t 11), none, [], []⟩,
   ⟨(some 7), .mv (.c (.int .i64 0)), none, [], []⟩,
   ⟨(some 8), .mv (.t 12), none, [], []⟩])
 (.seq
 (.seq
 (.region [1, 2, 3, 7, 8] [⟨(some 13), .mv (.t 2), none, [], []⟩,
   ⟨(some 14), .bin .geq (.t 13) (.c (.int .i64 0)), none, [], []⟩])
 (.cond (.t 14)
 (.region [1, 2, 3] [⟨(some 15), .mv (.t 2), none, [], []⟩,
   ⟨(some 16), .bin .add (.t 15) (.c (.int .i64 1)), none, [], []⟩,
   ⟨(some 17), .load true 4 (.t 3), none, [], []⟩,
   ⟨(some 18), .mv (.t 1), none, [], []⟩,
   ⟨(some 19), .mv (.t 2), none, [], []⟩,
   ⟨(some 20), .call (.c (.fn 40 [])) [(.t 17), (.t 18), (.t 19)] false, none, [], []⟩,
   ⟨(some 7), .mv (.t 16), none, [], []⟩,
   ⟨(some 8), .mv (.t 20), none, [], []⟩])
 .skip))
 (.seq
 (.region [1, 3, 7, 8] [⟨(some 9), .mv (.c (.nils)), none, [], []⟩])
 (.seq
 (.seq
 (.region [1, 3, 7, 8, 9] [⟨(some 21), .mv (.t 7), none, [], []⟩,
   ⟨(some 10), .mv (.t 21), none, [], []⟩])
 (.block 0
 (.loop c73_l0)))
 (.seq
 (.region [9] [⟨(some 33), .mv (.t 9), none, [], []⟩,
   ⟨(some 6), .mv (.t 33), none, [], []⟩])
 .ret)))))), false, false⟩
/-- progeny/dbd.isType -/
def c77 : CFn := ⟨70, [.t 2],
 (.seq
 (.region [0] [⟨(some 1), .box 61 8 (.t 0), none, [], []⟩,
   ⟨(some 2), .mv (.c (.bool false)), none, [], []⟩])
 (.seq
 (.block 0
 (.seq
 (.region [1] [⟨(some 4), .faddr 0 (.t 1), none, [], []⟩,
   ⟨(some 5), .load false 1 (.t 4), none, [], []⟩,
   ⟨(some 6), .call (.c (.fn 54 [])) [(.t 5)] false, none, [], []⟩,
   ⟨(some 7), .un .not (.t 6), none, [], []⟩,
   ⟨(some 8), .mv (.t 7), none, [], []⟩,
   ⟨(some 9), .faddr 2 (.t 1), some (8, false), [], []⟩,
   ⟨(some 10), .load false 1 (.t 9), some (8, false), [], []⟩,
   ⟨(some 11), .bin .lss (.t 10) (.c (.int .i64 1)), some (8, false), [], []⟩,
   ⟨(some 12), .pick (.t 8) (.c (.bool true)) (.t 11), none, [], []⟩,
   ⟨(some 13), .mv (.t 12), none, [], []⟩,
   ⟨(some 14), .faddr 2 (.t 1), some (13, false), [], []⟩,
   ⟨(some 15), .load false 1 (.t 14), some (13, false), [], []⟩,
   ⟨(some 16), .faddr 3 (.t 1), some (13, false), [], []⟩,
   ⟨(some 17), .load false 1 (.t 16), some (13, false), [], []⟩,
   ⟨(some 18), .bin .gtr (.t 15) (.t 17), some (13, false), [], []⟩,
   ⟨(some 19), .pick (.t 13) (.c (.bool true)) (.t 18), none, [], []⟩,
   ⟨(some 20), .mv (.t 19), none, [], []⟩,
   ⟨(some 21), .faddr 3 (.t 1), some (20, false), [], []⟩,
   ⟨(some 22), .load false 1 (.t 21), some (20, false), [], []⟩,
   ⟨(some 23), .bin .gtr (.t 22) (.c (.int .i64 40)), some (20, false), [], []⟩,
   ⟨(some 24), .pick (.t 20) (.c (.bool true)) (.t 23), none, [], []⟩,
   ⟨(some 25), .mv (.t 24), none, [], []⟩,
   ⟨(some 26), .faddr 4 (.t 1), some (25, false), [], []⟩,
   ⟨(some 27), .load false 1 (.t 26), some (25, false), [], []⟩,
   ⟨(some 28), .faddr 3 (.t 1), some (25, false), [], []⟩,
   ⟨(some 29), .load false 1 (.t 28), some (25, false), [], []⟩,
   ⟨(some 30), .call (.c (.fn 86 [])) [(.t 27), (.t 29)] false, some (25, false), [], []⟩,
   ⟨(some 31), .un .not (.t 30), some (25, false), [], []⟩,
   ⟨(some 32), .pick (.t 25) (.c (.bool true)) (.t 31), none, [], []⟩,
   ⟨(some 3), .mv (.t 32), none, [], []⟩])
 (.cond (.t 3)
 (.seq
 (.region [] [⟨(some 2), .mv (.c (.bool false)), none, [], []⟩])
 .ret)
 (.seq
 (.region [1] [⟨(some 34), .faddr 5 (.t 1), none, [], []⟩,
   ⟨(some 35), .load false 1 (.t 34), none, [], []⟩,
   ⟨(some 36), .bin .eql (.t 35) (.c (.int .i64 (-1))), none, [], []⟩,
   ⟨(some 33), .mv (.t 36), none, [], []⟩])
 (.cond (.t 33)
 (.seq
 (.region [1] [⟨(some 37), .faddr 6 (.t 1), none, [], []⟩,
   ⟨(some 38), .load false 1 (.t 37), none, [], []⟩,
   ⟨(some 39), .un .not (.t 38), none, [], []⟩,
   ⟨(some 2), .mv (.t 39), none, [], []⟩])
 .ret)
 (.seq
 (.region [1] [⟨(some 41), .faddr 5 (.t 1), none, [], []⟩,
   ⟨(some 42), .load false 1 (.t 41), none, [], []⟩,
   ⟨(some 43), .bin .lss (.t 42) (.c (.int .i64 0)), none, [], []⟩,
   ⟨(some 44), .mv (.t 43), none, [], []⟩,
   ⟨(some 45), .faddr 5 (.t 1), some (44, false), [], []⟩,
   ⟨(some 46), .load false 1 (.t 45), some (44, false), [], []⟩,
   ⟨(some 47), .faddr 4 (.t 1), some (44, false), [], []⟩,
   ⟨(some 48), .load false 1 (.t 47), some (44, false), [], []⟩,
   ⟨(some 49), .len false (.t 48), some (44, false), [], []⟩,
   ⟨(some 50), .bin .geq (.t 46) (.t 49), some (44, false), [], []⟩,
   ⟨(some 51), .pick (.t 44) (.c (.bool true)) (.t 50), none, [], []⟩,
   ⟨(some 40), .mv (.t 51), none, [], []⟩])
 (.cond (.t 40)
 (.seq
 (.region [] [⟨(some 2), .mv (.c (.bool false)), none, [], []⟩])
 .ret)
 .skip)))))))
 (.seq
 (.draw [1] [⟨(some 52), .faddr 4 (.t 1), none, [], []⟩,
   ⟨(some 53), .load false 1 (.t 52), none, [0], []⟩,
   ⟨(some 54), .faddr 5 (.t 1), none, [], []⟩,
   ⟨(some 55), .load false 1 (.t 54), none, [2], []⟩,
   ⟨(some 56), .iaddr 3 (.t 53) (.t 55), none, (u 4), []⟩,
   ⟨(some 57), .faddr 1 (.t 56), none, (u 5), []⟩,
   ⟨(some 58), .load false 1 (.t 57), none, (u 6), []⟩,
   ⟨(some 59), .faddr 4 (.t 1), none, [], []⟩,
   ⟨(some 60), .load false 1 (.t 59), none, [7], []⟩,
   ⟨(some 61), .faddr 5 (.t 1), none, [], []⟩,
   ⟨(some 62), .load false 1 (.t 61), none, [9], []⟩,
   ⟨(some 63), .iaddr 3 (.t 60) (.t 62), none, [7, 8, 9, 10], []⟩,
   ⟨(some 64), .faddr 2 (.t 63), none, [7, 8, 9, 10, 11], []⟩,
   ⟨(some 65), .load false 1 (.t 64), none, [7, 8, 9, 10, 11, 12], []⟩,
   ⟨(some 66), .bin .add (.t 58) (.t 65), none, (u 14), []⟩,
   ⟨(some 67), .faddr 2 (.t 1), none, [], []⟩,
   ⟨(some 68), .load false 1 (.t 67), none, [15], []⟩,
   ⟨(some 69), .bin .leq (.t 66) (.t 68), none, (u 17), []⟩,
   ⟨(some 2), .mv (.t 69), none, (u 18), []⟩])
 .ret))), false, false⟩
/-- slices.ContainsFunc[[]progeny/api.Type,progeny/api.Type] -/
def c78 : CFn := ⟨9, [.t 4],
 (.seq
 (.region [0, 1] [⟨(some 4), .mv (.c (.bool false)), none, [], []⟩])
 (.seq
 (.region [0, 1] [⟨(some 5), .mv (.t 0), none, [], []⟩,
   ⟨(some 6), .mv (.t 1), none, [], []⟩,
   ⟨(some 7), .call (.c (.fn 87 [])) [(.t 5), (.t 6)] false, none, [], []⟩,
   ⟨(some 8), .bin .geq (.t 7) (.c (.int .i64 0)), none, [], []⟩,
   ⟨(some 4), .mv (.t 8), none, [], []⟩])
 .ret)), false, false⟩
/-- progeny/dbd.areTypes$1 -/
def c79 : CFn := ⟨9, [.t 3],
 (.seq
 (.region [0, 1] [⟨(some 2), .box 61 8 (.t 0), none, [], []⟩,
   ⟨(some 3), .mv (.c (.bool false)), none, [], []⟩])
 (.seq
 (.region [1, 2] [⟨(some 4), .faddr 0 (.t 2), none, [], []⟩,
   ⟨(some 5), .load false 1 (.t 4), none, [], []⟩,
   ⟨(some 6), .faddr 0 (.t 1), none, [], []⟩,
   ⟨(some 7), .load false 1 (.t 6), none, [], []⟩,
   ⟨(some 8), .bin .eql (.t 5) (.t 7), none, [], []⟩,
   ⟨(some 3), .mv (.t 8), none, [], []⟩])
 .ret)), false, false⟩
/-- slices.ContainsFunc[[]progeny/api.Search,progeny/api.Search] -/
def c80 : CFn := ⟨9, [.t 4],
 (.seq
 (.region [0, 1] [⟨(some 4), .mv (.c (.bool false)), none, [], []⟩])
 (.seq
 (.region [0, 1] [⟨(some 5), .mv (.t 0), none, [], []⟩,
   ⟨(some 6), .mv (.t 1), none, [], []⟩,
   ⟨(some 7), .call (.c (.fn 88 [])) [(.t 5), (.t 6)] false, none, [], []⟩,
   ⟨(some 8), .bin .geq (.t 7) (.c (.int .i64 0)), none, [], []⟩,
   ⟨(some 4), .mv (.t 8), none, [], []⟩])
 .ret)), false, false⟩
/-- progeny/dbd.areIndexes$1 -/
def c81 : CFn := ⟨9, [.t 3],
 (.seq
 (.region [0, 1] [⟨(some 2), .box 75 4 (.t 0), none, [], []⟩,
   ⟨(some 3), .mv (.c (.bool false)), none, [], []⟩])
 (.seq
 (.region [1, 2] [⟨(some 4), .faddr 0 (.t 2), none, [], []⟩,
   ⟨(some 5), .load false 1 (.t 4), none, [], []⟩,
   ⟨(some 6), .faddr 0 (.t 1), none, [], []⟩,
   ⟨(some 7), .load false 1 (.t 6), none, [], []⟩,
   ⟨(some 8), .bin .eql (.t 5) (.t 7), none, [], []⟩,
   ⟨(some 3), .mv (.t 8), none, [], []⟩])
 .ret)), false, false⟩
def c86_l0 : CC :=
 (.seq
 (.region [0, 1, 7, 8, 9] [⟨(some 10), .bin .lss (.t 9) (.t 8), none, [], []⟩])
 (.seq
 (.cond (.t 10)
 .skip
 (.exit 0))
 (.seq
 (.block 1
 (.seq
 (.region [0, 1, 7, 8, 9] [⟨(some 11), .mv (.t 9), none, [], []⟩,
   ⟨(some 12), .iaddr 3 (.t 7) (.t 9), none, [], []⟩,
   ⟨(some 13), .load true 3 (.t 12), none, [], []⟩,
   ⟨(some 6), .box 79 3 (.c (.agg [.str ⟨#[]⟩, .int .i64 0, .int .i64 0])), none, [], []⟩,
   ⟨(some 5), .mv (.t 11), none, [], []⟩,
   ⟨none, .store 3 (.t 6) (.t 13), none, [], []⟩])
 (.seq
 (.seq
 (.region [0, 1, 5, 6, 7, 8, 9] [⟨(some 14), .faddr 0 (.t 6), none, [], []⟩,
   ⟨(some 15), .load false 1 (.t 14), none, [], []⟩,
   ⟨(some 16), .call (.c (.fn 54 [])) [(.t 15)] false, none, [], []⟩,
   ⟨(some 17), .un .not (.t 16), none, [], []⟩,
   ⟨(some 18), .mv (.t 17), none, [], []⟩,
   ⟨(some 19), .faddr 1 (.t 6), some (18, false), [], []⟩,
   ⟨(some 20), .load false 1 (.t 19), some (18, false), [], []⟩,
   ⟨(some 21), .bin .lss (.t 20) (.c (.int .i64 0)), some (18, false), [], []⟩,
   ⟨(some 22), .pick (.t 18) (.c (.bool true)) (.t 21), none, [], []⟩,
   ⟨(some 23), .mv (.t 22), none, [], []⟩,
   ⟨(some 24), .faddr 1 (.t 6), some (23, false), [], []⟩,
   ⟨(some 25), .load false 1 (.t 24), some (23, false), [], []⟩,
   ⟨(some 26), .mv (.t 1), some (23, false), [], []⟩,
   ⟨(some 27), .bin .geq (.t 25) (.t 26), some (23, false), [], []⟩,
   ⟨(some 28), .pick (.t 23) (.c (.bool true)) (.t 27), none, [], []⟩,
   ⟨(some 29), .mv (.t 28), none, [], []⟩,
   ⟨(some 30), .faddr 2 (.t 6), some (29, false), [], []⟩,
   ⟨(some 31), .load false 1 (.t 30), some (29, false), [], []⟩,
   ⟨(some 32), .bin .lss (.t 31) (.c (.int .i64 1)), some (29, false), [], []⟩,
   ⟨(some 33), .pick (.t 29) (.c (.bool true)) (.t 32), none, [], []⟩,
   ⟨(some 34), .mv (.t 33), none, [], []⟩,
   ⟨(some 35), .faddr 2 (.t 6), some (34, false), [], []⟩,
   ⟨(some 36), .load false 1 (.t 35), some (34, false), [], []⟩,
   ⟨(some 37), .mv (.t 1), some (34, false), [], []⟩,
   ⟨(some 38), .faddr 1 (.t 6), some (34, false), [], []⟩,
   ⟨(some 39), .load false 1 (.t 38), some (34, false), [], []⟩,
   ⟨(some 40), .bin .sub (.t 37) (.t 39), some (34, false), [], []⟩,
   ⟨(some 41), .bin .gtr (.t 36) (.t 40), some (34, false), [], []⟩,
   ⟨(some 42), .pick (.t 34) (.c (.bool true)) (.t 41), none, [], []⟩])
 (.cond (.t 42)
 (.seq
 (.region [] [⟨(some 4), .mv (.c (.bool false)), none, [], []⟩])
 .ret)
 .skip))
 (.seq
 (.region [0, 1, 5, 6, 7, 8, 9] [⟨(some 43), .mv (.t 0), none, [], []⟩,
   ⟨(some 44), .mv (.t 5), none, [], []⟩,
   ⟨(some 45), .slc 3 (.t 43) none (some (.t 44)) none, none, [], []⟩,
   ⟨(some 46), .mkfn 91 [(.t 6)], none, [], []⟩,
   ⟨(some 47), .call (.c (.fn 90 [])) [(.t 45), (.t 46)] false, none, [], []⟩])
 (.cond (.t 47)
 (.seq
 (.region [] [⟨(some 4), .mv (.c (.bool false)), none, [], []⟩])
 .ret)
 .skip)))))
 (.region [0, 1, 7, 8, 9] [⟨(some 48), .bin .add (.t 9) (.c (.int .i64 1)), none, [], []⟩,
   ⟨(some 9), .mv (.t 48), none, [], []⟩]))))
/-- progeny/dbd.areFields -/
def c86 : CFn := ⟨52, [.t 4],
 (.seq
 (.region [0, 1] [⟨(some 4), .mv (.c (.bool false)), none, [], []⟩])
 (.seq
 (.seq
 (.region [0, 1] [⟨(some 7), .mv (.t 0), none, [], []⟩,
   ⟨(some 8), .len false (.t 7), none, [], []⟩,
   ⟨(some 9), .mv (.c (.int .i64 0)), none, [], []⟩])
 (.block 0
 (.loop c86_l0)))
 (.seq
 (.region [0] [⟨(some 49), .mv (.t 0), none, [], []⟩,
   ⟨(some 50), .len false (.t 49), none, [], []⟩,
   ⟨(some 51), .bin .leq (.t 50) (.c (.int .i64 5)), none, [], []⟩,
   ⟨(some 4), .mv (.t 51), none, [], []⟩])
 .ret))), false, false⟩
def c87_l0 : CC :=
 (.seq
 (.region [0, 1, 7, 8] [⟨(some 9), .bin .lss (.t 8) (.t 7), none, [], []⟩])
 (.seq
 (.cond (.t 9)
 .skip
 (.exit 0))
 (.seq
 (.block 1
 (.seq
 (.region [0, 1, 7, 8] [⟨(some 10), .mv (.t 8), none, [], []⟩,
   ⟨(some 5), .mv (.t 10), none, [], []⟩])
 (.seq
 (.region [0, 1, 5, 7, 8] [⟨(some 11), .mv (.t 1), none, [], []⟩,
   ⟨(some 12), .mv (.t 0), none, [], []⟩,
   ⟨(some 13), .mv (.t 5), none, [], []⟩,
   ⟨(some 14), .iaddr 8 (.t 12) (.t 13), none, [], []⟩,
   ⟨(some 15), .load true 8 (.t 14), none, [], []⟩,
   ⟨(some 16), .call (.t 11) [(.t 15)] false, none, [], []⟩])
 (.cond (.t 16)
 (.seq
 (.region [5] [⟨(some 17), .mv (.t 5), none, [], []⟩,
   ⟨(some 4), .mv (.t 17), none, [], []⟩])
 .ret)
 .skip))))
 (.region [0, 1, 7, 8] [⟨(some 18), .bin .add (.t 8) (.c (.int .i64 1)), none, [], []⟩,
   ⟨(some 8), .mv (.t 18), none, [], []⟩]))))
/-- slices.IndexFunc[[]progeny/api.Type,progeny/api.Type] -/
def c87 : CFn := ⟨19, [.t 4],
 (.seq
 (.region [0, 1] [⟨(some 4), .mv (.c (.int .i64 0)), none, [], []⟩])
 (.seq
 (.seq
 (.region [0, 1] [⟨(some 6), .mv (.t 0), none, [], []⟩,
   ⟨(some 7), .len false (.t 6), none, [], []⟩,
   ⟨(some 8), .mv (.c (.int .i64 0)), none, [], []⟩])
 (.block 0
 (.loop c87_l0)))
 (.seq
 (.region [] [⟨(some 4), .mv (.c (.int .i64 (-1))), none, [], []⟩])
 .ret))), false, false⟩
def c88_l0 : CC :=
 (.seq
 (.region [0, 1, 7, 8] [⟨(some 9), .bin .lss (.t 8) (.t 7), none, [], []⟩])
 (.seq
 (.cond (.t 9)
 .skip
 (.exit 0))
 (.seq
 (.block 1
 (.seq
 (.region [0, 1, 7, 8] [⟨(some 10), .mv (.t 8), none, [], []⟩,
   ⟨(some 5), .mv (.t 10), none, [], []⟩])
 (.seq
 (.region [0, 1, 5, 7, 8] [⟨(some 11), .mv (.t 1), none, [], []⟩,
   ⟨(some 12), .mv (.t 0), none, [], []⟩,
   ⟨(some 13), .mv (.t 5), none, [], []⟩,
   ⟨(some 14), .iaddr 4 (.t 12) (.t 13), none, [], []⟩,
   ⟨(some 15), .load true 4 (.t 14), none, [], []⟩,
   ⟨(some 16), .call (.t 11) [(.t 15)] false, none, [], []⟩])
 (.cond (.t 16)
 (.seq
 (.region [5] [⟨(some 17), .mv (.t 5), none, [], []⟩,
   ⟨(some 4), .mv (.t 17), none, [], []⟩])
 .ret)
 .skip))))
 (.region [0, 1, 7, 8] [⟨(some 18), .bin .add (.t 8) (.c (.int .i64 1)), none, [], []⟩,
   ⟨(some 8), .mv (.t 18), none, [], []⟩]))))
/-- slices.IndexFunc[[]progeny/api.Search,progeny/api.Search] -/
def c88 : CFn := ⟨19, [.t 4],
 (.seq
 (.region [0, 1] [⟨(some 4), .mv (.c (.int .i64 0)), none, [], []⟩])
 (.seq
 (.seq
 (.region [0, 1] [⟨(some 6), .mv (.t 0), none, [], []⟩,
   ⟨(some 7), .len false (.t 6), none, [], []⟩,
   ⟨(some 8), .mv (.c (.int .i64 0)), none, [], []⟩])
 (.block 0
 (.loop c88_l0)))
 (.seq
 (.region [] [⟨(some 4), .mv (.c (.int .i64 (-1))), none, [], []⟩])
 .ret))), false, false⟩
/-- slices.ContainsFunc[[]progeny/api.Field,progeny/api.Field] -/
def c90 : CFn := ⟨9, [.t 4],
 (.seq
 (.region [0, 1] [⟨(some 4), .mv (.c (.bool false)), none, [], []⟩])
 (.seq
 (.region [0, 1] [⟨(some 5), .mv (.t 0), none, [], []⟩,
   ⟨(some 6), .mv (.t 1), none, [], []⟩,
   ⟨(some 7), .call (.c (.fn 92 [])) [(.t 5), (.t 6)] false, none, [], []⟩,
   ⟨(some 8), .bin .geq (.t 7) (.c (.int .i64 0)), none, [], []⟩,
   ⟨(some 4), .mv (.t 8), none, [], []⟩])
 .ret)), false, false⟩
/-- progeny/dbd.areFields$1 -/
def c91 : CFn := ⟨9, [.t 3],
 (.seq
 (.region [0, 1] [⟨(some 2), .box 79 3 (.t 0), none, [], []⟩,
   ⟨(some 3), .mv (.c (.bool false)), none, [], []⟩])
 (.seq
 (.region [1, 2] [⟨(some 4), .faddr 0 (.t 2), none, [], []⟩,
   ⟨(some 5), .load false 1 (.t 4), none, [], []⟩,
   ⟨(some 6), .faddr 0 (.t 1), none, [], []⟩,
   ⟨(some 7), .load false 1 (.t 6), none, [], []⟩,
   ⟨(some 8), .bin .eql (.t 5) (.t 7), none, [], []⟩,
   ⟨(some 3), .mv (.t 8), none, [], []⟩])
 .ret)), false, false⟩
def c92_l0 : CC :=
 (.seq
 (.region [0, 1, 7, 8] [⟨(some 9), .bin .lss (.t 8) (.t 7), none, [], []⟩])
 (.seq
 (.cond (.t 9)
 .skip
 (.exit 0))
 (.seq
 (.block 1
 (.seq
 (.region [0, 1, 7, 8] [⟨(some 10), .mv (.t 8), none, [], []⟩,
   ⟨(some 5), .mv (.t 10), none, [], []⟩])
 (.seq
 (.region [0, 1, 5, 7, 8] [⟨(some 11), .mv (.t 1), none, [], []⟩,
   ⟨(some 12), .mv (.t 0), none, [], []⟩,
   ⟨(some 13), .mv (.t 5), none, [], []⟩,
   ⟨(some 14), .iaddr 3 (.t 12) (.t 13), none, [], []⟩,
   ⟨(some 15), .load true 3 (.t 14), none, [], []⟩,
   ⟨(some 16), .call (.t 11) [(.t 15)] false, none, [], []⟩])
 (.cond (.t 16)
 (.seq
 (.region [5] [⟨(some 17), .mv (.t 5), none, [], []⟩,
   ⟨(some 4), .mv (.t 17), none, [], []⟩])
 .ret)
 .skip))))
 (.region [0, 1, 7, 8] [⟨(some 18), .bin .add (.t 8) (.c (.int .i64 1)), none, [], []⟩,
   ⟨(some 8), .mv (.t 18), none, [], []⟩]))))
/-- slices.IndexFunc[[]progeny/api.Field,progeny/api.Field] -/
def c92 : CFn := ⟨19, [.t 4],
 (.seq
 (.region [0, 1] [⟨(some 4), .mv (.c (.int .i64 0)), none, [], []⟩])
 (.seq
 (.seq
 (.region [0, 1] [⟨(some 6), .mv (.t 0), none, [], []⟩,
   ⟨(some 7), .len false (.t 6), none, [], []⟩,
   ⟨(some 8), .mv (.c (.int .i64 0)), none, [], []⟩])
 (.block 0
 (.loop c92_l0)))
 (.seq
 (.region [] [⟨(some 4), .mv (.c (.int .i64 (-1))), none, [], []⟩])
 .ret))), false, false⟩

def ctab : List (Nat × CFn) := [(8, c8), (9, c9), (10, c10), (11, c11), (14, c14), (15, c15), (22, c22), (24, c24), (26, c26), (28, c28), (29, c29), (30, c30), (31, c31), (32, c32), (33, c33), (34, c34), (35, c35), (37, c37), (38, c38), (39, c39), (40, c40), (42, c42), (43, c43), (45, c45), (47, c47), (50, c50), (53, c53), (54, c54), (55, c55), (56, c56), (57, c57), (58, c58), (59, c59), (60, c60), (61, c61), (62, c62), (63, c63), (64, c64), (65, c65), (66, c66), (67, c67), (73, c73), (77, c77), (78, c78), (79, c79), (80, c80), (81, c81), (86, c86), (87, c87), (88, c88), (90, c90), (91, c91), (92, c92)]
def utab : List (Nat × CFn) := [(52, c52)]
def cprog (f : Nat) : Option CFn := ((ctab ++ utab).find? fun p => p.1 == f).map (·.2)
theorem ok_all : ctab.all (fun p => okFn Go.Proofs.Try.prog p.1 p.2) = true := by kernel_rfl
theorem cprog_ok {f : Nat} {c : CFn} (h : cprog f = some c) : okFn Go.Proofs.Try.prog f c = true ∨ (f, c) ∈ utab := by
  unfold cprog at h
  cases hf : (ctab ++ utab).find? fun p => p.1 == f with
  | none => rw [hf] at h; cases h
  | some p =>
    rw [hf] at h
    simp only [Option.map_some, Option.some.injEq] at h
    have h1 := List.mem_of_find?_eq_some hf
    have h2 := List.find?_some hf
    simp only [beq_iff_eq] at h2
    rcases List.mem_append.1 h1 with h1 | h1
    · have h3 := List.all_eq_true.1 ok_all p h1
      rw [← h, ← h2]; exact .inl h3
    · rw [← h, ← h2]; exact .inr h1
theorem at8 : cprog 8 = some c8 := rfl
theorem at9 : cprog 9 = some c9 := rfl
theorem at10 : cprog 10 = some c10 := rfl
theorem at11 : cprog 11 = some c11 := rfl
theorem at14 : cprog 14 = some c14 := rfl
theorem at15 : cprog 15 = some c15 := rfl
theorem at22 : cprog 22 = some c22 := rfl
theorem at24 : cprog 24 = some c24 := rfl
theorem at26 : cprog 26 = some c26 := rfl
theorem at28 : cprog 28 = some c28 := rfl
theorem at29 : cprog 29 = some c29 := rfl
theorem at30 : cprog 30 = some c30 := rfl
theorem at31 : cprog 31 = some c31 := rfl
theorem at32 : cprog 32 = some c32 := rfl
theorem at33 : cprog 33 = some c33 := rfl
theorem at34 : cprog 34 = some c34 := rfl
theorem at35 : cprog 35 = some c35 := rfl
theorem at37 : cprog 37 = some c37 := rfl
theorem at38 : cprog 38 = some c38 := rfl
theorem at39 : cprog 39 = some c39 := rfl
theorem at40 : cprog 40 = some c40 := rfl
theorem at42 : cprog 42 = some c42 := rfl
theorem at43 : cprog 43 = some c43 := rfl
theorem at45 : cprog 45 = some c45 := rfl
theorem at47 : cprog 47 = some c47 := rfl
theorem at50 : cprog 50 = some c50 := rfl
theorem at52 : cprog 52 = some c52 := rfl
theorem at53 : cprog 53 = some c53 := rfl
theorem at54 : cprog 54 = some c54 := rfl
theorem at55 : cprog 55 = some c55 := rfl
theorem at56 : cprog 56 = some c56 := rfl
theorem at57 : cprog 57 = some c57 := rfl
theorem at58 : cprog 58 = some c58 := rfl
theorem at59 : cprog 59 = some c59 := rfl
theorem at60 : cprog 60 = some c60 := rfl
theorem at61 : cprog 61 = some c61 := rfl
theorem at62 : cprog 62 = some c62 := rfl
theorem at63 : cprog 63 = some c63 := rfl
theorem at64 : cprog 64 = some c64 := rfl
theorem at65 : cprog 65 = some c65 := rfl
theorem at66 : cprog 66 = some c66 := rfl
theorem at67 : cprog 67 = some c67 := rfl
theorem at73 : cprog 73 = some c73 := rfl
theorem at77 : cprog 77 = some c77 := rfl
theorem at78 : cprog 78 = some c78 := rfl
theorem at79 : cprog 79 = some c79 := rfl
theorem at80 : cprog 80 = some c80 := rfl
theorem at81 : cprog 81 = some c81 := rfl
theorem at86 : cprog 86 = some c86 := rfl
theorem at87 : cprog 87 = some c87 := rfl
theorem at88 : cprog 88 = some c88 := rfl
theorem at90 : cprog 90 = some c90 := rfl
theorem at91 : cprog 91 = some c91 := rfl
theorem at92 : cprog 92 = some c92 := rfl
end Go.Proofs.Ytcbmakanokmdjaa.Code
