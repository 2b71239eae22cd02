/- The compact code of the functions, printed by a program of ours (gen.py); the kernel checks it against the program's own form. -/
import Derived.Test.YthgcnlmmgilhjaaInsP
import Derived.Test.YthgcnlmmgilhjaaProg
import Derived.KernelRfl
namespace Go.Proofs.Ythgcnlmmgilhjaa.Code
open Go.Proofs.Ythgcnlmmgilhjaa.Ev
abbrev u (n : Nat) : List Nat := List.range n

def c7_l0 : CC :=
 (.seq
 (.seq
 (.region [0, 4, 5, 6, 7, 10, 11, 13] [⟨(some 81), .mv (.t 13), none, [], []⟩,
   ⟨(some 82), .mv (.t 4), none, [], []⟩,
   ⟨(some 83), .len false (.t 82), none, [], []⟩,
   ⟨(some 84), .bin .lss (.t 81) (.t 83), none, [], []⟩])
 (.cond (.t 84)
 .skip
 (.exit 2)))
 (.seq
 (.block 3
 (.seq
 (.draw [0, 4, 5, 6, 7, 10, 11, 13] [⟨(some 87), .mv (.t 11), none, [], []⟩,
   ⟨(some 88), .mv (.t 4), none, [], []⟩,
   ⟨(some 89), .mv (.t 13), none, [], []⟩,
   ⟨(some 90), .iaddr 2 (.t 88) (.t 89), none, [1, 2], []⟩,
   ⟨(some 91), .faddr 0 (.t 90), none, [1, 2, 3], []⟩,
   ⟨(some 92), .load false 1 (.t 91), none, [1, 2, 3, 4], []⟩,
   ⟨(some 93), .mv (.t 4), none, [], []⟩,
   ⟨(some 94), .mv (.t 13), none, [], []⟩,
   ⟨(some 95), .iaddr 2 (.t 93) (.t 94), none, [6, 7], []⟩,
   ⟨(some 96), .faddr 1 (.t 95), none, [6, 7, 8], []⟩,
   ⟨(some 97), .load false 1 (.t 96), none, [6, 7, 8, 9], []⟩,
   ⟨(some 98), .bin .add (.t 92) (.t 97), none, [1, 2, 3, 4, 5, 6, 7, 8, 9, 10], []⟩,
   ⟨(some 99), .bin .lss (.t 87) (.t 98), none, (u 12), []⟩,
   ⟨(some 100), .mv (.t 99), none, (u 13), []⟩,
   ⟨(some 101), .mv (.t 4), some (100, true), (u 14), []⟩,
   ⟨(some 102), .mv (.t 13), some (100, true), (u 14), []⟩,
   ⟨(some 103), .iaddr 2 (.t 101) (.t 102), some (100, true), (u 16), []⟩,
   ⟨(some 104), .faddr 0 (.t 103), some (100, true), (u 17), []⟩,
   ⟨(some 105), .load false 1 (.t 104), some (100, true), (u 18), []⟩,
   ⟨(some 106), .mv (.t 11), some (100, true), (u 14), []⟩,
   ⟨(some 107), .mv (.t 6), some (100, true), (u 14), []⟩,
   ⟨(some 108), .bin .add (.t 106) (.t 107), some (100, true), (u 14 ++ [19, 20]), []⟩,
   ⟨(some 109), .bin .lss (.t 105) (.t 108), some (100, true), (u 22), []⟩,
   ⟨(some 110), .pick (.t 100) (.t 109) (.c (.bool false)), none, (u 23), []⟩])
 (.cond (.t 110)
 (.seq
 (.region [] [⟨(some 2), .mv (.c (.bool false)), none, [], []⟩])
 .ret)
 .skip)))
 (.region [0, 4, 5, 6, 7, 10, 11, 13] [⟨(some 85), .mv (.t 13), none, [], []⟩,
   ⟨(some 86), .bin .add (.t 85) (.c (.int .i64 1)), none, [], []⟩,
   ⟨(some 13), .mv (.t 86), none, [], []⟩])))
def c7_l1 : CC :=
 (.seq
 (.seq
 (.region [0, 3, 4, 5] [⟨(some 25), .mv (.t 5), none, [], []⟩,
   ⟨(some 26), .mv (.t 0), none, [], []⟩,
   ⟨(some 27), .len false (.t 26), none, [], []⟩,
   ⟨(some 28), .bin .lss (.t 25) (.t 27), none, [], []⟩,
   ⟨(some 29), .mv (.t 28), none, [], []⟩,
   ⟨(some 30), .mv (.t 4), some (29, false), [], []⟩,
   ⟨(some 31), .len false (.t 30), some (29, false), [], []⟩,
   ⟨(some 32), .bin .gtr (.t 31) (.c (.int .i64 0)), some (29, false), [], []⟩,
   ⟨(some 33), .pick (.t 29) (.c (.bool true)) (.t 32), none, [], []⟩])
 (.cond (.t 33)
 .skip
 (.exit 0)))
 (.seq
 (.block 1
 (.seq
 (.region [0, 3, 4, 5] [⟨(some 6), .mv (.c (.int .i64 (-1))), none, [], []⟩])
 (.seq
 (.seq
 (.region [0, 3, 4, 5, 6] [⟨(some 36), .mv (.t 5), none, [], []⟩,
   ⟨(some 37), .mv (.t 0), none, [], []⟩,
   ⟨(some 38), .len false (.t 37), none, [], []⟩,
   ⟨(some 39), .bin .lss (.t 36) (.t 38), none, [], []⟩])
 (.cond (.t 39)
 (.region [0, 3, 4, 5] [⟨(some 40), .mv (.t 0), none, [], []⟩,
   ⟨(some 41), .mv (.t 5), none, [], []⟩,
   ⟨(some 42), .iaddr 1 (.t 40) (.t 41), none, [], []⟩,
   ⟨(some 43), .load false 1 (.t 42), none, [], []⟩,
   ⟨(some 44), .convI .i64 (.t 43), none, [], []⟩,
   ⟨(some 6), .mv (.t 44), none, [], []⟩])
 .skip))
 (.seq
 (.region [0, 3, 4, 5, 6] [⟨(some 46), .mv (.t 3), none, [], []⟩,
   ⟨(some 47), .call (.c (.fn 11 [])) [(.t 46)] false, none, [], []⟩,
   ⟨(some 45), .mv (.t 47), none, [], []⟩,
   ⟨(some 48), .extract (.t 45) 0, none, [], []⟩,
   ⟨(some 49), .extract (.t 45) 1, none, [], []⟩,
   ⟨(some 7), .mv (.t 48), none, [], []⟩,
   ⟨(some 8), .mv (.t 49), none, [], []⟩])
 (.seq
 (.seq
 (.region [0, 3, 4, 5, 6, 7, 8] [⟨(some 50), .mv (.t 8), none, [], []⟩,
   ⟨(some 51), .bin .neq (.t 50) (.c (.int .i64 0)), none, [], []⟩])
 (.cond (.t 51)
 (.seq
 (.region [] [⟨(some 2), .mv (.c (.bool false)), none, [], []⟩])
 .ret)
 .skip))
 (.seq
 (.region [0, 3, 4, 5, 6, 7] [⟨(some 9), .mv (.c (.int .i64 0)), none, [], []⟩])
 (.seq
 (.seq
 (.region [0, 3, 4, 5, 6, 7, 9] [⟨(some 52), .mv (.t 6), none, [], []⟩,
   ⟨(some 53), .bin .geq (.t 52) (.c (.int .i64 0)), none, [], []⟩])
 (.cond (.t 53)
 (.seq
 (.region [0, 3, 4, 5, 6, 7] [⟨(some 55), .mv (.t 3), none, [], []⟩,
   ⟨(some 56), .mv (.t 6), none, [], []⟩,
   ⟨(some 57), .call (.c (.fn 28 [])) [(.t 55), (.t 56)] true, none, [], []⟩,
   ⟨(some 54), .mv (.t 57), none, [], []⟩,
   ⟨(some 58), .extract (.t 54) 0, none, [], []⟩,
   ⟨(some 59), .extract (.t 54) 1, none, [], []⟩,
   ⟨(some 60), .extract (.t 54) 2, none, [], []⟩,
   ⟨(some 10), .mv (.t 58), none, [], []⟩,
   ⟨(some 11), .mv (.t 59), none, [], []⟩,
   ⟨(some 12), .mv (.t 60), none, [], []⟩])
 (.seq
 (.seq
 (.region [0, 3, 4, 5, 6, 7, 10, 11, 12] [⟨(some 61), .mv (.t 12), none, [], []⟩,
   ⟨(some 62), .bin .neq (.t 61) (.c (.int .i64 0)), none, [], []⟩])
 (.cond (.t 62)
 (.seq
 (.seq
 (.region [0, 3, 4, 5, 6, 12] [⟨(some 63), .mv (.t 12), none, [], []⟩,
   ⟨(some 64), .bin .neq (.t 63) (.c (.int .i64 2)), none, [], []⟩,
   ⟨(some 65), .mv (.t 64), none, [], []⟩,
   ⟨(some 66), .mv (.t 12), some (65, true), [], []⟩,
   ⟨(some 67), .bin .neq (.t 66) (.c (.int .i64 5)), some (65, true), [], []⟩,
   ⟨(some 68), .pick (.t 65) (.t 67) (.c (.bool false)), none, [], []⟩,
   ⟨(some 69), .mv (.t 68), none, [], []⟩,
   ⟨(some 70), .mv (.t 6), some (69, false), [], []⟩,
   ⟨(some 71), .bin .geq (.t 70) (.c (.int .i64 1)), some (69, false), [], []⟩,
   ⟨(some 72), .mv (.t 71), some (69, false), [], []⟩,
   ⟨(some 73), .mv (.t 6), some (72, true), [], []⟩,
   ⟨(some 74), .bin .leq (.t 73) (.c (.int .i64 126)), some (72, true), [], []⟩,
   ⟨(some 75), .pick (.t 72) (.t 74) (.c (.bool false)), some (69, false), [], []⟩,
   ⟨(some 76), .mv (.t 75), some (69, false), [], []⟩,
   ⟨(some 77), .mv (.t 12), some (76, true), [], []⟩,
   ⟨(some 78), .bin .eql (.t 77) (.c (.int .i64 2)), some (76, true), [], []⟩,
   ⟨(some 79), .pick (.t 76) (.t 78) (.c (.bool false)), some (69, false), [], []⟩,
   ⟨(some 80), .pick (.t 69) (.c (.bool true)) (.t 79), none, [], []⟩])
 (.cond (.t 80)
 (.seq
 (.region [] [⟨(some 2), .mv (.c (.bool false)), none, [], []⟩])
 .ret)
 .skip))
 (.exit 1))
 .skip))
 (.seq
 (.seq
 (.region [0, 4, 5, 6, 7, 10, 11] [⟨(some 13), .mv (.c (.int .i64 0)), none, [], []⟩])
 (.block 2
 (.loop c7_l0)))
 (.seq
 (.region [0, 4, 5, 6, 7, 10, 11] [⟨(some 112), .mv (.t 10), none, [], []⟩,
   ⟨(some 113), .mv (.t 11), none, [], []⟩,
   ⟨(some 114), .mv (.t 11), none, [], []⟩,
   ⟨(some 115), .convI .u8 (.t 114), none, [], []⟩,
   ⟨(some 116), .bslice 5 1 [[.int .u8 0]] [(0, (.t 115))], none, [], []⟩,
   ⟨(some 117), .call (.c (.fn 26 [])) [(.t 112), (.t 113), (.t 116)] true, none, [], []⟩,
   ⟨(some 111), .mv (.t 117), none, [], []⟩,
   ⟨(some 118), .extract (.t 111) 0, none, [], []⟩,
   ⟨(some 119), .extract (.t 111) 1, none, [], []⟩,
   ⟨(some 10), .mv (.t 118), none, [], []⟩,
   ⟨(some 12), .mv (.t 119), none, [], []⟩])
 (.seq
 (.seq
 (.region [0, 4, 5, 6, 7, 10, 11, 12] [⟨(some 120), .mv (.t 12), none, [], []⟩,
   ⟨(some 121), .bin .neq (.t 120) (.c (.int .i64 0)), none, [], []⟩])
 (.cond (.t 121)
 (.seq
 (.region [] [⟨(some 2), .mv (.c (.bool false)), none, [], []⟩])
 .ret)
 .skip))
 (.region [0, 4, 5, 6, 7, 10, 11] [⟨(some 122), .mv (.t 10), none, [], []⟩,
   ⟨(some 123), .mv (.t 4), none, [], []⟩,
   ⟨(some 124), .mv (.t 11), none, [], []⟩,
   ⟨(some 125), .mv (.t 6), none, [], []⟩,
   ⟨(some 126), .build [.int .i64 0, .int .i64 0] [(0, 1, (.t 124)), (1, 1, (.t 125))], none, [], []⟩,
   ⟨(some 127), .bslice 49 2 [[.int .i64 0, .int .i64 0]] [(0, (.t 126))], none, [], []⟩,
   ⟨(some 128), .app 49 2 16 false (.t 123) (.t 127), none, [], []⟩,
   ⟨(some 129), .mv (.t 6), none, [], []⟩,
   ⟨(some 130), .mv (.t 6), none, [], []⟩,
   ⟨(some 131), .bin .rem (.t 130) (.c (.int .i64 2)), none, [], []⟩,
   ⟨(some 132), .bin .add (.t 129) (.t 131), none, [], []⟩,
   ⟨(some 3), .mv (.t 122), none, [], []⟩,
   ⟨(some 4), .mv (.t 128), none, [], []⟩,
   ⟨(some 9), .mv (.t 132), none, [], []⟩]))))))
 (.seq
 (.region [0, 3, 4, 5, 6, 7, 9] [⟨(some 133), .mv (.t 4), none, [], []⟩,
   ⟨(some 134), .len false (.t 133), none, [], []⟩,
   ⟨(some 135), .bin .gtr (.t 134) (.c (.int .i64 0)), none, [], []⟩])
 (.cond (.t 135)
 (.seq
 (.region [0, 3, 4, 5, 6, 7] [⟨(some 136), .mv (.t 6), none, [], []⟩,
   ⟨(some 137), .un .neg (.t 136), none, [], []⟩,
   ⟨(some 138), .mv (.t 4), none, [], []⟩,
   ⟨(some 139), .len false (.t 138), none, [], []⟩,
   ⟨(some 140), .bin .rem (.t 137) (.t 139), none, [], []⟩,
   ⟨(some 14), .mv (.t 140), none, [], []⟩])
 (.seq
 (.region [0, 3, 4, 5, 7, 14] [⟨(some 141), .mv (.t 4), none, [], []⟩,
   ⟨(some 142), .mv (.t 14), none, [], []⟩,
   ⟨(some 143), .iaddr 2 (.t 141) (.t 142), none, [], []⟩,
   ⟨(some 144), .load true 2 (.t 143), none, [], []⟩,
   ⟨(some 15), .box 49 2 (.c (.agg [.int .i64 0, .int .i64 0])), none, [], []⟩,
   ⟨none, .store 2 (.t 15) (.t 144), none, [], []⟩])
 (.seq
 (.region [0, 3, 4, 5, 7, 14, 15] [⟨(some 146), .mv (.t 3), none, [], []⟩,
   ⟨(some 147), .faddr 0 (.t 15), none, [], []⟩,
   ⟨(some 148), .load false 1 (.t 147), none, [], []⟩,
   ⟨(some 149), .call (.c (.fn 24 [])) [(.t 146), (.t 148), (.c (.int .i64 1))] true, none, [], []⟩,
   ⟨(some 145), .mv (.t 149), none, [], []⟩,
   ⟨(some 150), .extract (.t 145) 0, none, [], []⟩,
   ⟨(some 151), .extract (.t 145) 1, none, [], []⟩,
   ⟨(some 16), .mv (.t 150), none, [], []⟩,
   ⟨(some 17), .mv (.t 151), none, [], []⟩])
 (.seq
 (.seq
 (.draw [0, 3, 4, 5, 7, 14, 15, 16, 17] [⟨(some 152), .mv (.t 17), none, [], []⟩,
   ⟨(some 153), .bin .neq (.t 152) (.c (.int .i64 0)), none, [0], []⟩,
   ⟨(some 154), .mv (.t 153), none, [0, 1], []⟩,
   ⟨(some 155), .mv (.t 16), some (154, false), [0, 1, 2], []⟩,
   ⟨(some 156), .len false (.t 155), some (154, false), (u 4), []⟩,
   ⟨(some 157), .bin .neq (.t 156) (.c (.int .i64 1)), some (154, false), (u 5), []⟩,
   ⟨(some 158), .pick (.t 154) (.c (.bool true)) (.t 157), none, (u 6), []⟩,
   ⟨(some 159), .mv (.t 158), none, (u 7), []⟩,
   ⟨(some 160), .mv (.t 16), some (159, false), (u 8), []⟩,
   ⟨(some 161), .iaddr 1 (.t 160) (.c (.int .i64 0)), some (159, false), (u 9), []⟩,
   ⟨(some 162), .load false 1 (.t 161), some (159, false), (u 10), []⟩,
   ⟨(some 163), .faddr 0 (.t 15), some (159, false), (u 8), []⟩,
   ⟨(some 164), .load false 1 (.t 163), some (159, false), (u 8 ++ [11]), []⟩,
   ⟨(some 165), .convI .u8 (.t 164), some (159, false), (u 8 ++ [11, 12]), []⟩,
   ⟨(some 166), .bin .neq (.t 162) (.t 165), some (159, false), (u 14), []⟩,
   ⟨(some 167), .pick (.t 159) (.c (.bool true)) (.t 166), none, (u 15), []⟩])
 (.cond (.t 167)
 (.seq
 (.region [] [⟨(some 2), .mv (.c (.bool false)), none, [], []⟩])
 .ret)
 .skip))
 (.seq
 (.region [0, 3, 4, 5, 7, 14, 15] [⟨(some 169), .mv (.t 3), none, [], []⟩,
   ⟨(some 170), .faddr 0 (.t 15), none, [], []⟩,
   ⟨(some 171), .load false 1 (.t 170), none, [], []⟩,
   ⟨(some 172), .faddr 1 (.t 15), none, [], []⟩,
   ⟨(some 173), .load false 1 (.t 172), none, [], []⟩,
   ⟨(some 174), .call (.c (.fn 30 [])) [(.t 169), (.t 171), (.t 173)] true, none, [], []⟩,
   ⟨(some 168), .mv (.t 174), none, [], []⟩,
   ⟨(some 175), .extract (.t 168) 0, none, [], []⟩,
   ⟨(some 176), .extract (.t 168) 1, none, [], []⟩,
   ⟨(some 18), .mv (.t 175), none, [], []⟩,
   ⟨(some 17), .mv (.t 176), none, [], []⟩])
 (.seq
 (.seq
 (.region [0, 4, 5, 7, 14, 15, 17, 18] [⟨(some 177), .mv (.t 17), none, [], []⟩,
   ⟨(some 178), .bin .neq (.t 177) (.c (.int .i64 0)), none, [], []⟩])
 (.cond (.t 178)
 (.seq
 (.region [] [⟨(some 2), .mv (.c (.bool false)), none, [], []⟩])
 .ret)
 .skip))
 (.draw [0, 4, 5, 7, 14, 15, 18] [⟨(some 179), .mv (.t 18), none, [], []⟩,
   ⟨(some 180), .mv (.t 4), none, [], []⟩,
   ⟨(some 181), .mv (.t 14), none, [], []⟩,
   ⟨(some 182), .mv (.t 14), none, [], []⟩,
   ⟨(some 183), .slc 2 (.t 180) none (some (.t 181)) (some (.t 182)), none, [1, 2, 3], []⟩,
   ⟨(some 184), .mv (.t 4), none, [], []⟩,
   ⟨(some 185), .mv (.t 14), none, [], []⟩,
   ⟨(some 186), .bin .add (.t 185) (.c (.int .i64 1)), none, [6], []⟩,
   ⟨(some 187), .slc 2 (.t 184) (some (.t 186)) none none, none, [5, 6, 7], []⟩,
   ⟨(some 188), .app 49 2 16 false (.t 183) (.t 187), none, [1, 2, 3, 4, 5, 6, 7, 8], []⟩,
   ⟨(some 189), .faddr 1 (.t 15), none, [], []⟩,
   ⟨(some 190), .load false 1 (.t 189), none, [10], [9]⟩,
   ⟨(some 191), .faddr 1 (.t 15), none, [], []⟩,
   ⟨(some 192), .load false 1 (.t 191), none, [12], [9]⟩,
   ⟨(some 193), .bin .rem (.t 192) (.c (.int .i64 2)), none, [12, 13], []⟩,
   ⟨(some 194), .bin .add (.t 190) (.t 193), none, [10, 11, 12, 13, 14], []⟩,
   ⟨(some 195), .un .neg (.t 194), none, [10, 11, 12, 13, 14, 15], []⟩,
   ⟨(some 3), .mv (.t 179), none, (u 10), []⟩,
   ⟨(some 4), .mv (.t 188), none, (u 10 ++ [17]), []⟩,
   ⟨(some 9), .mv (.t 195), none, (u 19), []⟩])))))))
 .skip))))
 (.seq
 (.region [0, 3, 4, 5, 7, 9] [⟨(some 197), .mv (.t 3), none, [], []⟩,
   ⟨(some 198), .call (.c (.fn 11 [])) [(.t 197)] false, none, [], []⟩,
   ⟨(some 196), .mv (.t 198), none, [], []⟩,
   ⟨(some 199), .extract (.t 196) 0, none, [], []⟩,
   ⟨(some 200), .extract (.t 196) 1, none, [], []⟩,
   ⟨(some 19), .mv (.t 199), none, [], []⟩,
   ⟨(some 8), .mv (.t 200), none, [], []⟩])
 (.seq
 (.region [0, 3, 4, 5, 7, 8, 9, 19] [⟨(some 201), .mv (.t 8), none, [], []⟩,
   ⟨(some 202), .bin .neq (.t 201) (.c (.int .i64 0)), none, [], []⟩,
   ⟨(some 203), .mv (.t 202), none, [], []⟩,
   ⟨(some 204), .mv (.t 19), some (203, false), [], []⟩,
   ⟨(some 205), .mv (.t 7), some (203, false), [], []⟩,
   ⟨(some 206), .mv (.t 9), some (203, false), [], []⟩,
   ⟨(some 207), .bin .sub (.t 205) (.t 206), some (203, false), [], []⟩,
   ⟨(some 208), .bin .neq (.t 204) (.t 207), some (203, false), [], []⟩,
   ⟨(some 209), .pick (.t 203) (.c (.bool true)) (.t 208), none, [], []⟩,
   ⟨(some 210), .mv (.t 209), none, [], []⟩,
   ⟨(some 211), .mv (.t 3), some (210, false), [], []⟩,
   ⟨(some 212), .call (.c (.fn 13 [])) [(.t 211)] false, some (210, false), [], []⟩,
   ⟨(some 213), .un .not (.t 212), some (210, false), [], []⟩,
   ⟨(some 214), .pick (.t 210) (.c (.bool true)) (.t 213), none, [], []⟩])
 (.cond (.t 214)
 (.seq
 (.region [] [⟨(some 2), .mv (.c (.bool false)), none, [], []⟩])
 .ret)
 .skip))))))))))
 (.region [0, 3, 4, 5] [⟨(some 34), .mv (.t 5), none, [], []⟩,
   ⟨(some 35), .bin .add (.t 34) (.c (.int .i64 1)), none, [], []⟩,
   ⟨(some 5), .mv (.t 35), none, [], []⟩])))
/-- progeny/progenylaw08.PageMoves -/
def c7 : CFn := ⟨223, [.t 2],
 (.seq
 (.region [0] [⟨(some 2), .mv (.c (.bool false)), none, [], []⟩])
 (.seq
 (.seq
 (.region [0] [⟨(some 20), .mv (.t 0), none, [], []⟩,
   ⟨(some 21), .len false (.t 20), none, [], []⟩,
   ⟨(some 22), .bin .gtr (.t 21) (.c (.int .i64 60)), none, [], []⟩])
 (.cond (.t 22)
 (.seq
 (.region [] [⟨(some 23), .call (.c (.fn 8 [])) [] false, none, [], []⟩,
   ⟨(some 2), .mv (.t 23), none, [], []⟩])
 .ret)
 .skip))
 (.seq
 (.region [0] [⟨(some 24), .call (.c (.fn 20 [])) [] true, none, [], []⟩,
   ⟨(some 3), .mv (.t 24), none, [], []⟩])
 (.seq
 (.region [0, 3] [⟨(some 4), .mv (.c (.nils)), none, [], []⟩])
 (.seq
 (.seq
 (.region [0, 3, 4] [⟨(some 5), .mv (.c (.int .i64 0)), none, [], []⟩])
 (.block 0
 (.loop c7_l1)))
 (.seq
 (.draw [3] [⟨(some 215), .mv (.t 3), none, [], []⟩,
   ⟨(some 216), .b2s (.t 215), none, [0], [3]⟩,
   ⟨(some 217), .call (.c (.fn 20 [])) [] true, none, [], []⟩,
   ⟨(some 218), .b2s (.t 217), none, [2], []⟩,
   ⟨(some 219), .bin .eql (.t 216) (.t 218), none, (u 4), []⟩,
   ⟨(some 220), .mv (.t 219), none, (u 5), []⟩,
   ⟨(some 221), .call (.c (.fn 8 [])) [] false, some (220, true), (u 6), []⟩,
   ⟨(some 222), .pick (.t 220) (.t 221) (.c (.bool false)), none, (u 7), []⟩,
   ⟨(some 2), .mv (.t 222), none, (u 8), []⟩])
 .ret)))))), false, false⟩
/-- progeny/progenylaw08.Awake -/
def c8 : CFn := ⟨33, [.t 0],
 (.seq
 (.region [] [⟨(some 0), .mv (.c (.bool false)), none, [], []⟩])
 (.seq
 (.region [] [⟨(some 7), .call (.c (.fn 20 [])) [] true, none, [], []⟩,
   ⟨(some 8), .call (.c (.fn 28 [])) [(.t 7), (.c (.int .i64 5))] true, none, [], []⟩,
   ⟨(some 6), .mv (.t 8), none, [], []⟩,
   ⟨(some 9), .extract (.t 6) 0, none, [], []⟩,
   ⟨(some 10), .extract (.t 6) 1, none, [], []⟩,
   ⟨(some 11), .extract (.t 6) 2, none, [], []⟩,
   ⟨(some 1), .mv (.t 9), none, [], []⟩,
   ⟨(some 2), .mv (.t 10), none, [], []⟩,
   ⟨(some 3), .mv (.t 11), none, [], []⟩])
 (.seq
 (.region [1, 2, 3] [⟨(some 13), .mv (.t 1), none, [], []⟩,
   ⟨(some 14), .call (.c (.fn 9 [])) [(.t 13)] true, none, [], []⟩,
   ⟨(some 12), .mv (.t 14), none, [], []⟩,
   ⟨(some 15), .extract (.t 12) 0, none, [], []⟩,
   ⟨(some 16), .extract (.t 12) 1, none, [], []⟩,
   ⟨(some 4), .mv (.t 15), none, [], []⟩,
   ⟨(some 5), .mv (.t 16), none, [], []⟩])
 (.seq
 (.region [2, 3, 4, 5] [⟨(some 17), .mv (.t 3), none, [], []⟩,
   ⟨(some 18), .bin .eql (.t 17) (.c (.int .i64 0)), none, [], []⟩,
   ⟨(some 19), .mv (.t 18), none, [], []⟩,
   ⟨(some 20), .mv (.t 5), some (19, true), [], []⟩,
   ⟨(some 21), .bin .eql (.t 20) (.c (.int .i64 0)), some (19, true), [], []⟩,
   ⟨(some 22), .pick (.t 19) (.t 21) (.c (.bool false)), none, [], []⟩,
   ⟨(some 23), .mv (.t 22), none, [], []⟩,
   ⟨(some 24), .mv (.t 2), some (23, true), [], []⟩,
   ⟨(some 25), .bin .eql (.t 24) (.c (.int .i64 2)), some (23, true), [], []⟩,
   ⟨(some 26), .pick (.t 23) (.t 25) (.c (.bool false)), none, [], []⟩,
   ⟨(some 27), .mv (.t 26), none, [], []⟩,
   ⟨(some 28), .mv (.t 4), some (27, true), [], []⟩,
   ⟨(some 29), .build [.int .i64 0, .int .i64 0] [(0, 1, (.c (.int .i64 8))), (1, 1, (.c (.int .i64 120)))], some (27, true), [], []⟩,
   ⟨(some 30), .bslice 35 2 [[.int .i64 0, .int .i64 0]] [(0, (.t 29))], some (27, true), [], []⟩,
   ⟨(some 31), .call (.c (.fn 15 [])) [(.t 28), (.t 30)] false, some (27, true), [], []⟩,
   ⟨(some 32), .pick (.t 27) (.t 31) (.c (.bool false)), none, [], []⟩,
   ⟨(some 0), .mv (.t 32), none, [], []⟩])
 .ret)))), false, true⟩
def c9_l0 : CC :=
 (.seq
 (.region [6, 16, 17, 18] [⟨(some 19), .bin .lss (.t 18) (.t 17), none, [], []⟩])
 (.seq
 (.cond (.t 19)
 .skip
 (.exit 0))
 (.seq
 (.block 1
 (.seq
 (.region [6, 16, 17, 18] [⟨(some 20), .iaddr 2 (.t 16) (.t 18), none, [], []⟩,
   ⟨(some 21), .load true 2 (.t 20), none, [], []⟩,
   ⟨(some 8), .box 55 2 (.c (.agg [.int .i64 0, .int .i64 0])), none, [], []⟩,
   ⟨none, .store 2 (.t 8) (.t 21), none, [], []⟩])
 (.region [6, 8, 16, 17, 18] [⟨(some 22), .mv (.t 6), none, [], []⟩,
   ⟨(some 23), .faddr 0 (.t 8), none, [], []⟩,
   ⟨(some 24), .load false 1 (.t 23), none, [], []⟩,
   ⟨(some 25), .faddr 1 (.t 8), none, [], []⟩,
   ⟨(some 26), .load false 1 (.t 25), none, [], []⟩,
   ⟨(some 27), .build [.int .i64 0, .int .i64 0] [(0, 1, (.t 24)), (1, 1, (.t 26))], none, [], []⟩,
   ⟨(some 28), .bslice 35 2 [[.int .i64 0, .int .i64 0]] [(0, (.t 27))], none, [], []⟩,
   ⟨(some 29), .app 35 2 16 false (.t 22) (.t 28), none, [], []⟩,
   ⟨(some 6), .mv (.t 29), none, [], []⟩])))
 (.region [6, 16, 17, 18] [⟨(some 30), .bin .add (.t 18) (.c (.int .i64 1)), none, [], []⟩,
   ⟨(some 18), .mv (.t 30), none, [], []⟩]))))
/-- progeny/page.Places -/
def c9 : CFn := ⟨32, [.t 2, .t 3],
 (.seq
 (.region [0] [⟨(some 2), .mv (.c (.nils)), none, [], []⟩,
   ⟨(some 3), .mv (.c (.int .i64 0)), none, [], []⟩])
 (.seq
 (.region [0] [⟨(some 10), .mv (.t 0), none, [], []⟩,
   ⟨(some 11), .call (.c (.fn 32 [])) [(.t 10)] true, none, [], []⟩,
   ⟨(some 9), .mv (.t 11), none, [], []⟩,
   ⟨(some 12), .extract (.t 9) 0, none, [], []⟩,
   ⟨(some 13), .extract (.t 9) 1, none, [], []⟩,
   ⟨(some 4), .mv (.t 12), none, [], []⟩,
   ⟨(some 5), .mv (.t 13), none, [], []⟩])
 (.seq
 (.seq
 (.region [4, 5] [⟨(some 14), .mv (.t 5), none, [], []⟩,
   ⟨(some 15), .un .not (.t 14), none, [], []⟩])
 (.cond (.t 15)
 (.seq
 (.region [] [⟨(some 2), .mv (.c (.nils)), none, [], []⟩,
   ⟨(some 3), .mv (.c (.int .i64 70)), none, [], []⟩])
 .ret)
 .skip))
 (.seq
 (.region [4] [⟨(some 6), .mv (.c (.nils)), none, [], []⟩])
 (.seq
 (.seq
 (.region [4, 6] [⟨(some 16), .mv (.t 4), none, [], []⟩,
   ⟨(some 17), .len false (.t 16), none, [], []⟩,
   ⟨(some 18), .mv (.c (.int .i64 0)), none, [], []⟩])
 (.block 0
 (.loop c9_l0)))
 (.seq
 (.region [6] [⟨(some 31), .mv (.t 6), none, [], []⟩,
   ⟨(some 2), .mv (.t 31), none, [], []⟩,
   ⟨(some 3), .mv (.c (.int .i64 0)), none, [], []⟩])
 .ret)))))), false, false⟩
/-- progeny/page.Free -/
def c11 : CFn := ⟨21, [.t 2, .t 3],
 (.seq
 (.region [0] [⟨(some 2), .mv (.c (.int .i64 0)), none, [], []⟩,
   ⟨(some 3), .mv (.c (.int .i64 0)), none, [], []⟩])
 (.seq
 (.region [0] [⟨(some 9), .mv (.t 0), none, [], []⟩,
   ⟨(some 10), .call (.c (.fn 32 [])) [(.t 9)] true, none, [], []⟩,
   ⟨(some 8), .mv (.t 10), none, [], []⟩,
   ⟨(some 11), .extract (.t 8) 0, none, [], []⟩,
   ⟨(some 12), .extract (.t 8) 1, none, [], []⟩,
   ⟨(some 4), .mv (.t 11), none, [], []⟩,
   ⟨(some 5), .mv (.t 12), none, [], []⟩])
 (.seq
 (.seq
 (.region [4, 5] [⟨(some 13), .mv (.t 5), none, [], []⟩,
   ⟨(some 14), .un .not (.t 13), none, [], []⟩])
 (.cond (.t 14)
 (.seq
 (.region [] [⟨(some 2), .mv (.c (.int .i64 0)), none, [], []⟩,
   ⟨(some 3), .mv (.c (.int .i64 70)), none, [], []⟩])
 .ret)
 .skip))
 (.seq
 (.region [4] [⟨(some 16), .mv (.t 4), none, [], []⟩,
   ⟨(some 17), .call (.c (.fn 34 [])) [(.t 16)] false, none, [], []⟩,
   ⟨(some 15), .mv (.t 17), none, [], []⟩,
   ⟨(some 18), .extract (.t 15) 0, none, [], []⟩,
   ⟨(some 19), .extract (.t 15) 1, none, [], []⟩,
   ⟨(some 6), .mv (.t 18), none, [], []⟩,
   ⟨(some 7), .mv (.t 19), none, [], []⟩])
 (.seq
 (.region [6] [⟨(some 20), .mv (.t 6), none, [], []⟩,
   ⟨(some 2), .mv (.t 20), none, [], []⟩,
   ⟨(some 3), .mv (.c (.int .i64 0)), none, [], []⟩])
 .ret))))), false, false⟩
/-- progeny/page.Valid -/
def c13 : CFn := ⟨11, [.t 2],
 (.seq
 (.region [0] [⟨(some 2), .mv (.c (.bool false)), none, [], []⟩])
 (.seq
 (.region [0] [⟨(some 6), .mv (.t 0), none, [], []⟩,
   ⟨(some 7), .call (.c (.fn 32 [])) [(.t 6)] true, none, [], []⟩,
   ⟨(some 5), .mv (.t 7), none, [], []⟩,
   ⟨(some 8), .extract (.t 5) 0, none, [], []⟩,
   ⟨(some 9), .extract (.t 5) 1, none, [], []⟩,
   ⟨(some 3), .mv (.t 8), none, [], []⟩,
   ⟨(some 4), .mv (.t 9), none, [], []⟩])
 (.seq
 (.region [4] [⟨(some 10), .mv (.t 4), none, [], []⟩,
   ⟨(some 2), .mv (.t 10), none, [], []⟩])
 .ret))), false, false⟩
def c15_l0 : CC :=
 (.seq
 (.seq
 (.region [0, 1, 5] [⟨(some 11), .mv (.t 5), none, [], []⟩,
   ⟨(some 12), .mv (.t 0), none, [], []⟩,
   ⟨(some 13), .len false (.t 12), none, [], []⟩,
   ⟨(some 14), .bin .lss (.t 11) (.t 13), none, [], []⟩])
 (.cond (.t 14)
 .skip
 (.exit 0)))
 (.seq
 (.block 1
 (.seq
 (.draw [0, 1, 5] [⟨(some 17), .mv (.t 0), none, [], []⟩,
   ⟨(some 18), .mv (.t 5), none, [], []⟩,
   ⟨(some 19), .iaddr 2 (.t 17) (.t 18), none, [0, 1], []⟩,
   ⟨(some 20), .load true 2 (.t 19), none, [0, 1, 2], []⟩,
   ⟨(some 21), .mv (.t 1), none, [], []⟩,
   ⟨(some 22), .mv (.t 5), none, [], []⟩,
   ⟨(some 23), .iaddr 2 (.t 21) (.t 22), none, [4, 5], []⟩,
   ⟨(some 24), .load true 2 (.t 23), none, [4, 5, 6], []⟩,
   ⟨(some 25), .eqs true [0, 0] (.t 20) (.t 24), none, (u 8), []⟩])
 (.cond (.t 25)
 (.seq
 (.region [] [⟨(some 4), .mv (.c (.bool false)), none, [], []⟩])
 .ret)
 .skip)))
 (.region [0, 1, 5] [⟨(some 15), .mv (.t 5), none, [], []⟩,
   ⟨(some 16), .bin .add (.t 15) (.c (.int .i64 1)), none, [], []⟩,
   ⟨(some 5), .mv (.t 16), none, [], []⟩])))
/-- progeny/progenylaw08.SamePlaces -/
def c15 : CFn := ⟨26, [.t 4],
 (.seq
 (.region [0, 1] [⟨(some 4), .mv (.c (.bool false)), none, [], []⟩])
 (.seq
 (.seq
 (.region [0, 1] [⟨(some 6), .mv (.t 0), none, [], []⟩,
   ⟨(some 7), .len false (.t 6), none, [], []⟩,
   ⟨(some 8), .mv (.t 1), none, [], []⟩,
   ⟨(some 9), .len false (.t 8), none, [], []⟩,
   ⟨(some 10), .bin .neq (.t 7) (.t 9), none, [], []⟩])
 (.cond (.t 10)
 (.seq
 (.region [] [⟨(some 4), .mv (.c (.bool false)), none, [], []⟩])
 .ret)
 .skip))
 (.seq
 (.seq
 (.region [0, 1] [⟨(some 5), .mv (.c (.int .i64 0)), none, [], []⟩])
 (.block 0
 (.loop c15_l0)))
 (.seq
 (.region [] [⟨(some 4), .mv (.c (.bool true)), none, [], []⟩])
 .ret)))), false, false⟩
/-- progeny/page.Format -/
def c20 : CFn := ⟨10, [.t 0],
 (.seq
 (.region [] [⟨(some 0), .mv (.c (.nils)), none, [], []⟩])
 (.seq
 (.region [] [⟨(some 2), .mks 5 1 1 [.int .u8 0] (.c (.int .i64 128)) (.c (.int .i64 128)), none, [], []⟩,
   ⟨(some 1), .mv (.t 2), none, [], []⟩])
 (.seq
 (.region [1] [⟨(some 3), .mv (.t 1), none, [], []⟩,
   ⟨(some 4), .iaddr 1 (.t 3) (.c (.int .i64 1)), none, [], []⟩,
   ⟨none, .store 1 (.t 4) (.c (.int .u8 83)), none, [], []⟩])
 (.seq
 (.region [1] [⟨(some 5), .mv (.t 1), none, [], []⟩,
   ⟨(some 6), .build [.int .i64 0, .int .i64 0] [(0, 1, (.c (.int .i64 2))), (1, 1, (.c (.int .i64 126)))], none, [], []⟩,
   ⟨(some 7), .bslice 55 2 [[.int .i64 0, .int .i64 0]] [(0, (.t 6))], none, [], []⟩,
   ⟨(some 8), .call (.c (.fn 35 [])) [(.t 5), (.t 7)] false, none, [], []⟩])
 (.seq
 (.region [1] [⟨(some 9), .mv (.t 1), none, [], []⟩,
   ⟨(some 0), .mv (.t 9), none, [], []⟩])
 .ret))))), false, false⟩
/-- progeny/page.IsUsed -/
def c22 : CFn := ⟨27, [.t 6, .t 7],
 (.seq
 (.region [0, 1, 2] [⟨(some 6), .mv (.c (.bool false)), none, [], []⟩,
   ⟨(some 7), .mv (.c (.int .i64 0)), none, [], []⟩])
 (.seq
 (.region [0, 1, 2] [⟨(some 11), .mv (.t 0), none, [], []⟩,
   ⟨(some 12), .call (.c (.fn 32 [])) [(.t 11)] true, none, [], []⟩,
   ⟨(some 10), .mv (.t 12), none, [], []⟩,
   ⟨(some 13), .extract (.t 10) 0, none, [], []⟩,
   ⟨(some 14), .extract (.t 10) 1, none, [], []⟩,
   ⟨(some 8), .mv (.t 13), none, [], []⟩,
   ⟨(some 9), .mv (.t 14), none, [], []⟩])
 (.seq
 (.block 0
 (.seq
 (.region [1, 2, 8, 9] [⟨(some 16), .mv (.t 9), none, [], []⟩,
   ⟨(some 17), .un .not (.t 16), none, [], []⟩,
   ⟨(some 15), .mv (.t 17), none, [], []⟩])
 (.cond (.t 15)
 (.seq
 (.region [] [⟨(some 6), .mv (.c (.bool false)), none, [], []⟩,
   ⟨(some 7), .mv (.c (.int .i64 70)), none, [], []⟩])
 .ret)
 (.seq
 (.region [1, 2, 8] [⟨(some 19), .mv (.t 1), none, [], []⟩,
   ⟨(some 20), .mv (.t 2), none, [], []⟩,
   ⟨(some 21), .call (.c (.fn 36 [])) [(.t 19), (.t 20)] false, none, [], []⟩,
   ⟨(some 22), .un .not (.t 21), none, [], []⟩,
   ⟨(some 18), .mv (.t 22), none, [], []⟩])
 (.cond (.t 18)
 (.seq
 (.region [] [⟨(some 6), .mv (.c (.bool false)), none, [], []⟩,
   ⟨(some 7), .mv (.c (.int .i64 2)), none, [], []⟩])
 .ret)
 .skip)))))
 (.seq
 (.region [1, 2, 8] [⟨(some 23), .mv (.t 8), none, [], []⟩,
   ⟨(some 24), .mv (.t 1), none, [], []⟩,
   ⟨(some 25), .mv (.t 2), none, [], []⟩,
   ⟨(some 26), .call (.c (.fn 37 [])) [(.t 23), (.t 24), (.t 25)] false, none, [], []⟩,
   ⟨(some 6), .mv (.t 26), none, [], []⟩,
   ⟨(some 7), .mv (.c (.int .i64 0)), none, [], []⟩])
 .ret)))), false, false⟩
/-- progeny/page.Get -/
def c24 : CFn := ⟨31, [.t 6, .t 7],
 (.seq
 (.region [0, 1, 2] [⟨(some 6), .mv (.c (.nils)), none, [], []⟩,
   ⟨(some 7), .mv (.c (.int .i64 0)), none, [], []⟩])
 (.seq
 (.region [0, 1, 2] [⟨(some 11), .mv (.t 0), none, [], []⟩,
   ⟨(some 12), .mv (.t 1), none, [], []⟩,
   ⟨(some 13), .mv (.t 2), none, [], []⟩,
   ⟨(some 14), .call (.c (.fn 22 [])) [(.t 11), (.t 12), (.t 13)] false, none, [], []⟩,
   ⟨(some 10), .mv (.t 14), none, [], []⟩,
   ⟨(some 15), .extract (.t 10) 0, none, [], []⟩,
   ⟨(some 16), .extract (.t 10) 1, none, [], []⟩,
   ⟨(some 8), .mv (.t 15), none, [], []⟩,
   ⟨(some 9), .mv (.t 16), none, [], []⟩])
 (.seq
 (.block 0
 (.seq
 (.region [0, 1, 2, 8, 9] [⟨(some 18), .mv (.t 9), none, [], []⟩,
   ⟨(some 19), .bin .neq (.t 18) (.c (.int .i64 0)), none, [], []⟩,
   ⟨(some 17), .mv (.t 19), none, [], []⟩])
 (.cond (.t 17)
 (.seq
 (.region [9] [⟨(some 20), .mv (.t 9), none, [], []⟩,
   ⟨(some 6), .mv (.c (.nils)), none, [], []⟩,
   ⟨(some 7), .mv (.t 20), none, [], []⟩])
 .ret)
 (.seq
 (.region [0, 1, 2, 8] [⟨(some 22), .mv (.t 8), none, [], []⟩,
   ⟨(some 23), .un .not (.t 22), none, [], []⟩,
   ⟨(some 21), .mv (.t 23), none, [], []⟩])
 (.cond (.t 21)
 (.seq
 (.region [] [⟨(some 6), .mv (.c (.nils)), none, [], []⟩,
   ⟨(some 7), .mv (.c (.int .i64 2)), none, [], []⟩])
 .ret)
 .skip)))))
 (.seq
 (.region [0, 1, 2] [⟨(some 24), .mv (.t 0), none, [], []⟩,
   ⟨(some 25), .mv (.t 1), none, [], []⟩,
   ⟨(some 26), .mv (.t 1), none, [], []⟩,
   ⟨(some 27), .mv (.t 2), none, [], []⟩,
   ⟨(some 28), .bin .add (.t 26) (.t 27), none, [], []⟩,
   ⟨(some 29), .slc 1 (.t 24) (some (.t 25)) (some (.t 28)) none, none, [], []⟩,
   ⟨(some 30), .call (.c (.fn 39 [])) [(.t 29)] false, none, [], []⟩,
   ⟨(some 6), .mv (.t 30), none, [], []⟩,
   ⟨(some 7), .mv (.c (.int .i64 0)), none, [], []⟩])
 .ret)))), false, false⟩
/-- progeny/page.Put -/
def c26 : CFn := ⟨34, [.t 6, .t 7],
 (.seq
 (.region [0, 1, 2] [⟨(some 6), .mv (.c (.nils)), none, [], []⟩,
   ⟨(some 7), .mv (.c (.int .i64 0)), none, [], []⟩])
 (.seq
 (.region [0, 1, 2] [⟨(some 12), .mv (.t 0), none, [], []⟩,
   ⟨(some 13), .mv (.t 1), none, [], []⟩,
   ⟨(some 14), .mv (.t 2), none, [], []⟩,
   ⟨(some 15), .len false (.t 14), none, [], []⟩,
   ⟨(some 16), .call (.c (.fn 22 [])) [(.t 12), (.t 13), (.t 15)] false, none, [], []⟩,
   ⟨(some 11), .mv (.t 16), none, [], []⟩,
   ⟨(some 17), .extract (.t 11) 0, none, [], []⟩,
   ⟨(some 18), .extract (.t 11) 1, none, [], []⟩,
   ⟨(some 8), .mv (.t 17), none, [], []⟩,
   ⟨(some 9), .mv (.t 18), none, [], []⟩])
 (.seq
 (.block 0
 (.seq
 (.region [0, 1, 2, 8, 9] [⟨(some 20), .mv (.t 9), none, [], []⟩,
   ⟨(some 21), .bin .neq (.t 20) (.c (.int .i64 0)), none, [], []⟩,
   ⟨(some 19), .mv (.t 21), none, [], []⟩])
 (.cond (.t 19)
 (.seq
 (.region [9] [⟨(some 22), .mv (.t 9), none, [], []⟩,
   ⟨(some 6), .mv (.c (.nils)), none, [], []⟩,
   ⟨(some 7), .mv (.t 22), none, [], []⟩])
 .ret)
 (.seq
 (.region [0, 1, 2, 8] [⟨(some 24), .mv (.t 8), none, [], []⟩,
   ⟨(some 25), .un .not (.t 24), none, [], []⟩,
   ⟨(some 23), .mv (.t 25), none, [], []⟩])
 (.cond (.t 23)
 (.seq
 (.region [] [⟨(some 6), .mv (.c (.nils)), none, [], []⟩,
   ⟨(some 7), .mv (.c (.int .i64 2)), none, [], []⟩])
 .ret)
 .skip)))))
 (.seq
 (.region [0, 1, 2] [⟨(some 26), .mv (.t 0), none, [], []⟩,
   ⟨(some 27), .call (.c (.fn 39 [])) [(.t 26)] false, none, [], []⟩,
   ⟨(some 10), .mv (.t 27), none, [], []⟩])
 (.seq
 (.region [1, 2, 10] [⟨(some 28), .mv (.t 10), none, [], []⟩,
   ⟨(some 29), .mv (.t 1), none, [], []⟩,
   ⟨(some 30), .slc 1 (.t 28) (some (.t 29)) none none, none, [], []⟩,
   ⟨(some 31), .mv (.t 2), none, [], []⟩,
   ⟨(some 32), .copy 1 (.t 30) (.t 31), none, [], []⟩])
 (.seq
 (.region [10] [⟨(some 33), .mv (.t 10), none, [], []⟩,
   ⟨(some 6), .mv (.t 33), none, [], []⟩,
   ⟨(some 7), .mv (.c (.int .i64 0)), none, [], []⟩])
 .ret)))))), false, false⟩
/-- progeny/page.Take -/
def c28 : CFn := ⟨74, [.t 4, .t 5, .t 6],
 (.seq
 (.region [0, 1] [⟨(some 3), .box 3 1 (.t 1), none, [], []⟩,
   ⟨(some 4), .mv (.c (.nils)), none, [], []⟩,
   ⟨(some 5), .mv (.c (.int .i64 0)), none, [], []⟩,
   ⟨(some 6), .mv (.c (.int .i64 0)), none, [], []⟩])
 (.seq
 (.region [0, 3] [⟨(some 12), .mv (.t 0), none, [], []⟩,
   ⟨(some 13), .call (.c (.fn 32 [])) [(.t 12)] false, none, [], []⟩,
   ⟨(some 11), .mv (.t 13), none, [], []⟩,
   ⟨(some 14), .extract (.t 11) 0, none, [], []⟩,
   ⟨(some 15), .extract (.t 11) 1, none, [], []⟩,
   ⟨(some 7), .mv (.t 14), none, [], []⟩,
   ⟨(some 8), .mv (.t 15), none, [], []⟩])
 (.seq
 (.block 0
 (.seq
 (.region [0, 3, 7, 8] [⟨(some 17), .mv (.t 8), none, [], []⟩,
   ⟨(some 18), .un .not (.t 17), none, [], []⟩,
   ⟨(some 16), .mv (.t 18), none, [], []⟩])
 (.cond (.t 16)
 (.seq
 (.region [] [⟨(some 4), .mv (.c (.nils)), none, [], []⟩,
   ⟨(some 5), .mv (.c (.int .i64 0)), none, [], []⟩,
   ⟨(some 6), .mv (.c (.int .i64 70)), none, [], []⟩])
 .ret)
 (.seq
 (.region [0, 3, 7] [⟨(some 20), .load false 1 (.t 3), none, [], []⟩,
   ⟨(some 21), .bin .lss (.t 20) (.c (.int .i64 1)), none, [], []⟩,
   ⟨(some 22), .mv (.t 21), none, [], []⟩,
   ⟨(some 23), .load false 1 (.t 3), some (22, false), [], []⟩,
   ⟨(some 24), .bin .gtr (.t 23) (.c (.int .i64 126)), some (22, false), [], []⟩,
   ⟨(some 25), .pick (.t 22) (.c (.bool true)) (.t 24), none, [], []⟩,
   ⟨(some 19), .mv (.t 25), none, [], []⟩])
 (.cond (.t 19)
 (.seq
 (.region [] [⟨(some 4), .mv (.c (.nils)), none, [], []⟩,
   ⟨(some 5), .mv (.c (.int .i64 0)), none, [], []⟩,
   ⟨(some 6), .mv (.c (.int .i64 2)), none, [], []⟩])
 .ret)
 .skip)))))
 (.seq
 (.region [0, 3, 7] [⟨(some 26), .load false 1 (.t 3), none, [], []⟩,
   ⟨(some 27), .call (.c (.fn 40 [])) [(.t 26)] false, none, [], []⟩,
   ⟨none, .store 1 (.t 3) (.t 27), none, [], []⟩])
 (.seq
 (.region [0, 3, 7] [⟨(some 28), .mv (.t 7), none, [], []⟩,
   ⟨(some 29), .mkfn 42 [(.t 3)], none, [], []⟩,
   ⟨(some 30), .call (.c (.fn 41 [])) [(.t 28), (.t 29)] false, none, [], []⟩,
   ⟨(some 9), .mv (.t 30), none, [], []⟩])
 (.seq
 (.seq
 (.region [0, 3, 7, 9] [⟨(some 31), .mv (.t 9), none, [], []⟩,
   ⟨(some 32), .bin .lss (.t 31) (.c (.int .i64 0)), none, [], []⟩])
 (.cond (.t 32)
 (.seq
 (.region [] [⟨(some 4), .mv (.c (.nils)), none, [], []⟩,
   ⟨(some 5), .mv (.c (.int .i64 0)), none, [], []⟩,
   ⟨(some 6), .mv (.c (.int .i64 5)), none, [], []⟩])
 .ret)
 .skip))
 (.seq
 (.region [0, 3, 7, 9] [⟨(some 33), .mv (.t 7), none, [], []⟩,
   ⟨(some 34), .mv (.t 9), none, [], []⟩,
   ⟨(some 35), .iaddr 2 (.t 33) (.t 34), none, [], []⟩,
   ⟨(some 36), .load true 2 (.t 35), none, [], []⟩,
   ⟨(some 10), .box 55 2 (.c (.agg [.int .i64 0, .int .i64 0])), none, [], []⟩,
   ⟨none, .store 2 (.t 10) (.t 36), none, [], []⟩])
 (.seq
 (.region [0, 3, 7, 9, 10] [⟨(some 37), .mv (.t 0), none, [], []⟩,
   ⟨(some 38), .call (.c (.fn 39 [])) [(.t 37)] false, none, [], []⟩,
   ⟨(some 4), .mv (.t 38), none, [], []⟩])
 (.seq
 (.region [3, 4, 7, 9, 10] [⟨(some 39), .mv (.t 4), none, [], []⟩,
   ⟨(some 40), .faddr 0 (.t 10), none, [], []⟩,
   ⟨(some 41), .load false 1 (.t 40), none, [], []⟩,
   ⟨(some 42), .faddr 0 (.t 10), none, [], []⟩,
   ⟨(some 43), .load false 1 (.t 42), none, [], []⟩,
   ⟨(some 44), .load false 1 (.t 3), none, [], []⟩,
   ⟨(some 45), .bin .add (.t 43) (.t 44), none, [], []⟩,
   ⟨(some 46), .slc 1 (.t 39) (some (.t 41)) (some (.t 45)) none, none, [], []⟩,
   ⟨none, .clear 1 [.int .u8 0] (.t 46), none, [], []⟩])
 (.seq
 (.seq
 (.region [3, 4, 7, 9, 10] [⟨(some 47), .faddr 1 (.t 10), none, [], []⟩,
   ⟨(some 48), .load false 1 (.t 47), none, [], []⟩,
   ⟨(some 49), .load false 1 (.t 3), none, [], []⟩,
   ⟨(some 50), .bin .eql (.t 48) (.t 49), none, [], []⟩])
 (.cond (.t 50)
 (.region [4, 7, 9, 10] [⟨(some 51), .mv (.t 7), none, [], []⟩,
   ⟨(some 52), .mv (.t 9), none, [], []⟩,
   ⟨(some 53), .mv (.t 9), none, [], []⟩,
   ⟨(some 54), .bin .add (.t 53) (.c (.int .i64 1)), none, [], []⟩,
   ⟨(some 55), .call (.c (.fn 43 [])) [(.t 51), (.t 52), (.t 54)] false, none, [], []⟩,
   ⟨(some 7), .mv (.t 55), none, [], []⟩])
 (.region [3, 4, 7, 9, 10] [⟨(some 56), .mv (.t 7), none, [], []⟩,
   ⟨(some 57), .mv (.t 9), none, [], []⟩,
   ⟨(some 58), .faddr 0 (.t 10), none, [], []⟩,
   ⟨(some 59), .load false 1 (.t 58), none, [], []⟩,
   ⟨(some 60), .load false 1 (.t 3), none, [], []⟩,
   ⟨(some 61), .bin .add (.t 59) (.t 60), none, [], []⟩,
   ⟨(some 62), .faddr 1 (.t 10), none, [], []⟩,
   ⟨(some 63), .load false 1 (.t 62), none, [], []⟩,
   ⟨(some 64), .load false 1 (.t 3), none, [], []⟩,
   ⟨(some 65), .bin .sub (.t 63) (.t 64), none, [], []⟩,
   ⟨(some 66), .build [.int .i64 0, .int .i64 0] [(0, 1, (.t 61)), (1, 1, (.t 65))], none, [], []⟩,
   ⟨(some 67), .iaddr 2 (.t 56) (.t 57), none, [], []⟩,
   ⟨none, .store 2 (.t 67) (.t 66), none, [], []⟩])))
 (.seq
 (.region [4, 7, 10] [⟨(some 68), .mv (.t 4), none, [], []⟩,
   ⟨(some 69), .mv (.t 7), none, [], []⟩,
   ⟨(some 70), .call (.c (.fn 35 [])) [(.t 68), (.t 69)] false, none, [], []⟩])
 (.seq
 (.draw [4, 10] [⟨(some 71), .mv (.t 4), none, [], []⟩,
   ⟨(some 72), .faddr 0 (.t 10), none, [], []⟩,
   ⟨(some 73), .load false 1 (.t 72), none, [1], []⟩,
   ⟨(some 4), .mv (.t 71), none, [0], []⟩,
   ⟨(some 5), .mv (.t 73), none, (u 4), []⟩,
   ⟨(some 6), .mv (.c (.int .i64 0)), none, (u 5), []⟩])
 .ret)))))))))))), false, false⟩
def c30_l0 : CC :=
 (.seq
 (.seq
 (.region [1, 2, 8, 10, 11] [⟨(some 48), .mv (.t 11), none, [], []⟩,
   ⟨(some 49), .mv (.t 8), none, [], []⟩,
   ⟨(some 50), .len false (.t 49), none, [], []⟩,
   ⟨(some 51), .bin .lss (.t 48) (.t 50), none, [], []⟩,
   ⟨(some 52), .mv (.t 51), none, [], []⟩,
   ⟨(some 53), .mv (.t 8), some (52, true), [], []⟩,
   ⟨(some 54), .mv (.t 11), some (52, true), [], []⟩,
   ⟨(some 55), .iaddr 2 (.t 53) (.t 54), some (52, true), [], []⟩,
   ⟨(some 56), .faddr 0 (.t 55), some (52, true), [], []⟩,
   ⟨(some 57), .load false 1 (.t 56), some (52, true), [], []⟩,
   ⟨(some 58), .mv (.t 1), some (52, true), [], []⟩,
   ⟨(some 59), .bin .lss (.t 57) (.t 58), some (52, true), [], []⟩,
   ⟨(some 60), .pick (.t 52) (.t 59) (.c (.bool false)), none, [], []⟩])
 (.cond (.t 60)
 .skip
 (.exit 1)))
 (.block 2
 (.region [1, 2, 8, 10, 11] [⟨(some 61), .mv (.t 11), none, [], []⟩,
   ⟨(some 62), .bin .add (.t 61) (.c (.int .i64 1)), none, [], []⟩,
   ⟨(some 11), .mv (.t 62), none, [], []⟩])))
/-- progeny/page.Give -/
def c30 : CFn := ⟨163, [.t 6, .t 7],
 (.seq
 (.region [0, 1, 2] [⟨(some 6), .mv (.c (.nils)), none, [], []⟩,
   ⟨(some 7), .mv (.c (.int .i64 0)), none, [], []⟩])
 (.seq
 (.region [0, 1, 2] [⟨(some 13), .mv (.t 0), none, [], []⟩,
   ⟨(some 14), .call (.c (.fn 32 [])) [(.t 13)] false, none, [], []⟩,
   ⟨(some 12), .mv (.t 14), none, [], []⟩,
   ⟨(some 15), .extract (.t 12) 0, none, [], []⟩,
   ⟨(some 16), .extract (.t 12) 1, none, [], []⟩,
   ⟨(some 8), .mv (.t 15), none, [], []⟩,
   ⟨(some 9), .mv (.t 16), none, [], []⟩])
 (.seq
 (.block 0
 (.seq
 (.region [0, 1, 2, 8, 9] [⟨(some 18), .mv (.t 9), none, [], []⟩,
   ⟨(some 19), .un .not (.t 18), none, [], []⟩,
   ⟨(some 17), .mv (.t 19), none, [], []⟩])
 (.cond (.t 17)
 (.seq
 (.region [] [⟨(some 6), .mv (.c (.nils)), none, [], []⟩,
   ⟨(some 7), .mv (.c (.int .i64 70)), none, [], []⟩])
 .ret)
 (.seq
 (.region [0, 1, 2, 8] [⟨(some 21), .mv (.t 1), none, [], []⟩,
   ⟨(some 22), .mv (.t 2), none, [], []⟩,
   ⟨(some 23), .call (.c (.fn 36 [])) [(.t 21), (.t 22)] false, none, [], []⟩,
   ⟨(some 24), .un .not (.t 23), none, [], []⟩,
   ⟨(some 25), .mv (.t 24), none, [], []⟩,
   ⟨(some 26), .mv (.t 1), some (25, false), [], []⟩,
   ⟨(some 27), .bin .rem (.t 26) (.c (.int .i64 2)), some (25, false), [], []⟩,
   ⟨(some 28), .bin .eql (.t 27) (.c (.int .i64 1)), some (25, false), [], []⟩,
   ⟨(some 29), .pick (.t 25) (.c (.bool true)) (.t 28), none, [], []⟩,
   ⟨(some 30), .mv (.t 29), none, [], []⟩,
   ⟨(some 31), .mv (.t 8), some (30, false), [], []⟩,
   ⟨(some 32), .mv (.t 1), some (30, false), [], []⟩,
   ⟨(some 33), .mv (.t 2), some (30, false), [], []⟩,
   ⟨(some 34), .call (.c (.fn 40 [])) [(.t 33)] false, some (30, false), [], []⟩,
   ⟨(some 35), .call (.c (.fn 37 [])) [(.t 31), (.t 32), (.t 34)] false, some (30, false), [], []⟩,
   ⟨(some 36), .un .not (.t 35), some (30, false), [], []⟩,
   ⟨(some 37), .pick (.t 30) (.c (.bool true)) (.t 36), none, [], []⟩,
   ⟨(some 20), .mv (.t 37), none, [], []⟩])
 (.cond (.t 20)
 (.seq
 (.region [] [⟨(some 6), .mv (.c (.nils)), none, [], []⟩,
   ⟨(some 7), .mv (.c (.int .i64 2)), none, [], []⟩])
 .ret)
 .skip)))))
 (.seq
 (.region [0, 1, 2, 8] [⟨(some 38), .mv (.t 2), none, [], []⟩,
   ⟨(some 39), .call (.c (.fn 40 [])) [(.t 38)] false, none, [], []⟩,
   ⟨(some 2), .mv (.t 39), none, [], []⟩])
 (.seq
 (.region [0, 1, 2, 8] [⟨(some 40), .mv (.t 0), none, [], []⟩,
   ⟨(some 41), .call (.c (.fn 39 [])) [(.t 40)] false, none, [], []⟩,
   ⟨(some 10), .mv (.t 41), none, [], []⟩])
 (.seq
 (.region [1, 2, 8, 10] [⟨(some 42), .mv (.t 10), none, [], []⟩,
   ⟨(some 43), .mv (.t 1), none, [], []⟩,
   ⟨(some 44), .mv (.t 1), none, [], []⟩,
   ⟨(some 45), .mv (.t 2), none, [], []⟩,
   ⟨(some 46), .bin .add (.t 44) (.t 45), none, [], []⟩,
   ⟨(some 47), .slc 1 (.t 42) (some (.t 43)) (some (.t 46)) none, none, [], []⟩,
   ⟨none, .clear 1 [.int .u8 0] (.t 47), none, [], []⟩])
 (.seq
 (.region [1, 2, 8, 10] [⟨(some 11), .mv (.c (.int .i64 0)), none, [], []⟩])
 (.seq
 (.block 1
 (.loop c30_l0))
 (.seq
 (.region [1, 2, 8, 10, 11] [⟨(some 63), .mv (.t 8), none, [], []⟩,
   ⟨(some 64), .mv (.t 11), none, [], []⟩,
   ⟨(some 65), .mv (.t 1), none, [], []⟩,
   ⟨(some 66), .mv (.t 2), none, [], []⟩,
   ⟨(some 67), .build [.int .i64 0, .int .i64 0] [(0, 1, (.t 65)), (1, 1, (.t 66))], none, [], []⟩,
   ⟨(some 68), .bslice 55 2 [[.int .i64 0, .int .i64 0]] [(0, (.t 67))], none, [], []⟩,
   ⟨(some 69), .call (.c (.fn 46 [])) [(.t 63), (.t 64), (.t 68)] false, none, [], []⟩,
   ⟨(some 8), .mv (.t 69), none, [], []⟩])
 (.seq
 (.seq
 (.draw [8, 10, 11] [⟨(some 70), .mv (.t 11), none, [], []⟩,
   ⟨(some 71), .bin .add (.t 70) (.c (.int .i64 1)), none, [0], []⟩,
   ⟨(some 72), .mv (.t 8), none, [], []⟩,
   ⟨(some 73), .len false (.t 72), none, [2], []⟩,
   ⟨(some 74), .bin .lss (.t 71) (.t 73), none, (u 4), []⟩,
   ⟨(some 75), .mv (.t 74), none, (u 5), []⟩,
   ⟨(some 76), .mv (.t 8), some (75, true), (u 6), []⟩,
   ⟨(some 77), .mv (.t 11), some (75, true), (u 6), []⟩,
   ⟨(some 78), .iaddr 2 (.t 76) (.t 77), some (75, true), (u 8), []⟩,
   ⟨(some 79), .load true 2 (.t 78), some (75, true), (u 9), []⟩,
   ⟨(some 80), .call (.c (.fn 47 [])) [(.t 79)] false, some (75, true), (u 10), []⟩,
   ⟨(some 81), .mv (.t 8), some (75, true), (u 6), []⟩,
   ⟨(some 82), .mv (.t 11), some (75, true), (u 6), []⟩,
   ⟨(some 83), .bin .add (.t 82) (.c (.int .i64 1)), some (75, true), (u 6 ++ [12]), []⟩,
   ⟨(some 84), .iaddr 2 (.t 81) (.t 83), some (75, true), (u 6 ++ [11, 12, 13]), []⟩,
   ⟨(some 85), .faddr 0 (.t 84), some (75, true), (u 6 ++ [11, 12, 13, 14]), []⟩,
   ⟨(some 86), .load false 1 (.t 85), some (75, true), (u 6 ++ [11, 12, 13, 14, 15]), [10]⟩,
   ⟨(some 87), .bin .eql (.t 80) (.t 86), some (75, true), (u 17), []⟩,
   ⟨(some 88), .pick (.t 75) (.t 87) (.c (.bool false)), none, (u 18), []⟩])
 (.cond (.t 88)
 (.seq
 (.draw [8, 10, 11] [⟨(some 89), .mv (.t 10), none, [], []⟩,
   ⟨(some 90), .mv (.t 8), none, [], []⟩,
   ⟨(some 91), .mv (.t 11), none, [], []⟩,
   ⟨(some 92), .bin .add (.t 91) (.c (.int .i64 1)), none, [2], []⟩,
   ⟨(some 93), .iaddr 2 (.t 90) (.t 92), none, [1, 2, 3], []⟩,
   ⟨(some 94), .faddr 0 (.t 93), none, [1, 2, 3, 4], []⟩,
   ⟨(some 95), .load false 1 (.t 94), none, [1, 2, 3, 4, 5], []⟩,
   ⟨(some 96), .mv (.t 8), none, [], []⟩,
   ⟨(some 97), .mv (.t 11), none, [], []⟩,
   ⟨(some 98), .bin .add (.t 97) (.c (.int .i64 1)), none, [8], []⟩,
   ⟨(some 99), .iaddr 2 (.t 96) (.t 98), none, [7, 8, 9], []⟩,
   ⟨(some 100), .faddr 0 (.t 99), none, [7, 8, 9, 10], []⟩,
   ⟨(some 101), .load false 1 (.t 100), none, [7, 8, 9, 10, 11], []⟩,
   ⟨(some 102), .bin .add (.t 101) (.c (.int .i64 2)), none, [7, 8, 9, 10, 11, 12], []⟩,
   ⟨(some 103), .slc 1 (.t 89) (some (.t 95)) (some (.t 102)) none, none, (u 14), []⟩,
   ⟨none, .clear 1 [.int .u8 0] (.t 103), none, (u 15), []⟩])
 (.seq
 (.draw [8, 10, 11] [⟨(some 104), .mv (.t 8), none, [], []⟩,
   ⟨(some 105), .mv (.t 11), none, [], []⟩,
   ⟨(some 106), .iaddr 2 (.t 104) (.t 105), none, [0, 1], []⟩,
   ⟨(some 107), .faddr 1 (.t 106), none, [0, 1, 2], []⟩,
   ⟨(some 108), .load false 1 (.t 107), none, (u 4), []⟩,
   ⟨(some 109), .mv (.t 8), none, [], []⟩,
   ⟨(some 110), .mv (.t 11), none, [], []⟩,
   ⟨(some 111), .bin .add (.t 110) (.c (.int .i64 1)), none, [6], []⟩,
   ⟨(some 112), .iaddr 2 (.t 109) (.t 111), none, [5, 6, 7], []⟩,
   ⟨(some 113), .faddr 1 (.t 112), none, [5, 6, 7, 8], []⟩,
   ⟨(some 114), .load false 1 (.t 113), none, [5, 6, 7, 8, 9], []⟩,
   ⟨(some 115), .bin .add (.t 108) (.t 114), none, (u 11), []⟩,
   ⟨(some 116), .iaddr 2 (.t 104) (.t 105), none, (u 12), []⟩,
   ⟨(some 117), .faddr 1 (.t 116), none, (u 13), []⟩,
   ⟨none, .store 1 (.t 117) (.t 115), none, (u 14), []⟩])
 (.region [8, 10, 11] [⟨(some 118), .mv (.t 8), none, [], []⟩,
   ⟨(some 119), .mv (.t 11), none, [], []⟩,
   ⟨(some 120), .bin .add (.t 119) (.c (.int .i64 1)), none, [], []⟩,
   ⟨(some 121), .mv (.t 11), none, [], []⟩,
   ⟨(some 122), .bin .add (.t 121) (.c (.int .i64 2)), none, [], []⟩,
   ⟨(some 123), .call (.c (.fn 43 [])) [(.t 118), (.t 120), (.t 122)] false, none, [], []⟩,
   ⟨(some 8), .mv (.t 123), none, [], []⟩])))
 .skip))
 (.seq
 (.seq
 (.draw [8, 10, 11] [⟨(some 124), .mv (.t 11), none, [], []⟩,
   ⟨(some 125), .bin .gtr (.t 124) (.c (.int .i64 0)), none, [0], []⟩,
   ⟨(some 126), .mv (.t 125), none, [0, 1], []⟩,
   ⟨(some 127), .mv (.t 8), some (126, true), [0, 1, 2], []⟩,
   ⟨(some 128), .mv (.t 11), some (126, true), [0, 1, 2], []⟩,
   ⟨(some 129), .bin .sub (.t 128) (.c (.int .i64 1)), some (126, true), [0, 1, 2, 4], []⟩,
   ⟨(some 130), .iaddr 2 (.t 127) (.t 129), some (126, true), (u 6), []⟩,
   ⟨(some 131), .load true 2 (.t 130), some (126, true), (u 7), []⟩,
   ⟨(some 132), .call (.c (.fn 47 [])) [(.t 131)] false, some (126, true), (u 8), []⟩,
   ⟨(some 133), .mv (.t 8), some (126, true), [0, 1, 2], []⟩,
   ⟨(some 134), .mv (.t 11), some (126, true), [0, 1, 2], []⟩,
   ⟨(some 135), .iaddr 2 (.t 133) (.t 134), some (126, true), [0, 1, 2, 9, 10], []⟩,
   ⟨(some 136), .faddr 0 (.t 135), some (126, true), [0, 1, 2, 9, 10, 11], []⟩,
   ⟨(some 137), .load false 1 (.t 136), some (126, true), [0, 1, 2, 9, 10, 11, 12], [8]⟩,
   ⟨(some 138), .bin .eql (.t 132) (.t 137), some (126, true), (u 14), []⟩,
   ⟨(some 139), .pick (.t 126) (.t 138) (.c (.bool false)), none, (u 15), []⟩])
 (.cond (.t 139)
 (.seq
 (.draw [8, 10, 11] [⟨(some 140), .mv (.t 8), none, [], []⟩,
   ⟨(some 141), .mv (.t 11), none, [], []⟩,
   ⟨(some 142), .bin .sub (.t 141) (.c (.int .i64 1)), none, [1], []⟩,
   ⟨(some 143), .iaddr 2 (.t 140) (.t 142), none, [0, 1, 2], []⟩,
   ⟨(some 144), .faddr 1 (.t 143), none, (u 4), []⟩,
   ⟨(some 145), .load false 1 (.t 144), none, (u 5), []⟩,
   ⟨(some 146), .mv (.t 8), none, [], []⟩,
   ⟨(some 147), .mv (.t 11), none, [], []⟩,
   ⟨(some 148), .iaddr 2 (.t 146) (.t 147), none, [6, 7], []⟩,
   ⟨(some 149), .faddr 1 (.t 148), none, [6, 7, 8], []⟩,
   ⟨(some 150), .load false 1 (.t 149), none, [6, 7, 8, 9], []⟩,
   ⟨(some 151), .bin .add (.t 145) (.t 150), none, (u 11), []⟩,
   ⟨(some 152), .iaddr 2 (.t 140) (.t 142), none, (u 12), []⟩,
   ⟨(some 153), .faddr 1 (.t 152), none, (u 13), []⟩,
   ⟨none, .store 1 (.t 153) (.t 151), none, (u 14), []⟩])
 (.region [8, 10, 11] [⟨(some 154), .mv (.t 8), none, [], []⟩,
   ⟨(some 155), .mv (.t 11), none, [], []⟩,
   ⟨(some 156), .mv (.t 11), none, [], []⟩,
   ⟨(some 157), .bin .add (.t 156) (.c (.int .i64 1)), none, [], []⟩,
   ⟨(some 158), .call (.c (.fn 43 [])) [(.t 154), (.t 155), (.t 157)] false, none, [], []⟩,
   ⟨(some 8), .mv (.t 158), none, [], []⟩]))
 .skip))
 (.seq
 (.region [8, 10] [⟨(some 159), .mv (.t 10), none, [], []⟩,
   ⟨(some 160), .mv (.t 8), none, [], []⟩,
   ⟨(some 161), .call (.c (.fn 35 [])) [(.t 159), (.t 160)] false, none, [], []⟩])
 (.seq
 (.region [10] [⟨(some 162), .mv (.t 10), none, [], []⟩,
   ⟨(some 6), .mv (.t 162), none, [], []⟩,
   ⟨(some 7), .mv (.c (.int .i64 0)), none, [], []⟩])
 .ret))))))))))))), false, false⟩
def c32_l0 : CC :=
 (.seq
 (.seq
 (.region [0, 4, 5] [⟨(some 20), .mv (.t 5), none, [], []⟩,
   ⟨(some 21), .bin .neq (.t 20) (.c (.int .i64 0)), none, [], []⟩])
 (.cond (.t 21)
 .skip
 (.exit 0)))
 (.seq
 (.block 1
 (.seq
 (.seq
 (.region [0, 4, 5] [⟨(some 27), .mv (.t 5), none, [], []⟩,
   ⟨(some 28), .bin .lss (.t 27) (.c (.int .i64 2)), none, [], []⟩,
   ⟨(some 29), .mv (.t 28), none, [], []⟩,
   ⟨(some 30), .mv (.t 5), some (29, false), [], []⟩,
   ⟨(some 31), .bin .rem (.t 30) (.c (.int .i64 2)), some (29, false), [], []⟩,
   ⟨(some 32), .bin .eql (.t 31) (.c (.int .i64 1)), some (29, false), [], []⟩,
   ⟨(some 33), .pick (.t 29) (.c (.bool true)) (.t 32), none, [], []⟩,
   ⟨(some 34), .mv (.t 33), none, [], []⟩,
   ⟨(some 35), .mv (.t 5), some (34, false), [], []⟩,
   ⟨(some 36), .bin .gtr (.t 35) (.c (.int .i64 126)), some (34, false), [], []⟩,
   ⟨(some 37), .pick (.t 34) (.c (.bool true)) (.t 36), none, [], []⟩,
   ⟨(some 38), .mv (.t 37), none, [], []⟩,
   ⟨(some 39), .mv (.t 4), some (38, false), [], []⟩,
   ⟨(some 40), .len false (.t 39), some (38, false), [], []⟩,
   ⟨(some 41), .bin .gtr (.t 40) (.c (.int .i64 0)), some (38, false), [], []⟩,
   ⟨(some 42), .mv (.t 41), some (38, false), [], []⟩,
   ⟨(some 43), .mv (.t 5), some (42, true), [], []⟩,
   ⟨(some 44), .mv (.t 4), some (42, true), [], []⟩,
   ⟨(some 45), .mv (.t 4), some (42, true), [], []⟩,
   ⟨(some 46), .len false (.t 45), some (42, true), [], []⟩,
   ⟨(some 47), .bin .sub (.t 46) (.c (.int .i64 1)), some (42, true), [], []⟩,
   ⟨(some 48), .iaddr 2 (.t 44) (.t 47), some (42, true), [], []⟩,
   ⟨(some 49), .load true 2 (.t 48), some (42, true), [], []⟩,
   ⟨(some 50), .call (.c (.fn 47 [])) [(.t 49)] false, some (42, true), [], []⟩,
   ⟨(some 51), .bin .leq (.t 43) (.t 50), some (42, true), [], []⟩,
   ⟨(some 52), .pick (.t 42) (.t 51) (.c (.bool false)), some (38, false), [], []⟩,
   ⟨(some 53), .pick (.t 38) (.c (.bool true)) (.t 52), none, [], []⟩])
 (.cond (.t 53)
 (.seq
 (.region [] [⟨(some 2), .mv (.c (.nils)), none, [], []⟩,
   ⟨(some 3), .mv (.c (.bool false)), none, [], []⟩])
 .ret)
 .skip))
 (.seq
 (.region [0, 4, 5] [⟨(some 54), .mv (.t 5), none, [], []⟩,
   ⟨(some 55), .mv (.t 0), none, [], []⟩,
   ⟨(some 56), .mv (.t 5), none, [], []⟩,
   ⟨(some 57), .bin .add (.t 56) (.c (.int .i64 1)), none, [], []⟩,
   ⟨(some 58), .iaddr 1 (.t 55) (.t 57), none, [], []⟩,
   ⟨(some 59), .load false 1 (.t 58), none, [], []⟩,
   ⟨(some 60), .convI .i64 (.t 59), none, [], []⟩,
   ⟨(some 61), .build [.int .i64 0, .int .i64 0] [(0, 1, (.t 54)), (1, 1, (.t 60))], none, [], []⟩,
   ⟨(some 6), .box 55 2 (.c (.agg [.int .i64 0, .int .i64 0])), none, [], []⟩,
   ⟨none, .store 2 (.t 6) (.t 61), none, [], []⟩])
 (.seq
 (.seq
 (.region [0, 4, 5, 6] [⟨(some 62), .faddr 1 (.t 6), none, [], []⟩,
   ⟨(some 63), .load false 1 (.t 62), none, [], []⟩,
   ⟨(some 64), .bin .lss (.t 63) (.c (.int .i64 2)), none, [], []⟩,
   ⟨(some 65), .mv (.t 64), none, [], []⟩,
   ⟨(some 66), .faddr 1 (.t 6), some (65, false), [], []⟩,
   ⟨(some 67), .load false 1 (.t 66), some (65, false), [], []⟩,
   ⟨(some 68), .bin .rem (.t 67) (.c (.int .i64 2)), some (65, false), [], []⟩,
   ⟨(some 69), .bin .eql (.t 68) (.c (.int .i64 1)), some (65, false), [], []⟩,
   ⟨(some 70), .pick (.t 65) (.c (.bool true)) (.t 69), none, [], []⟩,
   ⟨(some 71), .mv (.t 70), none, [], []⟩,
   ⟨(some 72), .load true 2 (.t 6), some (71, false), [], []⟩,
   ⟨(some 73), .call (.c (.fn 47 [])) [(.t 72)] false, some (71, false), [], []⟩,
   ⟨(some 74), .bin .gtr (.t 73) (.c (.int .i64 128)), some (71, false), [], []⟩,
   ⟨(some 75), .pick (.t 71) (.c (.bool true)) (.t 74), none, [], []⟩])
 (.cond (.t 75)
 (.seq
 (.region [] [⟨(some 2), .mv (.c (.nils)), none, [], []⟩,
   ⟨(some 3), .mv (.c (.bool false)), none, [], []⟩])
 .ret)
 .skip))
 (.region [0, 4, 5, 6] [⟨(some 76), .mv (.t 4), none, [], []⟩,
   ⟨(some 77), .load true 2 (.t 6), none, [], []⟩,
   ⟨(some 78), .bslice 55 2 [[.int .i64 0, .int .i64 0]] [(0, (.t 77))], none, [], []⟩,
   ⟨(some 79), .app 55 2 16 false (.t 76) (.t 78), none, [], []⟩,
   ⟨(some 4), .mv (.t 79), none, [], []⟩])))))
 (.region [0, 4, 5] [⟨(some 22), .mv (.t 0), none, [], []⟩,
   ⟨(some 23), .mv (.t 5), none, [], []⟩,
   ⟨(some 24), .iaddr 1 (.t 22) (.t 23), none, [], []⟩,
   ⟨(some 25), .load false 1 (.t 24), none, [], []⟩,
   ⟨(some 26), .convI .i64 (.t 25), none, [], []⟩,
   ⟨(some 5), .mv (.t 26), none, [], []⟩])))
/-- progeny/page.read -/
def c32 : CFn := ⟨81, [.t 2, .t 3],
 (.seq
 (.region [0] [⟨(some 2), .mv (.c (.nils)), none, [], []⟩,
   ⟨(some 3), .mv (.c (.bool false)), none, [], []⟩])
 (.seq
 (.seq
 (.region [0] [⟨(some 7), .mv (.t 0), none, [], []⟩,
   ⟨(some 8), .len false (.t 7), none, [], []⟩,
   ⟨(some 9), .bin .neq (.t 8) (.c (.int .i64 128)), none, [], []⟩,
   ⟨(some 10), .mv (.t 9), none, [], []⟩,
   ⟨(some 11), .mv (.t 0), some (10, false), [], []⟩,
   ⟨(some 12), .iaddr 1 (.t 11) (.c (.int .i64 1)), some (10, false), [], []⟩,
   ⟨(some 13), .load false 1 (.t 12), some (10, false), [], []⟩,
   ⟨(some 14), .bin .neq (.t 13) (.c (.int .u8 83)), some (10, false), [], []⟩,
   ⟨(some 15), .pick (.t 10) (.c (.bool true)) (.t 14), none, [], []⟩])
 (.cond (.t 15)
 (.seq
 (.region [] [⟨(some 2), .mv (.c (.nils)), none, [], []⟩,
   ⟨(some 3), .mv (.c (.bool false)), none, [], []⟩])
 .ret)
 .skip))
 (.seq
 (.region [0] [⟨(some 4), .mv (.c (.nils)), none, [], []⟩])
 (.seq
 (.seq
 (.region [0, 4] [⟨(some 16), .mv (.t 0), none, [], []⟩,
   ⟨(some 17), .iaddr 1 (.t 16) (.c (.int .i64 0)), none, [], []⟩,
   ⟨(some 18), .load false 1 (.t 17), none, [], []⟩,
   ⟨(some 19), .convI .i64 (.t 18), none, [], []⟩,
   ⟨(some 5), .mv (.t 19), none, [], []⟩])
 (.block 0
 (.loop c32_l0)))
 (.seq
 (.region [4] [⟨(some 80), .mv (.t 4), none, [], []⟩,
   ⟨(some 2), .mv (.t 80), none, [], []⟩,
   ⟨(some 3), .mv (.c (.bool true)), none, [], []⟩])
 .ret))))), false, false⟩
def c34_l0 : CC :=
 (.seq
 (.region [2, 3, 6, 7, 8] [⟨(some 9), .bin .lss (.t 8) (.t 7), none, [], []⟩])
 (.seq
 (.cond (.t 9)
 .skip
 (.exit 0))
 (.seq
 (.block 1
 (.seq
 (.region [2, 3, 6, 7, 8] [⟨(some 10), .iaddr 2 (.t 6) (.t 8), none, [], []⟩,
   ⟨(some 11), .load true 2 (.t 10), none, [], []⟩,
   ⟨(some 5), .box 55 2 (.c (.agg [.int .i64 0, .int .i64 0])), none, [], []⟩,
   ⟨none, .store 2 (.t 5) (.t 11), none, [], []⟩])
 (.seq
 (.region [2, 3, 5, 6, 7, 8] [⟨(some 12), .mv (.t 2), none, [], []⟩,
   ⟨(some 13), .faddr 1 (.t 5), none, [], []⟩,
   ⟨(some 14), .load false 1 (.t 13), none, [], []⟩,
   ⟨(some 15), .bin .add (.t 12) (.t 14), none, [], []⟩,
   ⟨(some 2), .mv (.t 15), none, [], []⟩])
 (.region [2, 3, 5, 6, 7, 8] [⟨(some 16), .mv (.t 3), none, [], []⟩,
   ⟨(some 17), .faddr 1 (.t 5), none, [], []⟩,
   ⟨(some 18), .load false 1 (.t 17), none, [], []⟩,
   ⟨(some 19), .mm true (.t 16) [(.t 18)], none, [], []⟩,
   ⟨(some 3), .mv (.t 19), none, [], []⟩]))))
 (.region [2, 3, 6, 7, 8] [⟨(some 20), .bin .add (.t 8) (.c (.int .i64 1)), none, [], []⟩,
   ⟨(some 8), .mv (.t 20), none, [], []⟩]))))
/-- progeny/page.sizes -/
def c34 : CFn := ⟨23, [.t 2, .t 3],
 (.seq
 (.region [0] [⟨(some 2), .mv (.c (.int .i64 0)), none, [], []⟩,
   ⟨(some 3), .mv (.c (.int .i64 0)), none, [], []⟩])
 (.seq
 (.seq
 (.region [0, 2, 3] [⟨(some 6), .mv (.t 0), none, [], []⟩,
   ⟨(some 7), .len false (.t 6), none, [], []⟩,
   ⟨(some 8), .mv (.c (.int .i64 0)), none, [], []⟩])
 (.block 0
 (.loop c34_l0)))
 (.seq
 (.region [2, 3] [⟨(some 21), .mv (.t 2), none, [], []⟩,
   ⟨(some 22), .mv (.t 3), none, [], []⟩,
   ⟨(some 2), .mv (.t 21), none, [], []⟩,
   ⟨(some 3), .mv (.t 22), none, [], []⟩])
 .ret))), false, false⟩
def c35_l0 : CC :=
 (.seq
 (.seq
 (.region [0, 1, 4] [⟨(some 11), .mv (.t 4), none, [], []⟩,
   ⟨(some 12), .bin .geq (.t 11) (.c (.int .i64 0)), none, [], []⟩])
 (.cond (.t 12)
 .skip
 (.exit 0)))
 (.seq
 (.block 1
 (.seq
 (.region [0, 1, 4] [⟨(some 15), .mv (.t 1), none, [], []⟩,
   ⟨(some 16), .mv (.t 4), none, [], []⟩,
   ⟨(some 17), .iaddr 2 (.t 15) (.t 16), none, [], []⟩,
   ⟨(some 18), .load true 2 (.t 17), none, [], []⟩,
   ⟨(some 5), .box 55 2 (.c (.agg [.int .i64 0, .int .i64 0])), none, [], []⟩,
   ⟨none, .store 2 (.t 5) (.t 18), none, [], []⟩])
 (.seq
 (.draw [0, 1, 4, 5] [⟨(some 19), .mv (.t 0), none, [], []⟩,
   ⟨(some 20), .faddr 0 (.t 5), none, [], []⟩,
   ⟨(some 21), .load false 1 (.t 20), none, [1], []⟩,
   ⟨(some 22), .mv (.t 0), none, [], []⟩,
   ⟨(some 23), .faddr 0 (.t 5), none, [], []⟩,
   ⟨(some 24), .load false 1 (.t 23), none, [4], [15]⟩,
   ⟨(some 25), .bin .add (.t 24) (.c (.int .i64 1)), none, [4, 5], []⟩,
   ⟨(some 26), .mv (.t 0), none, [], []⟩,
   ⟨(some 27), .iaddr 1 (.t 26) (.c (.int .i64 0)), none, [7], []⟩,
   ⟨(some 28), .load false 1 (.t 27), none, [7, 8], []⟩,
   ⟨(some 29), .faddr 1 (.t 5), none, [], []⟩,
   ⟨(some 30), .load false 1 (.t 29), none, [10], [15]⟩,
   ⟨(some 31), .convI .u8 (.t 30), none, [10, 11], []⟩,
   ⟨(some 32), .iaddr 1 (.t 19) (.t 21), none, [0, 1, 2, 7, 8, 9], []⟩,
   ⟨none, .store 1 (.t 32) (.t 28), none, [0, 1, 2, 7, 8, 9, 13], []⟩,
   ⟨(some 33), .iaddr 1 (.t 22) (.t 25), none, (u 15), []⟩,
   ⟨none, .store 1 (.t 33) (.t 31), none, (u 16), []⟩])
 (.region [0, 1, 4, 5] [⟨(some 34), .mv (.t 0), none, [], []⟩,
   ⟨(some 35), .faddr 0 (.t 5), none, [], []⟩,
   ⟨(some 36), .load false 1 (.t 35), none, [], []⟩,
   ⟨(some 37), .convI .u8 (.t 36), none, [], []⟩,
   ⟨(some 38), .iaddr 1 (.t 34) (.c (.int .i64 0)), none, [], []⟩,
   ⟨none, .store 1 (.t 38) (.t 37), none, [], []⟩]))))
 (.region [0, 1, 4] [⟨(some 13), .mv (.t 4), none, [], []⟩,
   ⟨(some 14), .bin .sub (.t 13) (.c (.int .i64 1)), none, [], []⟩,
   ⟨(some 4), .mv (.t 14), none, [], []⟩])))
/-- progeny/page.chain -/
def c35 : CFn := ⟨39, [],
 (.seq
 (.region [0, 1] [⟨(some 6), .mv (.t 0), none, [], []⟩,
   ⟨(some 7), .iaddr 1 (.t 6) (.c (.int .i64 0)), none, [], []⟩,
   ⟨none, .store 1 (.t 7) (.c (.int .u8 0)), none, [], []⟩])
 (.seq
 (.region [0, 1] [⟨(some 8), .mv (.t 1), none, [], []⟩,
   ⟨(some 9), .len false (.t 8), none, [], []⟩,
   ⟨(some 10), .bin .sub (.t 9) (.c (.int .i64 1)), none, [], []⟩,
   ⟨(some 4), .mv (.t 10), none, [], []⟩])
 (.block 0
 (.loop c35_l0)))), false, false⟩
/-- progeny/page.within -/
def c36 : CFn := ⟨21, [.t 4],
 (.seq
 (.region [0, 1] [⟨(some 4), .mv (.c (.bool false)), none, [], []⟩])
 (.seq
 (.region [0, 1] [⟨(some 5), .mv (.t 0), none, [], []⟩,
   ⟨(some 6), .bin .geq (.t 5) (.c (.int .i64 2)), none, [], []⟩,
   ⟨(some 7), .mv (.t 6), none, [], []⟩,
   ⟨(some 8), .mv (.t 0), some (7, true), [], []⟩,
   ⟨(some 9), .bin .leq (.t 8) (.c (.int .i64 128)), some (7, true), [], []⟩,
   ⟨(some 10), .pick (.t 7) (.t 9) (.c (.bool false)), none, [], []⟩,
   ⟨(some 11), .mv (.t 10), none, [], []⟩,
   ⟨(some 12), .mv (.t 1), some (11, true), [], []⟩,
   ⟨(some 13), .bin .geq (.t 12) (.c (.int .i64 1)), some (11, true), [], []⟩,
   ⟨(some 14), .pick (.t 11) (.t 13) (.c (.bool false)), none, [], []⟩,
   ⟨(some 15), .mv (.t 14), none, [], []⟩,
   ⟨(some 16), .mv (.t 1), some (15, true), [], []⟩,
   ⟨(some 17), .mv (.t 0), some (15, true), [], []⟩,
   ⟨(some 18), .bin .sub (.c (.int .i64 128)) (.t 17), some (15, true), [], []⟩,
   ⟨(some 19), .bin .leq (.t 16) (.t 18), some (15, true), [], []⟩,
   ⟨(some 20), .pick (.t 15) (.t 19) (.c (.bool false)), none, [], []⟩,
   ⟨(some 4), .mv (.t 20), none, [], []⟩])
 .ret)), false, false⟩
/-- progeny/page.used -/
def c37 : CFn := ⟨11, [.t 6],
 (.seq
 (.region [0, 1, 2] [⟨(some 4), .box 3 1 (.t 1), none, [], []⟩,
   ⟨(some 5), .box 3 1 (.t 2), none, [], []⟩,
   ⟨(some 6), .mv (.c (.bool false)), none, [], []⟩])
 (.seq
 (.region [0, 4, 5] [⟨(some 7), .mv (.t 0), none, [], []⟩,
   ⟨(some 8), .mkfn 49 [(.t 4), (.t 5)], none, [], []⟩,
   ⟨(some 9), .call (.c (.fn 48 [])) [(.t 7), (.t 8)] false, none, [], []⟩,
   ⟨(some 10), .un .not (.t 9), none, [], []⟩,
   ⟨(some 6), .mv (.t 10), none, [], []⟩])
 .ret)), false, false⟩
/-- slices.Clone[[]byte,byte] -/
def c39 : CFn := ⟨8, [.t 2],
 (.seq
 (.region [0] [⟨(some 2), .mv (.c (.nils)), none, [], []⟩])
 (.seq
 (.seq
 (.region [0] [⟨(some 3), .mv (.t 0), none, [], []⟩,
   ⟨(some 4), .eqn false 1 (.t 3) (.c (.nils)), none, [], []⟩])
 (.cond (.t 4)
 (.seq
 (.region [] [⟨(some 2), .mv (.c (.nils)), none, [], []⟩])
 .ret)
 .skip))
 (.seq
 (.region [0] [⟨(some 5), .bslice 5 1 [] [], none, [], []⟩,
   ⟨(some 6), .mv (.t 0), none, [], []⟩,
   ⟨(some 7), .app 5 1 1 false (.t 5) (.t 6), none, [], []⟩,
   ⟨(some 2), .mv (.t 7), none, [], []⟩])
 .ret))), true, false⟩
/-- progeny/page.even -/
def c40 : CFn := ⟨7, [.t 2],
 (.seq
 (.region [0] [⟨(some 2), .mv (.c (.int .i64 0)), none, [], []⟩])
 (.seq
 (.region [0] [⟨(some 3), .mv (.t 0), none, [], []⟩,
   ⟨(some 4), .mv (.t 0), none, [], []⟩,
   ⟨(some 5), .bin .rem (.t 4) (.c (.int .i64 2)), none, [], []⟩,
   ⟨(some 6), .bin .add (.t 3) (.t 5), none, [], []⟩,
   ⟨(some 2), .mv (.t 6), none, [], []⟩])
 .ret)), false, false⟩
def c41_l0 : CC :=
 (.seq
 (.region [0, 1, 7, 8] [⟨(some 9), .bin .lss (.t 8) (.t 7), none, [], []⟩])
 (.seq
 (.cond (.t 9)
 .skip
 (.exit 0))
 (.seq
 (.block 1
 (.seq
 (.region [0, 1, 7, 8] [⟨(some 10), .mv (.t 8), none, [], []⟩,
   ⟨(some 5), .mv (.t 10), none, [], []⟩])
 (.seq
 (.region [0, 1, 5, 7, 8] [⟨(some 11), .mv (.t 1), none, [], []⟩,
   ⟨(some 12), .mv (.t 0), none, [], []⟩,
   ⟨(some 13), .mv (.t 5), none, [], []⟩,
   ⟨(some 14), .iaddr 2 (.t 12) (.t 13), none, [], []⟩,
   ⟨(some 15), .load true 2 (.t 14), none, [], []⟩,
   ⟨(some 16), .call (.t 11) [(.t 15)] false, none, [], []⟩])
 (.cond (.t 16)
 (.seq
 (.region [5] [⟨(some 17), .mv (.t 5), none, [], []⟩,
   ⟨(some 4), .mv (.t 17), none, [], []⟩])
 .ret)
 .skip))))
 (.region [0, 1, 7, 8] [⟨(some 18), .bin .add (.t 8) (.c (.int .i64 1)), none, [], []⟩,
   ⟨(some 8), .mv (.t 18), none, [], []⟩]))))
/-- slices.IndexFunc[[]progeny/page.place,progeny/page.place] -/
def c41 : CFn := ⟨19, [.t 4],
 (.seq
 (.region [0, 1] [⟨(some 4), .mv (.c (.int .i64 0)), none, [], []⟩])
 (.seq
 (.seq
 (.region [0, 1] [⟨(some 6), .mv (.t 0), none, [], []⟩,
   ⟨(some 7), .len false (.t 6), none, [], []⟩,
   ⟨(some 8), .mv (.c (.int .i64 0)), none, [], []⟩])
 (.block 0
 (.loop c41_l0)))
 (.seq
 (.region [] [⟨(some 4), .mv (.c (.int .i64 (-1))), none, [], []⟩])
 .ret))), false, false⟩
/-- progeny/page.Take$1 -/
def c42 : CFn := ⟨8, [.t 3],
 (.seq
 (.region [0, 1] [⟨(some 2), .box 55 2 (.t 0), none, [], []⟩,
   ⟨(some 3), .mv (.c (.bool false)), none, [], []⟩])
 (.seq
 (.region [1, 2] [⟨(some 4), .faddr 1 (.t 2), none, [], []⟩,
   ⟨(some 5), .load false 1 (.t 4), none, [], []⟩,
   ⟨(some 6), .load false 1 (.t 1), none, [], []⟩,
   ⟨(some 7), .bin .geq (.t 5) (.t 6), none, [], []⟩,
   ⟨(some 3), .mv (.t 7), none, [], []⟩])
 .ret)), false, false⟩
/-- slices.Delete[[]progeny/page.place,progeny/page.place] -/
def c43 : CFn := ⟨33, [.t 6],
 (.seq
 (.region [0, 1, 2] [⟨(some 6), .mv (.c (.nils)), none, [], []⟩])
 (.seq
 (.region [0, 1, 2] [⟨(some 8), .mv (.t 0), none, [], []⟩,
   ⟨(some 9), .mv (.t 1), none, [], []⟩,
   ⟨(some 10), .mv (.t 2), none, [], []⟩,
   ⟨(some 11), .mv (.t 0), none, [], []⟩,
   ⟨(some 12), .len false (.t 11), none, [], []⟩,
   ⟨(some 13), .slc 2 (.t 8) (some (.t 9)) (some (.t 10)) (some (.t 12)), none, [], []⟩])
 (.seq
 (.seq
 (.region [0, 1, 2] [⟨(some 14), .mv (.t 1), none, [], []⟩,
   ⟨(some 15), .mv (.t 2), none, [], []⟩,
   ⟨(some 16), .bin .eql (.t 14) (.t 15), none, [], []⟩])
 (.cond (.t 16)
 (.seq
 (.region [0] [⟨(some 17), .mv (.t 0), none, [], []⟩,
   ⟨(some 6), .mv (.t 17), none, [], []⟩])
 .ret)
 .skip))
 (.seq
 (.region [0, 1, 2] [⟨(some 18), .mv (.t 0), none, [], []⟩,
   ⟨(some 19), .len false (.t 18), none, [], []⟩,
   ⟨(some 7), .mv (.t 19), none, [], []⟩])
 (.seq
 (.draw [0, 1, 2, 7] [⟨(some 20), .mv (.t 0), none, [], []⟩,
   ⟨(some 21), .mv (.t 1), none, [], []⟩,
   ⟨(some 22), .slc 2 (.t 20) none (some (.t 21)) none, none, [0, 1], []⟩,
   ⟨(some 23), .mv (.t 0), none, [], []⟩,
   ⟨(some 24), .mv (.t 2), none, [], []⟩,
   ⟨(some 25), .slc 2 (.t 23) (some (.t 24)) none none, none, [3, 4], []⟩,
   ⟨(some 26), .app 55 2 16 true (.t 22) (.t 25), none, (u 6), []⟩,
   ⟨(some 0), .mv (.t 26), none, (u 7), []⟩])
 (.seq
 (.region [0, 7] [⟨(some 27), .mv (.t 0), none, [], []⟩,
   ⟨(some 28), .mv (.t 0), none, [], []⟩,
   ⟨(some 29), .len false (.t 28), none, [], []⟩,
   ⟨(some 30), .mv (.t 7), none, [], []⟩,
   ⟨(some 31), .slc 2 (.t 27) (some (.t 29)) (some (.t 30)) none, none, [], []⟩,
   ⟨none, .clear 2 [.int .i64 0, .int .i64 0] (.t 31), none, [], []⟩])
 (.seq
 (.region [0] [⟨(some 32), .mv (.t 0), none, [], []⟩,
   ⟨(some 6), .mv (.t 32), none, [], []⟩])
 .ret))))))), false, false⟩
/-- slices.Insert[[]progeny/page.place,progeny/page.place] -/
def c46 : CFn := ⟨0, [.t 0], .user (pIns 2 55 16), false, false⟩
/-- (progeny/page.place).end -/
def c47 : CFn := ⟨8, [.t 2],
 (.seq
 (.region [0] [⟨(some 1), .box 55 2 (.t 0), none, [], []⟩,
   ⟨(some 2), .mv (.c (.int .i64 0)), none, [], []⟩])
 (.seq
 (.region [1] [⟨(some 3), .faddr 0 (.t 1), none, [], []⟩,
   ⟨(some 4), .load false 1 (.t 3), none, [], []⟩,
   ⟨(some 5), .faddr 1 (.t 1), none, [], []⟩,
   ⟨(some 6), .load false 1 (.t 5), none, [], []⟩,
   ⟨(some 7), .bin .add (.t 4) (.t 6), none, [], []⟩,
   ⟨(some 2), .mv (.t 7), none, [], []⟩])
 .ret)), false, false⟩
/-- slices.ContainsFunc[[]progeny/page.place,progeny/page.place] -/
def c48 : CFn := ⟨9, [.t 4],
 (.seq
 (.region [0, 1] [⟨(some 4), .mv (.c (.bool false)), none, [], []⟩])
 (.seq
 (.region [0, 1] [⟨(some 5), .mv (.t 0), none, [], []⟩,
   ⟨(some 6), .mv (.t 1), none, [], []⟩,
   ⟨(some 7), .call (.c (.fn 41 [])) [(.t 5), (.t 6)] false, none, [], []⟩,
   ⟨(some 8), .bin .geq (.t 7) (.c (.int .i64 0)), none, [], []⟩,
   ⟨(some 4), .mv (.t 8), none, [], []⟩])
 .ret)), false, false⟩
/-- progeny/page.used$1 -/
def c49 : CFn := ⟨17, [.t 4],
 (.seq
 (.region [0, 1, 2] [⟨(some 3), .box 55 2 (.t 0), none, [], []⟩,
   ⟨(some 4), .mv (.c (.bool false)), none, [], []⟩])
 (.seq
 (.draw [1, 2, 3] [⟨(some 5), .faddr 0 (.t 3), none, [], []⟩,
   ⟨(some 6), .load false 1 (.t 5), none, [0], []⟩,
   ⟨(some 7), .load false 1 (.t 1), none, [], []⟩,
   ⟨(some 8), .load false 1 (.t 2), none, [], []⟩,
   ⟨(some 9), .bin .add (.t 7) (.t 8), none, [2, 3], []⟩,
   ⟨(some 10), .bin .lss (.t 6) (.t 9), none, (u 5), []⟩,
   ⟨(some 11), .mv (.t 10), none, (u 6), []⟩,
   ⟨(some 12), .load false 1 (.t 1), some (11, true), (u 7), [10]⟩,
   ⟨(some 13), .load true 2 (.t 3), some (11, true), (u 7), []⟩,
   ⟨(some 14), .call (.c (.fn 47 [])) [(.t 13)] false, some (11, true), (u 7 ++ [8]), []⟩,
   ⟨(some 15), .bin .lss (.t 12) (.t 14), some (11, true), (u 10), []⟩,
   ⟨(some 16), .pick (.t 11) (.t 15) (.c (.bool false)), none, (u 11), []⟩,
   ⟨(some 4), .mv (.t 16), none, (u 12), []⟩])
 .ret)), false, false⟩

def ctab : List (Nat × CFn) := [(7, c7), (8, c8), (9, c9), (11, c11), (13, c13), (15, c15), (20, c20), (22, c22), (24, c24), (26, c26), (28, c28), (30, c30), (32, c32), (34, c34), (35, c35), (36, c36), (37, c37), (39, c39), (40, c40), (41, c41), (42, c42), (43, c43), (47, c47), (48, c48), (49, c49)]
def utab : List (Nat × CFn) := [(46, c46)]
def cprog (f : Nat) : Option CFn := ((ctab ++ utab).find? fun p => p.1 == f).map (·.2)
theorem ok_all : ctab.all (fun p => okFn Go.Proofs.Try.prog p.1 p.2) = true := by kernel_rfl
theorem cprog_ok {f : Nat} {c : CFn} (h : cprog f = some c) : okFn Go.Proofs.Try.prog f c = true ∨ (f, c) ∈ utab := by
  unfold cprog at h
  cases hf : (ctab ++ utab).find? fun p => p.1 == f with
  | none => rw [hf] at h; cases h
  | some p =>
    rw [hf] at h
    simp only [Option.map_some, Option.some.injEq] at h
    have h1 := List.mem_of_find?_eq_some hf
    have h2 := List.find?_some hf
    simp only [beq_iff_eq] at h2
    rcases List.mem_append.1 h1 with h1 | h1
    · have h3 := List.all_eq_true.1 ok_all p h1
      rw [← h, ← h2]; exact .inl h3
    · rw [← h, ← h2]; exact .inr h1
theorem at7 : cprog 7 = some c7 := rfl
theorem at8 : cprog 8 = some c8 := rfl
theorem at9 : cprog 9 = some c9 := rfl
theorem at11 : cprog 11 = some c11 := rfl
theorem at13 : cprog 13 = some c13 := rfl
theorem at15 : cprog 15 = some c15 := rfl
theorem at20 : cprog 20 = some c20 := rfl
theorem at22 : cprog 22 = some c22 := rfl
theorem at24 : cprog 24 = some c24 := rfl
theorem at26 : cprog 26 = some c26 := rfl
theorem at28 : cprog 28 = some c28 := rfl
theorem at30 : cprog 30 = some c30 := rfl
theorem at32 : cprog 32 = some c32 := rfl
theorem at34 : cprog 34 = some c34 := rfl
theorem at35 : cprog 35 = some c35 := rfl
theorem at36 : cprog 36 = some c36 := rfl
theorem at37 : cprog 37 = some c37 := rfl
theorem at39 : cprog 39 = some c39 := rfl
theorem at40 : cprog 40 = some c40 := rfl
theorem at41 : cprog 41 = some c41 := rfl
theorem at42 : cprog 42 = some c42 := rfl
theorem at43 : cprog 43 = some c43 := rfl
theorem at46 : cprog 46 = some c46 := rfl
theorem at47 : cprog 47 = some c47 := rfl
theorem at48 : cprog 48 = some c48 := rfl
theorem at49 : cprog 49 = some c49 := rfl
end Go.Proofs.Ythgcnlmmgilhjaa.Code
