/- The compact code of the functions, printed by a program of ours (gen.py); the kernel checks it against the program's own form. -/
import Derived.Test.YtondenmkhfignaaRptP
import Derived.Test.YtondenmkhfignaaProg
import Derived.KernelRfl
namespace Go.Proofs.Ytondenmkhfignaa.Code
open Go.Proofs.Ytondenmkhfignaa.Ev
abbrev u (n : Nat) : List Nat := List.range n
abbrev oO (d : Nat) (o : CO) : COp := ⟨some d, o, none, [], []⟩
abbrev oF (d : Nat) (o : CO) (bf : List Nat) : COp := ⟨some d, o, none, bf, []⟩
abbrev oG (d : Nat) (o : CO) (i : Nat) (b : Bool) : COp := ⟨some d, o, some (i, b), [], []⟩
abbrev oM (d x : Nat) : COp := ⟨some d, .mv (.t x), none, [], []⟩
abbrev ol (d z x : Nat) : COp := ⟨some d, .load false z (.t x), none, [], []⟩
abbrev oL (d z x : Nat) : COp := ⟨some d, .load true z (.t x), none, [], []⟩
abbrev oA (d o x : Nat) : COp := ⟨some d, .faddr o (.t x), none, [], []⟩
abbrev oI (d z x y : Nat) : COp := ⟨some d, .iaddr z (.t x) (.t y), none, [], []⟩
abbrev oE (d x k : Nat) : COp := ⟨some d, .extract (.t x) k, none, [], []⟩
abbrev oB (d : Nat) (p : BinOp) (x y : Nat) : COp := ⟨some d, .bin p (.t x) (.t y), none, [], []⟩
abbrev oN (d x : Nat) : COp := ⟨some d, .un .not (.t x), none, [], []⟩
abbrev oX (d y z x : Nat) : COp := ⟨some d, .box y z (.t x), none, [], []⟩
abbrev oS (z x y : Nat) : COp := ⟨none, .store z (.t x) (.t y), none, [], []⟩
abbrev oa (d : Nat) (o : CO) (bf alts : List Nat) : COp := ⟨some d, o, none, bf, alts⟩
abbrev k0 (f : Nat) : CO := .call (.c (.fn f [])) [] false
abbrev k1 (f a : Nat) : CO := .call (.c (.fn f [])) [.t a] false
abbrev k2 (f a b : Nat) : CO := .call (.c (.fn f [])) [.t a, .t b] false
abbrev k3 (f a b c : Nat) : CO := .call (.c (.fn f [])) [.t a, .t b, .t c] false
abbrev k4 (f a b c d : Nat) : CO := .call (.c (.fn f [])) [.t a, .t b, .t c, .t d] false
abbrev k5 (f a b c d e : Nat) : CO := .call (.c (.fn f [])) [.t a, .t b, .t c, .t d, .t e] false
abbrev k6 (f a b c d e g : Nat) : CO := .call (.c (.fn f [])) [.t a, .t b, .t c, .t d, .t e, .t g] false
abbrev z1 (f a : Nat) : CO := .call (.c (.fn f [])) [.t a] true
abbrev z2 (f a b : Nat) : CO := .call (.c (.fn f [])) [.t a, .t b] true
abbrev z3 (f a b c : Nat) : CO := .call (.c (.fn f [])) [.t a, .t b, .t c] true
abbrev z4 (f a b c d : Nat) : CO := .call (.c (.fn f [])) [.t a, .t b, .t c, .t d] true
abbrev z5 (f a b c d e : Nat) : CO := .call (.c (.fn f [])) [.t a, .t b, .t c, .t d, .t e] true
abbrev z6 (f a b c d e g : Nat) : CO := .call (.c (.fn f [])) [.t a, .t b, .t c, .t d, .t e, .t g] true
def c3_l0 : CC :=
 (.seq
 (.seq
 (.region [1, 2, 3, 7, 14] [oM 92 14,
 oM 93 2,
 oO 94 (.len false (.t 93)),
 oB 95 .lss 92 94])
 (.cond (.t 95)
 .skip
 (.exit 0)))
 (.seq
 (.block 1
 (.seq
 (.seq
 (.region [1, 2, 3, 7, 14] [oM 98 2,
 oM 99 14,
 oI 100 2 98 99,
 oA 101 1 100,
 ol 102 1 101,
 oO 103 (.len true (.t 102)),
 oO 104 (.bin .gtr (.t 103) (.c (.int .i64 100))),
 oM 105 104,
 oG 106 (.mv (.t 2)) 105 false,
 oG 107 (.mv (.t 14)) 105 false,
 oG 108 (.iaddr 2 (.t 106) (.t 107)) 105 false,
 oG 109 (.faddr 0 (.t 108)) 105 false,
 oG 110 (.load false 1 (.t 109)) 105 false,
 oG 111 (.len true (.t 110)) 105 false,
 oG 112 (.bin .gtr (.t 111) (.c (.int .i64 100))) 105 false,
 oO 113 (.pick (.t 105) (.c (.bool true)) (.t 112))])
 (.cond (.t 113)
 (.seq
 (.region [] [oO 114 (k0 9),
 oM 6 114])
 .ret)
 .skip))
 (.seq
 (.draw [1, 2, 3, 7, 14] [oL 116 4 3,
 oM 117 7,
 oM 118 2,
 oM 119 14,
 oF 120 (.iaddr 2 (.t 118) (.t 119)) [2, 3],
 oF 121 (.load true 2 (.t 120)) [2, 3, 4],
 oF 122 (z3 15 116 117 121) (u 6),
 oF 115 (.mv (.t 122)) (u 7),
 oF 123 (.extract (.t 115) 0) (u 8),
 oF 124 (.extract (.t 115) 1) (u 8),
 oF 15 (.mv (.t 123)) (u 9),
 oF 16 (.mv (.t 124)) (u 11)])
 (.seq
 (.seq
 (.region [1, 2, 3, 14, 15, 16] [oM 125 16,
 oN 126 125])
 (.cond (.t 126)
 (.seq
 (.region [] [oO 6 (.mv (.c (.bool false)))])
 .ret)
 .skip))
 (.region [1, 2, 3, 14, 15] [oM 127 15,
 oM 7 127])))))
 (.region [1, 2, 3, 7, 14] [oM 96 14,
 oO 97 (.bin .add (.t 96) (.c (.int .i64 1))),
 oM 14 97])))
/-- progeny/progenytop.TopScreen -/
def c3 : CFn := ⟨134, [.t 6],
 (.seq
 (.region [0, 1, 2] [oX 3 25 4 0,
 oO 6 (.mv (.c (.bool false)))])
 (.seq
 (.seq
 (.region [1, 2, 3] [oL 17 4 3,
 oO 18 (k1 6 17),
 oM 19 18,
 oG 20 (.mv (.t 1)) 19 false,
 oG 21 (k1 7 20) 19 false,
 oO 22 (.pick (.t 19) (.c (.bool true)) (.t 21)),
 oM 23 22,
 oG 24 (.mv (.t 2)) 23 false,
 oG 25 (.len false (.t 24)) 23 false,
 oG 26 (.bin .gtr (.t 25) (.c (.int .i64 10))) 23 false,
 oO 27 (.pick (.t 23) (.c (.bool true)) (.t 26)),
 oM 28 27,
 oG 29 (.load true 4 (.t 3)) 28 false,
 oG 30 (k1 8 29) 28 false,
 oG 31 (.un .not (.t 30)) 28 false,
 oO 32 (.pick (.t 28) (.c (.bool true)) (.t 31))])
 (.cond (.t 32)
 (.seq
 (.region [] [oO 33 (k0 9),
 oM 6 33])
 .ret)
 .skip))
 (.seq
 (.region [1, 2, 3] [oL 35 4 3,
 oM 36 1,
 oO 37 (z2 10 35 36),
 oM 34 37,
 oE 38 34 0,
 oE 39 34 1,
 oM 7 38,
 oM 8 39])
 (.seq
 (.seq
 (.region [1, 2, 3, 7, 8] [oM 40 8,
 oO 41 (.bin .neq (.t 40) (.c (.int .i64 0)))])
 (.cond (.t 41)
 (.seq
 (.region [8] [oM 42 8,
 oO 43 (.bin .eql (.t 42) (.c (.int .i64 2))),
 oM 44 43,
 oG 45 (k0 9) 44 true,
 oO 46 (.pick (.t 44) (.t 45) (.c (.bool false))),
 oM 6 46])
 .ret)
 .skip))
 (.seq
 (.region [1, 2, 3, 7] [oL 48 4 3,
 oM 49 7,
 oO 50 (k2 11 48 49),
 oM 47 50,
 oE 51 47 0,
 oE 52 47 1,
 oM 9 51,
 oM 8 52])
 (.seq
 (.region [1, 2, 3, 7, 8, 9] [oL 54 4 3,
 oM 55 7,
 oO 56 (z2 12 54 55),
 oM 53 56,
 oE 57 53 0,
 oE 58 53 1,
 oM 10 57,
 oM 11 58])
 (.seq
 (.seq
 (.region [1, 2, 3, 7, 8, 9, 10, 11] [oM 59 8,
 oO 60 (.bin .neq (.t 59) (.c (.int .i64 0))),
 oM 61 60,
 oG 62 (.mv (.t 11)) 61 false,
 oG 63 (.bin .neq (.t 62) (.c (.int .i64 0))) 61 false,
 oO 64 (.pick (.t 61) (.c (.bool true)) (.t 63)),
 oM 65 64,
 oG 66 (.mv (.t 9)) 65 false,
 oG 67 (.un .not (.t 66)) 65 false,
 oO 68 (.pick (.t 65) (.c (.bool true)) (.t 67))])
 (.cond (.t 68)
 (.seq
 (.region [] [oO 6 (.mv (.c (.bool false)))])
 .ret)
 .skip))
 (.seq
 (.seq
 (.region [1, 2, 3, 7, 10] [oL 69 4 3,
 oM 70 1,
 oO 71 (k2 13 69 70)])
 (.cond (.t 71)
 (.seq
 (.region [1, 2, 3, 7, 10] [oL 73 4 3,
 oM 74 10,
 oO 75 (z2 10 73 74),
 oM 72 75,
 oE 76 72 0,
 oE 77 72 1,
 oM 12 76,
 oM 13 77])
 (.seq
 (.region [1, 2, 3, 7, 10, 12, 13] [oM 78 10,
 oM 79 1,
 oO 80 (k2 14 78 79),
 oN 81 80,
 oM 82 81,
 oG 83 (.mv (.t 13)) 82 false,
 oG 84 (.bin .neq (.t 83) (.c (.int .i64 0))) 82 false,
 oO 85 (.pick (.t 82) (.c (.bool true)) (.t 84)),
 oM 86 85,
 oG 87 (.mv (.t 12)) 86 false,
 oG 88 (.mv (.t 7)) 86 false,
 oG 89 (k2 14 87 88) 86 false,
 oG 90 (.un .not (.t 89)) 86 false,
 oO 91 (.pick (.t 86) (.c (.bool true)) (.t 90))])
 (.cond (.t 91)
 (.seq
 (.region [] [oO 6 (.mv (.c (.bool false)))])
 .ret)
 .skip)))
 .skip))
 (.seq
 (.seq
 (.region [1, 2, 3, 7] [oO 14 (.mv (.c (.int .i64 0)))])
 (.block 0
 (.loop c3_l0)))
 (.seq
 (.region [1, 3] [oL 128 4 3,
 oM 129 1,
 oO 130 (k2 16 128 129),
 oM 131 130,
 oG 132 (k0 9) 131 true,
 oO 133 (.pick (.t 131) (.t 132) (.c (.bool false))),
 oM 6 133])
 .ret)))))))))), false, false⟩
def c6_l0 : CC :=
 (.seq
 (.seq
 (.region [1, 3] [oM 15 3,
 oA 16 2 1,
 ol 17 1 16,
 oO 18 (.len false (.t 17)),
 oB 19 .lss 15 18])
 (.cond (.t 19)
 .skip
 (.exit 0)))
 (.seq
 (.block 1
 (.seq
 (.region [1, 3] [oA 22 2 1,
 ol 23 1 22,
 oM 24 3,
 oI 25 3 23 24,
 oA 26 2 25,
 ol 27 1 26,
 oO 28 (.len true (.t 27)),
 oO 29 (.bin .gtr (.t 28) (.c (.int .i64 100)))])
 (.cond (.t 29)
 (.seq
 (.region [] [oO 2 (.mv (.c (.bool true)))])
 .ret)
 .skip)))
 (.region [1, 3] [oM 20 3,
 oO 21 (.bin .add (.t 20) (.c (.int .i64 1))),
 oM 3 21])))
def c6_l1 : CC :=
 (.seq
 (.seq
 (.region [1, 4] [oM 30 4,
 oA 31 3 1,
 ol 32 1 31,
 oO 33 (.len false (.t 32)),
 oB 34 .lss 30 33])
 (.cond (.t 34)
 .skip
 (.exit 2)))
 (.seq
 (.block 3
 (.seq
 (.region [1, 4] [oA 37 3 1,
 ol 38 1 37,
 oM 39 4,
 oI 40 7 38 39,
 oA 41 0 40,
 ol 42 1 41,
 oO 43 (.len true (.t 42)),
 oO 44 (.bin .gtr (.t 43) (.c (.int .i64 100)))])
 (.cond (.t 44)
 (.seq
 (.region [] [oO 2 (.mv (.c (.bool true)))])
 .ret)
 .skip)))
 (.region [1, 4] [oM 35 4,
 oO 36 (.bin .add (.t 35) (.c (.int .i64 1))),
 oM 4 36])))
/-- progeny/progenylaw24.Large -/
def c6 : CFn := ⟨45, [.t 2],
 (.seq
 (.region [0] [oX 1 25 4 0,
 oO 2 (.mv (.c (.bool false)))])
 (.seq
 (.seq
 (.region [1] [oA 5 2 1,
 ol 6 1 5,
 oO 7 (.len false (.t 6)),
 oO 8 (.bin .gtr (.t 7) (.c (.int .i64 20))),
 oM 9 8,
 oG 10 (.faddr 3 (.t 1)) 9 false,
 oG 11 (.load false 1 (.t 10)) 9 false,
 oG 12 (.len false (.t 11)) 9 false,
 oG 13 (.bin .gtr (.t 12) (.c (.int .i64 20))) 9 false,
 oO 14 (.pick (.t 9) (.c (.bool true)) (.t 13))])
 (.cond (.t 14)
 (.seq
 (.region [] [oO 2 (.mv (.c (.bool true)))])
 .ret)
 .skip))
 (.seq
 (.seq
 (.region [1] [oO 3 (.mv (.c (.int .i64 0)))])
 (.block 0
 (.loop c6_l0)))
 (.seq
 (.seq
 (.region [1] [oO 4 (.mv (.c (.int .i64 0)))])
 (.block 2
 (.loop c6_l1)))
 (.seq
 (.region [] [oO 2 (.mv (.c (.bool false)))])
 .ret))))), false, false⟩
def c7_l0 : CC :=
 (.seq
 (.seq
 (.region [0, 3] [oM 4 3,
 oM 5 0,
 oO 6 (.len false (.t 5)),
 oB 7 .lss 4 6])
 (.cond (.t 7)
 .skip
 (.exit 0)))
 (.seq
 (.block 1
 (.seq
 (.region [0, 3] [oM 10 0,
 oM 11 3,
 oI 12 1 10 11,
 ol 13 1 12,
 oO 14 (.len true (.t 13)),
 oO 15 (.bin .gtr (.t 14) (.c (.int .i64 300)))])
 (.cond (.t 15)
 (.seq
 (.region [] [oO 2 (.mv (.c (.bool true)))])
 .ret)
 .skip)))
 (.region [0, 3] [oM 8 3,
 oO 9 (.bin .add (.t 8) (.c (.int .i64 1))),
 oM 3 9])))
/-- progeny/progenylaw24.Long -/
def c7 : CFn := ⟨19, [.t 2],
 (.seq
 (.region [0] [oO 2 (.mv (.c (.bool false)))])
 (.seq
 (.seq
 (.region [0] [oO 3 (.mv (.c (.int .i64 0)))])
 (.block 0
 (.loop c7_l0)))
 (.seq
 (.region [0] [oM 16 0,
 oO 17 (.len false (.t 16)),
 oO 18 (.bin .gtr (.t 17) (.c (.int .i64 20))),
 oM 2 18])
 .ret))), false, false⟩
def c8_l0 : CC :=
 (.seq
 (.seq
 (.region [1, 3] [oM 38 3,
 oA 39 2 1,
 ol 40 1 39,
 oO 41 (.len false (.t 40)),
 oB 42 .lss 38 41])
 (.cond (.t 42)
 .skip
 (.exit 0)))
 (.seq
 (.block 1
 (.seq
 (.region [1, 3] [oA 45 2 1,
 ol 46 1 45,
 oM 47 3,
 oI 48 3 46 47,
 oA 49 2 48,
 ol 50 1 49,
 oO 51 (k1 41 50),
 oN 52 51])
 (.cond (.t 52)
 (.seq
 (.region [] [oO 2 (.mv (.c (.bool false)))])
 .ret)
 .skip)))
 (.region [1, 3] [oM 43 3,
 oO 44 (.bin .add (.t 43) (.c (.int .i64 1))),
 oM 3 44])))
def c8_l1 : CC :=
 (.seq
 (.seq
 (.region [1, 4] [oM 53 4,
 oA 54 3 1,
 ol 55 1 54,
 oO 56 (.len false (.t 55)),
 oB 57 .lss 53 56])
 (.cond (.t 57)
 .skip
 (.exit 2)))
 (.seq
 (.block 3
 (.seq
 (.draw [1, 4] [oA 60 3 1,
 oF 61 (.load false 1 (.t 60)) [0],
 oM 62 4,
 oF 63 (.slc 7 (.t 61) none (some (.t 62)) none) [0, 1, 2],
 oA 64 3 1,
 oF 65 (.load false 1 (.t 64)) [4],
 oM 66 4,
 oF 67 (.iaddr 7 (.t 65) (.t 66)) [4, 5, 6],
 oF 68 (.load true 7 (.t 67)) [4, 5, 6, 7],
 oF 69 (k2 42 63 68) (u 9),
 oF 70 (.un .not (.t 69)) (u 10)])
 (.cond (.t 70)
 (.seq
 (.region [] [oO 2 (.mv (.c (.bool false)))])
 .ret)
 .skip)))
 (.region [1, 4] [oM 58 4,
 oO 59 (.bin .add (.t 58) (.c (.int .i64 1))),
 oM 4 59])))
def c8_l2 : CC :=
 (.seq
 (.seq
 (.region [1, 5, 6, 7] [oM 137 7,
 oM 138 6,
 oB 139 .lss 137 138])
 (.cond (.t 139)
 .skip
 (.exit 6)))
 (.seq
 (.block 7
 (.seq
 (.draw [1, 5, 6, 7] [oM 142 5,
 oM 143 7,
 oF 144 (.iaddr 3 (.t 142) (.t 143)) [0, 1],
 oF 145 (.faddr 0 (.t 144)) [0, 1, 2],
 oF 146 (.load false 1 (.t 145)) (u 4),
 oM 147 5,
 oM 148 6,
 oF 149 (.iaddr 3 (.t 147) (.t 148)) [5, 6],
 oF 150 (.faddr 0 (.t 149)) [5, 6, 7],
 oF 151 (.load false 1 (.t 150)) [5, 6, 7, 8],
 oF 152 (.bin .eql (.t 146) (.t 151)) (u 10),
 oF 153 (.mv (.t 152)) (u 11),
 ⟨(some 154), .mv (.t 5), some (153, true), (u 12), []⟩,
 ⟨(some 155), .mv (.t 7), some (153, true), (u 12), []⟩,
 ⟨(some 156), .iaddr 3 (.t 154) (.t 155), some (153, true), (u 14), []⟩,
 ⟨(some 157), .faddr 1 (.t 156), some (153, true), (u 15), []⟩,
 ⟨(some 158), .load false 1 (.t 157), some (153, true), (u 16), []⟩,
 ⟨(some 159), .mv (.t 5), some (153, true), (u 12), []⟩,
 ⟨(some 160), .mv (.t 6), some (153, true), (u 12), []⟩,
 ⟨(some 161), .iaddr 3 (.t 159) (.t 160), some (153, true), (u 12 ++ [17, 18]), []⟩,
 ⟨(some 162), .faddr 1 (.t 161), some (153, true), (u 12 ++ [17, 18, 19]), []⟩,
 ⟨(some 163), .load false 1 (.t 162), some (153, true), (u 12 ++ [17, 18, 19, 20]), []⟩,
 ⟨(some 164), .mv (.t 5), some (153, true), (u 12), []⟩,
 ⟨(some 165), .mv (.t 6), some (153, true), (u 12), []⟩,
 ⟨(some 166), .iaddr 3 (.t 164) (.t 165), some (153, true), (u 12 ++ [22, 23]), []⟩,
 ⟨(some 167), .faddr 2 (.t 166), some (153, true), (u 12 ++ [22, 23, 24]), []⟩,
 ⟨(some 168), .load false 1 (.t 167), some (153, true), (u 12 ++ [22, 23, 24, 25]), []⟩,
 ⟨(some 169), .bin .add (.t 163) (.t 168), some (153, true), (u 12 ++ [17, 18, 19, 20, 21, 22, 23, 24, 25, 26]), []⟩,
 ⟨(some 170), .bin .lss (.t 158) (.t 169), some (153, true), (u 28), []⟩,
 oF 171 (.pick (.t 153) (.t 170) (.c (.bool false))) (u 29),
 oF 172 (.mv (.t 171)) (u 30),
 ⟨(some 173), .mv (.t 5), some (172, true), (u 31), []⟩,
 ⟨(some 174), .mv (.t 6), some (172, true), (u 31), []⟩,
 ⟨(some 175), .iaddr 3 (.t 173) (.t 174), some (172, true), (u 33), []⟩,
 ⟨(some 176), .faddr 1 (.t 175), some (172, true), (u 34), []⟩,
 ⟨(some 177), .load false 1 (.t 176), some (172, true), (u 35), []⟩,
 ⟨(some 178), .mv (.t 5), some (172, true), (u 31), []⟩,
 ⟨(some 179), .mv (.t 7), some (172, true), (u 31), []⟩,
 ⟨(some 180), .iaddr 3 (.t 178) (.t 179), some (172, true), (u 31 ++ [36, 37]), []⟩,
 ⟨(some 181), .faddr 1 (.t 180), some (172, true), (u 31 ++ [36, 37, 38]), []⟩,
 ⟨(some 182), .load false 1 (.t 181), some (172, true), (u 31 ++ [36, 37, 38, 39]), []⟩,
 ⟨(some 183), .mv (.t 5), some (172, true), (u 31), []⟩,
 ⟨(some 184), .mv (.t 7), some (172, true), (u 31), []⟩,
 ⟨(some 185), .iaddr 3 (.t 183) (.t 184), some (172, true), (u 31 ++ [41, 42]), []⟩,
 ⟨(some 186), .faddr 2 (.t 185), some (172, true), (u 31 ++ [41, 42, 43]), []⟩,
 ⟨(some 187), .load false 1 (.t 186), some (172, true), (u 31 ++ [41, 42, 43, 44]), []⟩,
 ⟨(some 188), .bin .add (.t 182) (.t 187), some (172, true), (u 31 ++ [36, 37, 38, 39, 40, 41, 42, 43, 44, 45]), []⟩,
 ⟨(some 189), .bin .lss (.t 177) (.t 188), some (172, true), (u 47), []⟩,
 oF 190 (.pick (.t 172) (.t 189) (.c (.bool false))) (u 48)])
 (.cond (.t 190)
 (.seq
 (.region [] [oO 2 (.mv (.c (.bool false)))])
 .ret)
 .skip)))
 (.region [1, 5, 6, 7] [oM 140 7,
 oO 141 (.bin .add (.t 140) (.c (.int .i64 1))),
 oM 7 141])))
def c8_l3 : CC :=
 (.seq
 (.seq
 (.region [1, 5, 6] [oM 73 6,
 oM 74 5,
 oO 75 (.len false (.t 74)),
 oB 76 .lss 73 75])
 (.cond (.t 76)
 .skip
 (.exit 4)))
 (.seq
 (.block 5
 (.seq
 (.seq
 (.draw [1, 5, 6] [oM 79 5,
 oM 80 6,
 oF 81 (.iaddr 3 (.t 79) (.t 80)) [0, 1],
 oF 82 (.faddr 0 (.t 81)) [0, 1, 2],
 oF 83 (.load false 1 (.t 82)) (u 4),
 oF 84 (.bin .lss (.t 83) (.c (.int .i64 0))) (u 5),
 oF 85 (.mv (.t 84)) (u 6),
 ⟨(some 86), .mv (.t 5), some (85, false), (u 7), []⟩,
 ⟨(some 87), .mv (.t 6), some (85, false), (u 7), []⟩,
 ⟨(some 88), .iaddr 3 (.t 86) (.t 87), some (85, false), (u 9), []⟩,
 ⟨(some 89), .faddr 0 (.t 88), some (85, false), (u 10), []⟩,
 ⟨(some 90), .load false 1 (.t 89), some (85, false), (u 11), []⟩,
 ⟨(some 91), .faddr 0 (.t 1), some (85, false), (u 7), []⟩,
 ⟨(some 92), .load false 1 (.t 91), some (85, false), (u 7 ++ [12]), []⟩,
 ⟨(some 93), .bin .geq (.t 90) (.t 92), some (85, false), (u 14), []⟩,
 oF 94 (.pick (.t 85) (.c (.bool true)) (.t 93)) (u 15),
 oF 95 (.mv (.t 94)) (u 16),
 ⟨(some 96), .mv (.t 5), some (95, false), (u 17), []⟩,
 ⟨(some 97), .mv (.t 6), some (95, false), (u 17), []⟩,
 ⟨(some 98), .iaddr 3 (.t 96) (.t 97), some (95, false), (u 19), []⟩,
 ⟨(some 99), .faddr 1 (.t 98), some (95, false), (u 20), []⟩,
 ⟨(some 100), .load false 1 (.t 99), some (95, false), (u 21), []⟩,
 ⟨(some 101), .bin .lss (.t 100) (.c (.int .i64 0)), some (95, false), (u 22), []⟩,
 oF 102 (.pick (.t 95) (.c (.bool true)) (.t 101)) (u 23),
 oF 103 (.mv (.t 102)) (u 24),
 ⟨(some 104), .mv (.t 5), some (103, false), (u 25), []⟩,
 ⟨(some 105), .mv (.t 6), some (103, false), (u 25), []⟩,
 ⟨(some 106), .iaddr 3 (.t 104) (.t 105), some (103, false), (u 27), []⟩,
 ⟨(some 107), .faddr 1 (.t 106), some (103, false), (u 28), []⟩,
 ⟨(some 108), .load false 1 (.t 107), some (103, false), (u 29), []⟩,
 ⟨(some 109), .faddr 1 (.t 1), some (103, false), (u 25), []⟩,
 ⟨(some 110), .load false 1 (.t 109), some (103, false), (u 25 ++ [30]), []⟩,
 ⟨(some 111), .bin .geq (.t 108) (.t 110), some (103, false), (u 32), []⟩,
 oF 112 (.pick (.t 103) (.c (.bool true)) (.t 111)) (u 33),
 oF 113 (.mv (.t 112)) (u 34),
 ⟨(some 114), .mv (.t 5), some (113, false), (u 35), []⟩,
 ⟨(some 115), .mv (.t 6), some (113, false), (u 35), []⟩,
 ⟨(some 116), .iaddr 3 (.t 114) (.t 115), some (113, false), (u 37), []⟩,
 ⟨(some 117), .faddr 2 (.t 116), some (113, false), (u 38), []⟩,
 ⟨(some 118), .load false 1 (.t 117), some (113, false), (u 39), []⟩,
 ⟨(some 119), .bin .lss (.t 118) (.c (.int .i64 1)), some (113, false), (u 40), []⟩,
 oF 120 (.pick (.t 113) (.c (.bool true)) (.t 119)) (u 41),
 oF 121 (.mv (.t 120)) (u 42),
 ⟨(some 122), .mv (.t 5), some (121, false), (u 43), []⟩,
 ⟨(some 123), .mv (.t 6), some (121, false), (u 43), []⟩,
 ⟨(some 124), .iaddr 3 (.t 122) (.t 123), some (121, false), (u 45), []⟩,
 ⟨(some 125), .faddr 2 (.t 124), some (121, false), (u 46), []⟩,
 ⟨(some 126), .load false 1 (.t 125), some (121, false), (u 47), []⟩,
 ⟨(some 127), .faddr 1 (.t 1), some (121, false), (u 43), []⟩,
 ⟨(some 128), .load false 1 (.t 127), some (121, false), (u 43 ++ [48]), []⟩,
 ⟨(some 129), .mv (.t 5), some (121, false), (u 43), []⟩,
 ⟨(some 130), .mv (.t 6), some (121, false), (u 43), []⟩,
 ⟨(some 131), .iaddr 3 (.t 129) (.t 130), some (121, false), (u 43 ++ [50, 51]), []⟩,
 ⟨(some 132), .faddr 1 (.t 131), some (121, false), (u 43 ++ [50, 51, 52]), []⟩,
 ⟨(some 133), .load false 1 (.t 132), some (121, false), (u 43 ++ [50, 51, 52, 53]), []⟩,
 ⟨(some 134), .bin .sub (.t 128) (.t 133), some (121, false), (u 43 ++ [48, 49, 50, 51, 52, 53, 54]), []⟩,
 ⟨(some 135), .bin .gtr (.t 126) (.t 134), some (121, false), (u 56), []⟩,
 oF 136 (.pick (.t 121) (.c (.bool true)) (.t 135)) (u 57)])
 (.cond (.t 136)
 (.seq
 (.region [] [oO 2 (.mv (.c (.bool false)))])
 .ret)
 .skip))
 (.seq
 (.region [1, 5, 6] [oO 7 (.mv (.c (.int .i64 0)))])
 (.block 6
 (.loop c8_l2)))))
 (.region [1, 5, 6] [oM 77 6,
 oO 78 (.bin .add (.t 77) (.c (.int .i64 1))),
 oM 6 78])))
/-- progeny/progenyref24.Valid -/
def c8 : CFn := ⟨191, [.t 2],
 (.seq
 (.region [0] [oX 1 25 4 0,
 oO 2 (.mv (.c (.bool false)))])
 (.seq
 (.seq
 (.region [1] [oA 8 0 1,
 ol 9 1 8,
 oO 10 (.bin .lss (.t 9) (.c (.int .i64 1))),
 oM 11 10,
 oG 12 (.faddr 0 (.t 1)) 11 false,
 oG 13 (.load false 1 (.t 12)) 11 false,
 oG 14 (.bin .gtr (.t 13) (.c (.int .i64 12))) 11 false,
 oO 15 (.pick (.t 11) (.c (.bool true)) (.t 14)),
 oM 16 15,
 oG 17 (.faddr 1 (.t 1)) 16 false,
 oG 18 (.load false 1 (.t 17)) 16 false,
 oG 19 (.bin .lss (.t 18) (.c (.int .i64 10))) 16 false,
 oO 20 (.pick (.t 16) (.c (.bool true)) (.t 19)),
 oM 21 20,
 oG 22 (.faddr 1 (.t 1)) 21 false,
 oG 23 (.load false 1 (.t 22)) 21 false,
 oG 24 (.bin .gtr (.t 23) (.c (.int .i64 40))) 21 false,
 oO 25 (.pick (.t 21) (.c (.bool true)) (.t 24)),
 oM 26 25,
 oG 27 (.faddr 2 (.t 1)) 26 false,
 oG 28 (.load false 1 (.t 27)) 26 false,
 oG 29 (.len false (.t 28)) 26 false,
 oG 30 (.bin .gtr (.t 29) (.c (.int .i64 8))) 26 false,
 oO 31 (.pick (.t 26) (.c (.bool true)) (.t 30)),
 oM 32 31,
 oG 33 (.faddr 3 (.t 1)) 32 false,
 oG 34 (.load false 1 (.t 33)) 32 false,
 oG 35 (.len false (.t 34)) 32 false,
 oG 36 (.bin .gtr (.t 35) (.c (.int .i64 10))) 32 false,
 oO 37 (.pick (.t 32) (.c (.bool true)) (.t 36))])
 (.cond (.t 37)
 (.seq
 (.region [] [oO 2 (.mv (.c (.bool false)))])
 .ret)
 .skip))
 (.seq
 (.seq
 (.region [1] [oO 3 (.mv (.c (.int .i64 0)))])
 (.block 0
 (.loop c8_l0)))
 (.seq
 (.seq
 (.region [1] [oO 4 (.mv (.c (.int .i64 0)))])
 (.block 2
 (.loop c8_l1)))
 (.seq
 (.region [1] [oL 71 4 1,
 oO 72 (z1 43 71),
 oM 5 72])
 (.seq
 (.seq
 (.region [1, 5] [oO 6 (.mv (.c (.int .i64 0)))])
 (.block 4
 (.loop c8_l3)))
 (.seq
 (.region [] [oO 2 (.mv (.c (.bool true)))])
 .ret))))))), false, false⟩
/-- progeny/progenylaw24.Awake -/
def c9 : CFn := ⟨45, [.t 0],
 (.seq
 (.region [] [oO 0 (.mv (.c (.bool false)))])
 (.seq
 (.region [] [oO 6 (.build [.int .i64 0, .int .i64 0, .str ⟨#[]⟩] [(2, 1, (.c (.str ⟨#[78, 65, 77, 69, 58]⟩)))]),
 oO 7 (.bslice 87 3 [[.int .i64 0, .int .i64 0, .str ⟨#[]⟩]] [(0, (.t 6))]),
 oO 8 (.build [.str ⟨#[]⟩, .int .i64 0, .int .i64 0, .int .i64 0, .int .i64 0, .int .i64 0, .int .u8 0] [(0, 1, (.c (.str ⟨#[65]⟩))), (2, 1, (.c (.int .i64 6))), (3, 1, (.c (.int .i64 5))), (6, 1, (.c (.int .u8 95)))]),
 oO 9 (.bslice 89 7 [[.str ⟨#[]⟩, .int .i64 0, .int .i64 0, .int .i64 0, .int .i64 0, .int .i64 0, .int .u8 0]] [(0, (.t 8))]),
 oO 10 (.build [.int .i64 0, .int .i64 0, .nils, .nils] [(0, 1, (.c (.int .i64 2))), (1, 1, (.c (.int .i64 20))), (2, 1, (.t 7)), (3, 1, (.t 9))]),
 oO 1 (.box 25 4 (.c (.agg [.int .i64 0, .int .i64 0, .nils, .nils]))),
 oS 4 1 10])
 (.seq
 (.region [1] [oL 12 4 1,
 oO 13 (.bslice 9 1 [[.str ⟨#[]⟩]] [(0, (.c (.str ⟨#[65, 66]⟩)))]),
 oO 14 (z2 10 12 13),
 oM 11 14,
 oE 15 11 0,
 oE 16 11 1,
 oM 2 15,
 oM 3 16])
 (.seq
 (.region [1, 2, 3] [oL 18 4 1,
 oM 19 2,
 oO 20 (z2 12 18 19),
 oM 17 20,
 oE 21 17 0,
 oE 22 17 1,
 oM 4 21,
 oM 5 22])
 (.seq
 (.region [2, 3, 4, 5] [oM 23 3,
 oO 24 (.bin .eql (.t 23) (.c (.int .i64 0))),
 oM 25 24,
 oG 26 (.mv (.t 5)) 25 true,
 oG 27 (.bin .eql (.t 26) (.c (.int .i64 0))) 25 true,
 oO 28 (.pick (.t 25) (.t 27) (.c (.bool false))),
 oM 29 28,
 oG 30 (.mv (.t 2)) 29 true,
 oG 31 (.len false (.t 30)) 29 true,
 oG 32 (.bin .eql (.t 31) (.c (.int .i64 2))) 29 true,
 oO 33 (.pick (.t 29) (.t 32) (.c (.bool false))),
 oM 34 33,
 oG 35 (.mv (.t 2)) 34 true,
 oG 36 (.iaddr 1 (.t 35) (.c (.int .i64 0))) 34 true,
 oG 37 (.load false 1 (.t 36)) 34 true,
 oG 38 (.bin .eql (.t 37) (.c (.str ⟨#[78, 65, 77, 69, 58, 32, 65, 66, 95, 95, 95, 32, 32, 32, 32, 32, 32, 32, 32, 32]⟩))) 34 true,
 oO 39 (.pick (.t 34) (.t 38) (.c (.bool false))),
 oM 40 39,
 oG 41 (.mv (.t 4)) 40 true,
 oG 42 (.bslice 9 1 [[.str ⟨#[]⟩]] [(0, (.c (.str ⟨#[65, 66]⟩)))]) 40 true,
 oG 43 (k2 14 41 42) 40 true,
 oO 44 (.pick (.t 40) (.t 43) (.c (.bool false))),
 oM 0 44])
 .ret))))), false, true⟩
/-- progeny/screen.Show -/
def c10 : CFn := ⟨16, [.t 4, .t 5],
 (.seq
 (.region [0, 1] [oX 2 25 4 0,
 oO 4 (.mv (.c (.nils))),
 oO 5 (.mv (.c (.int .i64 0)))])
 (.seq
 (.seq
 (.region [1, 2] [oL 7 4 2,
 oM 8 1,
 oO 9 (k2 44 7 8),
 oM 6 9])
 (.seq
 (.region [1, 2, 6] [oM 10 6,
 oO 11 (.bin .neq (.t 10) (.c (.int .i64 0)))])
 (.cond (.t 11)
 (.seq
 (.region [6] [oM 12 6,
 oO 4 (.mv (.c (.nils))),
 oM 5 12])
 .ret)
 .skip)))
 (.seq
 (.region [1, 2] [oL 13 4 2,
 oM 14 1,
 oO 15 (z2 45 13 14),
 oM 4 15,
 oO 5 (.mv (.c (.int .i64 0)))])
 .ret))), false, false⟩
def c11_l0 : CC :=
 (.seq
 (.region [1, 8, 28, 29, 30] [oB 31 .lss 30 29])
 (.seq
 (.cond (.t 31)
 .skip
 (.exit 0))
 (.seq
 (.block 1
 (.seq
 (.region [1, 8, 28, 29, 30] [oI 32 7 28 30,
 oL 33 7 32,
 oO 10 (.box 89 7 (.c (.agg [.str ⟨#[]⟩, .int .i64 0, .int .i64 0, .int .i64 0, .int .i64 0, .int .i64 0, .int .u8 0]))),
 oS 7 10 33])
 (.draw [1, 8, 10, 28, 29, 30] [oM 34 8,
 oA 35 1 10,
 oF 36 (.load false 1 (.t 35)) [1],
 oA 37 2 10,
 oF 38 (.load false 1 (.t 37)) [3],
 oM 39 1,
 oA 40 1 10,
 oF 41 (.load false 1 (.t 40)) [6],
 oF 42 (.iaddr 1 (.t 39) (.t 41)) [5, 6, 7],
 oF 43 (.load false 1 (.t 42)) [5, 6, 7, 8],
 oA 44 2 10,
 oF 45 (.load false 1 (.t 44)) [10],
 oA 46 2 10,
 oF 47 (.load false 1 (.t 46)) [12],
 oA 48 3 10,
 oF 49 (.load false 1 (.t 48)) [14],
 oF 50 (.bin .add (.t 47) (.t 49)) [12, 13, 14, 15],
 oF 51 (.slcs (.t 43) (some (.t 45)) (some (.t 50))) [5, 6, 7, 8, 9, 10, 11, 12, 13, 14, 15, 16],
 oF 52 (z4 49 34 36 38 51) (u 18),
 oF 8 (.mv (.t 52)) (u 19)])))
 (.region [1, 8, 28, 29, 30] [oO 53 (.bin .add (.t 30) (.c (.int .i64 1))),
 oM 30 53]))))
/-- progeny/screen.IsPicture -/
def c11 : CFn := ⟨57, [.t 4, .t 5],
 (.seq
 (.region [0, 1] [oX 2 25 4 0,
 oO 4 (.mv (.c (.bool false))),
 oO 5 (.mv (.c (.int .i64 0)))])
 (.seq
 (.seq
 (.region [1, 2] [oL 11 4 2,
 oO 12 (k1 46 11),
 oN 13 12])
 (.cond (.t 13)
 (.seq
 (.region [] [oO 4 (.mv (.c (.bool false))),
 oO 5 (.mv (.c (.int .i64 220)))])
 .ret)
 .skip))
 (.seq
 (.seq
 (.region [1, 2] [oL 14 4 2,
 oM 15 1,
 oO 16 (k2 47 14 15),
 oN 17 16])
 (.cond (.t 17)
 (.seq
 (.region [] [oO 4 (.mv (.c (.bool false))),
 oO 5 (.mv (.c (.int .i64 0)))])
 .ret)
 .skip))
 (.seq
 (.region [1, 2] [oL 19 4 2,
 oO 20 (k1 48 19),
 oM 18 20,
 oE 21 18 0,
 oE 22 18 1,
 oM 6 21,
 oM 7 22])
 (.seq
 (.draw [1, 2, 7] [oa 23 (.load true 4 (.t 2)) [] [3],
 oM 24 7,
 oF 25 (.mks 9 1 16 [.str ⟨#[]⟩] (.t 24) (.t 24)) [1],
 oF 26 (z2 45 23 25) [0, 1, 2],
 oF 8 (.mv (.t 26)) (u 4)])
 (.seq
 (.seq
 (.region [1, 2, 8] [oA 27 3 2,
 ol 28 1 27,
 oO 29 (.len false (.t 28)),
 oO 30 (.mv (.c (.int .i64 0)))])
 (.block 0
 (.loop c11_l0)))
 (.seq
 (.region [1, 8] [oM 54 8,
 oM 55 1,
 oO 56 (k2 50 54 55),
 oM 4 56,
 oO 5 (.mv (.c (.int .i64 0)))])
 .ret))))))), false, false⟩
def c12_l0 : CC :=
 (.seq
 (.seq
 (.draw [1, 9, 11, 12, 27, 28, 29] [oM 49 12,
 oF 50 (.len true (.t 49)) [0],
 oF 51 (.bin .gtr (.t 50) (.c (.int .i64 0))) [0, 1],
 oF 52 (.mv (.t 51)) [0, 1, 2],
 ⟨(some 53), .mv (.t 12), some (52, true), (u 4), []⟩,
 ⟨(some 54), .mv (.t 12), some (52, true), (u 4), []⟩,
 ⟨(some 55), .len true (.t 54), some (52, true), (u 4 ++ [5]), []⟩,
 ⟨(some 56), .bin .sub (.t 55) (.c (.int .i64 1)), some (52, true), (u 4 ++ [5, 6]), []⟩,
 ⟨(some 57), .idx (.t 53) (.t 56), some (52, true), (u 8), []⟩,
 ⟨(some 58), .faddr 6 (.t 11), some (52, true), (u 4), []⟩,
 ⟨(some 59), .load false 1 (.t 58), some (52, true), (u 4 ++ [9]), []⟩,
 ⟨(some 60), .bin .eql (.t 57) (.t 59), some (52, true), (u 11), []⟩,
 oF 61 (.pick (.t 52) (.t 60) (.c (.bool false))) (u 12)])
 (.cond (.t 61)
 .skip
 (.exit 2)))
 (.block 3
 (.region [1, 9, 11, 12, 27, 28, 29] [oM 62 12,
 oM 63 12,
 oO 64 (.len true (.t 63)),
 oO 65 (.bin .sub (.t 64) (.c (.int .i64 1))),
 oO 66 (.slcs (.t 62) none (some (.t 65))),
 oM 12 66])))
def c12_l1 : CC :=
 (.seq
 (.region [1, 9, 27, 28, 29] [oB 30 .lss 29 28])
 (.seq
 (.cond (.t 30)
 .skip
 (.exit 0))
 (.seq
 (.block 1
 (.seq
 (.region [1, 9, 27, 28, 29] [oI 31 7 27 29,
 oL 32 7 31,
 oO 11 (.box 89 7 (.c (.agg [.str ⟨#[]⟩, .int .i64 0, .int .i64 0, .int .i64 0, .int .i64 0, .int .i64 0, .int .u8 0]))),
 oS 7 11 32])
 (.seq
 (.seq
 (.region [1, 9, 11, 27, 28, 29] [oA 33 4 11,
 ol 34 1 33,
 oO 35 (.bin .lss (.t 34) (.c (.int .i64 0)))])
 (.cond (.t 35)
 (.exit 1)
 .skip))
 (.seq
 (.draw [1, 9, 11, 27, 28, 29] [oM 36 1,
 oA 37 1 11,
 oF 38 (.load false 1 (.t 37)) [1],
 oF 39 (.iaddr 1 (.t 36) (.t 38)) [0, 1, 2],
 oF 40 (.load false 1 (.t 39)) (u 4),
 oA 41 2 11,
 oF 42 (.load false 1 (.t 41)) [5],
 oA 43 2 11,
 oF 44 (.load false 1 (.t 43)) [7],
 oA 45 3 11,
 oF 46 (.load false 1 (.t 45)) [9],
 oF 47 (.bin .add (.t 44) (.t 46)) [7, 8, 9, 10],
 oF 48 (.slcs (.t 40) (some (.t 42)) (some (.t 47))) (u 12),
 oF 12 (.mv (.t 48)) (u 13)])
 (.seq
 (.block 2
 (.loop c12_l0))
 (.region [1, 9, 11, 12, 27, 28, 29] [oM 67 9,
 oA 68 4 11,
 ol 69 1 68,
 oM 70 12,
 oI 71 1 67 69,
 oS 1 71 70]))))))
 (.region [1, 9, 27, 28, 29] [oO 72 (.bin .add (.t 29) (.c (.int .i64 1))),
 oM 29 72]))))
/-- progeny/screen.Take -/
def c12 : CFn := ⟨74, [.t 4, .t 5],
 (.seq
 (.region [0, 1] [oX 2 25 4 0,
 oO 4 (.mv (.c (.nils))),
 oO 5 (.mv (.c (.int .i64 0)))])
 (.seq
 (.seq
 (.region [1, 2] [oL 13 4 2,
 oM 14 1,
 oO 15 (k2 51 13 14),
 oM 6 15])
 (.seq
 (.region [1, 2, 6] [oM 16 6,
 oO 17 (.bin .neq (.t 16) (.c (.int .i64 0)))])
 (.cond (.t 17)
 (.seq
 (.region [6] [oM 18 6,
 oO 4 (.mv (.c (.nils))),
 oM 5 18])
 .ret)
 .skip)))
 (.seq
 (.region [1, 2] [oL 20 4 2,
 oO 21 (k1 48 20),
 oM 19 21,
 oE 22 19 0,
 oE 23 19 1,
 oM 7 22,
 oM 8 23])
 (.seq
 (.region [1, 2, 7] [oM 24 7,
 oO 25 (.mks 9 1 16 [.str ⟨#[]⟩] (.t 24) (.t 24)),
 oM 9 25])
 (.seq
 (.seq
 (.region [1, 2, 9] [oA 26 3 2,
 ol 27 1 26,
 oO 28 (.len false (.t 27)),
 oO 29 (.mv (.c (.int .i64 0)))])
 (.block 0
 (.loop c12_l1)))
 (.seq
 (.region [9] [oM 73 9,
 oM 4 73,
 oO 5 (.mv (.c (.int .i64 0)))])
 .ret)))))), false, false⟩
def c13_l0 : CC :=
 (.seq
 (.seq
 (.region [1, 2, 5, 6] [oM 13 6,
 oA 14 3 2,
 ol 15 1 14,
 oO 16 (.len false (.t 15)),
 oB 17 .lss 13 16])
 (.cond (.t 17)
 .skip
 (.exit 0)))
 (.seq
 (.block 1
 (.seq
 (.region [1, 2, 5, 6] [oA 20 3 2,
 ol 21 1 20,
 oM 22 6,
 oI 23 7 21 22,
 oL 24 7 23,
 oO 7 (.box 89 7 (.c (.agg [.str ⟨#[]⟩, .int .i64 0, .int .i64 0, .int .i64 0, .int .i64 0, .int .i64 0, .int .u8 0]))),
 oS 7 7 24])
 (.seq
 (.seq
 (.region [1, 2, 5, 6, 7] [oA 25 4 7,
 ol 26 1 25,
 oA 27 5 7,
 ol 28 1 27,
 oB 29 .neq 26 28])
 (.cond (.t 29)
 (.seq
 (.region [] [oO 4 (.mv (.c (.bool false)))])
 .ret)
 .skip))
 (.seq
 (.seq
 (.region [1, 2, 5, 6, 7] [oA 30 5 7,
 ol 31 1 30,
 oO 32 (.bin .lss (.t 31) (.c (.int .i64 0)))])
 (.cond (.t 32)
 (.exit 1)
 .skip))
 (.seq
 (.region [1, 2, 5, 6, 7] [oM 33 1,
 oA 34 5 7,
 ol 35 1 34,
 oI 36 1 33 35,
 ol 37 1 36,
 oM 8 37])
 (.seq
 (.seq
 (.draw [1, 2, 5, 6, 7, 8] [oM 38 8,
 oF 39 (.len true (.t 38)) [0],
 oA 40 3 7,
 oF 41 (.load false 1 (.t 40)) [2],
 oF 42 (.bin .gtr (.t 39) (.t 41)) (u 4),
 oF 43 (.mv (.t 42)) (u 5),
 ⟨(some 44), .mv (.t 8), some (43, false), (u 6), []⟩,
 ⟨(some 45), .len true (.t 44), some (43, false), (u 7), []⟩,
 ⟨(some 46), .bin .gtr (.t 45) (.c (.int .i64 0)), some (43, false), (u 8), []⟩,
 ⟨(some 47), .mv (.t 46), some (43, false), (u 9), []⟩,
 ⟨(some 48), .mv (.t 8), some (47, true), (u 10), []⟩,
 ⟨(some 49), .mv (.t 8), some (47, true), (u 10), []⟩,
 ⟨(some 50), .len true (.t 49), some (47, true), (u 10 ++ [11]), []⟩,
 ⟨(some 51), .bin .sub (.t 50) (.c (.int .i64 1)), some (47, true), (u 10 ++ [11, 12]), []⟩,
 ⟨(some 52), .idx (.t 48) (.t 51), some (47, true), (u 14), []⟩,
 ⟨(some 53), .faddr 6 (.t 7), some (47, true), (u 10), []⟩,
 ⟨(some 54), .load false 1 (.t 53), some (47, true), (u 10 ++ [15]), []⟩,
 ⟨(some 55), .bin .eql (.t 52) (.t 54), some (47, true), (u 17), []⟩,
 ⟨(some 56), .pick (.t 47) (.t 55) (.c (.bool false)), some (43, false), (u 18), []⟩,
 oF 57 (.pick (.t 43) (.c (.bool true)) (.t 56)) (u 19)])
 (.cond (.t 57)
 (.seq
 (.region [] [oO 4 (.mv (.c (.bool false)))])
 .ret)
 .skip))
 (.region [1, 2, 5, 6, 7] [oM 58 5,
 oA 59 5 7,
 ol 60 1 59,
 oI 61 1 58 60,
 ⟨none, .store 1 (.t 61) (.c (.str ⟨#[]⟩)), none, [], []⟩])))))))
 (.region [1, 2, 5, 6] [oM 18 6,
 oO 19 (.bin .add (.t 18) (.c (.int .i64 1))),
 oM 6 19])))
def c13_l1 : CC :=
 (.seq
 (.seq
 (.region [5, 9] [oM 62 9,
 oM 63 5,
 oO 64 (.len false (.t 63)),
 oB 65 .lss 62 64])
 (.cond (.t 65)
 .skip
 (.exit 2)))
 (.seq
 (.block 3
 (.seq
 (.region [5, 9] [oM 68 5,
 oM 69 9,
 oI 70 1 68 69,
 ol 71 1 70,
 oO 72 (.bin .neq (.t 71) (.c (.str ⟨#[]⟩)))])
 (.cond (.t 72)
 (.seq
 (.region [] [oO 4 (.mv (.c (.bool false)))])
 .ret)
 .skip)))
 (.region [5, 9] [oM 66 9,
 oO 67 (.bin .add (.t 66) (.c (.int .i64 1))),
 oM 9 67])))
/-- progeny/progenytop.plain -/
def c13 : CFn := ⟨73, [.t 4],
 (.seq
 (.region [0, 1] [oX 2 25 4 0,
 oO 4 (.mv (.c (.bool false)))])
 (.seq
 (.region [1, 2] [oO 10 (.bslice 9 1 [] []),
 oM 11 1,
 oO 12 (.app 9 1 16 false (.t 10) (.t 11)),
 oM 5 12])
 (.seq
 (.seq
 (.region [1, 2, 5] [oO 6 (.mv (.c (.int .i64 0)))])
 (.block 0
 (.loop c13_l0)))
 (.seq
 (.seq
 (.region [5] [oO 9 (.mv (.c (.int .i64 0)))])
 (.block 2
 (.loop c13_l1)))
 (.seq
 (.region [] [oO 4 (.mv (.c (.bool true)))])
 .ret))))), false, false⟩
def c14_l0 : CC :=
 (.seq
 (.seq
 (.region [0, 1, 5] [oM 11 5,
 oM 12 0,
 oO 13 (.len false (.t 12)),
 oB 14 .lss 11 13])
 (.cond (.t 14)
 .skip
 (.exit 0)))
 (.seq
 (.block 1
 (.seq
 (.draw [0, 1, 5] [oM 17 0,
 oM 18 5,
 oF 19 (.iaddr 1 (.t 17) (.t 18)) [0, 1],
 oF 20 (.load false 1 (.t 19)) [0, 1, 2],
 oM 21 1,
 oM 22 5,
 oF 23 (.iaddr 1 (.t 21) (.t 22)) [4, 5],
 oF 24 (.load false 1 (.t 23)) [4, 5, 6],
 oF 25 (.bin .neq (.t 20) (.t 24)) (u 8)])
 (.cond (.t 25)
 (.seq
 (.region [] [oO 4 (.mv (.c (.bool false)))])
 .ret)
 .skip)))
 (.region [0, 1, 5] [oM 15 5,
 oO 16 (.bin .add (.t 15) (.c (.int .i64 1))),
 oM 5 16])))
/-- progeny/progenyref01.SameTexts -/
def c14 : CFn := ⟨26, [.t 4],
 (.seq
 (.region [0, 1] [oO 4 (.mv (.c (.bool false)))])
 (.seq
 (.seq
 (.region [0, 1] [oM 6 0,
 oO 7 (.len false (.t 6)),
 oM 8 1,
 oO 9 (.len false (.t 8)),
 oB 10 .neq 7 9])
 (.cond (.t 10)
 (.seq
 (.region [] [oO 4 (.mv (.c (.bool false)))])
 .ret)
 .skip))
 (.seq
 (.seq
 (.region [0, 1] [oO 5 (.mv (.c (.int .i64 0)))])
 (.block 0
 (.loop c14_l0)))
 (.seq
 (.region [] [oO 4 (.mv (.c (.bool true)))])
 .ret)))), false, false⟩
def c15_l0 : CC :=
 (.seq
 (.seq
 (.draw [10, 14, 16, 17] [oM 97 17,
 oF 98 (.len true (.t 97)) [0],
 oF 99 (.bin .gtr (.t 98) (.c (.int .i64 0))) [0, 1],
 oF 100 (.mv (.t 99)) [0, 1, 2],
 ⟨(some 101), .mv (.t 17), some (100, true), (u 4), []⟩,
 ⟨(some 102), .mv (.t 17), some (100, true), (u 4), []⟩,
 ⟨(some 103), .len true (.t 102), some (100, true), (u 4 ++ [5]), []⟩,
 ⟨(some 104), .bin .sub (.t 103) (.c (.int .i64 1)), some (100, true), (u 4 ++ [5, 6]), []⟩,
 ⟨(some 105), .idx (.t 101) (.t 104), some (100, true), (u 8), []⟩,
 ⟨(some 106), .faddr 6 (.t 16), some (100, true), (u 4), []⟩,
 ⟨(some 107), .load false 1 (.t 106), some (100, true), (u 4 ++ [9]), []⟩,
 ⟨(some 108), .bin .eql (.t 105) (.t 107), some (100, true), (u 11), []⟩,
 oF 109 (.pick (.t 100) (.t 108) (.c (.bool false))) (u 12)])
 (.cond (.t 109)
 .skip
 (.exit 0)))
 (.block 1
 (.region [10, 14, 16, 17] [oM 110 17,
 oM 111 17,
 oO 112 (.len true (.t 111)),
 oO 113 (.bin .sub (.t 112) (.c (.int .i64 1))),
 oO 114 (.slcs (.t 110) none (some (.t 113))),
 oM 17 114])))
/-- progeny/progenytop.typed -/
def c15 : CFn := ⟨130, [.t 6, .t 7],
 (.seq
 (.region [0, 1, 2] [oX 3 25 4 0,
 oX 5 39 2 2,
 oO 6 (.mv (.c (.nils))),
 oO 7 (.mv (.c (.bool false)))])
 (.seq
 (.region [1, 3, 5] [oL 19 4 3,
 oA 20 0 5,
 ol 21 1 20,
 oO 22 (k2 52 19 21),
 oM 18 22,
 oE 23 18 0,
 oE 24 18 1,
 oM 8 23,
 oM 9 24])
 (.seq
 (.region [1, 3, 5, 8, 9] [oL 26 4 3,
 oM 27 1,
 oA 28 0 5,
 ol 29 1 28,
 oA 30 1 5,
 ol 31 1 30,
 oO 32 (z4 53 26 27 29 31),
 oM 25 32,
 oE 33 25 0,
 oE 34 25 1,
 oM 10 33,
 oM 11 34])
 (.seq
 (.seq
 (.region [1, 3, 5, 8, 9, 10, 11] [oM 35 11,
 oO 36 (.bin .neq (.t 35) (.c (.int .i64 0)))])
 (.cond (.t 36)
 (.seq
 (.region [1, 9, 11] [oM 37 1,
 oM 38 11,
 oO 39 (.bin .eql (.t 38) (.c (.int .i64 2))),
 oM 40 39,
 oG 41 (.mv (.t 11)) 40 false,
 oG 42 (.bin .eql (.t 41) (.c (.int .i64 5))) 40 false,
 oG 43 (.mv (.t 42)) 40 false,
 oG 44 (.mv (.t 9)) 43 true,
 oG 45 (.mv (.t 11)) 43 true,
 oG 46 (.bin .eql (.t 44) (.t 45)) 43 true,
 oG 47 (.pick (.t 43) (.t 46) (.c (.bool false))) 40 false,
 oO 48 (.pick (.t 40) (.c (.bool true)) (.t 47)),
 oM 6 37,
 oM 7 48])
 .ret)
 .skip))
 (.seq
 (.region [3, 5, 8, 9, 10] [oL 50 4 3,
 oM 51 10,
 oO 52 (k2 11 50 51),
 oM 49 52,
 oE 53 49 0,
 oE 54 49 1,
 oM 12 53,
 oM 13 54])
 (.seq
 (.region [3, 5, 8, 9, 10, 12, 13] [oL 56 4 3,
 oM 57 10,
 oO 58 (z2 12 56 57),
 oM 55 58,
 oE 59 55 0,
 oE 60 55 1,
 oM 14 59,
 oM 15 60])
 (.seq
 (.seq
 (.region [3, 5, 8, 9, 10, 12, 13, 14, 15] [oM 61 9,
 oO 62 (.bin .neq (.t 61) (.c (.int .i64 0))),
 oM 63 62,
 oG 64 (.mv (.t 13)) 63 false,
 oG 65 (.bin .neq (.t 64) (.c (.int .i64 0))) 63 false,
 oO 66 (.pick (.t 63) (.c (.bool true)) (.t 65)),
 oM 67 66,
 oG 68 (.mv (.t 15)) 67 false,
 oG 69 (.bin .neq (.t 68) (.c (.int .i64 0))) 67 false,
 oO 70 (.pick (.t 67) (.c (.bool true)) (.t 69)),
 oM 71 70,
 oG 72 (.mv (.t 12)) 71 false,
 oG 73 (.un .not (.t 72)) 71 false,
 oO 74 (.pick (.t 71) (.c (.bool true)) (.t 73)),
 oM 75 74,
 oG 76 (.mv (.t 8)) 75 false,
 oG 77 (.bin .lss (.t 76) (.c (.int .i64 0))) 75 false,
 oO 78 (.pick (.t 75) (.c (.bool true)) (.t 77)),
 oM 79 78,
 oG 80 (.mv (.t 8)) 79 false,
 oG 81 (.faddr 3 (.t 3)) 79 false,
 oG 82 (.load false 1 (.t 81)) 79 false,
 oG 83 (.len false (.t 82)) 79 false,
 oG 84 (.bin .geq (.t 80) (.t 83)) 79 false,
 oO 85 (.pick (.t 79) (.c (.bool true)) (.t 84))])
 (.cond (.t 85)
 (.seq
 (.region [] [oO 6 (.mv (.c (.nils))),
 oO 7 (.mv (.c (.bool false)))])
 .ret)
 .skip))
 (.seq
 (.region [3, 5, 8, 10, 14] [oA 86 3 3,
 ol 87 1 86,
 oM 88 8,
 oI 89 7 87 88,
 oL 90 7 89,
 oO 16 (.box 89 7 (.c (.agg [.str ⟨#[]⟩, .int .i64 0, .int .i64 0, .int .i64 0, .int .i64 0, .int .i64 0, .int .u8 0]))),
 oS 7 16 90])
 (.seq
 (.seq
 (.region [5, 10, 14, 16] [oA 91 4 16,
 ol 92 1 91,
 oO 93 (.bin .lss (.t 92) (.c (.int .i64 0)))])
 (.cond (.t 93)
 (.seq
 (.region [10] [oM 94 10,
 oM 6 94,
 oO 7 (.mv (.c (.bool true)))])
 .ret)
 .skip))
 (.seq
 (.region [5, 10, 14, 16] [oA 95 1 5,
 ol 96 1 95,
 oM 17 96])
 (.seq
 (.block 0
 (.loop c15_l0))
 (.seq
 (.draw [10, 14, 16, 17] [oM 115 10,
 oA 116 4 16,
 oF 117 (.load false 1 (.t 116)) [1],
 oM 118 14,
 oF 119 (.len false (.t 118)) [3],
 oF 120 (.bin .lss (.t 117) (.t 119)) [1, 2, 3, 4],
 oF 121 (.mv (.t 120)) [1, 2, 3, 4, 5],
 ⟨(some 122), .mv (.t 14), some (121, true), [1, 2, 3, 4, 5, 6], []⟩,
 ⟨(some 123), .faddr 4 (.t 16), some (121, true), [1, 2, 3, 4, 5, 6], []⟩,
 ⟨(some 124), .load false 1 (.t 123), some (121, true), [1, 2, 3, 4, 5, 6, 8], []⟩,
 ⟨(some 125), .iaddr 1 (.t 122) (.t 124), some (121, true), [1, 2, 3, 4, 5, 6, 7, 8, 9], []⟩,
 ⟨(some 126), .load false 1 (.t 125), some (121, true), [1, 2, 3, 4, 5, 6, 7, 8, 9, 10], []⟩,
 ⟨(some 127), .mv (.t 17), some (121, true), [1, 2, 3, 4, 5, 6], []⟩,
 ⟨(some 128), .bin .eql (.t 126) (.t 127), some (121, true), [1, 2, 3, 4, 5, 6, 7, 8, 9, 10, 11, 12], []⟩,
 oF 129 (.pick (.t 121) (.t 128) (.c (.bool false))) [1, 2, 3, 4, 5, 6, 7, 8, 9, 10, 11, 12, 13],
 oF 6 (.mv (.t 115)) (u 7),
 oF 7 (.mv (.t 129)) (u 16)])
 .ret)))))))))))), false, false⟩
def c16_l0 : CC :=
 (.seq
 (.seq
 (.region [1, 2, 5, 6] [oM 12 6,
 oA 13 3 2,
 ol 14 1 13,
 oO 15 (.len false (.t 14)),
 oB 16 .lss 12 15])
 (.cond (.t 16)
 .skip
 (.exit 0)))
 (.seq
 (.block 1
 (.seq
 (.region [1, 2, 5, 6] [oA 19 3 2,
 ol 20 1 19,
 oM 21 6,
 oI 22 7 20 21,
 oA 23 5 22,
 ol 24 1 23,
 oO 25 (.bin .eql (.t 24) (.c (.int .i64 0)))])
 (.cond (.t 25)
 (.region [1, 2, 6] [oM 26 6,
 oM 5 26])
 .skip)))
 (.region [1, 2, 5, 6] [oM 17 6,
 oO 18 (.bin .add (.t 17) (.c (.int .i64 1))),
 oM 6 18])))
def c16_l1 : CC :=
 (.seq
 (.seq
 (.region [1, 2, 7, 8, 9, 10, 11] [oM 42 11,
 oM 43 7,
 oO 44 (.len false (.t 43)),
 oB 45 .lss 42 44])
 (.cond (.t 45)
 .skip
 (.exit 2)))
 (.seq
 (.block 3
 (.seq
 (.seq
 (.draw [1, 2, 7, 8, 9, 10, 11] [oM 48 7,
 oM 49 11,
 oF 50 (.iaddr 1 (.t 48) (.t 49)) [0, 1],
 oF 51 (.load false 1 (.t 50)) [0, 1, 2],
 oF 52 (.len false (.t 51)) (u 4),
 oA 53 0 2,
 oF 54 (.load false 1 (.t 53)) [5],
 oF 55 (.bin .neq (.t 52) (.t 54)) (u 7),
 oF 56 (.mv (.t 55)) (u 8),
 ⟨(some 57), .mv (.t 7), some (56, false), (u 9), []⟩,
 ⟨(some 58), .mv (.t 11), some (56, false), (u 9), []⟩,
 ⟨(some 59), .iaddr 1 (.t 57) (.t 58), some (56, false), (u 11), []⟩,
 ⟨(some 60), .load false 1 (.t 59), some (56, false), (u 12), []⟩,
 ⟨(some 61), .faddr 1 (.t 9), some (56, false), (u 9), []⟩,
 ⟨(some 62), .load false 1 (.t 61), some (56, false), (u 9 ++ [13]), []⟩,
 ⟨(some 63), .iaddr 1 (.t 60) (.t 62), some (56, false), (u 15), []⟩,
 ⟨(some 64), .load false 1 (.t 63), some (56, false), (u 16), []⟩,
 ⟨(some 65), .len true (.t 64), some (56, false), (u 17), []⟩,
 ⟨(some 66), .faddr 1 (.t 2), some (56, false), (u 9), []⟩,
 ⟨(some 67), .load false 1 (.t 66), some (56, false), (u 9 ++ [18]), []⟩,
 ⟨(some 68), .bin .neq (.t 65) (.t 67), some (56, false), (u 20), []⟩,
 oF 69 (.pick (.t 56) (.c (.bool true)) (.t 68)) (u 21)])
 (.cond (.t 69)
 (.seq
 (.region [] [oO 4 (.mv (.c (.bool false)))])
 .ret)
 .skip))
 (.draw [1, 2, 7, 8, 9, 10, 11] [oM 70 10,
 oM 71 7,
 oM 72 11,
 oF 73 (.iaddr 1 (.t 71) (.t 72)) [1, 2],
 oF 74 (.load false 1 (.t 73)) [1, 2, 3],
 oA 75 1 9,
 oF 76 (.load false 1 (.t 75)) [5],
 oF 77 (.iaddr 1 (.t 74) (.t 76)) [1, 2, 3, 4, 5, 6],
 oF 78 (.load false 1 (.t 77)) [1, 2, 3, 4, 5, 6, 7],
 oA 79 2 9,
 oF 80 (.load false 1 (.t 79)) [9],
 oA 81 2 9,
 oF 82 (.load false 1 (.t 81)) [11],
 oA 83 3 9,
 oF 84 (.load false 1 (.t 83)) [13],
 oF 85 (.bin .add (.t 82) (.t 84)) [11, 12, 13, 14],
 oF 86 (.slcs (.t 78) (some (.t 80)) (some (.t 85))) [1, 2, 3, 4, 5, 6, 7, 8, 9, 10, 11, 12, 13, 14, 15],
 oF 87 (.bin .add (.t 70) (.t 86)) (u 17),
 oF 10 (.mv (.t 87)) (u 18)])))
 (.region [1, 2, 7, 8, 9, 10, 11] [oM 46 11,
 oO 47 (.bin .add (.t 46) (.c (.int .i64 1))),
 oM 11 47])))
/-- progeny/progenytop.paged -/
def c16 : CFn := ⟨128, [.t 4],
 (.seq
 (.region [0, 1] [oX 2 25 4 0,
 oO 4 (.mv (.c (.bool false)))])
 (.seq
 (.region [1, 2] [oO 5 (.mv (.c (.int .i64 (-1))))])
 (.seq
 (.seq
 (.region [1, 2, 5] [oO 6 (.mv (.c (.int .i64 0)))])
 (.block 0
 (.loop c16_l0)))
 (.seq
 (.region [1, 2, 5] [oL 28 4 2,
 oM 29 1,
 oO 30 (z2 54 28 29),
 oM 27 30,
 oE 31 27 0,
 oE 32 27 1,
 oM 7 31,
 oM 8 32])
 (.seq
 (.seq
 (.region [1, 2, 5, 7, 8] [oM 33 5,
 oO 34 (.bin .lss (.t 33) (.c (.int .i64 0)))])
 (.cond (.t 34)
 (.seq
 (.region [8] [oM 35 8,
 oO 36 (.bin .eql (.t 35) (.c (.int .i64 2))),
 oM 4 36])
 .ret)
 .skip))
 (.seq
 (.region [1, 2, 5, 7, 8] [oA 37 3 2,
 ol 38 1 37,
 oM 39 5,
 oI 40 7 38 39,
 oL 41 7 40,
 oO 9 (.box 89 7 (.c (.agg [.str ⟨#[]⟩, .int .i64 0, .int .i64 0, .int .i64 0, .int .i64 0, .int .i64 0, .int .u8 0]))),
 oS 7 9 41])
 (.seq
 (.region [1, 2, 7, 8, 9] [oO 10 (.mv (.c (.str ⟨#[]⟩)))])
 (.seq
 (.seq
 (.region [1, 2, 7, 8, 9, 10] [oO 11 (.mv (.c (.int .i64 0)))])
 (.block 2
 (.loop c16_l1)))
 (.seq
 (.draw [1, 7, 8, 9, 10] [oM 88 8,
 oF 89 (.bin .eql (.t 88) (.c (.int .i64 0))) [0],
 oF 90 (.mv (.t 89)) [0, 1],
 ⟨(some 91), .mv (.t 7), some (90, true), [0, 1, 2], []⟩,
 ⟨(some 92), .len false (.t 91), some (90, true), (u 4), []⟩,
 ⟨(some 93), .bin .geq (.t 92) (.c (.int .i64 1)), some (90, true), (u 5), []⟩,
 oF 94 (.pick (.t 90) (.t 93) (.c (.bool false))) (u 6),
 oF 95 (.mv (.t 94)) (u 7),
 ⟨(some 96), .mv (.t 10), some (95, true), (u 8), []⟩,
 ⟨(some 97), .len true (.t 96), some (95, true), (u 9), []⟩,
 ⟨(some 98), .mv (.t 1), some (95, true), (u 8), []⟩,
 ⟨(some 99), .iaddr 1 (.t 98) (.c (.int .i64 0)), some (95, true), (u 8 ++ [10]), []⟩,
 ⟨(some 100), .load false 1 (.t 99), some (95, true), (u 8 ++ [10, 11]), []⟩,
 ⟨(some 101), .len true (.t 100), some (95, true), (u 8 ++ [10, 11, 12]), []⟩,
 ⟨(some 102), .bin .geq (.t 97) (.t 101), some (95, true), (u 14), []⟩,
 oF 103 (.pick (.t 95) (.t 102) (.c (.bool false))) (u 15),
 oF 104 (.mv (.t 103)) (u 16),
 ⟨(some 105), .mv (.t 10), some (104, true), (u 17), []⟩,
 ⟨(some 106), .len true (.t 105), some (104, true), (u 18), []⟩,
 ⟨(some 107), .mv (.t 1), some (104, true), (u 17), []⟩,
 ⟨(some 108), .iaddr 1 (.t 107) (.c (.int .i64 0)), some (104, true), (u 17 ++ [19]), []⟩,
 ⟨(some 109), .load false 1 (.t 108), some (104, true), (u 17 ++ [19, 20]), []⟩,
 ⟨(some 110), .len true (.t 109), some (104, true), (u 17 ++ [19, 20, 21]), []⟩,
 ⟨(some 111), .bin .sub (.t 106) (.t 110), some (104, true), (u 23), []⟩,
 ⟨(some 112), .faddr 3 (.t 9), some (104, true), (u 17), []⟩,
 ⟨(some 113), .load false 1 (.t 112), some (104, true), (u 17 ++ [24]), []⟩,
 ⟨(some 114), .bin .leq (.t 111) (.t 113), some (104, true), (u 26), []⟩,
 oF 115 (.pick (.t 104) (.t 114) (.c (.bool false))) (u 27),
 oF 116 (.mv (.t 115)) (u 28),
 ⟨(some 117), .mv (.t 10), some (116, true), (u 29), []⟩,
 ⟨(some 118), .mv (.t 1), some (116, true), (u 29), []⟩,
 ⟨(some 119), .iaddr 1 (.t 118) (.c (.int .i64 0)), some (116, true), (u 29 ++ [30]), []⟩,
 ⟨(some 120), .load false 1 (.t 119), some (116, true), (u 29 ++ [30, 31]), []⟩,
 ⟨(some 121), .len true (.t 120), some (116, true), (u 29 ++ [30, 31, 32]), []⟩,
 ⟨(some 122), .slcs (.t 117) none (some (.t 121)), some (116, true), (u 34), []⟩,
 ⟨(some 123), .mv (.t 1), some (116, true), (u 29), []⟩,
 ⟨(some 124), .iaddr 1 (.t 123) (.c (.int .i64 0)), some (116, true), (u 29 ++ [35]), []⟩,
 ⟨(some 125), .load false 1 (.t 124), some (116, true), (u 29 ++ [35, 36]), []⟩,
 ⟨(some 126), .bin .eql (.t 122) (.t 125), some (116, true), (u 38), []⟩,
 oF 127 (.pick (.t 116) (.t 126) (.c (.bool false))) (u 39),
 oF 4 (.mv (.t 127)) (u 40)])
 .ret))))))))), false, false⟩
def c41_l0 : CC :=
 (.seq
 (.seq
 (.region [0, 3] [oM 4 3,
 oM 5 0,
 oO 6 (.len true (.t 5)),
 oB 7 .lss 4 6])
 (.cond (.t 7)
 .skip
 (.exit 0)))
 (.seq
 (.block 1
 (.seq
 (.region [0, 3] [oM 10 0,
 oM 11 3,
 oO 12 (.idx (.t 10) (.t 11)),
 oO 13 (.bin .lss (.t 12) (.c (.int .u8 32))),
 oM 14 13,
 oG 15 (.mv (.t 0)) 14 false,
 oG 16 (.mv (.t 3)) 14 false,
 oG 17 (.idx (.t 15) (.t 16)) 14 false,
 oG 18 (.bin .gtr (.t 17) (.c (.int .u8 126))) 14 false,
 oO 19 (.pick (.t 14) (.c (.bool true)) (.t 18))])
 (.cond (.t 19)
 (.seq
 (.region [] [oO 2 (.mv (.c (.bool false)))])
 .ret)
 .skip)))
 (.region [0, 3] [oM 8 3,
 oO 9 (.bin .add (.t 8) (.c (.int .i64 1))),
 oM 3 9])))
/-- progeny/progenyref24.IsText -/
def c41 : CFn := ⟨20, [.t 2],
 (.seq
 (.region [0] [oO 2 (.mv (.c (.bool false)))])
 (.seq
 (.seq
 (.region [0] [oO 3 (.mv (.c (.int .i64 0)))])
 (.block 0
 (.loop c41_l0)))
 (.seq
 (.region [] [oO 2 (.mv (.c (.bool true)))])
 .ret))), false, false⟩
def c42_l0 : CC :=
 (.seq
 (.seq
 (.region [0, 3, 5] [oM 40 5,
 oM 41 0,
 oO 42 (.len false (.t 41)),
 oB 43 .lss 40 42])
 (.cond (.t 43)
 .skip
 (.exit 0)))
 (.seq
 (.block 1
 (.seq
 (.draw [0, 3, 5] [oM 46 0,
 oM 47 5,
 oF 48 (.iaddr 7 (.t 46) (.t 47)) [0, 1],
 oF 49 (.faddr 0 (.t 48)) [0, 1, 2],
 oF 50 (.load false 1 (.t 49)) (u 4),
 oA 51 0 3,
 oF 52 (.load false 1 (.t 51)) [5],
 oF 53 (.bin .eql (.t 50) (.t 52)) (u 7),
 oF 54 (.mv (.t 53)) (u 8),
 ⟨(some 55), .faddr 4 (.t 3), some (54, false), (u 9), []⟩,
 ⟨(some 56), .load false 1 (.t 55), some (54, false), (u 10), []⟩,
 ⟨(some 57), .bin .geq (.t 56) (.c (.int .i64 0)), some (54, false), (u 11), []⟩,
 ⟨(some 58), .mv (.t 57), some (54, false), (u 12), []⟩,
 ⟨(some 59), .mv (.t 0), some (58, true), (u 13), []⟩,
 ⟨(some 60), .mv (.t 5), some (58, true), (u 13), []⟩,
 ⟨(some 61), .iaddr 7 (.t 59) (.t 60), some (58, true), (u 15), []⟩,
 ⟨(some 62), .faddr 4 (.t 61), some (58, true), (u 16), []⟩,
 ⟨(some 63), .load false 1 (.t 62), some (58, true), (u 17), []⟩,
 ⟨(some 64), .faddr 4 (.t 3), some (58, true), (u 13), []⟩,
 ⟨(some 65), .load false 1 (.t 64), some (58, true), (u 13 ++ [18]), []⟩,
 ⟨(some 66), .bin .eql (.t 63) (.t 65), some (58, true), (u 20), []⟩,
 ⟨(some 67), .pick (.t 58) (.t 66) (.c (.bool false)), some (54, false), (u 21), []⟩,
 oF 68 (.pick (.t 54) (.c (.bool true)) (.t 67)) (u 22),
 oF 69 (.mv (.t 68)) (u 23),
 ⟨(some 70), .faddr 5 (.t 3), some (69, false), (u 24), []⟩,
 ⟨(some 71), .load false 1 (.t 70), some (69, false), (u 25), []⟩,
 ⟨(some 72), .bin .geq (.t 71) (.c (.int .i64 0)), some (69, false), (u 26), []⟩,
 ⟨(some 73), .mv (.t 72), some (69, false), (u 27), []⟩,
 ⟨(some 74), .mv (.t 0), some (73, true), (u 28), []⟩,
 ⟨(some 75), .mv (.t 5), some (73, true), (u 28), []⟩,
 ⟨(some 76), .iaddr 7 (.t 74) (.t 75), some (73, true), (u 30), []⟩,
 ⟨(some 77), .faddr 5 (.t 76), some (73, true), (u 31), []⟩,
 ⟨(some 78), .load false 1 (.t 77), some (73, true), (u 32), []⟩,
 ⟨(some 79), .faddr 5 (.t 3), some (73, true), (u 28), []⟩,
 ⟨(some 80), .load false 1 (.t 79), some (73, true), (u 28 ++ [33]), []⟩,
 ⟨(some 81), .bin .eql (.t 78) (.t 80), some (73, true), (u 35), []⟩,
 ⟨(some 82), .pick (.t 73) (.t 81) (.c (.bool false)), some (69, false), (u 36), []⟩,
 oF 83 (.pick (.t 69) (.c (.bool true)) (.t 82)) (u 37)])
 (.cond (.t 83)
 (.seq
 (.region [] [oO 4 (.mv (.c (.bool false)))])
 .ret)
 .skip)))
 (.region [0, 3, 5] [oM 44 5,
 oO 45 (.bin .add (.t 44) (.c (.int .i64 1))),
 oM 5 45])))
/-- progeny/progenyref24.isField -/
def c42 : CFn := ⟨84, [.t 4],
 (.seq
 (.region [0, 1] [oX 3 89 7 1,
 oO 4 (.mv (.c (.bool false)))])
 (.seq
 (.seq
 (.region [0, 3] [oA 6 0 3,
 ol 7 1 6,
 oO 8 (k1 86 7),
 oN 9 8,
 oM 10 9,
 oG 11 (.faddr 4 (.t 3)) 10 false,
 oG 12 (.load false 1 (.t 11)) 10 false,
 oG 13 (.bin .lss (.t 12) (.c (.int .i64 (-1)))) 10 false,
 oO 14 (.pick (.t 10) (.c (.bool true)) (.t 13)),
 oM 15 14,
 oG 16 (.faddr 4 (.t 3)) 15 false,
 oG 17 (.load false 1 (.t 16)) 15 false,
 oG 18 (.bin .gtr (.t 17) (.c (.int .i64 3))) 15 false,
 oO 19 (.pick (.t 15) (.c (.bool true)) (.t 18)),
 oM 20 19,
 oG 21 (.faddr 5 (.t 3)) 20 false,
 oG 22 (.load false 1 (.t 21)) 20 false,
 oG 23 (.bin .lss (.t 22) (.c (.int .i64 (-1)))) 20 false,
 oO 24 (.pick (.t 20) (.c (.bool true)) (.t 23)),
 oM 25 24,
 oG 26 (.faddr 5 (.t 3)) 25 false,
 oG 27 (.load false 1 (.t 26)) 25 false,
 oG 28 (.bin .gtr (.t 27) (.c (.int .i64 3))) 25 false,
 oO 29 (.pick (.t 25) (.c (.bool true)) (.t 28)),
 oM 30 29,
 oG 31 (.faddr 6 (.t 3)) 30 false,
 oG 32 (.load false 1 (.t 31)) 30 false,
 oG 33 (.bin .lss (.t 32) (.c (.int .u8 32))) 30 false,
 oO 34 (.pick (.t 30) (.c (.bool true)) (.t 33)),
 oM 35 34,
 oG 36 (.faddr 6 (.t 3)) 35 false,
 oG 37 (.load false 1 (.t 36)) 35 false,
 oG 38 (.bin .gtr (.t 37) (.c (.int .u8 126))) 35 false,
 oO 39 (.pick (.t 35) (.c (.bool true)) (.t 38))])
 (.cond (.t 39)
 (.seq
 (.region [] [oO 4 (.mv (.c (.bool false)))])
 .ret)
 .skip))
 (.seq
 (.seq
 (.region [0, 3] [oO 5 (.mv (.c (.int .i64 0)))])
 (.block 0
 (.loop c42_l0)))
 (.seq
 (.region [] [oO 4 (.mv (.c (.bool true)))])
 .ret)))), false, false⟩
def c43_l0 : CC :=
 (.seq
 (.seq
 (.region [1, 3, 4] [oM 6 4,
 oA 7 2 1,
 ol 8 1 7,
 oO 9 (.len false (.t 8)),
 oB 10 .lss 6 9])
 (.cond (.t 10)
 .skip
 (.exit 0)))
 (.seq
 (.block 1
 (.draw [1, 3, 4] [oM 13 3,
 oA 14 2 1,
 oF 15 (.load false 1 (.t 14)) [1],
 oM 16 4,
 oF 17 (.iaddr 3 (.t 15) (.t 16)) [1, 2, 3],
 oF 18 (.faddr 0 (.t 17)) [1, 2, 3, 4],
 oF 19 (.load false 1 (.t 18)) [1, 2, 3, 4, 5],
 oA 20 2 1,
 oF 21 (.load false 1 (.t 20)) [7],
 oM 22 4,
 oF 23 (.iaddr 3 (.t 21) (.t 22)) [7, 8, 9],
 oF 24 (.faddr 1 (.t 23)) [7, 8, 9, 10],
 oF 25 (.load false 1 (.t 24)) [7, 8, 9, 10, 11],
 oA 26 2 1,
 oF 27 (.load false 1 (.t 26)) [13],
 oM 28 4,
 oF 29 (.iaddr 3 (.t 27) (.t 28)) [13, 14, 15],
 oF 30 (.faddr 2 (.t 29)) [13, 14, 15, 16],
 oF 31 (.load false 1 (.t 30)) [13, 14, 15, 16, 17],
 oF 32 (.len true (.t 31)) [13, 14, 15, 16, 17, 18],
 oF 33 (.build [.int .i64 0, .int .i64 0, .int .i64 0] [(0, 1, (.t 19)), (1, 1, (.t 25)), (2, 1, (.t 32))]) [1, 2, 3, 4, 5, 6, 7, 8, 9, 10, 11, 12, 13, 14, 15, 16, 17, 18, 19],
 oF 34 (.bslice 95 3 [[.int .i64 0, .int .i64 0, .int .i64 0]] [(0, (.t 33))]) [1, 2, 3, 4, 5, 6, 7, 8, 9, 10, 11, 12, 13, 14, 15, 16, 17, 18, 19, 20],
 oF 35 (.app 95 3 24 false (.t 13) (.t 34)) (u 22),
 oF 3 (.mv (.t 35)) (u 23)]))
 (.region [1, 3, 4] [oM 11 4,
 oO 12 (.bin .add (.t 11) (.c (.int .i64 1))),
 oM 4 12])))
def c43_l1 : CC :=
 (.seq
 (.seq
 (.region [1, 3, 5] [oM 36 5,
 oA 37 3 1,
 ol 38 1 37,
 oO 39 (.len false (.t 38)),
 oB 40 .lss 36 39])
 (.cond (.t 40)
 .skip
 (.exit 2)))
 (.seq
 (.block 3
 (.draw [1, 3, 5] [oM 43 3,
 oA 44 3 1,
 oF 45 (.load false 1 (.t 44)) [1],
 oM 46 5,
 oF 47 (.iaddr 7 (.t 45) (.t 46)) [1, 2, 3],
 oF 48 (.faddr 1 (.t 47)) [1, 2, 3, 4],
 oF 49 (.load false 1 (.t 48)) [1, 2, 3, 4, 5],
 oA 50 3 1,
 oF 51 (.load false 1 (.t 50)) [7],
 oM 52 5,
 oF 53 (.iaddr 7 (.t 51) (.t 52)) [7, 8, 9],
 oF 54 (.faddr 2 (.t 53)) [7, 8, 9, 10],
 oF 55 (.load false 1 (.t 54)) [7, 8, 9, 10, 11],
 oA 56 3 1,
 oF 57 (.load false 1 (.t 56)) [13],
 oM 58 5,
 oF 59 (.iaddr 7 (.t 57) (.t 58)) [13, 14, 15],
 oF 60 (.faddr 3 (.t 59)) [13, 14, 15, 16],
 oF 61 (.load false 1 (.t 60)) [13, 14, 15, 16, 17],
 oF 62 (.build [.int .i64 0, .int .i64 0, .int .i64 0] [(0, 1, (.t 49)), (1, 1, (.t 55)), (2, 1, (.t 61))]) [1, 2, 3, 4, 5, 6, 7, 8, 9, 10, 11, 12, 13, 14, 15, 16, 17, 18],
 oF 63 (.bslice 95 3 [[.int .i64 0, .int .i64 0, .int .i64 0]] [(0, (.t 62))]) [1, 2, 3, 4, 5, 6, 7, 8, 9, 10, 11, 12, 13, 14, 15, 16, 17, 18, 19],
 oF 64 (.app 95 3 24 false (.t 43) (.t 63)) (u 21),
 oF 3 (.mv (.t 64)) (u 22)]))
 (.region [1, 3, 5] [oM 41 5,
 oO 42 (.bin .add (.t 41) (.c (.int .i64 1))),
 oM 5 42])))
/-- progeny/progenyref24.spans -/
def c43 : CFn := ⟨66, [.t 2],
 (.seq
 (.region [0] [oX 1 25 4 0,
 oO 2 (.mv (.c (.nils)))])
 (.seq
 (.region [1] [oO 3 (.mv (.c (.nils)))])
 (.seq
 (.seq
 (.region [1, 3] [oO 4 (.mv (.c (.int .i64 0)))])
 (.block 0
 (.loop c43_l0)))
 (.seq
 (.seq
 (.region [1, 3] [oO 5 (.mv (.c (.int .i64 0)))])
 (.block 2
 (.loop c43_l1)))
 (.seq
 (.region [3] [oM 65 3,
 oM 2 65])
 .ret))))), false, false⟩
/-- progeny/screen.shows -/
def c44 : CFn := ⟨23, [.t 4],
 (.seq
 (.region [0, 1] [oX 2 25 4 0,
 oO 4 (.mv (.c (.int .i64 0)))])
 (.seq
 (.seq
 (.region [1, 2] [oL 7 4 2,
 oO 8 (k1 46 7),
 oN 9 8])
 (.cond (.t 9)
 (.seq
 (.region [] [oO 4 (.mv (.c (.int .i64 220)))])
 .ret)
 .skip))
 (.seq
 (.seq
 (.region [1, 2] [oL 11 4 2,
 oO 12 (k1 48 11),
 oM 10 12,
 oE 13 10 0,
 oE 14 10 1,
 oM 5 13,
 oM 6 14])
 (.seq
 (.region [1, 6] [oM 15 1,
 oO 16 (.len false (.t 15)),
 oM 17 6,
 oB 18 .neq 16 17,
 oM 19 18,
 oG 20 (.mv (.t 1)) 19 false,
 oG 21 (.call (.c (.fn 87 [])) [(.t 20), (.c (.fn 88 []))] false) 19 false,
 oO 22 (.pick (.t 19) (.c (.bool true)) (.t 21))])
 (.cond (.t 22)
 (.seq
 (.region [] [oO 4 (.mv (.c (.int .i64 2)))])
 .ret)
 .skip)))
 (.seq
 (.region [] [oO 4 (.mv (.c (.int .i64 0)))])
 .ret)))), false, false⟩
def c45_l0 : CC :=
 (.seq
 (.region [1, 2, 5, 19, 20, 21] [oB 22 .lss 21 20])
 (.seq
 (.cond (.t 22)
 .skip
 (.exit 0))
 (.seq
 (.block 1
 (.seq
 (.region [1, 2, 5, 19, 20, 21] [oI 23 3 19 21,
 oL 24 3 23,
 oO 7 (.box 87 3 (.c (.agg [.int .i64 0, .int .i64 0, .str ⟨#[]⟩]))),
 oS 3 7 24])
 (.region [1, 2, 5, 7, 19, 20, 21] [oM 25 5,
 oA 26 0 7,
 ol 27 1 26,
 oA 28 1 7,
 ol 29 1 28,
 oA 30 2 7,
 ol 31 1 30,
 oO 32 (z4 49 25 27 29 31),
 oM 5 32])))
 (.region [1, 2, 5, 19, 20, 21] [oO 33 (.bin .add (.t 21) (.c (.int .i64 1))),
 oM 21 33]))))
def c45_l1 : CC :=
 (.seq
 (.region [1, 5, 35, 36, 37] [oB 38 .lss 37 36])
 (.seq
 (.cond (.t 38)
 .skip
 (.exit 2))
 (.seq
 (.block 3
 (.seq
 (.region [1, 5, 35, 36, 37] [oI 39 7 35 37,
 oL 40 7 39,
 oO 9 (.box 89 7 (.c (.agg [.str ⟨#[]⟩, .int .i64 0, .int .i64 0, .int .i64 0, .int .i64 0, .int .i64 0, .int .u8 0]))),
 oS 7 9 40])
 (.seq
 (.region [1, 5, 9, 35, 36, 37] [oO 10 (.mv (.c (.str ⟨#[]⟩)))])
 (.seq
 (.seq
 (.region [1, 5, 9, 10, 35, 36, 37] [oA 41 5 9,
 ol 42 1 41,
 oO 43 (.bin .geq (.t 42) (.c (.int .i64 0)))])
 (.cond (.t 43)
 (.region [1, 5, 9, 35, 36, 37] [oM 44 1,
 oA 45 5 9,
 ol 46 1 45,
 oI 47 1 44 46,
 ol 48 1 47,
 oM 10 48])
 .skip))
 (.draw [1, 5, 9, 10, 35, 36, 37] [oM 49 5,
 oA 50 1 9,
 oa 51 (.load false 1 (.t 50)) [1] [8],
 oA 52 2 9,
 oa 53 (.load false 1 (.t 52)) [3] [8],
 oL 54 7 9,
 oM 55 10,
 oF 56 (k2 92 54 55) [5, 6],
 oF 57 (z4 49 49 51 53 56) (u 8),
 oF 5 (.mv (.t 57)) (u 9)])))))
 (.region [1, 5, 35, 36, 37] [oO 58 (.bin .add (.t 37) (.c (.int .i64 1))),
 oM 37 58]))))
/-- progeny/screen.show -/
def c45 : CFn := ⟨60, [.t 4],
 (.seq
 (.region [0, 1] [oX 2 25 4 0,
 oO 4 (.mv (.c (.nils)))])
 (.seq
 (.draw [1, 2] [oA 11 1 2,
 oF 12 (.load false 1 (.t 11)) [0],
 oF 13 (.call (.c (.fn 91 [])) [(.c (.str ⟨#[32]⟩)), (.t 12)] false) [0, 1],
 oF 14 (.bslice 9 1 [[.str ⟨#[]⟩]] [(0, (.t 13))]) [0, 1, 2],
 oA 15 0 2,
 oa 16 (.load false 1 (.t 15)) [4] [2, 3],
 oF 17 (k2 90 14 16) (u 6),
 oF 5 (.mv (.t 17)) (u 7)])
 (.seq
 (.seq
 (.region [1, 2, 5] [oA 18 2 2,
 ol 19 1 18,
 oO 20 (.len false (.t 19)),
 oO 21 (.mv (.c (.int .i64 0)))])
 (.block 0
 (.loop c45_l0)))
 (.seq
 (.seq
 (.region [1, 2, 5] [oA 34 3 2,
 ol 35 1 34,
 oO 36 (.len false (.t 35)),
 oO 37 (.mv (.c (.int .i64 0)))])
 (.block 2
 (.loop c45_l1)))
 (.seq
 (.region [5] [oM 59 5,
 oM 4 59])
 .ret))))), false, false⟩
def c46_l0 : CC :=
 (.seq
 (.region [1, 3, 41, 42, 43] [oB 44 .lss 43 42])
 (.seq
 (.cond (.t 44)
 .skip
 (.exit 0))
 (.seq
 (.block 1
 (.seq
 (.region [1, 3, 41, 42, 43] [oI 45 3 41 43,
 oL 46 3 45,
 oO 5 (.box 87 3 (.c (.agg [.int .i64 0, .int .i64 0, .str ⟨#[]⟩]))),
 oS 3 5 46])
 (.seq
 (.seq
 (.region [1, 3, 5, 41, 42, 43] [oA 47 2 5,
 ol 48 1 47,
 oO 49 (.len true (.t 48)),
 oO 50 (.bin .gtr (.t 49) (.c (.int .i64 40))),
 oM 51 50,
 oG 52 (.faddr 2 (.t 5)) 51 false,
 oG 53 (.load false 1 (.t 52)) 51 false,
 oG 54 (k1 89 53) 51 false,
 oG 55 (.un .not (.t 54)) 51 false,
 oO 56 (.pick (.t 51) (.c (.bool true)) (.t 55)),
 oM 57 56,
 oG 58 (.load true 4 (.t 1)) 57 false,
 oG 59 (.faddr 0 (.t 5)) 57 false,
 oG 60 (.load false 1 (.t 59)) 57 false,
 oG 61 (.faddr 1 (.t 5)) 57 false,
 oG 62 (.load false 1 (.t 61)) 57 false,
 oG 63 (.faddr 2 (.t 5)) 57 false,
 oG 64 (.load false 1 (.t 63)) 57 false,
 oG 65 (.len true (.t 64)) 57 false,
 oG 66 (k4 94 58 60 62 65) 57 false,
 oG 67 (.un .not (.t 66)) 57 false,
 oO 68 (.pick (.t 57) (.c (.bool true)) (.t 67))])
 (.cond (.t 68)
 (.seq
 (.region [] [oO 2 (.mv (.c (.bool false)))])
 .ret)
 .skip))
 (.region [1, 3, 5, 41, 42, 43] [oM 69 3,
 oA 70 0 5,
 ol 71 1 70,
 oA 72 1 5,
 ol 73 1 72,
 oA 74 2 5,
 ol 75 1 74,
 oO 76 (.len true (.t 75)),
 oO 77 (.build [.int .i64 0, .int .i64 0, .int .i64 0] [(0, 1, (.t 71)), (1, 1, (.t 73)), (2, 1, (.t 76))]),
 oO 78 (.bslice 156 3 [[.int .i64 0, .int .i64 0, .int .i64 0]] [(0, (.t 77))]),
 oO 79 (.app 156 3 24 false (.t 69) (.t 78)),
 oM 3 79]))))
 (.region [1, 3, 41, 42, 43] [oO 80 (.bin .add (.t 43) (.c (.int .i64 1))),
 oM 43 80]))))
def c46_l1 : CC :=
 (.seq
 (.region [1, 3, 82, 83, 84] [oB 85 .lss 84 83])
 (.seq
 (.cond (.t 85)
 .skip
 (.exit 2))
 (.seq
 (.block 3
 (.seq
 (.region [1, 3, 82, 83, 84] [oI 86 7 82 84,
 oL 87 7 86,
 oO 7 (.box 89 7 (.c (.agg [.str ⟨#[]⟩, .int .i64 0, .int .i64 0, .int .i64 0, .int .i64 0, .int .i64 0, .int .u8 0]))),
 oS 7 7 87])
 (.seq
 (.seq
 (.region [1, 3, 7, 82, 83, 84] [oL 88 4 1,
 oA 89 1 7,
 ol 90 1 89,
 oA 91 2 7,
 ol 92 1 91,
 oA 93 3 7,
 ol 94 1 93,
 oO 95 (k4 94 88 90 92 94),
 oN 96 95])
 (.cond (.t 96)
 (.seq
 (.region [] [oO 2 (.mv (.c (.bool false)))])
 .ret)
 .skip))
 (.region [1, 3, 7, 82, 83, 84] [oM 97 3,
 oA 98 1 7,
 ol 99 1 98,
 oA 100 2 7,
 ol 101 1 100,
 oA 102 3 7,
 ol 103 1 102,
 oO 104 (.build [.int .i64 0, .int .i64 0, .int .i64 0] [(0, 1, (.t 99)), (1, 1, (.t 101)), (2, 1, (.t 103))]),
 oO 105 (.bslice 156 3 [[.int .i64 0, .int .i64 0, .int .i64 0]] [(0, (.t 104))]),
 oO 106 (.app 156 3 24 false (.t 97) (.t 105)),
 oM 3 106]))))
 (.region [1, 3, 82, 83, 84] [oO 107 (.bin .add (.t 84) (.c (.int .i64 1))),
 oM 84 107]))))
def c46_l2 : CC :=
 (.seq
 (.region [3, 108, 109, 110] [oB 111 .lss 110 109])
 (.seq
 (.cond (.t 111)
 .skip
 (.exit 4))
 (.seq
 (.block 5
 (.seq
 (.region [3, 108, 109, 110] [oM 112 110,
 oI 113 3 108 110,
 oL 114 3 113,
 oO 9 (.box 156 3 (.c (.agg [.int .i64 0, .int .i64 0, .int .i64 0]))),
 oM 8 112,
 oS 3 9 114])
 (.seq
 (.draw [3, 8, 9, 108, 109, 110] [oM 115 3,
 oM 116 8,
 oF 117 (.slc 3 (.t 115) none (some (.t 116)) none) [0, 1],
 oL 118 3 9,
 oF 119 (.mkbnd 96 (.t 118)) [3],
 oF 120 (k2 95 117 119) (u 5)])
 (.cond (.t 120)
 (.seq
 (.region [] [oO 2 (.mv (.c (.bool false)))])
 .ret)
 .skip))))
 (.region [3, 108, 109, 110] [oO 121 (.bin .add (.t 110) (.c (.int .i64 1))),
 oM 110 121]))))
/-- progeny/screen.Valid -/
def c46 : CFn := ⟨122, [.t 2],
 (.seq
 (.region [0] [oX 1 25 4 0,
 oO 2 (.mv (.c (.bool false)))])
 (.seq
 (.seq
 (.region [1] [oA 10 0 1,
 ol 11 1 10,
 oO 12 (.bin .lss (.t 11) (.c (.int .i64 1))),
 oM 13 12,
 oG 14 (.faddr 0 (.t 1)) 13 false,
 oG 15 (.load false 1 (.t 14)) 13 false,
 oG 16 (.bin .gtr (.t 15) (.c (.int .i64 12))) 13 false,
 oO 17 (.pick (.t 13) (.c (.bool true)) (.t 16)),
 oM 18 17,
 oG 19 (.faddr 1 (.t 1)) 18 false,
 oG 20 (.load false 1 (.t 19)) 18 false,
 oG 21 (.bin .lss (.t 20) (.c (.int .i64 10))) 18 false,
 oO 22 (.pick (.t 18) (.c (.bool true)) (.t 21)),
 oM 23 22,
 oG 24 (.faddr 1 (.t 1)) 23 false,
 oG 25 (.load false 1 (.t 24)) 23 false,
 oG 26 (.bin .gtr (.t 25) (.c (.int .i64 40))) 23 false,
 oO 27 (.pick (.t 23) (.c (.bool true)) (.t 26)),
 oM 28 27,
 oG 29 (.faddr 2 (.t 1)) 28 false,
 oG 30 (.load false 1 (.t 29)) 28 false,
 oG 31 (.len false (.t 30)) 28 false,
 oG 32 (.bin .gtr (.t 31) (.c (.int .i64 8))) 28 false,
 oO 33 (.pick (.t 28) (.c (.bool true)) (.t 32)),
 oM 34 33,
 oG 35 (.faddr 3 (.t 1)) 34 false,
 oG 36 (.load false 1 (.t 35)) 34 false,
 oG 37 (k1 93 36) 34 false,
 oG 38 (.un .not (.t 37)) 34 false,
 oO 39 (.pick (.t 34) (.c (.bool true)) (.t 38))])
 (.cond (.t 39)
 (.seq
 (.region [] [oO 2 (.mv (.c (.bool false)))])
 .ret)
 .skip))
 (.seq
 (.region [1] [oO 3 (.mv (.c (.nils)))])
 (.seq
 (.seq
 (.region [1, 3] [oA 40 2 1,
 ol 41 1 40,
 oO 42 (.len false (.t 41)),
 oO 43 (.mv (.c (.int .i64 0)))])
 (.block 0
 (.loop c46_l0)))
 (.seq
 (.seq
 (.region [1, 3] [oA 81 3 1,
 ol 82 1 81,
 oO 83 (.len false (.t 82)),
 oO 84 (.mv (.c (.int .i64 0)))])
 (.block 2
 (.loop c46_l1)))
 (.seq
 (.seq
 (.region [3] [oM 108 3,
 oO 109 (.len false (.t 108)),
 oO 110 (.mv (.c (.int .i64 0)))])
 (.block 4
 (.loop c46_l2)))
 (.seq
 (.region [] [oO 2 (.mv (.c (.bool true)))])
 .ret))))))), false, false⟩
/-- progeny/screen.fits -/
def c47 : CFn := ⟨16, [.t 4],
 (.seq
 (.region [0, 1] [oX 2 25 4 0,
 oO 4 (.mv (.c (.bool false)))])
 (.seq
 (.region [1, 2] [oM 5 1,
 oO 6 (.len false (.t 5)),
 oA 7 0 2,
 ol 8 1 7,
 oB 9 .eql 6 8,
 oM 10 9,
 oG 11 (.mv (.t 1)) 10 true,
 oG 12 (.mkfn 97 [(.t 2)]) 10 true,
 oG 13 (k2 87 11 12) 10 true,
 oG 14 (.un .not (.t 13)) 10 true,
 oO 15 (.pick (.t 10) (.t 14) (.c (.bool false))),
 oM 4 15])
 .ret)), false, false⟩
def c48_l0 : CC :=
 (.seq
 (.region [2, 3, 7, 8, 9] [oB 10 .lss 9 8])
 (.seq
 (.cond (.t 10)
 .skip
 (.exit 0))
 (.seq
 (.block 1
 (.seq
 (.region [2, 3, 7, 8, 9] [oI 11 7 7 9,
 oL 12 7 11,
 oO 5 (.box 89 7 (.c (.agg [.str ⟨#[]⟩, .int .i64 0, .int .i64 0, .int .i64 0, .int .i64 0, .int .i64 0, .int .u8 0]))),
 oS 7 5 12])
 (.draw [2, 3, 5, 7, 8, 9] [oM 13 2,
 oA 14 4 5,
 oF 15 (.load false 1 (.t 14)) [1],
 oF 16 (.bin .add (.t 15) (.c (.int .i64 1))) [1, 2],
 oF 17 (.mm true (.t 13) [(.t 16)]) (u 4),
 oM 18 3,
 oA 19 5 5,
 oF 20 (.load false 1 (.t 19)) [6],
 oF 21 (.bin .add (.t 20) (.c (.int .i64 1))) [6, 7],
 oF 22 (.mm true (.t 18) [(.t 21)]) [5, 6, 7, 8],
 oF 2 (.mv (.t 17)) (u 5),
 oF 3 (.mv (.t 22)) (u 11)])))
 (.region [2, 3, 7, 8, 9] [oO 23 (.bin .add (.t 9) (.c (.int .i64 1))),
 oM 9 23]))))
/-- progeny/screen.lengths -/
def c48 : CFn := ⟨26, [.t 2, .t 3],
 (.seq
 (.region [0] [oX 1 25 4 0,
 oO 2 (.mv (.c (.int .i64 0))),
 oO 3 (.mv (.c (.int .i64 0)))])
 (.seq
 (.seq
 (.region [1, 2, 3] [oA 6 3 1,
 ol 7 1 6,
 oO 8 (.len false (.t 7)),
 oO 9 (.mv (.c (.int .i64 0)))])
 (.block 0
 (.loop c48_l0)))
 (.seq
 (.region [2, 3] [oM 24 2,
 oM 25 3,
 oM 2 24,
 oM 3 25])
 .ret))), false, false⟩
/-- progeny/screen.laid -/
def c49 : CFn := ⟨34, [.t 8],
 (.seq
 (.region [0, 1, 2, 3] [oO 8 (.mv (.c (.nils)))])
 (.seq
 (.region [0, 1, 2, 3] [oM 10 0,
 oO 11 (k1 98 10),
 oM 9 11])
 (.seq
 (.draw [1, 2, 3, 9] [oM 12 9,
 oM 13 1,
 oM 14 9,
 oM 15 1,
 oF 16 (.iaddr 1 (.t 14) (.t 15)) [2, 3],
 oF 17 (.load false 1 (.t 16)) [2, 3, 4],
 oM 18 2,
 oF 19 (.slcs (.t 17) none (some (.t 18))) [2, 3, 4, 5, 6],
 oM 20 3,
 oF 21 (.bin .add (.t 19) (.t 20)) [2, 3, 4, 5, 6, 7, 8],
 oM 22 9,
 oM 23 1,
 oF 24 (.iaddr 1 (.t 22) (.t 23)) [10, 11],
 oF 25 (.load false 1 (.t 24)) [10, 11, 12],
 oM 26 2,
 oM 27 3,
 oF 28 (.len true (.t 27)) [15],
 oF 29 (.bin .add (.t 26) (.t 28)) [14, 15, 16],
 oF 30 (.slcs (.t 25) (some (.t 29)) none) [10, 11, 12, 13, 14, 15, 16, 17],
 oF 31 (.bin .add (.t 21) (.t 30)) [2, 3, 4, 5, 6, 7, 8, 9, 10, 11, 12, 13, 14, 15, 16, 17, 18],
 oF 32 (.iaddr 1 (.t 12) (.t 13)) (u 20),
 ⟨none, .store 1 (.t 32) (.t 31), none, (u 21), []⟩])
 (.seq
 (.region [9] [oM 33 9,
 oM 8 33])
 .ret)))), false, false⟩
def c50_l0 : CC :=
 (.seq
 (.region [0, 1, 12, 13] [oB 14 .lss 13 12])
 (.seq
 (.cond (.t 14)
 .skip
 (.exit 0))
 (.seq
 (.block 1
 (.seq
 (.region [0, 1, 12, 13] [oM 15 13,
 oM 5 15])
 (.seq
 (.draw [0, 1, 5, 12, 13] [oM 16 0,
 oM 17 5,
 oF 18 (.iaddr 1 (.t 16) (.t 17)) [0, 1],
 oF 19 (.load false 1 (.t 18)) [0, 1, 2],
 oM 20 1,
 oM 21 5,
 oF 22 (.iaddr 1 (.t 20) (.t 21)) [4, 5],
 oF 23 (.load false 1 (.t 22)) [4, 5, 6],
 oF 24 (.bin .neq (.t 19) (.t 23)) (u 8)])
 (.cond (.t 24)
 (.seq
 (.region [] [oO 4 (.mv (.c (.bool false)))])
 .ret)
 .skip))))
 (.region [0, 1, 12, 13] [oO 25 (.bin .add (.t 13) (.c (.int .i64 1))),
 oM 13 25]))))
/-- slices.Equal[[]string,string] -/
def c50 : CFn := ⟨26, [.t 4],
 (.seq
 (.region [0, 1] [oO 4 (.mv (.c (.bool false)))])
 (.seq
 (.seq
 (.region [0, 1] [oM 6 0,
 oO 7 (.len false (.t 6)),
 oM 8 1,
 oO 9 (.len false (.t 8)),
 oB 10 .neq 7 9])
 (.cond (.t 10)
 (.seq
 (.region [] [oO 4 (.mv (.c (.bool false)))])
 .ret)
 .skip))
 (.seq
 (.seq
 (.region [0, 1] [oM 11 0,
 oO 12 (.len false (.t 11)),
 oO 13 (.mv (.c (.int .i64 0)))])
 (.block 0
 (.loop c50_l0)))
 (.seq
 (.region [] [oO 4 (.mv (.c (.bool true)))])
 .ret)))), false, false⟩
/-- progeny/screen.pictured -/
def c51 : CFn := ⟨14, [.t 4],
 (.seq
 (.region [0, 1] [oX 2 25 4 0,
 oO 4 (.mv (.c (.int .i64 0)))])
 (.seq
 (.block 0
 (.seq
 (.region [1, 2] [oL 6 4 2,
 oO 7 (k1 46 6),
 oN 8 7,
 oM 5 8])
 (.cond (.t 5)
 (.seq
 (.region [] [oO 4 (.mv (.c (.int .i64 220)))])
 .ret)
 (.seq
 (.region [1, 2] [oL 10 4 2,
 oM 11 1,
 oO 12 (k2 47 10 11),
 oN 13 12,
 oM 9 13])
 (.cond (.t 9)
 (.seq
 (.region [] [oO 4 (.mv (.c (.int .i64 2)))])
 .ret)
 .skip)))))
 (.seq
 (.region [] [oO 4 (.mv (.c (.int .i64 0)))])
 .ret))), false, false⟩
/-- progeny/screen.Slot -/
def c52 : CFn := ⟨16, [.t 4, .t 5],
 (.seq
 (.region [0, 1] [oX 2 25 4 0,
 oO 4 (.mv (.c (.int .i64 0))),
 oO 5 (.mv (.c (.int .i64 0)))])
 (.seq
 (.seq
 (.region [1, 2] [oL 7 4 2,
 oO 8 (k1 46 7),
 oN 9 8])
 (.cond (.t 9)
 (.seq
 (.region [] [oO 4 (.mv (.c (.int .i64 0))),
 oO 5 (.mv (.c (.int .i64 220)))])
 .ret)
 .skip))
 (.seq
 (.region [1, 2] [oL 10 4 2,
 oM 11 1,
 oO 12 (k2 99 10 11),
 oM 6 12])
 (.seq
 (.seq
 (.region [6] [oM 13 6,
 oO 14 (.bin .lss (.t 13) (.c (.int .i64 0)))])
 (.cond (.t 14)
 (.seq
 (.region [] [oO 4 (.mv (.c (.int .i64 0))),
 oO 5 (.mv (.c (.int .i64 5)))])
 .ret)
 .skip))
 (.seq
 (.region [6] [oM 15 6,
 oM 4 15,
 oO 5 (.mv (.c (.int .i64 0)))])
 .ret))))), false, false⟩
/-- progeny/screen.Type -/
def c53 : CFn := ⟨46, [.t 8, .t 9],
 (.seq
 (.region [0, 1, 2, 3] [oX 4 25 4 0,
 oO 8 (.mv (.c (.nils))),
 oO 9 (.mv (.c (.int .i64 0)))])
 (.seq
 (.seq
 (.region [1, 2, 3, 4] [oL 13 4 4,
 oM 14 1,
 oO 15 (k2 51 13 14),
 oM 10 15])
 (.seq
 (.region [1, 2, 3, 4, 10] [oM 16 10,
 oO 17 (.bin .neq (.t 16) (.c (.int .i64 0)))])
 (.cond (.t 17)
 (.seq
 (.region [10] [oM 18 10,
 oO 8 (.mv (.c (.nils))),
 oM 9 18])
 .ret)
 .skip)))
 (.seq
 (.seq
 (.region [1, 2, 3, 4] [oM 19 3,
 oO 20 (k1 89 19),
 oN 21 20])
 (.cond (.t 21)
 (.seq
 (.region [] [oO 8 (.mv (.c (.nils))),
 oO 9 (.mv (.c (.int .i64 2)))])
 .ret)
 .skip))
 (.seq
 (.region [1, 2, 3, 4] [oL 22 4 4,
 oM 23 2,
 oO 24 (k2 99 22 23),
 oM 11 24])
 (.seq
 (.seq
 (.region [1, 3, 4, 11] [oM 25 11,
 oO 26 (.bin .lss (.t 25) (.c (.int .i64 0)))])
 (.cond (.t 26)
 (.seq
 (.region [] [oO 8 (.mv (.c (.nils))),
 oO 9 (.mv (.c (.int .i64 5)))])
 .ret)
 .skip))
 (.seq
 (.region [1, 3, 4, 11] [oA 27 3 4,
 ol 28 1 27,
 oM 29 11,
 oI 30 7 28 29,
 oL 31 7 30,
 oO 12 (.box 89 7 (.c (.agg [.str ⟨#[]⟩, .int .i64 0, .int .i64 0, .int .i64 0, .int .i64 0, .int .i64 0, .int .u8 0]))),
 oS 7 12 31])
 (.seq
 (.seq
 (.region [1, 3, 12] [oM 32 3,
 oO 33 (.len true (.t 32)),
 oA 34 3 12,
 ol 35 1 34,
 oB 36 .gtr 33 35])
 (.cond (.t 36)
 (.seq
 (.region [] [oO 8 (.mv (.c (.nils))),
 oO 9 (.mv (.c (.int .i64 2)))])
 .ret)
 .skip))
 (.seq
 (.draw [1, 3, 12] [oM 37 1,
 oA 38 1 12,
 oa 39 (.load false 1 (.t 38)) [1] [8],
 oA 40 2 12,
 oa 41 (.load false 1 (.t 40)) [3] [8],
 oL 42 7 12,
 oM 43 3,
 oF 44 (k2 92 42 43) [5, 6],
 oF 45 (z4 49 37 39 41 44) (u 8),
 oF 8 (.mv (.t 45)) (u 9),
 oF 9 (.mv (.c (.int .i64 0))) (u 10)])
 .ret)))))))), false, false⟩
def c54_l0 : CC :=
 (.seq
 (.seq
 (.region [1, 2, 8, 9, 10] [oM 32 9,
 oO 33 (.len false (.t 32)),
 oO 34 (.bin .eql (.t 33) (.c (.int .i64 0))),
 oM 35 34,
 oG 36 (.mv (.t 10)) 35 false,
 oG 37 (.bin .neq (.t 36) (.c (.str ⟨#[]⟩))) 35 false,
 oO 38 (.pick (.t 35) (.c (.bool true)) (.t 37))])
 (.cond (.t 38)
 .skip
 (.exit 0)))
 (.block 1
 (.seq
 (.region [1, 2, 8, 9, 10] [oM 39 1,
 oO 40 (k1 98 39),
 oM 11 40])
 (.seq
 (.region [1, 2, 8, 9, 10, 11] [oM 41 11,
 oM 42 10,
 oM 43 8,
 oM 44 10,
 oO 45 (.len true (.t 44)),
 oO 46 (.mm false (.t 43) [(.t 45)]),
 oO 47 (.slcs (.t 42) none (some (.t 46))),
 oO 48 (.iaddr 1 (.t 41) (.c (.int .i64 0))),
 oS 1 48 47])
 (.seq
 (.region [1, 2, 8, 9, 10, 11] [oM 49 10,
 oM 50 11,
 oO 51 (.iaddr 1 (.t 50) (.c (.int .i64 0))),
 ol 52 1 51,
 oO 53 (.len true (.t 52)),
 oO 54 (.slcs (.t 49) (some (.t 53)) none),
 oM 10 54])
 (.region [1, 2, 8, 9, 10, 11] [oM 55 9,
 oL 56 4 2,
 oM 57 11,
 oO 58 (z2 45 56 57),
 oO 59 (.bslice 26 1 [[.nils]] [(0, (.t 58))]),
 oO 60 (.app 26 1 24 false (.t 55) (.t 59)),
 oM 9 60]))))))
/-- progeny/screen.Pages -/
def c54 : CFn := ⟨62, [.t 4, .t 5],
 (.seq
 (.region [0, 1] [oX 2 25 4 0,
 oO 4 (.mv (.c (.nils))),
 oO 5 (.mv (.c (.int .i64 0)))])
 (.seq
 (.seq
 (.region [1, 2] [oL 12 4 2,
 oM 13 1,
 oO 14 (k2 44 12 13),
 oM 6 14])
 (.seq
 (.region [1, 2, 6] [oM 15 6,
 oO 16 (.bin .neq (.t 15) (.c (.int .i64 0)))])
 (.cond (.t 16)
 (.seq
 (.region [6] [oM 17 6,
 oO 4 (.mv (.c (.nils))),
 oM 5 17])
 .ret)
 .skip)))
 (.seq
 (.region [1, 2] [oA 18 3 2,
 ol 19 1 18,
 oO 20 (.call (.c (.fn 100 [])) [(.t 19), (.c (.fn 101 []))] false),
 oM 7 20])
 (.seq
 (.seq
 (.region [1, 2, 7] [oM 21 7,
 oO 22 (.bin .lss (.t 21) (.c (.int .i64 0)))])
 (.cond (.t 22)
 (.seq
 (.region [] [oO 4 (.mv (.c (.nils))),
 oO 5 (.mv (.c (.int .i64 2)))])
 .ret)
 .skip))
 (.seq
 (.region [1, 2, 7] [oA 23 3 2,
 ol 24 1 23,
 oM 25 7,
 oI 26 7 24 25,
 oA 27 3 26,
 ol 28 1 27,
 oM 8 28])
 (.seq
 (.region [1, 2, 8] [oO 9 (.mv (.c (.nils)))])
 (.seq
 (.seq
 (.region [1, 2, 8, 9] [oM 29 1,
 oO 30 (.iaddr 1 (.t 29) (.c (.int .i64 0))),
 ol 31 1 30,
 oM 10 31])
 (.block 0
 (.loop c54_l0)))
 (.seq
 (.region [9] [oM 61 9,
 oM 4 61,
 oO 5 (.mv (.c (.int .i64 0)))])
 .ret)))))))), false, false⟩
def c86_l0 : CC :=
 (.seq
 (.seq
 (.region [0, 3] [oM 5 3,
 oM 6 0,
 oO 7 (.len true (.t 6)),
 oB 8 .lss 5 7])
 (.cond (.t 8)
 .skip
 (.exit 0)))
 (.seq
 (.block 1
 (.seq
 (.region [0, 3] [oM 11 0,
 oM 12 3,
 oO 13 (.idx (.t 11) (.t 12)),
 oO 14 (.bin .geq (.t 13) (.c (.int .u8 65))),
 oM 15 14,
 oG 16 (.mv (.t 0)) 15 true,
 oG 17 (.mv (.t 3)) 15 true,
 oG 18 (.idx (.t 16) (.t 17)) 15 true,
 oG 19 (.bin .leq (.t 18) (.c (.int .u8 90))) 15 true,
 oO 20 (.pick (.t 15) (.t 19) (.c (.bool false))),
 oM 4 20])
 (.seq
 (.region [0, 3, 4] [oM 21 4,
 oN 22 21,
 oM 23 22,
 oG 24 (.mv (.t 3)) 23 true,
 oG 25 (.bin .eql (.t 24) (.c (.int .i64 0))) 23 true,
 oG 26 (.mv (.t 25)) 23 true,
 oG 27 (.mv (.t 0)) 26 false,
 oG 28 (.mv (.t 3)) 26 false,
 oG 29 (.idx (.t 27) (.t 28)) 26 false,
 oG 30 (.bin .lss (.t 29) (.c (.int .u8 48))) 26 false,
 oG 31 (.pick (.t 26) (.c (.bool true)) (.t 30)) 23 true,
 oG 32 (.mv (.t 31)) 23 true,
 oG 33 (.mv (.t 0)) 32 false,
 oG 34 (.mv (.t 3)) 32 false,
 oG 35 (.idx (.t 33) (.t 34)) 32 false,
 oG 36 (.bin .gtr (.t 35) (.c (.int .u8 57))) 32 false,
 oG 37 (.pick (.t 32) (.c (.bool true)) (.t 36)) 23 true,
 oO 38 (.pick (.t 23) (.t 37) (.c (.bool false)))])
 (.cond (.t 38)
 (.seq
 (.region [] [oO 2 (.mv (.c (.bool false)))])
 .ret)
 .skip))))
 (.region [0, 3] [oM 9 3,
 oO 10 (.bin .add (.t 9) (.c (.int .i64 1))),
 oM 3 10])))
/-- progeny/progenyref11.IsName -/
def c86 : CFn := ⟨47, [.t 2],
 (.seq
 (.region [0] [oO 2 (.mv (.c (.bool false)))])
 (.seq
 (.seq
 (.region [0] [oO 3 (.mv (.c (.int .i64 0)))])
 (.block 0
 (.loop c86_l0)))
 (.seq
 (.region [0] [oM 39 0,
 oO 40 (.len true (.t 39)),
 oO 41 (.bin .geq (.t 40) (.c (.int .i64 1))),
 oM 42 41,
 oG 43 (.mv (.t 0)) 42 true,
 oG 44 (.len true (.t 43)) 42 true,
 oG 45 (.bin .leq (.t 44) (.c (.int .i64 8))) 42 true,
 oO 46 (.pick (.t 42) (.t 45) (.c (.bool false))),
 oM 2 46])
 .ret))), false, false⟩
/-- slices.ContainsFunc[[]string,string] -/
def c87 : CFn := ⟨9, [.t 4],
 (.seq
 (.region [0, 1] [oO 4 (.mv (.c (.bool false)))])
 (.seq
 (.region [0, 1] [oM 5 0,
 oM 6 1,
 oO 7 (k2 152 5 6),
 oO 8 (.bin .geq (.t 7) (.c (.int .i64 0))),
 oM 4 8])
 .ret)), false, false⟩
/-- progeny/screen.shows$1 -/
def c88 : CFn := ⟨11, [.t 2],
 (.seq
 (.region [0] [oO 2 (.mv (.c (.bool false)))])
 (.seq
 (.region [0] [oM 3 0,
 oO 4 (.len true (.t 3)),
 oO 5 (.bin .gtr (.t 4) (.c (.int .i64 200))),
 oM 6 5,
 oG 7 (.mv (.t 0)) 6 false,
 oG 8 (k1 89 7) 6 false,
 oG 9 (.un .not (.t 8)) 6 false,
 oO 10 (.pick (.t 6) (.c (.bool true)) (.t 9)),
 oM 2 10])
 .ret)), false, false⟩
def c89_l0 : CC :=
 (.seq
 (.region [0, 5, 6] [oB 7 .lss 6 5])
 (.seq
 (.cond (.t 7)
 .skip
 (.exit 0))
 (.seq
 (.block 1
 (.seq
 (.region [0, 5, 6] [oM 8 6,
 oM 3 8])
 (.seq
 (.region [0, 3, 5, 6] [oM 9 0,
 oM 10 3,
 oO 11 (.idx (.t 9) (.t 10)),
 oO 12 (k1 153 11),
 oN 13 12])
 (.cond (.t 13)
 (.seq
 (.region [] [oO 2 (.mv (.c (.bool false)))])
 .ret)
 .skip))))
 (.region [0, 5, 6] [oO 14 (.bin .add (.t 6) (.c (.int .i64 1))),
 oM 6 14]))))
/-- progeny/screen.isText -/
def c89 : CFn := ⟨15, [.t 2],
 (.seq
 (.region [0] [oO 2 (.mv (.c (.bool false)))])
 (.seq
 (.seq
 (.region [0] [oM 4 0,
 oO 5 (.len true (.t 4)),
 oO 6 (.mv (.c (.int .i64 0)))])
 (.block 0
 (.loop c89_l0)))
 (.seq
 (.region [] [oO 2 (.mv (.c (.bool true)))])
 .ret))), false, false⟩
def c90_l0 : CC :=
 (.seq
 (.seq
 (.region [7, 8] [oM 34 8,
 oM 35 7,
 oO 36 (.len false (.t 35)),
 oB 37 .lss 34 36])
 (.cond (.t 37)
 .skip
 (.exit 0)))
 (.block 1
 (.draw [7, 8] [oM 38 8,
 oM 39 7,
 oM 40 8,
 oF 41 (.slc 1 (.t 39) (some (.t 40)) none none) [1, 2],
 oM 42 7,
 oM 43 8,
 oF 44 (.slc 1 (.t 42) none (some (.t 43)) none) [4, 5],
 oF 45 (.copy 1 (.t 41) (.t 44)) [1, 2, 3, 4, 5, 6],
 oF 46 (.bin .add (.t 38) (.t 45)) (u 8),
 oF 8 (.mv (.t 46)) (u 9)])))
/-- slices.Repeat[[]string,string] -/
def c90 : CFn := ⟨48, [.t 4],
 (.seq
 (.region [0, 1] [oO 4 (.mv (.c (.nils)))])
 (.seq
 (.seq
 (.region [0, 1] [oM 9 1,
 oO 10 (.bin .lss (.t 9) (.c (.int .i64 0)))])
 (.cond (.t 10)
 .stuck
 .skip))
 (.seq
 (.region [0, 1] [oM 13 0,
 oO 14 (.len false (.t 13)),
 oO 15 (.convI .u64 (.t 14)),
 oM 16 1,
 oO 17 (.convI .u64 (.t 16)),
 oO 18 (k2 154 15 17),
 oM 12 18,
 oE 19 12 0,
 oE 20 12 1,
 oM 5 19,
 oM 6 20])
 (.seq
 (.seq
 (.region [0, 5, 6] [oM 21 5,
 oO 22 (.bin .gtr (.t 21) (.c (.int .u64 0))),
 oM 23 22,
 oG 24 (.mv (.t 6)) 23 false,
 oG 25 (.bin .gtr (.t 24) (.c (.int .u64 9223372036854775807))) 23 false,
 oO 26 (.pick (.t 23) (.c (.bool true)) (.t 25))])
 (.cond (.t 26)
 .stuck
 .skip))
 (.seq
 (.region [0, 6] [oM 28 6,
 oO 29 (.convI .i64 (.t 28)),
 oO 30 (.mks 9 1 16 [.str ⟨#[]⟩] (.t 29) (.t 29)),
 oM 7 30])
 (.seq
 (.region [0, 7] [oM 31 7,
 oM 32 0,
 oO 33 (.copy 1 (.t 31) (.t 32)),
 oM 8 33])
 (.seq
 (.block 0
 (.loop c90_l0))
 (.seq
 (.region [7] [oM 47 7,
 oM 4 47])
 .ret)))))))), false, false⟩
/-- strings.Repeat -/
def c91 : CFn := ⟨0, [.t 0], .user pRpt, false, false⟩
/-- progeny/screen.filled -/
def c92 : CFn := ⟨26, [.t 4],
 (.seq
 (.region [0, 1] [oX 2 89 7 0,
 oO 4 (.mv (.c (.str ⟨#[]⟩)))])
 (.seq
 (.seq
 (.region [1, 2] [oM 5 1,
 oO 6 (.len true (.t 5)),
 oA 7 3 2,
 ol 8 1 7,
 oB 9 .geq 6 8])
 (.cond (.t 9)
 (.seq
 (.region [1, 2] [oM 10 1,
 oA 11 3 2,
 ol 12 1 11,
 oO 13 (.slcs (.t 10) none (some (.t 12))),
 oM 4 13])
 .ret)
 .skip))
 (.seq
 (.region [1, 2] [oM 14 1,
 oA 15 6 2,
 ol 16 1 15,
 oO 17 (.bslice 5 1 [[.int .u8 0]] [(0, (.t 16))]),
 oO 18 (.b2s (.t 17)),
 oA 19 3 2,
 ol 20 1 19,
 oM 21 1,
 oO 22 (.len true (.t 21)),
 oB 23 .sub 20 22,
 oO 24 (k2 91 18 23),
 oB 25 .add 14 24,
 oM 4 25])
 .ret))), false, false⟩
def c93_l0 : CC :=
 (.seq
 (.region [0, 5, 6, 7] [oB 8 .lss 7 6])
 (.seq
 (.cond (.t 8)
 .skip
 (.exit 0))
 (.seq
 (.block 1
 (.seq
 (.region [0, 5, 6, 7] [oM 9 7,
 oI 10 7 5 7,
 oL 11 7 10,
 oO 4 (.box 89 7 (.c (.agg [.str ⟨#[]⟩, .int .i64 0, .int .i64 0, .int .i64 0, .int .i64 0, .int .i64 0, .int .u8 0]))),
 oM 3 9,
 oS 7 4 11])
 (.seq
 (.seq
 (.region [0, 3, 4, 5, 6, 7] [oA 12 0 4,
 ol 13 1 12,
 oO 14 (k1 160 13),
 oN 15 14,
 oM 16 15,
 oG 17 (.faddr 4 (.t 4)) 16 false,
 oG 18 (.load false 1 (.t 17)) 16 false,
 oG 19 (k1 161 18) 16 false,
 oG 20 (.un .not (.t 19)) 16 false,
 oO 21 (.pick (.t 16) (.c (.bool true)) (.t 20)),
 oM 22 21,
 oG 23 (.faddr 5 (.t 4)) 22 false,
 oG 24 (.load false 1 (.t 23)) 22 false,
 oG 25 (k1 161 24) 22 false,
 oG 26 (.un .not (.t 25)) 22 false,
 oO 27 (.pick (.t 22) (.c (.bool true)) (.t 26)),
 oM 28 27,
 oG 29 (.faddr 6 (.t 4)) 28 false,
 oG 30 (.load false 1 (.t 29)) 28 false,
 oG 31 (k1 153 30) 28 false,
 oG 32 (.un .not (.t 31)) 28 false,
 oO 33 (.pick (.t 28) (.c (.bool true)) (.t 32))])
 (.cond (.t 33)
 (.seq
 (.region [] [oO 2 (.mv (.c (.bool false)))])
 .ret)
 .skip))
 (.seq
 (.region [0, 3, 4, 5, 6, 7] [oM 34 0,
 oM 35 3,
 oO 36 (.slc 7 (.t 34) none (some (.t 35)) none),
 oO 37 (.mkfn 163 [(.t 4)]),
 oO 38 (k2 162 36 37)])
 (.cond (.t 38)
 (.seq
 (.region [] [oO 2 (.mv (.c (.bool false)))])
 .ret)
 .skip)))))
 (.region [0, 5, 6, 7] [oO 39 (.bin .add (.t 7) (.c (.int .i64 1))),
 oM 7 39]))))
/-- progeny/screen.areSlots -/
def c93 : CFn := ⟨43, [.t 2],
 (.seq
 (.region [0] [oO 2 (.mv (.c (.bool false)))])
 (.seq
 (.seq
 (.region [0] [oM 5 0,
 oO 6 (.len false (.t 5)),
 oO 7 (.mv (.c (.int .i64 0)))])
 (.block 0
 (.loop c93_l0)))
 (.seq
 (.region [0] [oM 40 0,
 oO 41 (.len false (.t 40)),
 oO 42 (.bin .leq (.t 41) (.c (.int .i64 10))),
 oM 2 42])
 .ret))), false, false⟩
/-- progeny/screen.lies -/
def c94 : CFn := ⟨39, [.t 8],
 (.seq
 (.region [0, 1, 2, 3] [oX 4 25 4 0,
 oO 8 (.mv (.c (.bool false)))])
 (.seq
 (.region [1, 2, 3, 4] [oM 9 1,
 oO 10 (.bin .geq (.t 9) (.c (.int .i64 0))),
 oM 11 10,
 oG 12 (.mv (.t 1)) 11 true,
 oG 13 (.faddr 0 (.t 4)) 11 true,
 oG 14 (.load false 1 (.t 13)) 11 true,
 oG 15 (.bin .lss (.t 12) (.t 14)) 11 true,
 oO 16 (.pick (.t 11) (.t 15) (.c (.bool false))),
 oM 17 16,
 oG 18 (.mv (.t 2)) 17 true,
 oG 19 (.bin .geq (.t 18) (.c (.int .i64 0))) 17 true,
 oO 20 (.pick (.t 17) (.t 19) (.c (.bool false))),
 oM 21 20,
 oG 22 (.mv (.t 2)) 21 true,
 oG 23 (.faddr 1 (.t 4)) 21 true,
 oG 24 (.load false 1 (.t 23)) 21 true,
 oG 25 (.bin .lss (.t 22) (.t 24)) 21 true,
 oO 26 (.pick (.t 21) (.t 25) (.c (.bool false))),
 oM 27 26,
 oG 28 (.mv (.t 3)) 27 true,
 oG 29 (.bin .geq (.t 28) (.c (.int .i64 1))) 27 true,
 oO 30 (.pick (.t 27) (.t 29) (.c (.bool false))),
 oM 31 30,
 oG 32 (.mv (.t 3)) 31 true,
 oG 33 (.faddr 1 (.t 4)) 31 true,
 oG 34 (.load false 1 (.t 33)) 31 true,
 oG 35 (.mv (.t 2)) 31 true,
 oG 36 (.bin .sub (.t 34) (.t 35)) 31 true,
 oG 37 (.bin .leq (.t 32) (.t 36)) 31 true,
 oO 38 (.pick (.t 31) (.t 37) (.c (.bool false))),
 oM 8 38])
 .ret)), false, false⟩
/-- slices.ContainsFunc[[]progeny/screen.part,progeny/screen.part] -/
def c95 : CFn := ⟨9, [.t 4],
 (.seq
 (.region [0, 1] [oO 4 (.mv (.c (.bool false)))])
 (.seq
 (.region [0, 1] [oM 5 0,
 oM 6 1,
 oO 7 (k2 164 5 6),
 oO 8 (.bin .geq (.t 7) (.c (.int .i64 0))),
 oM 4 8])
 .ret)), false, false⟩
/-- (progeny/screen.part).meets -/
def c96 : CFn := ⟨30, [.t 4],
 (.seq
 (.region [0, 1] [oX 2 156 3 0,
 oX 3 156 3 1,
 oO 4 (.mv (.c (.bool false)))])
 (.seq
 (.region [2, 3] [oA 5 0 2,
 ol 6 1 5,
 oA 7 0 3,
 ol 8 1 7,
 oB 9 .eql 6 8,
 oM 10 9,
 oG 11 (.faddr 1 (.t 2)) 10 true,
 oG 12 (.load false 1 (.t 11)) 10 true,
 oG 13 (.faddr 1 (.t 3)) 10 true,
 oG 14 (.load false 1 (.t 13)) 10 true,
 oG 15 (.faddr 2 (.t 3)) 10 true,
 oG 16 (.load false 1 (.t 15)) 10 true,
 oG 17 (.bin .add (.t 14) (.t 16)) 10 true,
 oG 18 (.bin .lss (.t 12) (.t 17)) 10 true,
 oO 19 (.pick (.t 10) (.t 18) (.c (.bool false))),
 oM 20 19,
 oG 21 (.faddr 1 (.t 3)) 20 true,
 oG 22 (.load false 1 (.t 21)) 20 true,
 oG 23 (.faddr 1 (.t 2)) 20 true,
 oG 24 (.load false 1 (.t 23)) 20 true,
 oG 25 (.faddr 2 (.t 2)) 20 true,
 oG 26 (.load false 1 (.t 25)) 20 true,
 oG 27 (.bin .add (.t 24) (.t 26)) 20 true,
 oG 28 (.bin .lss (.t 22) (.t 27)) 20 true,
 oO 29 (.pick (.t 20) (.t 28) (.c (.bool false))),
 oM 4 29])
 .ret)), false, false⟩
/-- progeny/screen.fits$1 -/
def c97 : CFn := ⟨14, [.t 3],
 (.seq
 (.region [0, 1] [oO 3 (.mv (.c (.bool false)))])
 (.seq
 (.region [0, 1] [oM 4 0,
 oO 5 (.len true (.t 4)),
 oA 6 1 1,
 ol 7 1 6,
 oB 8 .neq 5 7,
 oM 9 8,
 oG 10 (.mv (.t 0)) 9 false,
 oG 11 (k1 89 10) 9 false,
 oG 12 (.un .not (.t 11)) 9 false,
 oO 13 (.pick (.t 9) (.c (.bool true)) (.t 12)),
 oM 3 13])
 .ret)), false, false⟩
/-- slices.Clone[[]string,string] -/
def c98 : CFn := ⟨8, [.t 2],
 (.seq
 (.region [0] [oO 2 (.mv (.c (.nils)))])
 (.seq
 (.seq
 (.region [0] [oM 3 0,
 oO 4 (.eqn false 1 (.t 3) (.c (.nils)))])
 (.cond (.t 4)
 (.seq
 (.region [] [oO 2 (.mv (.c (.nils)))])
 .ret)
 .skip))
 (.seq
 (.region [0] [oO 5 (.bslice 9 1 [] []),
 oM 6 0,
 oO 7 (.app 9 1 16 false (.t 5) (.t 6)),
 oM 2 7])
 .ret))), true, false⟩
/-- progeny/screen.slot -/
def c99 : CFn := ⟨9, [.t 4],
 (.seq
 (.region [0, 1] [oX 2 25 4 0,
 oX 3 9 1 1,
 oO 4 (.mv (.c (.int .i64 0)))])
 (.seq
 (.region [2, 3] [oA 5 3 2,
 ol 6 1 5,
 oO 7 (.mkfn 165 [(.t 3)]),
 oO 8 (k2 100 6 7),
 oM 4 8])
 .ret)), false, false⟩
def c100_l0 : CC :=
 (.seq
 (.region [0, 1, 7, 8] [oB 9 .lss 8 7])
 (.seq
 (.cond (.t 9)
 .skip
 (.exit 0))
 (.seq
 (.block 1
 (.seq
 (.region [0, 1, 7, 8] [oM 10 8,
 oM 5 10])
 (.seq
 (.region [0, 1, 5, 7, 8] [oM 11 1,
 oM 12 0,
 oM 13 5,
 oI 14 7 12 13,
 oL 15 7 14,
 oO 16 (.call (.t 11) [(.t 15)] false)])
 (.cond (.t 16)
 (.seq
 (.region [5] [oM 17 5,
 oM 4 17])
 .ret)
 .skip))))
 (.region [0, 1, 7, 8] [oO 18 (.bin .add (.t 8) (.c (.int .i64 1))),
 oM 8 18]))))
/-- slices.IndexFunc[[]progeny/api.Slot,progeny/api.Slot] -/
def c100 : CFn := ⟨19, [.t 4],
 (.seq
 (.region [0, 1] [oO 4 (.mv (.c (.int .i64 0)))])
 (.seq
 (.seq
 (.region [0, 1] [oM 6 0,
 oO 7 (.len false (.t 6)),
 oO 8 (.mv (.c (.int .i64 0)))])
 (.block 0
 (.loop c100_l0)))
 (.seq
 (.region [] [oO 4 (.mv (.c (.int .i64 (-1))))])
 .ret))), false, false⟩
/-- progeny/screen.Pages$1 -/
def c101 : CFn := ⟨6, [.t 2],
 (.seq
 (.region [0] [oX 1 89 7 0,
 oO 2 (.mv (.c (.bool false)))])
 (.seq
 (.region [1] [oA 3 5 1,
 ol 4 1 3,
 oO 5 (.bin .eql (.t 4) (.c (.int .i64 0))),
 oM 2 5])
 .ret)), false, false⟩
def c152_l0 : CC :=
 (.seq
 (.region [0, 1, 7, 8] [oB 9 .lss 8 7])
 (.seq
 (.cond (.t 9)
 .skip
 (.exit 0))
 (.seq
 (.block 1
 (.seq
 (.region [0, 1, 7, 8] [oM 10 8,
 oM 5 10])
 (.seq
 (.region [0, 1, 5, 7, 8] [oM 11 1,
 oM 12 0,
 oM 13 5,
 oI 14 1 12 13,
 ol 15 1 14,
 oO 16 (.call (.t 11) [(.t 15)] false)])
 (.cond (.t 16)
 (.seq
 (.region [5] [oM 17 5,
 oM 4 17])
 .ret)
 .skip))))
 (.region [0, 1, 7, 8] [oO 18 (.bin .add (.t 8) (.c (.int .i64 1))),
 oM 8 18]))))
/-- slices.IndexFunc[[]string,string] -/
def c152 : CFn := ⟨19, [.t 4],
 (.seq
 (.region [0, 1] [oO 4 (.mv (.c (.int .i64 0)))])
 (.seq
 (.seq
 (.region [0, 1] [oM 6 0,
 oO 7 (.len false (.t 6)),
 oO 8 (.mv (.c (.int .i64 0)))])
 (.block 0
 (.loop c152_l0)))
 (.seq
 (.region [] [oO 4 (.mv (.c (.int .i64 (-1))))])
 .ret))), false, false⟩
/-- progeny/screen.isByte -/
def c153 : CFn := ⟨9, [.t 2],
 (.seq
 (.region [0] [oO 2 (.mv (.c (.bool false)))])
 (.seq
 (.region [0] [oM 3 0,
 oO 4 (.bin .geq (.t 3) (.c (.int .u8 32))),
 oM 5 4,
 oG 6 (.mv (.t 0)) 5 true,
 oG 7 (.bin .leq (.t 6) (.c (.int .u8 126))) 5 true,
 oO 8 (.pick (.t 5) (.t 7) (.c (.bool false))),
 oM 2 8])
 .ret)), false, false⟩
/-- math/bits.Mul -/
def c154 : CFn := ⟨30, [.t 4, .t 5],
 (.seq
 (.region [0, 1] [oO 4 (.mv (.c (.int .u64 0))),
 oO 5 (.mv (.c (.int .u64 0)))])
 (.seq
 (.cond (.c (.bool false))
 (.seq
 (.region [0, 1] [oM 11 0,
 oO 12 (.convI .u32 (.t 11)),
 oM 13 1,
 oO 14 (.convI .u32 (.t 13)),
 oO 15 (k2 190 12 14),
 oM 10 15,
 oE 16 10 0,
 oE 17 10 1,
 oM 6 16,
 oM 7 17])
 (.seq
 (.region [6, 7] [oM 18 6,
 oO 19 (.convI .u64 (.t 18)),
 oM 20 7,
 oO 21 (.convI .u64 (.t 20)),
 oM 4 19,
 oM 5 21])
 .ret))
 .skip)
 (.seq
 (.region [0, 1] [oM 23 0,
 oM 24 1,
 oO 25 (k2 191 23 24),
 oM 22 25,
 oE 26 22 0,
 oE 27 22 1,
 oM 8 26,
 oM 9 27])
 (.seq
 (.region [8, 9] [oM 28 8,
 oM 29 9,
 oM 4 28,
 oM 5 29])
 .ret)))), false, false⟩
def c160_l0 : CC :=
 (.seq
 (.region [0, 6, 7] [oB 8 .lss 7 6])
 (.seq
 (.cond (.t 8)
 .skip
 (.exit 0))
 (.seq
 (.block 1
 (.seq
 (.region [0, 6, 7] [oM 9 7,
 oM 3 9])
 (.seq
 (.region [0, 3, 6, 7] [oM 10 0,
 oM 11 3,
 oO 12 (.idx (.t 10) (.t 11)),
 oO 13 (.bin .geq (.t 12) (.c (.int .u8 65))),
 oM 14 13,
 oG 15 (.mv (.t 0)) 14 true,
 oG 16 (.mv (.t 3)) 14 true,
 oG 17 (.idx (.t 15) (.t 16)) 14 true,
 oG 18 (.bin .leq (.t 17) (.c (.int .u8 90))) 14 true,
 oO 19 (.pick (.t 14) (.t 18) (.c (.bool false))),
 oM 4 19])
 (.seq
 (.region [0, 3, 4, 6, 7] [oM 20 4,
 oN 21 20,
 oM 22 21,
 oG 23 (.mv (.t 3)) 22 true,
 oG 24 (.bin .eql (.t 23) (.c (.int .i64 0))) 22 true,
 oG 25 (.mv (.t 24)) 22 true,
 oG 26 (.mv (.t 0)) 25 false,
 oG 27 (.mv (.t 3)) 25 false,
 oG 28 (.idx (.t 26) (.t 27)) 25 false,
 oG 29 (.bin .lss (.t 28) (.c (.int .u8 48))) 25 false,
 oG 30 (.pick (.t 25) (.c (.bool true)) (.t 29)) 22 true,
 oG 31 (.mv (.t 30)) 22 true,
 oG 32 (.mv (.t 0)) 31 false,
 oG 33 (.mv (.t 3)) 31 false,
 oG 34 (.idx (.t 32) (.t 33)) 31 false,
 oG 35 (.bin .gtr (.t 34) (.c (.int .u8 57))) 31 false,
 oG 36 (.pick (.t 31) (.c (.bool true)) (.t 35)) 22 true,
 oO 37 (.pick (.t 22) (.t 36) (.c (.bool false)))])
 (.cond (.t 37)
 (.seq
 (.region [] [oO 2 (.mv (.c (.bool false)))])
 .ret)
 .skip)))))
 (.region [0, 6, 7] [oO 38 (.bin .add (.t 7) (.c (.int .i64 1))),
 oM 7 38]))))
/-- progeny/screen.isName -/
def c160 : CFn := ⟨47, [.t 2],
 (.seq
 (.region [0] [oO 2 (.mv (.c (.bool false)))])
 (.seq
 (.seq
 (.region [0] [oM 5 0,
 oO 6 (.len true (.t 5)),
 oO 7 (.mv (.c (.int .i64 0)))])
 (.block 0
 (.loop c160_l0)))
 (.seq
 (.region [0] [oM 39 0,
 oO 40 (.len true (.t 39)),
 oO 41 (.bin .geq (.t 40) (.c (.int .i64 1))),
 oM 42 41,
 oG 43 (.mv (.t 0)) 42 true,
 oG 44 (.len true (.t 43)) 42 true,
 oG 45 (.bin .leq (.t 44) (.c (.int .i64 8))) 42 true,
 oO 46 (.pick (.t 42) (.t 45) (.c (.bool false))),
 oM 2 46])
 .ret))), false, false⟩
/-- progeny/screen.isPlace -/
def c161 : CFn := ⟨9, [.t 2],
 (.seq
 (.region [0] [oO 2 (.mv (.c (.bool false)))])
 (.seq
 (.region [0] [oM 3 0,
 oO 4 (.bin .geq (.t 3) (.c (.int .i64 (-1)))),
 oM 5 4,
 oG 6 (.mv (.t 0)) 5 true,
 oG 7 (.bin .lss (.t 6) (.c (.int .i64 4))) 5 true,
 oO 8 (.pick (.t 5) (.t 7) (.c (.bool false))),
 oM 2 8])
 .ret)), false, false⟩
/-- slices.ContainsFunc[[]progeny/api.Slot,progeny/api.Slot] -/
def c162 : CFn := ⟨9, [.t 4],
 (.seq
 (.region [0, 1] [oO 4 (.mv (.c (.bool false)))])
 (.seq
 (.region [0, 1] [oM 5 0,
 oM 6 1,
 oO 7 (k2 100 5 6),
 oO 8 (.bin .geq (.t 7) (.c (.int .i64 0))),
 oM 4 8])
 .ret)), false, false⟩
/-- progeny/screen.areSlots$1 -/
def c163 : CFn := ⟨33, [.t 3],
 (.seq
 (.region [0, 1] [oX 2 89 7 0,
 oO 3 (.mv (.c (.bool false)))])
 (.seq
 (.region [1, 2] [oA 4 0 2,
 ol 5 1 4,
 oA 6 0 1,
 ol 7 1 6,
 oB 8 .eql 5 7,
 oM 9 8,
 oG 10 (.faddr 4 (.t 1)) 9 false,
 oG 11 (.load false 1 (.t 10)) 9 false,
 oG 12 (.bin .geq (.t 11) (.c (.int .i64 0))) 9 false,
 oG 13 (.mv (.t 12)) 9 false,
 oG 14 (.faddr 4 (.t 2)) 13 true,
 oG 15 (.load false 1 (.t 14)) 13 true,
 oG 16 (.faddr 4 (.t 1)) 13 true,
 oG 17 (.load false 1 (.t 16)) 13 true,
 oG 18 (.bin .eql (.t 15) (.t 17)) 13 true,
 oG 19 (.pick (.t 13) (.t 18) (.c (.bool false))) 9 false,
 oO 20 (.pick (.t 9) (.c (.bool true)) (.t 19)),
 oM 21 20,
 oG 22 (.faddr 5 (.t 1)) 21 false,
 oG 23 (.load false 1 (.t 22)) 21 false,
 oG 24 (.bin .geq (.t 23) (.c (.int .i64 0))) 21 false,
 oG 25 (.mv (.t 24)) 21 false,
 oG 26 (.faddr 5 (.t 2)) 25 true,
 oG 27 (.load false 1 (.t 26)) 25 true,
 oG 28 (.faddr 5 (.t 1)) 25 true,
 oG 29 (.load false 1 (.t 28)) 25 true,
 oG 30 (.bin .eql (.t 27) (.t 29)) 25 true,
 oG 31 (.pick (.t 25) (.t 30) (.c (.bool false))) 21 false,
 oO 32 (.pick (.t 21) (.c (.bool true)) (.t 31)),
 oM 3 32])
 .ret)), false, false⟩
def c164_l0 : CC :=
 (.seq
 (.region [0, 1, 7, 8] [oB 9 .lss 8 7])
 (.seq
 (.cond (.t 9)
 .skip
 (.exit 0))
 (.seq
 (.block 1
 (.seq
 (.region [0, 1, 7, 8] [oM 10 8,
 oM 5 10])
 (.seq
 (.region [0, 1, 5, 7, 8] [oM 11 1,
 oM 12 0,
 oM 13 5,
 oI 14 3 12 13,
 oL 15 3 14,
 oO 16 (.call (.t 11) [(.t 15)] false)])
 (.cond (.t 16)
 (.seq
 (.region [5] [oM 17 5,
 oM 4 17])
 .ret)
 .skip))))
 (.region [0, 1, 7, 8] [oO 18 (.bin .add (.t 8) (.c (.int .i64 1))),
 oM 8 18]))))
/-- slices.IndexFunc[[]progeny/screen.part,progeny/screen.part] -/
def c164 : CFn := ⟨19, [.t 4],
 (.seq
 (.region [0, 1] [oO 4 (.mv (.c (.int .i64 0)))])
 (.seq
 (.seq
 (.region [0, 1] [oM 6 0,
 oO 7 (.len false (.t 6)),
 oO 8 (.mv (.c (.int .i64 0)))])
 (.block 0
 (.loop c164_l0)))
 (.seq
 (.region [] [oO 4 (.mv (.c (.int .i64 (-1))))])
 .ret))), false, false⟩
/-- progeny/screen.slot$1 -/
def c165 : CFn := ⟨8, [.t 3],
 (.seq
 (.region [0, 1] [oX 2 89 7 0,
 oO 3 (.mv (.c (.bool false)))])
 (.seq
 (.region [1, 2] [oA 4 0 2,
 ol 5 1 4,
 ol 6 1 1,
 oB 7 .eql 5 6,
 oM 3 7])
 .ret)), false, false⟩
/-- math/bits.Mul32 -/
def c190 : CFn := ⟨17, [.t 4, .t 5],
 (.seq
 (.region [0, 1] [oO 4 (.mv (.c (.int .u32 0))),
 oO 5 (.mv (.c (.int .u32 0)))])
 (.seq
 (.region [0, 1] [oM 7 0,
 oO 8 (.convI .u64 (.t 7)),
 oM 9 1,
 oO 10 (.convI .u64 (.t 9)),
 oB 11 .mul 8 10,
 oM 6 11])
 (.seq
 (.region [6] [oM 12 6,
 oO 13 (.bin .shr (.t 12) (.c (.int .u64 32))),
 oO 14 (.convI .u32 (.t 13)),
 oM 15 6,
 oO 16 (.convI .u32 (.t 15)),
 oM 4 14,
 oM 5 16])
 .ret))), false, false⟩
/-- math/bits.Mul64 -/
def c191 : CFn := ⟨51, [.t 4, .t 5],
 (.seq
 (.region [0, 1] [oO 4 (.mv (.c (.int .u64 0))),
 oO 5 (.mv (.c (.int .u64 0)))])
 (.seq
 (.region [0, 1] [oM 14 0,
 oO 15 (.bin .and (.t 14) (.c (.int .u64 4294967295))),
 oM 6 15])
 (.seq
 (.region [0, 1, 6] [oM 16 0,
 oO 17 (.bin .shr (.t 16) (.c (.int .u64 32))),
 oM 7 17])
 (.seq
 (.region [0, 1, 6, 7] [oM 18 1,
 oO 19 (.bin .and (.t 18) (.c (.int .u64 4294967295))),
 oM 8 19])
 (.seq
 (.region [0, 1, 6, 7, 8] [oM 20 1,
 oO 21 (.bin .shr (.t 20) (.c (.int .u64 32))),
 oM 9 21])
 (.seq
 (.region [0, 1, 6, 7, 8, 9] [oM 22 6,
 oM 23 8,
 oB 24 .mul 22 23,
 oM 10 24])
 (.seq
 (.region [0, 1, 6, 7, 8, 9, 10] [oM 25 7,
 oM 26 8,
 oB 27 .mul 25 26,
 oM 28 10,
 oO 29 (.bin .shr (.t 28) (.c (.int .u64 32))),
 oB 30 .add 27 29,
 oM 11 30])
 (.seq
 (.region [0, 1, 6, 7, 9, 11] [oM 31 11,
 oO 32 (.bin .and (.t 31) (.c (.int .u64 4294967295))),
 oM 12 32])
 (.seq
 (.region [0, 1, 6, 7, 9, 11, 12] [oM 33 11,
 oO 34 (.bin .shr (.t 33) (.c (.int .u64 32))),
 oM 13 34])
 (.seq
 (.region [0, 1, 6, 7, 9, 12, 13] [oM 35 12,
 oM 36 6,
 oM 37 9,
 oB 38 .mul 36 37,
 oB 39 .add 35 38,
 oM 12 39])
 (.seq
 (.region [0, 1, 7, 9, 12, 13] [oM 40 7,
 oM 41 9,
 oB 42 .mul 40 41,
 oM 43 13,
 oB 44 .add 42 43,
 oM 45 12,
 oO 46 (.bin .shr (.t 45) (.c (.int .u64 32))),
 oB 47 .add 44 46,
 oM 4 47])
 (.seq
 (.region [0, 1, 4] [oM 48 0,
 oM 49 1,
 oB 50 .mul 48 49,
 oM 5 50])
 .ret)))))))))))), false, false⟩

def ctab : List (Nat × CFn) := [(3, c3), (6, c6), (7, c7), (8, c8), (9, c9), (10, c10), (11, c11), (12, c12), (13, c13), (14, c14), (15, c15), (16, c16), (41, c41), (42, c42), (43, c43), (44, c44), (45, c45), (46, c46), (47, c47), (48, c48), (49, c49), (50, c50), (51, c51), (52, c52), (53, c53), (54, c54), (86, c86), (87, c87), (88, c88), (89, c89), (90, c90), (92, c92), (93, c93), (94, c94), (95, c95), (96, c96), (97, c97), (98, c98), (99, c99), (100, c100), (101, c101), (152, c152), (153, c153), (154, c154), (160, c160), (161, c161), (162, c162), (163, c163), (164, c164), (165, c165), (190, c190), (191, c191)]
def utab : List (Nat × CFn) := [(91, c91)]
def cprog (f : Nat) : Option CFn := ((ctab ++ utab).find? fun p => p.1 == f).map (·.2)
theorem ok_all : ctab.all (fun p => okFn Go.Proofs.Try.prog p.1 p.2) = true := by kernel_rfl
theorem cprog_ok {f : Nat} {c : CFn} (h : cprog f = some c) : okFn Go.Proofs.Try.prog f c = true ∨ (f, c) ∈ utab := by
  unfold cprog at h
  cases hf : (ctab ++ utab).find? fun p => p.1 == f with
  | none => rw [hf] at h; cases h
  | some p =>
    rw [hf] at h
    simp only [Option.map_some, Option.some.injEq] at h
    have h1 := List.mem_of_find?_eq_some hf
    have h2 := List.find?_some hf
    simp only [beq_iff_eq] at h2
    rcases List.mem_append.1 h1 with h1 | h1
    · have h3 := List.all_eq_true.1 ok_all p h1
      rw [← h, ← h2]; exact .inl h3
    · rw [← h, ← h2]; exact .inr h1
theorem at3 : cprog 3 = some c3 := rfl
theorem at6 : cprog 6 = some c6 := rfl
theorem at7 : cprog 7 = some c7 := rfl
theorem at8 : cprog 8 = some c8 := rfl
theorem at9 : cprog 9 = some c9 := rfl
theorem at10 : cprog 10 = some c10 := rfl
theorem at11 : cprog 11 = some c11 := rfl
theorem at12 : cprog 12 = some c12 := rfl
theorem at13 : cprog 13 = some c13 := rfl
theorem at14 : cprog 14 = some c14 := rfl
theorem at15 : cprog 15 = some c15 := rfl
theorem at16 : cprog 16 = some c16 := rfl
theorem at41 : cprog 41 = some c41 := rfl
theorem at42 : cprog 42 = some c42 := rfl
theorem at43 : cprog 43 = some c43 := rfl
theorem at44 : cprog 44 = some c44 := rfl
theorem at45 : cprog 45 = some c45 := rfl
theorem at46 : cprog 46 = some c46 := rfl
theorem at47 : cprog 47 = some c47 := rfl
theorem at48 : cprog 48 = some c48 := rfl
theorem at49 : cprog 49 = some c49 := rfl
theorem at50 : cprog 50 = some c50 := rfl
theorem at51 : cprog 51 = some c51 := rfl
theorem at52 : cprog 52 = some c52 := rfl
theorem at53 : cprog 53 = some c53 := rfl
theorem at54 : cprog 54 = some c54 := rfl
theorem at86 : cprog 86 = some c86 := rfl
theorem at87 : cprog 87 = some c87 := rfl
theorem at88 : cprog 88 = some c88 := rfl
theorem at89 : cprog 89 = some c89 := rfl
theorem at90 : cprog 90 = some c90 := rfl
theorem at91 : cprog 91 = some c91 := rfl
theorem at92 : cprog 92 = some c92 := rfl
theorem at93 : cprog 93 = some c93 := rfl
theorem at94 : cprog 94 = some c94 := rfl
theorem at95 : cprog 95 = some c95 := rfl
theorem at96 : cprog 96 = some c96 := rfl
theorem at97 : cprog 97 = some c97 := rfl
theorem at98 : cprog 98 = some c98 := rfl
theorem at99 : cprog 99 = some c99 := rfl
theorem at100 : cprog 100 = some c100 := rfl
theorem at101 : cprog 101 = some c101 := rfl
theorem at152 : cprog 152 = some c152 := rfl
theorem at153 : cprog 153 = some c153 := rfl
theorem at154 : cprog 154 = some c154 := rfl
theorem at160 : cprog 160 = some c160 := rfl
theorem at161 : cprog 161 = some c161 := rfl
theorem at162 : cprog 162 = some c162 := rfl
theorem at163 : cprog 163 = some c163 := rfl
theorem at164 : cprog 164 = some c164 := rfl
theorem at165 : cprog 165 = some c165 := rfl
theorem at190 : cprog 190 = some c190 := rfl
theorem at191 : cprog 191 = some c191 := rfl
end Go.Proofs.Ytondenmkhfignaa.Code
