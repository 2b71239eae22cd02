/- The compact code of the functions, printed by a program of ours (gen.py); the kernel checks it against the program's own form. -/
import Derived.Test.YtbdpceigmnpoaaaGreatDoorWeC
import Derived.Test.YtbdpceigmnpoaaaGreatDoorProg
import Derived.KernelRfl
namespace Go.Proofs.YtbdpceigmnpoaaaGreatDoor.Code
open Go.Proofs.YtbdpceigmnpoaaaGreatDoor.Ev
abbrev u (n : Nat) : List Nat := List.range n
abbrev oO (d : Nat) (o : CO) : COp := ⟨some d, o, none, [], []⟩
abbrev oF (d : Nat) (o : CO) (bf : List Nat) : COp := ⟨some d, o, none, bf, []⟩
abbrev oG (d : Nat) (o : CO) (i : Nat) (b : Bool) : COp := ⟨some d, o, some (i, b), [], []⟩
abbrev oM (d x : Nat) : COp := ⟨some d, .mv (.t x), none, [], []⟩
abbrev ol (d z x : Nat) : COp := ⟨some d, .load false z (.t x), none, [], []⟩
abbrev oL (d z x : Nat) : COp := ⟨some d, .load true z (.t x), none, [], []⟩
abbrev oA (d o x : Nat) : COp := ⟨some d, .faddr o (.t x), none, [], []⟩
abbrev oI (d z x y : Nat) : COp := ⟨some d, .iaddr z (.t x) (.t y), none, [], []⟩
abbrev oE (d x k : Nat) : COp := ⟨some d, .extract (.t x) k, none, [], []⟩
abbrev oB (d : Nat) (p : BinOp) (x y : Nat) : COp := ⟨some d, .bin p (.t x) (.t y), none, [], []⟩
abbrev oN (d x : Nat) : COp := ⟨some d, .un .not (.t x), none, [], []⟩
abbrev oX (d y z x : Nat) : COp := ⟨some d, .box y z (.t x), none, [], []⟩
abbrev oS (z x y : Nat) : COp := ⟨none, .store z (.t x) (.t y), none, [], []⟩
abbrev oa (d : Nat) (o : CO) (bf alts : List Nat) : COp := ⟨some d, o, none, bf, alts⟩
abbrev k0 (f : Nat) : CO := .call (.c (.fn f [])) [] false
abbrev k1 (f a : Nat) : CO := .call (.c (.fn f [])) [.t a] false
abbrev k2 (f a b : Nat) : CO := .call (.c (.fn f [])) [.t a, .t b] false
abbrev k3 (f a b c : Nat) : CO := .call (.c (.fn f [])) [.t a, .t b, .t c] false
abbrev k4 (f a b c d : Nat) : CO := .call (.c (.fn f [])) [.t a, .t b, .t c, .t d] false
abbrev k5 (f a b c d e : Nat) : CO := .call (.c (.fn f [])) [.t a, .t b, .t c, .t d, .t e] false
abbrev k6 (f a b c d e g : Nat) : CO := .call (.c (.fn f [])) [.t a, .t b, .t c, .t d, .t e, .t g] false
abbrev z1 (f a : Nat) : CO := .call (.c (.fn f [])) [.t a] true
abbrev z2 (f a b : Nat) : CO := .call (.c (.fn f [])) [.t a, .t b] true
abbrev z3 (f a b c : Nat) : CO := .call (.c (.fn f [])) [.t a, .t b, .t c] true
abbrev z4 (f a b c d : Nat) : CO := .call (.c (.fn f [])) [.t a, .t b, .t c, .t d] true
abbrev z5 (f a b c d e : Nat) : CO := .call (.c (.fn f [])) [.t a, .t b, .t c, .t d, .t e] true
abbrev z6 (f a b c d e g : Nat) : CO := .call (.c (.fn f [])) [.t a, .t b, .t c, .t d, .t e, .t g] true
def c4_l0 : CC :=
 (.seq
 (.seq
 (.region [1, 2, 3, 7, 9, 10] [oM 44 10,
 oM 45 1,
 oO 46 (.len false (.t 45)),
 oB 47 .lss 44 46])
 (.cond (.t 47)
 .skip
 (.exit 0)))
 (.seq
 (.block 1
 (.seq
 (.region [1, 2, 3, 7, 9, 10] [oL 51 4 3,
 oL 52 5 7,
 oL 53 3 9,
 oO 54 (z3 20 51 52 53),
 oM 50 54,
 oE 55 50 0,
 oE 56 50 1,
 oE 57 50 2,
 oO 11 (.box 35 5 (.c (.agg [.nils, .int .i64 0, .int .i64 0, .int .i64 0, .bool false]))),
 oO 12 (.box 49 5 (.c (.agg [.str ⟨#[]⟩, .str ⟨#[]⟩, .int .i64 0, .str ⟨#[]⟩, .str ⟨#[]⟩]))),
 oS 5 11 55,
 oS 5 12 56,
 oM 13 57])
 (.seq
 (.draw [1, 2, 3, 7, 9, 10, 11, 12, 13] [oL 59 4 3,
 oM 60 1,
 oM 61 10,
 oF 62 (.iaddr 2 (.t 60) (.t 61)) [1, 2],
 oF 63 (.faddr 0 (.t 62)) [1, 2, 3],
 oF 64 (.load false 1 (.t 63)) [1, 2, 3, 4],
 oF 65 (k2 21 59 64) (u 6),
 oF 58 (.mv (.t 65)) (u 7),
 oF 66 (.extract (.t 58) 0) (u 8),
 oF 67 (.extract (.t 58) 1) (u 8),
 oF 14 (.mv (.t 66)) (u 9),
 oF 15 (.mv (.t 67)) (u 11)])
 (.seq
 (.region [1, 2, 3, 7, 9, 10, 11, 12, 13, 14, 15] [oL 69 4 3,
 oM 70 1,
 oM 71 10,
 oO 72 (z3 22 69 70 71),
 oM 68 72,
 oE 73 68 0,
 oE 74 68 1,
 oM 16 73,
 oM 17 74])
 (.seq
 (.seq
 (.draw [1, 2, 3, 7, 9, 10, 11, 12, 13, 14, 15, 16, 17] [oM 75 13,
 oF 76 (.bin .neq (.t 75) (.c (.int .i64 0))) [0],
 oF 77 (.mv (.t 76)) [0, 1],
 ⟨(some 78), .mv (.t 15), some (77, false), [0, 1, 2], []⟩,
 ⟨(some 79), .bin .neq (.t 78) (.c (.int .i64 0)), some (77, false), (u 4), []⟩,
 oF 80 (.pick (.t 77) (.c (.bool true)) (.t 79)) (u 5),
 oF 81 (.mv (.t 80)) (u 6),
 ⟨(some 82), .mv (.t 17), some (81, false), (u 7), []⟩,
 ⟨(some 83), .bin .neq (.t 82) (.c (.int .i64 0)), some (81, false), (u 8), []⟩,
 oF 84 (.pick (.t 81) (.c (.bool true)) (.t 83)) (u 9),
 oF 85 (.mv (.t 84)) (u 10),
 ⟨(some 86), .faddr 0 (.t 12), some (85, false), (u 11), []⟩,
 ⟨(some 87), .load false 1 (.t 86), some (85, false), (u 12), []⟩,
 ⟨(some 88), .bin .neq (.t 87) (.c (.str ⟨#[32, 32]⟩)), some (85, false), (u 13), []⟩,
 ⟨(some 89), .mv (.t 88), some (85, false), (u 14), []⟩,
 ⟨(some 90), .faddr 0 (.t 12), some (89, true), (u 15), []⟩,
 ⟨(some 91), .load false 1 (.t 90), some (89, true), (u 16), []⟩,
 ⟨(some 92), .bin .neq (.t 91) (.c (.str ⟨#[71, 65]⟩)), some (89, true), (u 17), []⟩,
 ⟨(some 93), .pick (.t 89) (.t 92) (.c (.bool false)), some (85, false), (u 18), []⟩,
 ⟨(some 94), .mv (.t 93), some (85, false), (u 19), []⟩,
 ⟨(some 95), .faddr 0 (.t 12), some (94, true), (u 20), []⟩,
 ⟨(some 96), .load false 1 (.t 95), some (94, true), (u 21), []⟩,
 ⟨(some 97), .bin .neq (.t 96) (.c (.str ⟨#[71, 75]⟩)), some (94, true), (u 22), []⟩,
 ⟨(some 98), .pick (.t 94) (.t 97) (.c (.bool false)), some (85, false), (u 23), []⟩,
 oF 99 (.pick (.t 85) (.c (.bool true)) (.t 98)) (u 24),
 oF 100 (.mv (.t 99)) (u 25),
 ⟨(some 101), .faddr 1 (.t 12), some (100, false), (u 26), []⟩,
 ⟨(some 102), .load false 1 (.t 101), some (100, false), (u 27), []⟩,
 ⟨(some 103), .faddr 2 (.t 3), some (100, false), (u 26), []⟩,
 ⟨(some 104), .load false 1 (.t 103), some (100, false), (u 26 ++ [28]), []⟩,
 ⟨(some 105), .mv (.t 1), some (100, false), (u 26), []⟩,
 ⟨(some 106), .mv (.t 10), some (100, false), (u 26), []⟩,
 ⟨(some 107), .iaddr 2 (.t 105) (.t 106), some (100, false), (u 26 ++ [30, 31]), []⟩,
 ⟨(some 108), .faddr 0 (.t 107), some (100, false), (u 26 ++ [30, 31, 32]), []⟩,
 ⟨(some 109), .load false 1 (.t 108), some (100, false), (u 26 ++ [30, 31, 32, 33]), []⟩,
 ⟨(some 110), .iaddr 8 (.t 104) (.t 109), some (100, false), (u 26 ++ [28, 29, 30, 31, 32, 33, 34]), []⟩,
 ⟨(some 111), .faddr 0 (.t 110), some (100, false), (u 26 ++ [28, 29, 30, 31, 32, 33, 34, 35]), []⟩,
 ⟨(some 112), .load false 1 (.t 111), some (100, false), (u 26 ++ [28, 29, 30, 31, 32, 33, 34, 35, 36]), []⟩,
 ⟨(some 113), .bin .neq (.t 102) (.t 112), some (100, false), (u 38), []⟩,
 oF 114 (.pick (.t 100) (.c (.bool true)) (.t 113)) (u 39),
 oF 115 (.mv (.t 114)) (u 40),
 ⟨(some 116), .faddr 2 (.t 12), some (115, false), (u 41), []⟩,
 ⟨(some 117), .load false 1 (.t 116), some (115, false), (u 42), []⟩,
 ⟨(some 118), .mv (.t 14), some (115, false), (u 41), []⟩,
 ⟨(some 119), .bin .neq (.t 117) (.t 118), some (115, false), (u 44), []⟩,
 oF 120 (.pick (.t 115) (.c (.bool true)) (.t 119)) (u 45),
 oF 121 (.mv (.t 120)) (u 46),
 ⟨(some 122), .faddr 3 (.t 12), some (121, false), (u 47), []⟩,
 ⟨(some 123), .load false 1 (.t 122), some (121, false), (u 48), []⟩,
 ⟨(some 124), .mv (.t 16), some (121, false), (u 47), []⟩,
 ⟨(some 125), .b2s (.t 124), some (121, false), (u 47 ++ [49]), []⟩,
 ⟨(some 126), .bin .neq (.t 123) (.t 125), some (121, false), (u 51), []⟩,
 oF 127 (.pick (.t 121) (.c (.bool true)) (.t 126)) (u 52),
 oF 128 (.mv (.t 127)) (u 53),
 ⟨(some 129), .faddr 4 (.t 12), some (128, false), (u 54), []⟩,
 ⟨(some 130), .load false 1 (.t 129), some (128, false), (u 55), []⟩,
 ⟨(some 131), .mv (.t 1), some (128, false), (u 54), []⟩,
 ⟨(some 132), .mv (.t 10), some (128, false), (u 54), []⟩,
 ⟨(some 133), .iaddr 2 (.t 131) (.t 132), some (128, false), (u 54 ++ [56, 57]), []⟩,
 ⟨(some 134), .faddr 1 (.t 133), some (128, false), (u 54 ++ [56, 57, 58]), []⟩,
 ⟨(some 135), .load false 1 (.t 134), some (128, false), (u 54 ++ [56, 57, 58, 59]), []⟩,
 ⟨(some 136), .bin .neq (.t 130) (.t 135), some (128, false), (u 61), []⟩,
 oF 137 (.pick (.t 128) (.c (.bool true)) (.t 136)) (u 62),
 oF 138 (.mv (.t 137)) (u 63),
 ⟨(some 139), .faddr 1 (.t 11), some (138, false), (u 64), []⟩,
 ⟨(some 140), .load false 1 (.t 139), some (138, false), (u 65), []⟩,
 ⟨(some 141), .mv (.t 10), some (138, false), (u 64), []⟩,
 ⟨(some 142), .bin .neq (.t 140) (.t 141), some (138, false), (u 67), []⟩,
 oF 143 (.pick (.t 138) (.c (.bool true)) (.t 142)) (u 68),
 oF 144 (.mv (.t 143)) (u 69),
 ⟨(some 145), .faddr 4 (.t 11), some (144, false), (u 70), []⟩,
 ⟨(some 146), .load false 1 (.t 145), some (144, false), (u 71), []⟩,
 ⟨(some 147), .mv (.t 2), some (144, false), (u 70), []⟩,
 ⟨(some 148), .eqb true (.t 146) (.t 147), some (144, false), (u 73), []⟩,
 oF 149 (.pick (.t 144) (.c (.bool true)) (.t 148)) (u 74),
 oF 150 (.mv (.t 149)) (u 75),
 ⟨(some 151), .faddr 0 (.t 11), some (150, false), (u 76), []⟩,
 ⟨(some 152), .load false 1 (.t 151), some (150, false), (u 77), []⟩,
 ⟨(some 153), .mv (.t 1), some (150, false), (u 76), []⟩,
 ⟨(some 154), k2 23 152 153, some (150, false), (u 79), []⟩,
 ⟨(some 155), .un .not (.t 154), some (150, false), (u 80), []⟩,
 oF 156 (.pick (.t 150) (.c (.bool true)) (.t 155)) (u 81)])
 (.cond (.t 156)
 (.seq
 (.region [] [oO 6 (.mv (.c (.bool false)))])
 .ret)
 .skip))
 (.region [1, 2, 3, 7, 9, 10, 11] [oL 157 5 11,
 oS 5 7 157]))))))
 (.region [1, 2, 3, 7, 9, 10] [oM 48 10,
 oO 49 (.bin .add (.t 48) (.c (.int .i64 1))),
 oM 10 49])))
/-- progeny/progenylaw15.CallThrough -/
def c4 : CFn := ⟨191, [.t 6],
 (.seq
 (.region [0, 1, 2] [oX 3 25 4 0,
 oO 6 (.mv (.c (.bool false)))])
 (.seq
 (.seq
 (.region [1, 2, 3] [oL 22 4 3,
 oM 23 1,
 oO 24 (k2 11 22 23),
 oN 25 24,
 oM 26 25,
 oG 27 (.load true 4 (.t 3)) 26 false,
 oG 28 (.mv (.t 1)) 26 false,
 oG 29 (.call (.c (.fn 19 [])) [(.t 27), (.t 28), (.c (.nils))] false) 26 false,
 oG 30 (.bin .neq (.t 29) (.c (.int .i64 0))) 26 false,
 oO 31 (.pick (.t 26) (.c (.bool true)) (.t 30))])
 (.cond (.t 31)
 (.seq
 (.region [] [oO 32 (k0 10),
 oM 6 32])
 .ret)
 .skip))
 (.seq
 (.region [1, 2, 3] [oL 34 4 3,
 oM 35 1,
 oO 36 (z2 12 34 35),
 oM 33 36,
 oE 37 33 0,
 oE 38 33 1,
 oO 7 (.box 35 5 (.c (.agg [.nils, .int .i64 0, .int .i64 0, .int .i64 0, .bool false]))),
 oS 5 7 37,
 oM 8 38])
 (.seq
 (.seq
 (.region [1, 2, 3, 7, 8] [oM 39 8,
 oO 40 (.bin .neq (.t 39) (.c (.int .i64 0)))])
 (.cond (.t 40)
 (.seq
 (.region [] [oO 6 (.mv (.c (.bool false)))])
 .ret)
 .skip))
 (.seq
 (.region [1, 2, 3, 7] [oO 41 (.build [.str ⟨#[]⟩, .nils, .str ⟨#[]⟩] [(0, 1, (.c (.str ⟨#[71, 78]⟩)))]),
 oO 9 (.box 31 3 (.c (.agg [.str ⟨#[]⟩, .nils, .str ⟨#[]⟩]))),
 oS 3 9 41])
 (.seq
 (.seq
 (.region [1, 2, 3, 7, 9] [oM 42 2])
 (.cond (.t 42)
 (.region [1, 2, 3, 7, 9] [oA 43 0 9,
 ⟨none, .store 1 (.t 43) (.c (.str ⟨#[71, 72, 78]⟩)), none, [], []⟩])
 .skip))
 (.seq
 (.seq
 (.region [1, 2, 3, 7, 9] [oO 10 (.mv (.c (.int .i64 0)))])
 (.block 0
 (.loop c4_l0)))
 (.seq
 (.region [1, 3, 7, 9] [oL 159 4 3,
 oL 160 5 7,
 oL 161 3 9,
 oO 162 (z3 20 159 160 161),
 oM 158 162,
 oE 163 158 0,
 oE 164 158 1,
 oE 165 158 2,
 oO 18 (.box 35 5 (.c (.agg [.nils, .int .i64 0, .int .i64 0, .int .i64 0, .bool false]))),
 oO 19 (.box 49 5 (.c (.agg [.str ⟨#[]⟩, .str ⟨#[]⟩, .int .i64 0, .str ⟨#[]⟩, .str ⟨#[]⟩]))),
 oS 5 18 163,
 oS 5 19 164,
 oM 8 165])
 (.seq
 (.region [1, 3, 8, 18, 19] [oL 167 4 3,
 oM 168 1,
 oO 169 (z2 12 167 168),
 oM 166 169,
 oE 170 166 0,
 oE 171 166 1,
 oO 20 (.box 35 5 (.c (.agg [.nils, .int .i64 0, .int .i64 0, .int .i64 0, .bool false]))),
 oS 5 20 170,
 oM 21 171])
 (.seq
 (.region [8, 18, 19, 20, 21] [oM 172 8,
 oO 173 (.bin .eql (.t 172) (.c (.int .i64 0))),
 oM 174 173,
 oG 175 (.mv (.t 21)) 174 true,
 oG 176 (.bin .eql (.t 175) (.c (.int .i64 0))) 174 true,
 oO 177 (.pick (.t 174) (.t 176) (.c (.bool false))),
 oM 178 177,
 oG 179 (.load true 5 (.t 19)) 178 true,
 oG 180 (.build [.str ⟨#[]⟩, .str ⟨#[]⟩, .int .i64 0, .str ⟨#[]⟩, .str ⟨#[]⟩] [(0, 1, (.c (.str ⟨#[71, 66]⟩)))]) 178 true,
 oG 181 (.eqs false [2, 2, 0, 2, 2] (.t 179) (.t 180)) 178 true,
 oO 182 (.pick (.t 178) (.t 181) (.c (.bool false))),
 oM 183 182,
 oG 184 (.load true 5 (.t 18)) 183 true,
 oG 185 (.load true 5 (.t 20)) 183 true,
 oG 186 (k2 16 184 185) 183 true,
 oO 187 (.pick (.t 183) (.t 186) (.c (.bool false))),
 oM 188 187,
 oG 189 (k0 10) 188 true,
 oO 190 (.pick (.t 188) (.t 189) (.c (.bool false))),
 oM 6 190])
 .ret)))))))))), false, false⟩
/-- progeny/progenylaw15.First -/
def c10 : CFn := ⟨74, [.t 0],
 (.seq
 (.region [] [oO 0 (.mv (.c (.bool false)))])
 (.seq
 (.region [] [oO 6 (.call (.c (.fn 39 [])) [] true),
 oO 1 (.box 25 4 (.c (.agg [.str ⟨#[]⟩, .int .i64 0, .nils, .nils]))),
 oS 4 1 6])
 (.seq
 (.draw [1] [oa 8 (.load true 4 (.t 1)) [] [7],
 oa 9 (.qcall (.c (.fn 40 [])) []) [] [7],
 oa 10 (.qcall (.c (.fn 12 [])) [(.t 8), (.t 9)]) [0, 1] [7],
 oF 7 (.mv (.t 10)) [0, 1, 2],
 oF 11 (.extract (.t 7) 0) (u 4),
 oF 12 (.extract (.t 7) 1) (u 4),
 oO 2 (.box 35 5 (.c (.agg [.nils, .int .i64 0, .int .i64 0, .int .i64 0, .bool false]))),
 ⟨none, .store 5 (.t 2) (.t 11), none, (u 5 ++ [6]), []⟩,
 oF 3 (.mv (.t 12)) (u 8)])
 (.seq
 (.seq
 (.region [1, 2, 3] [oM 13 3,
 oO 14 (.bin .neq (.t 13) (.c (.int .i64 0)))])
 (.cond (.t 14)
 (.seq
 (.region [] [oO 0 (.mv (.c (.bool false)))])
 .ret)
 .skip))
 (.seq
 (.region [1, 2] [oL 16 4 1,
 oL 17 5 2,
 oO 18 (.build [.str ⟨#[]⟩, .str ⟨#[]⟩, .nils] [(0, 1, (.c (.str ⟨#[67, 85, 83, 84]⟩)))]),
 oO 19 (.build [.str ⟨#[]⟩, .int .i64 0, .str ⟨#[]⟩] [(0, 1, (.c (.str ⟨#[79, 82, 68, 78, 79]⟩))), (1, 1, (.c (.int .i64 1))), (2, 1, (.c (.str ⟨#[55]⟩)))]),
 oO 20 (.bslice 84 3 [[.str ⟨#[]⟩, .int .i64 0, .str ⟨#[]⟩]] [(0, (.t 19))]),
 oO 21 (.bslice 85 1 [[.nils]] [(0, (.t 20))]),
 oO 22 (.build [.str ⟨#[]⟩, .str ⟨#[]⟩, .nils] [(0, 1, (.c (.str ⟨#[79, 82, 68, 69, 82]⟩))), (2, 1, (.t 21))]),
 oO 23 (.bslice 82 3 [[.str ⟨#[]⟩, .str ⟨#[]⟩, .nils], [.str ⟨#[]⟩, .str ⟨#[]⟩, .nils]] [(0, (.t 18)), (1, (.t 22))]),
 oO 24 (.build [.str ⟨#[]⟩, .nils, .str ⟨#[]⟩] [(0, 1, (.c (.str ⟨#[71, 85]⟩))), (1, 1, (.t 23))]),
 oO 25 (.build [.str ⟨#[]⟩, .nils, .str ⟨#[]⟩] [(0, 1, (.c (.str ⟨#[71, 78, 80]⟩)))]),
 oO 26 (.build [.str ⟨#[]⟩, .nils, .str ⟨#[]⟩] [(0, 1, (.c (.str ⟨#[71, 78]⟩)))]),
 oO 27 (.bslice 31 3 [[.str ⟨#[]⟩, .nils, .str ⟨#[]⟩], [.str ⟨#[]⟩, .nils, .str ⟨#[]⟩], [.str ⟨#[]⟩, .nils, .str ⟨#[]⟩]] [(0, (.t 24)), (1, (.t 25)), (2, (.t 26))]),
 oO 28 (z3 14 16 17 27),
 oM 15 28,
 oE 29 15 0,
 oE 30 15 1,
 oE 31 15 2,
 oO 4 (.box 35 5 (.c (.agg [.nils, .int .i64 0, .int .i64 0, .int .i64 0, .bool false]))),
 oS 5 4 29,
 oM 5 30,
 oM 3 31])
 (.seq
 (.region [3, 5] [oM 32 3,
 oO 33 (.bin .eql (.t 32) (.c (.int .i64 0))),
 oM 34 33,
 oG 35 (.mv (.t 5)) 34 true,
 oG 36 (.len false (.t 35)) 34 true,
 oG 37 (.bin .eql (.t 36) (.c (.int .i64 3))) 34 true,
 oO 38 (.pick (.t 34) (.t 37) (.c (.bool false))),
 oM 39 38,
 oG 40 (.mv (.t 5)) 39 true,
 oG 41 (.iaddr 5 (.t 40) (.c (.int .i64 0))) 39 true,
 oG 42 (.faddr 4 (.t 41)) 39 true,
 oG 43 (.load false 1 (.t 42)) 39 true,
 oG 44 (.bin .eql (.t 43) (.c (.str ⟨#[55]⟩))) 39 true,
 oO 45 (.pick (.t 39) (.t 44) (.c (.bool false))),
 oM 46 45,
 oG 47 (.mv (.t 5)) 46 true,
 oG 48 (.iaddr 5 (.t 47) (.c (.int .i64 0))) 46 true,
 oG 49 (.faddr 2 (.t 48)) 46 true,
 oG 50 (.load false 1 (.t 49)) 46 true,
 oG 51 (.bin .eql (.t 50) (.c (.int .i64 2))) 46 true,
 oO 52 (.pick (.t 46) (.t 51) (.c (.bool false))),
 oM 53 52,
 oG 54 (.mv (.t 5)) 53 true,
 oG 55 (.iaddr 5 (.t 54) (.c (.int .i64 1))) 53 true,
 oG 56 (.faddr 0 (.t 55)) 53 true,
 oG 57 (.load false 1 (.t 56)) 53 true,
 oG 58 (.bin .eql (.t 57) (.c (.str ⟨#[71, 69]⟩))) 53 true,
 oO 59 (.pick (.t 53) (.t 58) (.c (.bool false))),
 oM 60 59,
 oG 61 (.mv (.t 5)) 60 true,
 oG 62 (.iaddr 5 (.t 61) (.c (.int .i64 2))) 60 true,
 oG 63 (.faddr 0 (.t 62)) 60 true,
 oG 64 (.load false 1 (.t 63)) 60 true,
 oG 65 (.bin .eql (.t 64) (.c (.str ⟨#[71, 75]⟩))) 60 true,
 oO 66 (.pick (.t 60) (.t 65) (.c (.bool false))),
 oM 67 66,
 oG 68 (.mv (.t 5)) 67 true,
 oG 69 (.iaddr 5 (.t 68) (.c (.int .i64 2))) 67 true,
 oG 70 (.faddr 4 (.t 69)) 67 true,
 oG 71 (.load false 1 (.t 70)) 67 true,
 oG 72 (.bin .eql (.t 71) (.c (.str ⟨#[112]⟩))) 67 true,
 oO 73 (.pick (.t 67) (.t 72) (.c (.bool false))),
 oM 0 73])
 .ret)))))), false, true⟩
def c11_l0 : CC :=
 (.seq
 (.seq
 (.region [1, 2, 5] [oM 7 5,
 oA 8 2 2,
 ol 9 1 8,
 oO 10 (.len false (.t 9)),
 oB 11 .lss 7 10])
 (.cond (.t 11)
 .skip
 (.exit 0)))
 (.seq
 (.block 1
 (.seq
 (.region [1, 2, 5] [oA 14 2 2,
 ol 15 1 14,
 oM 16 5,
 oI 17 8 15 16,
 oA 18 4 17,
 ol 19 1 18,
 oO 20 (.len false (.t 19)),
 oO 21 (.bin .gtr (.t 20) (.c (.int .i64 10)))])
 (.cond (.t 21)
 (.seq
 (.region [] [oO 4 (.mv (.c (.bool false)))])
 .ret)
 .skip)))
 (.region [1, 2, 5] [oM 12 5,
 oO 13 (.bin .add (.t 12) (.c (.int .i64 1))),
 oM 5 13])))
def c11_l1 : CC :=
 (.seq
 (.seq
 (.region [1, 2, 6] [oM 22 6,
 oM 23 1,
 oO 24 (.len false (.t 23)),
 oB 25 .lss 22 24])
 (.cond (.t 25)
 .skip
 (.exit 2)))
 (.seq
 (.block 3
 (.seq
 (.region [1, 2, 6] [oM 28 1,
 oM 29 6,
 oI 30 2 28 29,
 oA 31 1 30,
 ol 32 1 31,
 oO 33 (.len true (.t 32)),
 oO 34 (.bin .gtr (.t 33) (.c (.int .i64 100)))])
 (.cond (.t 34)
 (.seq
 (.region [] [oO 4 (.mv (.c (.bool false)))])
 .ret)
 .skip)))
 (.region [1, 2, 6] [oM 26 6,
 oO 27 (.bin .add (.t 26) (.c (.int .i64 1))),
 oM 6 27])))
/-- progeny/progenylaw13.Small -/
def c11 : CFn := ⟨50, [.t 4],
 (.seq
 (.region [0, 1] [oX 2 25 4 0,
 oO 4 (.mv (.c (.bool false)))])
 (.seq
 (.seq
 (.region [1, 2] [oO 5 (.mv (.c (.int .i64 0)))])
 (.block 0
 (.loop c11_l0)))
 (.seq
 (.seq
 (.region [1, 2] [oO 6 (.mv (.c (.int .i64 0)))])
 (.block 2
 (.loop c11_l1)))
 (.seq
 (.region [1, 2] [oA 35 2 2,
 ol 36 1 35,
 oO 37 (.len false (.t 36)),
 oO 38 (.bin .leq (.t 37) (.c (.int .i64 12))),
 oM 39 38,
 oG 40 (.faddr 3 (.t 2)) 39 true,
 oG 41 (.load false 1 (.t 40)) 39 true,
 oG 42 (.len false (.t 41)) 39 true,
 oG 43 (.bin .leq (.t 42) (.c (.int .i64 6))) 39 true,
 oO 44 (.pick (.t 39) (.t 43) (.c (.bool false))),
 oM 45 44,
 oG 46 (.mv (.t 1)) 45 true,
 oG 47 (.len false (.t 46)) 45 true,
 oG 48 (.bin .leq (.t 47) (.c (.int .i64 60))) 45 true,
 oO 49 (.pick (.t 45) (.t 48) (.c (.bool false))),
 oM 4 49])
 .ret)))), false, false⟩
/-- progeny/call.First -/
def c12 : CFn := ⟨25, [.cell 4 true 5, .t 5],
 (.seq
 (.region [0, 1] [oX 2 25 4 0,
 oO 4 (.box 35 5 (.c (.agg [.nils, .int .i64 0, .int .i64 0, .int .i64 0, .bool false]))),
 oO 5 (.mv (.c (.int .i64 0)))])
 (.seq
 (.region [1, 2, 4] [oL 9 4 2,
 oM 10 1,
 oO 11 (k2 41 9 10),
 oM 8 11,
 oE 12 8 0,
 oE 13 8 1,
 oM 6 12,
 oM 7 13])
 (.seq
 (.block 0
 (.seq
 (.region [1, 4, 6, 7] [oM 15 7,
 oO 16 (.bin .neq (.t 15) (.c (.int .i64 0))),
 oM 14 16])
 (.cond (.t 14)
 (.seq
 (.region [4, 7] [oO 17 (.build [.nils, .int .i64 0, .int .i64 0, .int .i64 0, .bool false] []),
 oM 18 7,
 oS 5 4 17,
 oM 5 18])
 .ret)
 (.seq
 (.region [1, 4, 6] [oM 20 6,
 oN 21 20,
 oM 19 21])
 (.cond (.t 19)
 (.seq
 (.region [4] [oO 22 (.build [.nils, .int .i64 0, .int .i64 0, .int .i64 0, .bool false] []),
 oS 5 4 22,
 oO 5 (.mv (.c (.int .i64 140)))])
 .ret)
 .skip)))))
 (.seq
 (.region [1, 4] [oM 23 1,
 oO 24 (z1 42 23),
 oS 5 4 24,
 oO 5 (.mv (.c (.int .i64 0)))])
 .ret)))), false, false⟩
def c14_l0 : CC :=
 (.seq
 (.region [3, 4, 6, 11, 34, 35, 36] [oB 37 .lss 36 35])
 (.seq
 (.cond (.t 37)
 .skip
 (.exit 1))
 (.seq
 (.block 2
 (.seq
 (.region [3, 4, 6, 11, 34, 35, 36] [oI 38 3 34 36,
 oL 39 3 38,
 oO 13 (.box 31 3 (.c (.agg [.str ⟨#[]⟩, .nils, .str ⟨#[]⟩]))),
 oS 3 13 39])
 (.seq
 (.region [3, 4, 6, 11, 13, 34, 35, 36] [oO 14 (.box 49 5 (.c (.agg [.str ⟨#[]⟩, .str ⟨#[]⟩, .int .i64 0, .str ⟨#[]⟩, .str ⟨#[]⟩])))])
 (.seq
 (.region [3, 4, 6, 11, 13, 14, 34, 35, 36] [oL 41 4 3,
 oL 42 5 4,
 oL 43 3 13,
 oO 44 (k3 46 41 42 43),
 oM 40 44,
 oE 45 40 0,
 oE 46 40 1,
 oS 5 4 45,
 oS 5 14 46])
 (.region [3, 4, 6, 11, 14, 34, 35, 36] [oM 47 11,
 oL 48 5 14,
 oO 49 (.bslice 49 5 [[.str ⟨#[]⟩, .str ⟨#[]⟩, .int .i64 0, .str ⟨#[]⟩, .str ⟨#[]⟩]] [(0, (.t 48))]),
 oO 50 (.app 49 5 72 false (.t 47) (.t 49)),
 oM 11 50])))))
 (.region [3, 4, 6, 11, 34, 35, 36] [oO 51 (.bin .add (.t 36) (.c (.int .i64 1))),
 oM 36 51]))))
/-- progeny/call.All -/
def c14 : CFn := ⟨54, [.cell 6 true 5, .t 7, .t 8],
 (.seq
 (.region [0, 1, 2] [oX 3 25 4 0,
 oX 4 35 5 1,
 oO 6 (.box 35 5 (.c (.agg [.nils, .int .i64 0, .int .i64 0, .int .i64 0, .bool false]))),
 oO 7 (.mv (.c (.nils))),
 oO 8 (.mv (.c (.int .i64 0)))])
 (.seq
 (.region [2, 3, 4, 6] [oL 16 4 3,
 oL 17 5 4,
 oO 18 (k2 18 16 17),
 oM 15 18,
 oE 19 15 0,
 oE 20 15 1,
 oM 9 19,
 oM 10 20])
 (.seq
 (.block 0
 (.seq
 (.region [2, 3, 4, 6, 9, 10] [oM 22 10,
 oO 23 (.bin .neq (.t 22) (.c (.int .i64 0))),
 oM 21 23])
 (.cond (.t 21)
 (.seq
 (.region [6, 10] [oO 24 (.build [.nils, .int .i64 0, .int .i64 0, .int .i64 0, .bool false] []),
 oM 25 10,
 oS 5 6 24,
 oO 7 (.mv (.c (.nils))),
 oM 8 25])
 .ret)
 (.seq
 (.region [2, 3, 4, 6, 9] [oM 27 9,
 oN 28 27,
 oM 26 28])
 (.cond (.t 26)
 (.seq
 (.region [6] [oO 29 (.build [.nils, .int .i64 0, .int .i64 0, .int .i64 0, .bool false] []),
 oS 5 6 29,
 oO 7 (.mv (.c (.nils))),
 oO 8 (.mv (.c (.int .i64 140)))])
 .ret)
 .skip)))))
 (.seq
 (.region [2, 3, 4, 6] [oA 30 0 4,
 ol 31 1 30,
 oO 32 (z1 45 31),
 oA 33 0 4,
 oS 1 33 32])
 (.seq
 (.region [2, 3, 4, 6] [oO 11 (.mv (.c (.nils)))])
 (.seq
 (.seq
 (.region [2, 3, 4, 6, 11] [oM 34 2,
 oO 35 (.len false (.t 34)),
 oO 36 (.mv (.c (.int .i64 0)))])
 (.block 1
 (.loop c14_l0)))
 (.seq
 (.region [4, 6, 11] [oL 52 5 4,
 oM 53 11,
 oS 5 6 52,
 oM 7 53,
 oO 8 (.mv (.c (.int .i64 0)))])
 .ret))))))), false, false⟩
/-- progeny/progenyref15.Same -/
def c16 : CFn := ⟨38, [.t 4],
 (.seq
 (.region [0, 1] [oX 2 35 5 0,
 oX 3 35 5 1,
 oO 4 (.mv (.c (.bool false)))])
 (.seq
 (.region [2, 3] [oA 5 0 2,
 ol 6 1 5,
 oA 7 0 3,
 ol 8 1 7,
 oO 9 (k2 23 6 8),
 oM 10 9,
 oG 11 (.faddr 1 (.t 2)) 10 true,
 oG 12 (.load false 1 (.t 11)) 10 true,
 oG 13 (.faddr 1 (.t 3)) 10 true,
 oG 14 (.load false 1 (.t 13)) 10 true,
 oG 15 (.bin .eql (.t 12) (.t 14)) 10 true,
 oO 16 (.pick (.t 10) (.t 15) (.c (.bool false))),
 oM 17 16,
 oG 18 (.faddr 2 (.t 2)) 17 true,
 oG 19 (.load false 1 (.t 18)) 17 true,
 oG 20 (.faddr 2 (.t 3)) 17 true,
 oG 21 (.load false 1 (.t 20)) 17 true,
 oG 22 (.bin .eql (.t 19) (.t 21)) 17 true,
 oO 23 (.pick (.t 17) (.t 22) (.c (.bool false))),
 oM 24 23,
 oG 25 (.faddr 3 (.t 2)) 24 true,
 oG 26 (.load false 1 (.t 25)) 24 true,
 oG 27 (.faddr 3 (.t 3)) 24 true,
 oG 28 (.load false 1 (.t 27)) 24 true,
 oG 29 (.bin .eql (.t 26) (.t 28)) 24 true,
 oO 30 (.pick (.t 24) (.t 29) (.c (.bool false))),
 oM 31 30,
 oG 32 (.faddr 4 (.t 2)) 31 true,
 oG 33 (.load false 1 (.t 32)) 31 true,
 oG 34 (.faddr 4 (.t 3)) 31 true,
 oG 35 (.load false 1 (.t 34)) 31 true,
 oG 36 (.eqb false (.t 33) (.t 35)) 31 true,
 oO 37 (.pick (.t 31) (.t 36) (.c (.bool false))),
 oM 4 37])
 .ret)), false, false⟩
/-- progeny/call.Right -/
def c18 : CFn := ⟨25, [.t 4, .t 5],
 (.seq
 (.region [0, 1] [oX 2 25 4 0,
 oX 3 35 5 1,
 oO 4 (.mv (.c (.bool false))),
 oO 5 (.mv (.c (.int .i64 0)))])
 (.seq
 (.region [2, 3] [oL 9 4 2,
 oA 10 0 3,
 ol 11 1 10,
 oO 12 (k2 41 9 11),
 oM 8 12,
 oE 13 8 0,
 oE 14 8 1,
 oM 6 13,
 oM 7 14])
 (.seq
 (.region [3, 6, 7] [oM 15 7,
 oO 16 (.bin .eql (.t 15) (.c (.int .i64 0))),
 oM 17 16,
 oG 18 (.mv (.t 6)) 17 true,
 oO 19 (.pick (.t 17) (.t 18) (.c (.bool false))),
 oM 20 19,
 oG 21 (.load true 5 (.t 3)) 20 true,
 oG 22 (k1 48 21) 20 true,
 oO 23 (.pick (.t 20) (.t 22) (.c (.bool false))),
 oM 24 7,
 oM 4 23,
 oM 5 24])
 .ret))), false, false⟩
def c19_l0 : CC :=
 (.seq
 (.seq
 (.region [1, 2, 7] [oM 17 7,
 oM 18 2,
 oO 19 (.len false (.t 18)),
 oB 20 .lss 17 19])
 (.cond (.t 20)
 .skip
 (.exit 1)))
 (.seq
 (.block 2
 (.seq
 (.region [1, 2, 7] [oM 23 2,
 oM 24 7,
 oI 25 1 23 24,
 ol 26 1 25,
 oO 27 (.bin .lss (.t 26) (.c (.int .i64 0))),
 oM 28 27,
 oG 29 (.mv (.t 2)) 28 false,
 oG 30 (.mv (.t 7)) 28 false,
 oG 31 (.iaddr 1 (.t 29) (.t 30)) 28 false,
 oG 32 (.load false 1 (.t 31)) 28 false,
 oG 33 (.mv (.t 1)) 28 false,
 oG 34 (.len false (.t 33)) 28 false,
 oG 35 (.bin .geq (.t 32) (.t 34)) 28 false,
 oO 36 (.pick (.t 28) (.c (.bool true)) (.t 35))])
 (.cond (.t 36)
 (.seq
 (.region [] [oO 6 (.mv (.c (.int .i64 2)))])
 .ret)
 .skip)))
 (.region [1, 2, 7] [oM 21 7,
 oO 22 (.bin .add (.t 21) (.c (.int .i64 1))),
 oM 7 22])))
/-- progeny/progenyref13.Asked -/
def c19 : CFn := ⟨37, [.t 6],
 (.seq
 (.region [0, 1, 2] [oX 3 25 4 0,
 oO 6 (.mv (.c (.int .i64 0)))])
 (.seq
 (.block 0
 (.seq
 (.region [1, 2, 3] [oL 9 4 3,
 oO 10 (k1 43 9),
 oN 11 10,
 oM 8 11])
 (.cond (.t 8)
 (.seq
 (.region [] [oO 6 (.mv (.c (.int .i64 100)))])
 .ret)
 (.seq
 (.region [1, 2, 3] [oL 13 4 3,
 oM 14 1,
 oO 15 (k2 49 13 14),
 oN 16 15,
 oM 12 16])
 (.cond (.t 12)
 (.seq
 (.region [] [oO 6 (.mv (.c (.int .i64 120)))])
 .ret)
 .skip)))))
 (.seq
 (.seq
 (.region [1, 2] [oO 7 (.mv (.c (.int .i64 0)))])
 (.block 1
 (.loop c19_l0)))
 (.seq
 (.region [] [oO 6 (.mv (.c (.int .i64 0)))])
 .ret)))), false, false⟩
/-- progeny/call.Do -/
def c20 : CFn := ⟨38, [.cell 6 true 5, .cell 7 true 5, .t 8],
 (.seq
 (.region [0, 1, 2] [oX 3 25 4 0,
 oX 4 35 5 1,
 oX 5 31 3 2,
 oO 6 (.box 35 5 (.c (.agg [.nils, .int .i64 0, .int .i64 0, .int .i64 0, .bool false]))),
 oO 7 (.box 49 5 (.c (.agg [.str ⟨#[]⟩, .str ⟨#[]⟩, .int .i64 0, .str ⟨#[]⟩, .str ⟨#[]⟩]))),
 oO 8 (.mv (.c (.int .i64 0)))])
 (.seq
 (.region [3, 4, 5, 6, 7] [oL 13 4 3,
 oL 14 5 4,
 oO 15 (k2 18 13 14),
 oM 12 15,
 oE 16 12 0,
 oE 17 12 1,
 oM 9 16,
 oM 10 17])
 (.seq
 (.block 0
 (.seq
 (.region [3, 4, 5, 6, 7, 9, 10] [oM 19 10,
 oO 20 (.bin .neq (.t 19) (.c (.int .i64 0))),
 oM 18 20])
 (.cond (.t 18)
 (.seq
 (.region [6, 7, 10] [oO 21 (.build [.nils, .int .i64 0, .int .i64 0, .int .i64 0, .bool false] []),
 oO 22 (.build [.str ⟨#[]⟩, .str ⟨#[]⟩, .int .i64 0, .str ⟨#[]⟩, .str ⟨#[]⟩] []),
 oM 23 10,
 oS 5 6 21,
 oS 5 7 22,
 oM 8 23])
 .ret)
 (.seq
 (.region [3, 4, 5, 6, 7, 9] [oM 25 9,
 oN 26 25,
 oM 24 26])
 (.cond (.t 24)
 (.seq
 (.region [6, 7] [oO 27 (.build [.nils, .int .i64 0, .int .i64 0, .int .i64 0, .bool false] []),
 oO 28 (.build [.str ⟨#[]⟩, .str ⟨#[]⟩, .int .i64 0, .str ⟨#[]⟩, .str ⟨#[]⟩] []),
 oS 5 6 27,
 oS 5 7 28,
 oO 8 (.mv (.c (.int .i64 140)))])
 .ret)
 .skip)))))
 (.seq
 (.region [3, 4, 5, 6, 7] [oL 30 4 3,
 oL 31 5 4,
 oL 32 3 5,
 oO 33 (k3 46 30 31 32),
 oM 29 33,
 oE 34 29 0,
 oE 35 29 1,
 oO 11 (.box 49 5 (.c (.agg [.str ⟨#[]⟩, .str ⟨#[]⟩, .int .i64 0, .str ⟨#[]⟩, .str ⟨#[]⟩]))),
 oS 5 4 34,
 oS 5 11 35])
 (.seq
 (.draw [4, 6, 7, 11] [oL 36 5 4,
 oa 37 (.load true 5 (.t 11)) [] [3],
 ⟨none, .store 5 (.t 6) (.t 36), none, [0], []⟩,
 ⟨none, .store 5 (.t 7) (.t 37), none, [0, 1, 2], []⟩,
 oF 8 (.mv (.c (.int .i64 0))) (u 4)])
 .ret))))), false, false⟩
/-- progeny/progenyref11.Depth -/
def c21 : CFn := ⟨17, [.t 4, .t 5],
 (.seq
 (.region [0, 1] [oX 2 25 4 0,
 oO 4 (.mv (.c (.int .i64 0))),
 oO 5 (.mv (.c (.int .i64 0)))])
 (.seq
 (.region [1, 2] [oL 9 4 2,
 oM 10 1,
 oO 11 (z2 50 9 10),
 oM 8 11,
 oE 12 8 0,
 oE 13 8 1,
 oM 6 12,
 oM 7 13])
 (.seq
 (.region [6, 7] [oM 14 6,
 oO 15 (.len false (.t 14)),
 oM 16 7,
 oM 4 15,
 oM 5 16])
 .ret))), false, false⟩
/-- progeny/progenyref13.FullKey -/
def c22 : CFn := ⟨21, [.t 6, .t 7],
 (.seq
 (.region [0, 1, 2] [oX 3 25 4 0,
 oO 6 (.mv (.c (.nils))),
 oO 7 (.mv (.c (.int .i64 0)))])
 (.seq
 (.seq
 (.region [1, 2, 3] [oL 9 4 3,
 oM 10 1,
 oM 11 2,
 oO 12 (.bslice 3 1 [[.int .i64 0]] [(0, (.t 11))]),
 oO 13 (k3 19 9 10 12),
 oM 8 13])
 (.seq
 (.region [1, 2, 3, 8] [oM 14 8,
 oO 15 (.bin .neq (.t 14) (.c (.int .i64 0)))])
 (.cond (.t 15)
 (.seq
 (.region [8] [oM 16 8,
 oO 6 (.mv (.c (.nils))),
 oM 7 16])
 .ret)
 .skip)))
 (.seq
 (.region [1, 2, 3] [oL 17 4 3,
 oM 18 1,
 oM 19 2,
 oO 20 (z3 51 17 18 19),
 oM 6 20,
 oO 7 (.mv (.c (.int .i64 0)))])
 .ret))), false, false⟩
def c23_l0 : CC :=
 (.seq
 (.seq
 (.region [0, 1, 5] [oM 11 5,
 oM 12 0,
 oO 13 (.len false (.t 12)),
 oB 14 .lss 11 13])
 (.cond (.t 14)
 .skip
 (.exit 0)))
 (.seq
 (.block 1
 (.seq
 (.draw [0, 1, 5] [oM 17 0,
 oM 18 5,
 oF 19 (.iaddr 2 (.t 17) (.t 18)) [0, 1],
 oF 20 (.load true 2 (.t 19)) [0, 1, 2],
 oM 21 1,
 oM 22 5,
 oF 23 (.iaddr 2 (.t 21) (.t 22)) [4, 5],
 oF 24 (.load true 2 (.t 23)) [4, 5, 6],
 oF 25 (.eqs true [0, 2] (.t 20) (.t 24)) (u 8)])
 (.cond (.t 25)
 (.seq
 (.region [] [oO 4 (.mv (.c (.bool false)))])
 .ret)
 .skip)))
 (.region [0, 1, 5] [oM 15 5,
 oO 16 (.bin .add (.t 15) (.c (.int .i64 1))),
 oM 5 16])))
/-- progeny/progenyref13.Same -/
def c23 : CFn := ⟨26, [.t 4],
 (.seq
 (.region [0, 1] [oO 4 (.mv (.c (.bool false)))])
 (.seq
 (.seq
 (.region [0, 1] [oM 6 0,
 oO 7 (.len false (.t 6)),
 oM 8 1,
 oO 9 (.len false (.t 8)),
 oB 10 .neq 7 9])
 (.cond (.t 10)
 (.seq
 (.region [] [oO 4 (.mv (.c (.bool false)))])
 .ret)
 .skip))
 (.seq
 (.seq
 (.region [0, 1] [oO 5 (.mv (.c (.int .i64 0)))])
 (.block 0
 (.loop c23_l0)))
 (.seq
 (.region [] [oO 4 (.mv (.c (.bool true)))])
 .ret)))), false, false⟩
/-- progeny/progenylaw13.Shop -/
def c39 : CFn := ⟨11, [.cell 0 true 4],
 (.seq
 (.region [] [oO 0 (.box 25 4 (.c (.agg [.str ⟨#[]⟩, .int .i64 0, .nils, .nils])))])
 (.seq
 (.region [0] [oO 1 (.build [.str ⟨#[]⟩, .int .i64 0, .int .i64 0] [(0, 1, (.c (.str ⟨#[67, 85, 83, 84, 78, 79]⟩))), (2, 1, (.c (.int .i64 1)))]),
 oO 2 (.bslice 120 3 [[.str ⟨#[]⟩, .int .i64 0, .int .i64 0]] [(0, (.t 1))]),
 oO 3 (.build [.str ⟨#[]⟩, .int .i64 0, .int .i64 0, .int .i64 0, .nils, .int .i64 0, .bool false, .bool false] [(0, 1, (.c (.str ⟨#[67, 85, 83, 84]⟩))), (1, 1, (.c (.int .i64 (-1)))), (2, 1, (.c (.int .i64 1))), (3, 1, (.c (.int .i64 10))), (4, 1, (.t 2)), (6, 1, (.c (.bool true)))]),
 oO 4 (.build [.str ⟨#[]⟩, .int .i64 0, .int .i64 0] [(0, 1, (.c (.str ⟨#[79, 82, 68, 78, 79]⟩))), (2, 1, (.c (.int .i64 1)))]),
 oO 5 (.bslice 120 3 [[.str ⟨#[]⟩, .int .i64 0, .int .i64 0]] [(0, (.t 4))]),
 oO 6 (.build [.str ⟨#[]⟩, .int .i64 0, .int .i64 0, .int .i64 0, .nils, .int .i64 0, .bool false, .bool false] [(0, 1, (.c (.str ⟨#[79, 82, 68, 69, 82]⟩))), (1, 1, (.c (.int .i64 0))), (2, 1, (.c (.int .i64 1))), (3, 1, (.c (.int .i64 12))), (4, 1, (.t 5)), (6, 1, (.c (.bool true)))]),
 oO 7 (.build [.str ⟨#[]⟩, .int .i64 0, .int .i64 0, .int .i64 0, .nils, .int .i64 0, .bool false, .bool false] [(0, 1, (.c (.str ⟨#[73, 84, 69, 77]⟩))), (1, 1, (.c (.int .i64 1))), (2, 1, (.c (.int .i64 1))), (3, 1, (.c (.int .i64 8))), (5, 1, (.c (.int .i64 (-1)))), (7, 1, (.c (.bool true)))]),
 oO 8 (.build [.str ⟨#[]⟩, .int .i64 0, .int .i64 0, .int .i64 0, .nils, .int .i64 0, .bool false, .bool false] [(0, 1, (.c (.str ⟨#[80, 72, 79, 78, 69]⟩))), (1, 1, (.c (.int .i64 0))), (2, 1, (.c (.int .i64 1))), (3, 1, (.c (.int .i64 8))), (5, 1, (.c (.int .i64 (-1))))]),
 oO 9 (.bslice 61 8 [[.str ⟨#[]⟩, .int .i64 0, .int .i64 0, .int .i64 0, .nils, .int .i64 0, .bool false, .bool false], [.str ⟨#[]⟩, .int .i64 0, .int .i64 0, .int .i64 0, .nils, .int .i64 0, .bool false, .bool false], [.str ⟨#[]⟩, .int .i64 0, .int .i64 0, .int .i64 0, .nils, .int .i64 0, .bool false, .bool false], [.str ⟨#[]⟩, .int .i64 0, .int .i64 0, .int .i64 0, .nils, .int .i64 0, .bool false, .bool false]] [(0, (.t 3)), (1, (.t 6)), (2, (.t 7)), (3, (.t 8))]),
 oO 10 (.build [.str ⟨#[]⟩, .int .i64 0, .nils, .nils] [(0, 1, (.c (.str ⟨#[83, 72, 79, 80]⟩))), (1, 1, (.c (.int .i64 4))), (2, 1, (.t 9))]),
 oS 4 0 10])
 .ret)), false, false⟩
/-- progeny/progenylaw13.Forest -/
def c40 : CFn := ⟨8, [.t 0],
 (.seq
 (.region [] [oO 0 (.mv (.c (.nils)))])
 (.seq
 (.region [] [oO 1 (.build [.int .i64 0, .str ⟨#[]⟩] [(0, 1, (.c (.int .i64 0))), (1, 1, (.c (.str ⟨#[49]⟩)))]),
 oO 2 (.build [.int .i64 0, .str ⟨#[]⟩] [(0, 1, (.c (.int .i64 1))), (1, 1, (.c (.str ⟨#[53]⟩)))]),
 oO 3 (.build [.int .i64 0, .str ⟨#[]⟩] [(0, 1, (.c (.int .i64 2))), (1, 1, (.c (.str ⟨#[120]⟩)))]),
 oO 4 (.build [.int .i64 0, .str ⟨#[]⟩] [(0, 1, (.c (.int .i64 1))), (1, 1, (.c (.str ⟨#[55]⟩)))]),
 oO 5 (.build [.int .i64 0, .str ⟨#[]⟩] [(0, 1, (.c (.int .i64 3))), (1, 1, (.c (.str ⟨#[112]⟩)))]),
 oO 6 (.build [.int .i64 0, .str ⟨#[]⟩] [(0, 1, (.c (.int .i64 0))), (1, 1, (.c (.str ⟨#[50]⟩)))]),
 oO 7 (.bslice 55 2 [[.int .i64 0, .str ⟨#[]⟩], [.int .i64 0, .str ⟨#[]⟩], [.int .i64 0, .str ⟨#[]⟩], [.int .i64 0, .str ⟨#[]⟩], [.int .i64 0, .str ⟨#[]⟩], [.int .i64 0, .str ⟨#[]⟩]] [(0, (.t 1)), (1, (.t 2)), (2, (.t 3)), (3, (.t 4)), (4, (.t 5)), (5, (.t 6))]),
 oM 0 7])
 .ret)), false, false⟩
/-- progeny/plain.Valid -/
def c41 : CFn := ⟨12, [.t 4, .t 5],
 (.seq
 (.region [0, 1] [oX 2 25 4 0,
 oO 4 (.mv (.c (.bool false))),
 oO 5 (.mv (.c (.int .i64 0)))])
 (.seq
 (.seq
 (.region [1, 2] [oL 6 4 2,
 oO 7 (k1 75 6),
 oN 8 7])
 (.cond (.t 8)
 (.seq
 (.region [] [oO 4 (.mv (.c (.bool false))),
 oO 5 (.mv (.c (.int .i64 100)))])
 .ret)
 .skip))
 (.seq
 (.region [1, 2] [oL 9 4 2,
 oM 10 1,
 oO 11 (k2 76 9 10),
 oM 4 11,
 oO 5 (.mv (.c (.int .i64 0)))])
 .ret))), false, false⟩
/-- progeny/call.start -/
def c42 : CFn := ⟨6, [.cell 2 true 5],
 (.seq
 (.region [0] [oO 2 (.box 35 5 (.c (.agg [.nils, .int .i64 0, .int .i64 0, .int .i64 0, .bool false])))])
 (.seq
 (.region [0, 2] [oM 3 0,
 oO 4 (z1 45 3),
 oO 5 (.build [.nils, .int .i64 0, .int .i64 0, .int .i64 0, .bool false] [(0, 1, (.t 4)), (1, 1, (.c (.int .i64 (-1)))), (3, 1, (.c (.int .i64 (-1))))]),
 oS 5 2 5])
 .ret)), false, false⟩
def c43_l0 : CC :=
 (.seq
 (.seq
 (.region [1, 3, 4, 5] [oM 79 5,
 oM 80 3,
 oB 81 .lss 79 80])
 (.cond (.t 81)
 .skip
 (.exit 2)))
 (.seq
 (.block 3
 (.seq
 (.draw [1, 3, 4, 5] [oA 84 2 1,
 oF 85 (.load false 1 (.t 84)) [0],
 oM 86 5,
 oF 87 (.iaddr 8 (.t 85) (.t 86)) [0, 1, 2],
 oF 88 (.faddr 0 (.t 87)) (u 4),
 oF 89 (.load false 1 (.t 88)) (u 5),
 oA 90 0 4,
 oF 91 (.load false 1 (.t 90)) [6],
 oF 92 (.bin .eql (.t 89) (.t 91)) (u 8)])
 (.cond (.t 92)
 (.seq
 (.region [] [oO 2 (.mv (.c (.bool false)))])
 .ret)
 .skip)))
 (.region [1, 3, 4, 5] [oM 82 5,
 oO 83 (.bin .add (.t 82) (.c (.int .i64 1))),
 oM 5 83])))
def c43_l1 : CC :=
 (.seq
 (.seq
 (.region [1, 3] [oM 41 3,
 oA 42 2 1,
 ol 43 1 42,
 oO 44 (.len false (.t 43)),
 oB 45 .lss 41 44])
 (.cond (.t 45)
 .skip
 (.exit 0)))
 (.seq
 (.block 1
 (.seq
 (.region [1, 3] [oA 48 2 1,
 ol 49 1 48,
 oM 50 3,
 oI 51 8 49 50,
 oL 52 8 51,
 oO 4 (.box 61 8 (.c (.agg [.str ⟨#[]⟩, .int .i64 0, .int .i64 0, .int .i64 0, .nils, .int .i64 0, .bool false, .bool false]))),
 oS 8 4 52])
 (.seq
 (.seq
 (.region [1, 3, 4] [oA 53 0 4,
 ol 54 1 53,
 oO 55 (k1 77 54),
 oN 56 55,
 oM 57 56,
 oG 58 (.faddr 2 (.t 4)) 57 false,
 oG 59 (.load false 1 (.t 58)) 57 false,
 oG 60 (.bin .lss (.t 59) (.c (.int .i64 1))) 57 false,
 oO 61 (.pick (.t 57) (.c (.bool true)) (.t 60)),
 oM 62 61,
 oG 63 (.faddr 2 (.t 4)) 62 false,
 oG 64 (.load false 1 (.t 63)) 62 false,
 oG 65 (.faddr 3 (.t 4)) 62 false,
 oG 66 (.load false 1 (.t 65)) 62 false,
 oG 67 (.bin .gtr (.t 64) (.t 66)) 62 false,
 oO 68 (.pick (.t 62) (.c (.bool true)) (.t 67)),
 oM 69 68,
 oG 70 (.faddr 3 (.t 4)) 69 false,
 oG 71 (.load false 1 (.t 70)) 69 false,
 oG 72 (.bin .gtr (.t 71) (.c (.int .i64 40))) 69 false,
 oO 73 (.pick (.t 69) (.c (.bool true)) (.t 72)),
 oM 74 73,
 oG 75 (.load true 8 (.t 4)) 74 false,
 oG 76 (k1 78 75) 74 false,
 oG 77 (.un .not (.t 76)) 74 false,
 oO 78 (.pick (.t 74) (.c (.bool true)) (.t 77))])
 (.cond (.t 78)
 (.seq
 (.region [] [oO 2 (.mv (.c (.bool false)))])
 .ret)
 .skip))
 (.seq
 (.seq
 (.region [1, 3, 4] [oO 5 (.mv (.c (.int .i64 0)))])
 (.block 2
 (.loop c43_l0)))
 (.seq
 (.seq
 (.region [1, 3, 4] [oM 93 3,
 oO 94 (.bin .eql (.t 93) (.c (.int .i64 0)))])
 (.cond (.t 94)
 (.seq
 (.seq
 (.region [1, 3, 4] [oA 95 1 4,
 ol 96 1 95,
 oO 97 (.bin .neq (.t 96) (.c (.int .i64 (-1)))),
 oM 98 97,
 oG 99 (.faddr 5 (.t 4)) 98 false,
 oG 100 (.load false 1 (.t 99)) 98 false,
 oG 101 (.bin .lss (.t 100) (.c (.int .i64 0))) 98 false,
 oO 102 (.pick (.t 98) (.c (.bool true)) (.t 101)),
 oM 103 102,
 oG 104 (.faddr 6 (.t 4)) 103 false,
 oG 105 (.load false 1 (.t 104)) 103 false,
 oG 106 (.un .not (.t 105)) 103 false,
 oO 107 (.pick (.t 103) (.c (.bool true)) (.t 106)),
 oM 108 107,
 oG 109 (.faddr 4 (.t 4)) 108 false,
 oG 110 (.load false 1 (.t 109)) 108 false,
 oG 111 (.faddr 5 (.t 4)) 108 false,
 oG 112 (.load false 1 (.t 111)) 108 false,
 oG 113 (.iaddr 3 (.t 110) (.t 112)) 108 false,
 oG 114 (.faddr 2 (.t 113)) 108 false,
 oG 115 (.load false 1 (.t 114)) 108 false,
 oG 116 (.bin .gtr (.t 115) (.c (.int .i64 24))) 108 false,
 oO 117 (.pick (.t 108) (.c (.bool true)) (.t 116))])
 (.cond (.t 117)
 (.seq
 (.region [] [oO 2 (.mv (.c (.bool false)))])
 .ret)
 .skip))
 (.exit 1))
 .skip))
 (.seq
 (.region [1, 3, 4] [oA 118 1 4,
 ol 119 1 118,
 oO 120 (.bin .lss (.t 119) (.c (.int .i64 0))),
 oM 121 120,
 oG 122 (.faddr 1 (.t 4)) 121 false,
 oG 123 (.load false 1 (.t 122)) 121 false,
 oG 124 (.mv (.t 3)) 121 false,
 oG 125 (.bin .geq (.t 123) (.t 124)) 121 false,
 oO 126 (.pick (.t 121) (.c (.bool true)) (.t 125)),
 oM 127 126,
 oG 128 (.faddr 1 (.t 4)) 127 false,
 oG 129 (.load false 1 (.t 128)) 127 false,
 oG 130 (.mv (.t 3)) 127 false,
 oG 131 (.bin .sub (.t 130) (.c (.int .i64 1))) 127 false,
 oG 132 (.bin .neq (.t 129) (.t 131)) 127 false,
 oG 133 (.mv (.t 132)) 127 false,
 oG 134 (.load true 4 (.t 1)) 133 true,
 oG 135 (.faddr 1 (.t 4)) 133 true,
 oG 136 (.load false 1 (.t 135)) 133 true,
 oG 137 (.mv (.t 3)) 133 true,
 oG 138 (.bin .sub (.t 137) (.c (.int .i64 1))) 133 true,
 oG 139 (k3 79 134 136 138) 133 true,
 oG 140 (.un .not (.t 139)) 133 true,
 oG 141 (.pick (.t 133) (.t 140) (.c (.bool false))) 127 false,
 oO 142 (.pick (.t 127) (.c (.bool true)) (.t 141)),
 oM 143 142,
 oG 144 (.load true 4 (.t 1)) 143 false,
 oG 145 (.mv (.t 3)) 143 false,
 oG 146 (z2 80 144 145) 143 false,
 oG 147 (.len false (.t 146)) 143 false,
 oG 148 (.bin .gtr (.t 147) (.c (.int .i64 5))) 143 false,
 oO 149 (.pick (.t 143) (.c (.bool true)) (.t 148))])
 (.cond (.t 149)
 (.seq
 (.region [] [oO 2 (.mv (.c (.bool false)))])
 .ret)
 .skip)))))))
 (.region [1, 3] [oM 46 3,
 oO 47 (.bin .add (.t 46) (.c (.int .i64 1))),
 oM 3 47])))
def c43_l2 : CC :=
 (.seq
 (.seq
 (.region [1, 6, 7, 8] [oM 218 8,
 oM 219 6,
 oB 220 .lss 218 219])
 (.cond (.t 220)
 .skip
 (.exit 6)))
 (.seq
 (.block 7
 (.seq
 (.draw [1, 6, 7, 8] [oA 223 3 1,
 oF 224 (.load false 1 (.t 223)) [0],
 oM 225 8,
 oF 226 (.iaddr 4 (.t 224) (.t 225)) [0, 1, 2],
 oF 227 (.faddr 0 (.t 226)) (u 4),
 oF 228 (.load false 1 (.t 227)) (u 5),
 oA 229 0 7,
 oF 230 (.load false 1 (.t 229)) [6],
 oF 231 (.bin .eql (.t 228) (.t 230)) (u 8)])
 (.cond (.t 231)
 (.seq
 (.region [] [oO 2 (.mv (.c (.bool false)))])
 .ret)
 .skip)))
 (.region [1, 6, 7, 8] [oM 221 8,
 oO 222 (.bin .add (.t 221) (.c (.int .i64 1))),
 oM 8 222])))
def c43_l3 : CC :=
 (.seq
 (.seq
 (.region [1, 6] [oM 150 6,
 oA 151 3 1,
 ol 152 1 151,
 oO 153 (.len false (.t 152)),
 oB 154 .lss 150 153])
 (.cond (.t 154)
 .skip
 (.exit 4)))
 (.seq
 (.block 5
 (.seq
 (.region [1, 6] [oA 157 3 1,
 ol 158 1 157,
 oM 159 6,
 oI 160 4 158 159,
 oL 161 4 160,
 oO 7 (.box 125 4 (.c (.agg [.str ⟨#[]⟩, .int .i64 0, .int .i64 0, .str ⟨#[]⟩]))),
 oS 4 7 161])
 (.seq
 (.seq
 (.draw [1, 6, 7] [oA 162 0 7,
 oF 163 (.load false 1 (.t 162)) [0],
 oF 164 (k1 77 163) [0, 1],
 oF 165 (.un .not (.t 164)) [0, 1, 2],
 oF 166 (.mv (.t 165)) (u 4),
 ⟨(some 167), .faddr 1 (.t 7), some (166, false), (u 5), []⟩,
 ⟨(some 168), .load false 1 (.t 167), some (166, false), (u 6), []⟩,
 ⟨(some 169), .bin .lss (.t 168) (.c (.int .i64 0)), some (166, false), (u 7), []⟩,
 oF 170 (.pick (.t 166) (.c (.bool true)) (.t 169)) (u 8),
 oF 171 (.mv (.t 170)) (u 9),
 ⟨(some 172), .faddr 1 (.t 7), some (171, false), (u 10), []⟩,
 ⟨(some 173), .load false 1 (.t 172), some (171, false), (u 11), []⟩,
 ⟨(some 174), .faddr 2 (.t 1), some (171, false), (u 10), []⟩,
 ⟨(some 175), .load false 1 (.t 174), some (171, false), (u 10 ++ [12]), []⟩,
 ⟨(some 176), .len false (.t 175), some (171, false), (u 10 ++ [12, 13]), []⟩,
 ⟨(some 177), .bin .geq (.t 173) (.t 176), some (171, false), (u 15), []⟩,
 oF 178 (.pick (.t 171) (.c (.bool true)) (.t 177)) (u 16),
 oF 179 (.mv (.t 178)) (u 17),
 ⟨(some 180), .faddr 2 (.t 7), some (179, false), (u 18), []⟩,
 ⟨(some 181), .load false 1 (.t 180), some (179, false), (u 19), []⟩,
 ⟨(some 182), .bin .lss (.t 181) (.c (.int .i64 0)), some (179, false), (u 20), []⟩,
 oF 183 (.pick (.t 179) (.c (.bool true)) (.t 182)) (u 21),
 oF 184 (.mv (.t 183)) (u 22),
 ⟨(some 185), .faddr 2 (.t 7), some (184, false), (u 23), []⟩,
 ⟨(some 186), .load false 1 (.t 185), some (184, false), (u 24), []⟩,
 ⟨(some 187), .faddr 2 (.t 1), some (184, false), (u 23), []⟩,
 ⟨(some 188), .load false 1 (.t 187), some (184, false), (u 23 ++ [25]), []⟩,
 ⟨(some 189), .faddr 1 (.t 7), some (184, false), (u 23), []⟩,
 ⟨(some 190), .load false 1 (.t 189), some (184, false), (u 23 ++ [27]), []⟩,
 ⟨(some 191), .iaddr 8 (.t 188) (.t 190), some (184, false), (u 23 ++ [25, 26, 27, 28]), []⟩,
 ⟨(some 192), .faddr 4 (.t 191), some (184, false), (u 23 ++ [25, 26, 27, 28, 29]), []⟩,
 ⟨(some 193), .load false 1 (.t 192), some (184, false), (u 23 ++ [25, 26, 27, 28, 29, 30]), []⟩,
 ⟨(some 194), .len false (.t 193), some (184, false), (u 23 ++ [25, 26, 27, 28, 29, 30, 31]), []⟩,
 ⟨(some 195), .bin .geq (.t 186) (.t 194), some (184, false), (u 33), []⟩,
 oF 196 (.pick (.t 184) (.c (.bool true)) (.t 195)) (u 34),
 oF 197 (.mv (.t 196)) (u 35),
 ⟨(some 198), .faddr 2 (.t 1), some (197, false), (u 36), []⟩,
 ⟨(some 199), .load false 1 (.t 198), some (197, false), (u 37), []⟩,
 ⟨(some 200), .faddr 1 (.t 7), some (197, false), (u 36), []⟩,
 ⟨(some 201), .load false 1 (.t 200), some (197, false), (u 36 ++ [38]), []⟩,
 ⟨(some 202), .iaddr 8 (.t 199) (.t 201), some (197, false), (u 40), []⟩,
 ⟨(some 203), .faddr 4 (.t 202), some (197, false), (u 41), []⟩,
 ⟨(some 204), .load false 1 (.t 203), some (197, false), (u 42), []⟩,
 ⟨(some 205), .faddr 2 (.t 7), some (197, false), (u 36), []⟩,
 ⟨(some 206), .load false 1 (.t 205), some (197, false), (u 36 ++ [43]), []⟩,
 ⟨(some 207), .iaddr 3 (.t 204) (.t 206), some (197, false), (u 45), []⟩,
 ⟨(some 208), .faddr 2 (.t 207), some (197, false), (u 46), []⟩,
 ⟨(some 209), .load false 1 (.t 208), some (197, false), (u 47), []⟩,
 ⟨(some 210), .bin .gtr (.t 209) (.c (.int .i64 20)), some (197, false), (u 48), []⟩,
 oF 211 (.pick (.t 197) (.c (.bool true)) (.t 210)) (u 49),
 oF 212 (.mv (.t 211)) (u 50),
 ⟨(some 213), .faddr 3 (.t 7), some (212, false), (u 51), []⟩,
 ⟨(some 214), .load false 1 (.t 213), some (212, false), (u 52), []⟩,
 ⟨(some 215), .len true (.t 214), some (212, false), (u 53), []⟩,
 ⟨(some 216), .bin .gtr (.t 215) (.c (.int .i64 1)), some (212, false), (u 54), []⟩,
 oF 217 (.pick (.t 212) (.c (.bool true)) (.t 216)) (u 55)])
 (.cond (.t 217)
 (.seq
 (.region [] [oO 2 (.mv (.c (.bool false)))])
 .ret)
 .skip))
 (.seq
 (.region [1, 6, 7] [oO 8 (.mv (.c (.int .i64 0)))])
 (.block 6
 (.loop c43_l2))))))
 (.region [1, 6] [oM 155 6,
 oO 156 (.bin .add (.t 155) (.c (.int .i64 1))),
 oM 6 156])))
/-- progeny/progenyref11.Valid -/
def c43 : CFn := ⟨232, [.t 2],
 (.seq
 (.region [0] [oX 1 25 4 0,
 oO 2 (.mv (.c (.bool false)))])
 (.seq
 (.seq
 (.region [1] [oA 9 0 1,
 ol 10 1 9,
 oO 11 (k1 77 10),
 oN 12 11,
 oM 13 12,
 oG 14 (.faddr 1 (.t 1)) 13 false,
 oG 15 (.load false 1 (.t 14)) 13 false,
 oG 16 (.bin .lss (.t 15) (.c (.int .i64 1))) 13 false,
 oO 17 (.pick (.t 13) (.c (.bool true)) (.t 16)),
 oM 18 17,
 oG 19 (.faddr 1 (.t 1)) 18 false,
 oG 20 (.load false 1 (.t 19)) 18 false,
 oG 21 (.bin .gtr (.t 20) (.c (.int .i64 4))) 18 false,
 oO 22 (.pick (.t 18) (.c (.bool true)) (.t 21)),
 oM 23 22,
 oG 24 (.faddr 2 (.t 1)) 23 false,
 oG 25 (.load false 1 (.t 24)) 23 false,
 oG 26 (.len false (.t 25)) 23 false,
 oG 27 (.bin .lss (.t 26) (.c (.int .i64 1))) 23 false,
 oO 28 (.pick (.t 23) (.c (.bool true)) (.t 27)),
 oM 29 28,
 oG 30 (.faddr 2 (.t 1)) 29 false,
 oG 31 (.load false 1 (.t 30)) 29 false,
 oG 32 (.len false (.t 31)) 29 false,
 oG 33 (.bin .gtr (.t 32) (.c (.int .i64 8))) 29 false,
 oO 34 (.pick (.t 29) (.c (.bool true)) (.t 33)),
 oM 35 34,
 oG 36 (.faddr 3 (.t 1)) 35 false,
 oG 37 (.load false 1 (.t 36)) 35 false,
 oG 38 (.len false (.t 37)) 35 false,
 oG 39 (.bin .gtr (.t 38) (.c (.int .i64 3))) 35 false,
 oO 40 (.pick (.t 35) (.c (.bool true)) (.t 39))])
 (.cond (.t 40)
 (.seq
 (.region [] [oO 2 (.mv (.c (.bool false)))])
 .ret)
 .skip))
 (.seq
 (.seq
 (.region [1] [oO 3 (.mv (.c (.int .i64 0)))])
 (.block 0
 (.loop c43_l1)))
 (.seq
 (.seq
 (.region [1] [oO 6 (.mv (.c (.int .i64 0)))])
 (.block 4
 (.loop c43_l3)))
 (.seq
 (.region [] [oO 2 (.mv (.c (.bool true)))])
 .ret))))), false, false⟩
/-- slices.Clone[[]progeny/api.Item,progeny/api.Item] -/
def c45 : CFn := ⟨8, [.t 2],
 (.seq
 (.region [0] [oO 2 (.mv (.c (.nils)))])
 (.seq
 (.seq
 (.region [0] [oM 3 0,
 oO 4 (.eqn false 1 (.t 3) (.c (.nils)))])
 (.cond (.t 4)
 (.seq
 (.region [] [oO 2 (.mv (.c (.nils)))])
 .ret)
 .skip))
 (.seq
 (.region [0] [oO 5 (.bslice 55 2 [] []),
 oM 6 0,
 oO 7 (.app 55 2 24 false (.t 5) (.t 6)),
 oM 2 7])
 .ret))), true, false⟩
/-- progeny/call.do -/
def c46 : CFn := ⟨108, [.cell 6 true 5, .cell 7 true 5],
 (.seq
 (.region [0, 1, 2] [oX 3 25 4 0,
 oX 4 35 5 1,
 oX 5 31 3 2,
 oO 6 (.box 35 5 (.c (.agg [.nils, .int .i64 0, .int .i64 0, .int .i64 0, .bool false]))),
 oO 7 (.box 49 5 (.c (.agg [.str ⟨#[]⟩, .str ⟨#[]⟩, .int .i64 0, .str ⟨#[]⟩, .str ⟨#[]⟩])))])
 (.seq
 (.region [3, 4, 5, 6, 7] [oA 12 0 4,
 ol 13 1 12,
 oO 14 (z1 45 13),
 oA 15 0 4,
 oS 1 15 14])
 (.seq
 (.seq
 (.region [3, 4, 5, 6, 7] [oA 16 0 5,
 ol 17 1 16,
 oO 18 (.bin .eql (.t 17) (.c (.str ⟨#[82, 69, 80, 76]⟩))),
 oM 19 18,
 oG 20 (.faddr 0 (.t 5)) 19 false,
 oG 21 (.load false 1 (.t 20)) 19 false,
 oG 22 (.bin .eql (.t 21) (.c (.str ⟨#[68, 76, 69, 84]⟩))) 19 false,
 oO 23 (.pick (.t 19) (.c (.bool true)) (.t 22))])
 (.cond (.t 23)
 (.seq
 (.block 0
 (.seq
 (.region [3, 4, 5, 6, 7] [oA 25 4 4,
 ol 26 1 25,
 oN 27 26,
 oM 24 27])
 (.cond (.t 24)
 (.seq
 (.region [4, 6, 7] [oL 28 5 4,
 oO 29 (.call (.c (.fn 82 [])) [(.t 28), (.c (.str ⟨#[68, 74]⟩))] false),
 oE 30 29 0,
 oE 31 29 1,
 oS 5 6 30,
 oS 5 7 31])
 .ret)
 (.seq
 (.region [3, 4, 5, 6, 7] [oA 33 1 5,
 ol 34 1 33,
 oO 35 (.len false (.t 34)),
 oO 36 (.bin .gtr (.t 35) (.c (.int .i64 0))),
 oM 32 36])
 (.cond (.t 32)
 (.seq
 (.region [4, 6, 7] [oL 37 5 4,
 oO 38 (.call (.c (.fn 82 [])) [(.t 37), (.c (.str ⟨#[65, 74]⟩))] false),
 oE 39 38 0,
 oE 40 38 1,
 oS 5 6 39,
 oS 5 7 40])
 .ret)
 (.seq
 (.region [3, 4, 5, 6, 7] [oA 42 0 5,
 ol 43 1 42,
 oO 44 (.bin .eql (.t 43) (.c (.str ⟨#[82, 69, 80, 76]⟩))),
 oM 41 44])
 (.cond (.t 41)
 (.seq
 (.region [3, 4, 5, 6, 7] [oL 45 4 3,
 oL 46 5 4,
 oL 47 3 5,
 oO 48 (k3 83 45 46 47),
 oE 49 48 0,
 oE 50 48 1,
 oS 5 6 49,
 oS 5 7 50])
 .ret)
 .skip)))))))
 (.seq
 (.region [3, 4, 6, 7] [oL 51 4 3,
 oL 52 5 4,
 oO 53 (k2 84 51 52),
 oE 54 53 0,
 oE 55 53 1,
 oS 5 6 54,
 oS 5 7 55])
 .ret))
 .skip))
 (.seq
 (.seq
 (.region [3, 4, 5, 6, 7] [oA 56 0 5,
 ol 57 1 56,
 oO 58 (k1 56 57),
 oN 59 58,
 oM 60 59,
 oG 61 (.faddr 0 (.t 5)) 60 true,
 oG 62 (.load false 1 (.t 61)) 60 true,
 oG 63 (k1 57 62) 60 true,
 oG 64 (.un .not (.t 63)) 60 true,
 oO 65 (.pick (.t 60) (.t 64) (.c (.bool false)))])
 (.cond (.t 65)
 (.seq
 (.region [4, 6, 7] [oL 66 5 4,
 oO 67 (.call (.c (.fn 82 [])) [(.t 66), (.c (.str ⟨#[65, 68]⟩))] false),
 oE 68 67 0,
 oE 69 67 1,
 oS 5 6 68,
 oS 5 7 69])
 .ret)
 .skip))
 (.seq
 (.region [3, 4, 5, 6, 7] [oL 71 4 3,
 oA 72 1 5,
 ol 73 1 72,
 oO 74 (k2 85 71 73),
 oM 70 74,
 oE 75 70 0,
 oE 76 70 1,
 oM 8 75,
 oM 9 76])
 (.seq
 (.seq
 (.region [3, 4, 5, 6, 7, 8] [oM 77 8,
 oO 78 (.bin .neq (.t 77) (.c (.str ⟨#[32, 32]⟩)))])
 (.cond (.t 78)
 (.seq
 (.region [4, 6, 7, 8] [oL 79 5 4,
 oM 80 8,
 oO 81 (k2 82 79 80),
 oE 82 81 0,
 oE 83 81 1,
 oS 5 6 82,
 oS 5 7 83])
 .ret)
 .skip))
 (.seq
 (.region [3, 4, 5, 6, 7] [oL 85 4 3,
 oA 86 1 5,
 ol 87 1 86,
 oO 88 (z2 86 85 87),
 oM 84 88,
 oE 89 84 0,
 oE 90 84 1,
 oM 10 89,
 oM 11 90])
 (.seq
 (.seq
 (.region [3, 4, 5, 6, 7, 10] [oA 91 0 5,
 ol 92 1 91,
 oO 93 (.bin .eql (.t 92) (.c (.str ⟨#[73, 83, 82, 84]⟩)))])
 (.cond (.t 93)
 (.seq
 (.region [3, 4, 5, 6, 7, 10] [oL 94 4 3,
 oL 95 5 4,
 oL 96 3 5,
 oM 97 10,
 oO 98 (k4 87 94 95 96 97),
 oE 99 98 0,
 oE 100 98 1,
 oS 5 6 99,
 oS 5 7 100])
 .ret)
 .skip))
 (.seq
 (.region [3, 4, 5, 6, 7, 10] [oL 101 4 3,
 oL 102 5 4,
 oL 103 3 5,
 oM 104 10,
 oO 105 (k4 88 101 102 103 104),
 oE 106 105 0,
 oE 107 105 1,
 oS 5 6 106,
 oS 5 7 107])
 .ret))))))))), false, false⟩
/-- progeny/call.right -/
def c48 : CFn := ⟨50, [.t 2],
 (.seq
 (.region [0] [oX 1 35 5 0,
 oO 2 (.mv (.c (.bool false)))])
 (.seq
 (.region [1] [oA 4 0 1,
 ol 5 1 4,
 oO 6 (.len false (.t 5)),
 oM 3 6])
 (.seq
 (.seq
 (.region [1, 3] [oA 7 1 1,
 ol 8 1 7,
 oO 9 (.bin .lss (.t 8) (.c (.int .i64 (-1)))),
 oM 10 9,
 oG 11 (.faddr 1 (.t 1)) 10 false,
 oG 12 (.load false 1 (.t 11)) 10 false,
 oG 13 (.mv (.t 3)) 10 false,
 oG 14 (.bin .geq (.t 12) (.t 13)) 10 false,
 oO 15 (.pick (.t 10) (.c (.bool true)) (.t 14)),
 oM 16 15,
 oG 17 (.faddr 2 (.t 1)) 16 false,
 oG 18 (.load false 1 (.t 17)) 16 false,
 oG 19 (.bin .lss (.t 18) (.c (.int .i64 0))) 16 false,
 oO 20 (.pick (.t 16) (.c (.bool true)) (.t 19)),
 oM 21 20,
 oG 22 (.faddr 2 (.t 1)) 21 false,
 oG 23 (.load false 1 (.t 22)) 21 false,
 oG 24 (.mv (.t 3)) 21 false,
 oG 25 (.bin .gtr (.t 23) (.t 24)) 21 false,
 oO 26 (.pick (.t 21) (.c (.bool true)) (.t 25)),
 oM 27 26,
 oG 28 (.faddr 3 (.t 1)) 27 false,
 oG 29 (.load false 1 (.t 28)) 27 false,
 oG 30 (.bin .lss (.t 29) (.c (.int .i64 (-1)))) 27 false,
 oO 31 (.pick (.t 27) (.c (.bool true)) (.t 30)),
 oM 32 31,
 oG 33 (.faddr 3 (.t 1)) 32 false,
 oG 34 (.load false 1 (.t 33)) 32 false,
 oG 35 (.mv (.t 3)) 32 false,
 oG 36 (.bin .geq (.t 34) (.t 35)) 32 false,
 oO 37 (.pick (.t 32) (.c (.bool true)) (.t 36))])
 (.cond (.t 37)
 (.seq
 (.region [] [oO 2 (.mv (.c (.bool false)))])
 .ret)
 .skip))
 (.seq
 (.seq
 (.region [1] [oA 38 1 1,
 ol 39 1 38,
 oO 40 (.bin .lss (.t 39) (.c (.int .i64 0)))])
 (.cond (.t 40)
 (.seq
 (.region [1] [oA 41 4 1,
 ol 42 1 41,
 oN 43 42,
 oM 2 43])
 .ret)
 .skip))
 (.seq
 (.region [1] [oA 44 2 1,
 ol 45 1 44,
 oA 46 1 1,
 ol 47 1 46,
 oO 48 (.bin .add (.t 47) (.c (.int .i64 1))),
 oB 49 .eql 45 48,
 oM 2 49])
 .ret))))), false, false⟩
def c49_l0 : CC :=
 (.seq
 (.seq
 (.region [1, 2, 5] [oM 14 5,
 oM 15 1,
 oO 16 (.len false (.t 15)),
 oB 17 .lss 14 16])
 (.cond (.t 17)
 .skip
 (.exit 0)))
 (.seq
 (.block 1
 (.seq
 (.draw [1, 2, 5] [oM 20 1,
 oM 21 5,
 oF 22 (.iaddr 2 (.t 20) (.t 21)) [0, 1],
 oF 23 (.faddr 0 (.t 22)) [0, 1, 2],
 oF 24 (.load false 1 (.t 23)) (u 4),
 oF 25 (.bin .lss (.t 24) (.c (.int .i64 0))) (u 5),
 oF 26 (.mv (.t 25)) (u 6),
 ⟨(some 27), .mv (.t 1), some (26, false), (u 7), []⟩,
 ⟨(some 28), .mv (.t 5), some (26, false), (u 7), []⟩,
 ⟨(some 29), .iaddr 2 (.t 27) (.t 28), some (26, false), (u 9), []⟩,
 ⟨(some 30), .faddr 0 (.t 29), some (26, false), (u 10), []⟩,
 ⟨(some 31), .load false 1 (.t 30), some (26, false), (u 11), []⟩,
 ⟨(some 32), .faddr 2 (.t 2), some (26, false), (u 7), []⟩,
 ⟨(some 33), .load false 1 (.t 32), some (26, false), (u 7 ++ [12]), []⟩,
 ⟨(some 34), .len false (.t 33), some (26, false), (u 7 ++ [12, 13]), []⟩,
 ⟨(some 35), .bin .geq (.t 31) (.t 34), some (26, false), (u 15), []⟩,
 oF 36 (.pick (.t 26) (.c (.bool true)) (.t 35)) (u 16),
 oF 37 (.mv (.t 36)) (u 17),
 ⟨(some 38), .mv (.t 1), some (37, false), (u 18), []⟩,
 ⟨(some 39), .mv (.t 5), some (37, false), (u 18), []⟩,
 ⟨(some 40), .iaddr 2 (.t 38) (.t 39), some (37, false), (u 20), []⟩,
 ⟨(some 41), .faddr 1 (.t 40), some (37, false), (u 21), []⟩,
 ⟨(some 42), .load false 1 (.t 41), some (37, false), (u 22), []⟩,
 ⟨(some 43), .len true (.t 42), some (37, false), (u 23), []⟩,
 ⟨(some 44), .faddr 2 (.t 2), some (37, false), (u 18), []⟩,
 ⟨(some 45), .load false 1 (.t 44), some (37, false), (u 18 ++ [24]), []⟩,
 ⟨(some 46), .mv (.t 1), some (37, false), (u 18), []⟩,
 ⟨(some 47), .mv (.t 5), some (37, false), (u 18), []⟩,
 ⟨(some 48), .iaddr 2 (.t 46) (.t 47), some (37, false), (u 18 ++ [26, 27]), []⟩,
 ⟨(some 49), .faddr 0 (.t 48), some (37, false), (u 18 ++ [26, 27, 28]), []⟩,
 ⟨(some 50), .load false 1 (.t 49), some (37, false), (u 18 ++ [26, 27, 28, 29]), []⟩,
 ⟨(some 51), .iaddr 8 (.t 45) (.t 50), some (37, false), (u 18 ++ [24, 25, 26, 27, 28, 29, 30]), []⟩,
 ⟨(some 52), .faddr 2 (.t 51), some (37, false), (u 18 ++ [24, 25, 26, 27, 28, 29, 30, 31]), []⟩,
 ⟨(some 53), .load false 1 (.t 52), some (37, false), (u 18 ++ [24, 25, 26, 27, 28, 29, 30, 31, 32]), []⟩,
 ⟨(some 54), .bin .lss (.t 43) (.t 53), some (37, false), (u 34), []⟩,
 oF 55 (.pick (.t 37) (.c (.bool true)) (.t 54)) (u 35),
 oF 56 (.mv (.t 55)) (u 36),
 ⟨(some 57), .mv (.t 1), some (56, false), (u 37), []⟩,
 ⟨(some 58), .mv (.t 5), some (56, false), (u 37), []⟩,
 ⟨(some 59), .iaddr 2 (.t 57) (.t 58), some (56, false), (u 39), []⟩,
 ⟨(some 60), .faddr 1 (.t 59), some (56, false), (u 40), []⟩,
 ⟨(some 61), .load false 1 (.t 60), some (56, false), (u 41), []⟩,
 ⟨(some 62), .len true (.t 61), some (56, false), (u 42), []⟩,
 ⟨(some 63), .faddr 2 (.t 2), some (56, false), (u 37), []⟩,
 ⟨(some 64), .load false 1 (.t 63), some (56, false), (u 37 ++ [43]), []⟩,
 ⟨(some 65), .mv (.t 1), some (56, false), (u 37), []⟩,
 ⟨(some 66), .mv (.t 5), some (56, false), (u 37), []⟩,
 ⟨(some 67), .iaddr 2 (.t 65) (.t 66), some (56, false), (u 37 ++ [45, 46]), []⟩,
 ⟨(some 68), .faddr 0 (.t 67), some (56, false), (u 37 ++ [45, 46, 47]), []⟩,
 ⟨(some 69), .load false 1 (.t 68), some (56, false), (u 37 ++ [45, 46, 47, 48]), []⟩,
 ⟨(some 70), .iaddr 8 (.t 64) (.t 69), some (56, false), (u 37 ++ [43, 44, 45, 46, 47, 48, 49]), []⟩,
 ⟨(some 71), .faddr 3 (.t 70), some (56, false), (u 37 ++ [43, 44, 45, 46, 47, 48, 49, 50]), []⟩,
 ⟨(some 72), .load false 1 (.t 71), some (56, false), (u 37 ++ [43, 44, 45, 46, 47, 48, 49, 50, 51]), []⟩,
 ⟨(some 73), .bin .gtr (.t 62) (.t 72), some (56, false), (u 53), []⟩,
 oF 74 (.pick (.t 56) (.c (.bool true)) (.t 73)) (u 54)])
 (.cond (.t 74)
 (.seq
 (.region [] [oO 4 (.mv (.c (.bool false)))])
 .ret)
 .skip)))
 (.region [1, 2, 5] [oM 18 5,
 oO 19 (.bin .add (.t 18) (.c (.int .i64 1))),
 oM 5 19])))
def c49_l1 : CC :=
 (.seq
 (.seq
 (.region [1, 2, 6, 7, 8] [oM 97 8,
 oM 98 7,
 oB 99 .gtr 97 98,
 oM 100 99,
 oG 101 (.load true 4 (.t 2)) 100 true,
 oG 102 (.mv (.t 1)) 100 true,
 oG 103 (.mv (.t 8)) 100 true,
 oG 104 (k3 89 101 102 103) 100 true,
 oG 105 (.mv (.t 7)) 100 true,
 oG 106 (.bin .neq (.t 104) (.t 105)) 100 true,
 oO 107 (.pick (.t 100) (.t 106) (.c (.bool false)))])
 (.cond (.t 107)
 .skip
 (.exit 4)))
 (.block 5
 (.region [1, 2, 6, 7, 8] [oL 108 4 2,
 oM 109 1,
 oM 110 8,
 oO 111 (k3 89 108 109 110),
 oM 8 111])))
def c49_l2 : CC :=
 (.seq
 (.seq
 (.region [1, 2, 6] [oM 75 6,
 oM 76 1,
 oO 77 (.len false (.t 76)),
 oB 78 .lss 75 77])
 (.cond (.t 78)
 .skip
 (.exit 2)))
 (.seq
 (.block 3
 (.seq
 (.region [1, 2, 6] [oL 81 4 2,
 oM 82 1,
 oM 83 6,
 oO 84 (k3 89 81 82 83),
 oM 7 84])
 (.seq
 (.seq
 (.region [1, 2, 6, 7] [oM 85 7,
 oO 86 (.bin .lss (.t 85) (.c (.int .i64 0))),
 oM 87 86,
 oG 88 (.mv (.t 1)) 87 true,
 oG 89 (.mv (.t 6)) 87 true,
 oG 90 (.iaddr 2 (.t 88) (.t 89)) 87 true,
 oG 91 (.faddr 0 (.t 90)) 87 true,
 oG 92 (.load false 1 (.t 91)) 87 true,
 oG 93 (.bin .neq (.t 92) (.c (.int .i64 0))) 87 true,
 oO 94 (.pick (.t 87) (.t 93) (.c (.bool false)))])
 (.cond (.t 94)
 (.seq
 (.region [] [oO 4 (.mv (.c (.bool false)))])
 .ret)
 .skip))
 (.seq
 (.region [1, 2, 6, 7] [oM 95 6,
 oO 96 (.bin .sub (.t 95) (.c (.int .i64 1))),
 oM 8 96])
 (.seq
 (.block 4
 (.loop c49_l1))
 (.seq
 (.seq
 (.region [1, 2, 6, 7, 8] [oM 112 8,
 oM 113 7,
 oB 114 .lss 112 113])
 (.cond (.t 114)
 (.seq
 (.region [] [oO 4 (.mv (.c (.bool false)))])
 .ret)
 .skip))
 (.seq
 (.seq
 (.region [1, 2, 6, 7, 8] [oM 115 8,
 oM 116 7,
 oB 117 .eql 115 116])
 (.cond (.t 117)
 (.exit 3)
 .skip))
 (.seq
 (.seq
 (.draw [1, 2, 6, 8] [oM 118 1,
 oM 119 8,
 oF 120 (.iaddr 2 (.t 118) (.t 119)) [0, 1],
 oF 121 (.faddr 0 (.t 120)) [0, 1, 2],
 oF 122 (.load false 1 (.t 121)) (u 4),
 oM 123 1,
 oM 124 6,
 oF 125 (.iaddr 2 (.t 123) (.t 124)) [5, 6],
 oF 126 (.faddr 0 (.t 125)) [5, 6, 7],
 oF 127 (.load false 1 (.t 126)) [5, 6, 7, 8],
 oF 128 (.bin .gtr (.t 122) (.t 127)) (u 10)])
 (.cond (.t 128)
 (.seq
 (.region [] [oO 4 (.mv (.c (.bool false)))])
 .ret)
 .skip))
 (.seq
 (.draw [1, 2, 6, 8] [oM 129 1,
 oM 130 8,
 oF 131 (.iaddr 2 (.t 129) (.t 130)) [0, 1],
 oF 132 (.faddr 0 (.t 131)) [0, 1, 2],
 oF 133 (.load false 1 (.t 132)) (u 4),
 oM 134 1,
 oM 135 6,
 oF 136 (.iaddr 2 (.t 134) (.t 135)) [5, 6],
 oF 137 (.faddr 0 (.t 136)) [5, 6, 7],
 oF 138 (.load false 1 (.t 137)) [5, 6, 7, 8],
 oF 139 (.bin .eql (.t 133) (.t 138)) (u 10),
 oF 140 (.mv (.t 139)) (u 11),
 ⟨(some 141), .faddr 2 (.t 2), some (140, true), (u 12), []⟩,
 ⟨(some 142), .load false 1 (.t 141), some (140, true), (u 13), []⟩,
 ⟨(some 143), .mv (.t 1), some (140, true), (u 12), []⟩,
 ⟨(some 144), .mv (.t 6), some (140, true), (u 12), []⟩,
 ⟨(some 145), .iaddr 2 (.t 143) (.t 144), some (140, true), (u 12 ++ [14, 15]), []⟩,
 ⟨(some 146), .faddr 0 (.t 145), some (140, true), (u 12 ++ [14, 15, 16]), []⟩,
 ⟨(some 147), .load false 1 (.t 146), some (140, true), (u 12 ++ [14, 15, 16, 17]), []⟩,
 ⟨(some 148), .iaddr 8 (.t 142) (.t 147), some (140, true), (u 19), []⟩,
 ⟨(some 149), .faddr 5 (.t 148), some (140, true), (u 20), []⟩,
 ⟨(some 150), .load false 1 (.t 149), some (140, true), (u 21), []⟩,
 ⟨(some 151), .bin .geq (.t 150) (.c (.int .i64 0)), some (140, true), (u 22), []⟩,
 oF 152 (.pick (.t 140) (.t 151) (.c (.bool false))) (u 23)])
 (.cond (.t 152)
 (.seq
 (.draw [1, 2, 6, 8] [oL 153 4 2,
 oM 154 1,
 oM 155 8,
 oF 156 (.iaddr 2 (.t 154) (.t 155)) [1, 2],
 oF 157 (.load true 2 (.t 156)) [1, 2, 3],
 oF 158 (k2 90 153 157) (u 5),
 oa 159 (.load true 4 (.t 2)) [] [5],
 oM 160 1,
 oM 161 6,
 oF 162 (.iaddr 2 (.t 160) (.t 161)) [7, 8],
 oa 163 (.load true 2 (.t 162)) [7, 8, 9] [5],
 oF 164 (k2 90 159 163) (u 11),
 oF 9 (.mv (.t 158)) (u 12),
 oF 10 (.mv (.t 164)) (u 13)])
 (.seq
 (.draw [1, 2, 6, 9, 10] [oM 165 9,
 oM 166 10,
 oF 167 (.bin .gtr (.t 165) (.t 166)) [0, 1],
 oF 168 (.mv (.t 167)) [0, 1, 2],
 ⟨(some 169), .mv (.t 9), some (168, false), (u 4), []⟩,
 ⟨(some 170), .mv (.t 10), some (168, false), (u 4), []⟩,
 ⟨(some 171), .bin .eql (.t 169) (.t 170), some (168, false), (u 6), []⟩,
 ⟨(some 172), .mv (.t 171), some (168, false), (u 7), []⟩,
 ⟨(some 173), .faddr 2 (.t 2), some (172, true), (u 8), []⟩,
 ⟨(some 174), .load false 1 (.t 173), some (172, true), (u 9), []⟩,
 ⟨(some 175), .mv (.t 1), some (172, true), (u 8), []⟩,
 ⟨(some 176), .mv (.t 6), some (172, true), (u 8), []⟩,
 ⟨(some 177), .iaddr 2 (.t 175) (.t 176), some (172, true), (u 8 ++ [10, 11]), []⟩,
 ⟨(some 178), .faddr 0 (.t 177), some (172, true), (u 8 ++ [10, 11, 12]), []⟩,
 ⟨(some 179), .load false 1 (.t 178), some (172, true), (u 8 ++ [10, 11, 12, 13]), []⟩,
 ⟨(some 180), .iaddr 8 (.t 174) (.t 179), some (172, true), (u 15), []⟩,
 ⟨(some 181), .faddr 6 (.t 180), some (172, true), (u 16), []⟩,
 ⟨(some 182), .load false 1 (.t 181), some (172, true), (u 17), []⟩,
 ⟨(some 183), .pick (.t 172) (.t 182) (.c (.bool false)), some (168, false), (u 18), []⟩,
 oF 184 (.pick (.t 168) (.c (.bool true)) (.t 183)) (u 19)])
 (.cond (.t 184)
 (.seq
 (.region [] [oO 4 (.mv (.c (.bool false)))])
 .ret)
 .skip)))
 .skip))))))))))
 (.region [1, 2, 6] [oM 79 6,
 oO 80 (.bin .add (.t 79) (.c (.int .i64 1))),
 oM 6 80])))
/-- progeny/progenyref13.right -/
def c49 : CFn := ⟨185, [.t 4],
 (.seq
 (.region [0, 1] [oX 2 25 4 0,
 oO 4 (.mv (.c (.bool false)))])
 (.seq
 (.seq
 (.region [1, 2] [oM 11 1,
 oO 12 (.len false (.t 11)),
 oO 13 (.bin .gtr (.t 12) (.c (.int .i64 200)))])
 (.cond (.t 13)
 (.seq
 (.region [] [oO 4 (.mv (.c (.bool false)))])
 .ret)
 .skip))
 (.seq
 (.seq
 (.region [1, 2] [oO 5 (.mv (.c (.int .i64 0)))])
 (.block 0
 (.loop c49_l0)))
 (.seq
 (.seq
 (.region [1, 2] [oO 6 (.mv (.c (.int .i64 0)))])
 (.block 2
 (.loop c49_l2)))
 (.seq
 (.region [] [oO 4 (.mv (.c (.bool true)))])
 .ret))))), false, false⟩
/-- progeny/progenyref11.Way -/
def c50 : CFn := ⟨17, [.t 4, .t 5],
 (.seq
 (.region [0, 1] [oX 2 25 4 0,
 oO 4 (.mv (.c (.nils))),
 oO 5 (.mv (.c (.int .i64 0)))])
 (.seq
 (.seq
 (.region [1, 2] [oL 7 4 2,
 oM 8 1,
 oO 9 (.bslice 3 1 [[.int .i64 0]] [(0, (.t 8))]),
 oO 10 (k2 91 7 9),
 oM 6 10])
 (.seq
 (.region [1, 2, 6] [oM 11 6,
 oO 12 (.bin .neq (.t 11) (.c (.int .i64 0)))])
 (.cond (.t 12)
 (.seq
 (.region [6] [oM 13 6,
 oO 4 (.mv (.c (.nils))),
 oM 5 13])
 .ret)
 .skip)))
 (.seq
 (.region [1, 2] [oL 14 4 2,
 oM 15 1,
 oO 16 (z2 80 14 15),
 oM 4 16,
 oO 5 (.mv (.c (.int .i64 0)))])
 .ret))), false, false⟩
def c51_l0 : CC :=
 (.seq
 (.seq
 (.region [1, 3, 7, 8, 9] [oM 14 9,
 oM 15 8,
 oO 16 (.len false (.t 15)),
 oB 17 .lss 14 16])
 (.cond (.t 17)
 .skip
 (.exit 0)))
 (.seq
 (.block 1
 (.draw [1, 3, 7, 8, 9] [oM 20 7,
 oL 21 4 3,
 oM 22 1,
 oM 23 8,
 oM 24 9,
 oF 25 (.iaddr 1 (.t 23) (.t 24)) [3, 4],
 oF 26 (.load false 1 (.t 25)) [3, 4, 5],
 oF 27 (.iaddr 2 (.t 22) (.t 26)) [2, 3, 4, 5, 6],
 oF 28 (.load true 2 (.t 27)) [2, 3, 4, 5, 6, 7],
 oF 29 (k2 90 21 28) [1, 2, 3, 4, 5, 6, 7, 8],
 oF 30 (.bslice 9 1 [[.str ⟨#[]⟩]] [(0, (.t 29))]) [1, 2, 3, 4, 5, 6, 7, 8, 9],
 oF 31 (.app 9 1 16 false (.t 20) (.t 30)) (u 11),
 oF 7 (.mv (.t 31)) (u 12)]))
 (.region [1, 3, 7, 8, 9] [oM 18 9,
 oO 19 (.bin .add (.t 18) (.c (.int .i64 1))),
 oM 9 19])))
/-- progeny/progenyref13.fullKey -/
def c51 : CFn := ⟨34, [.t 6],
 (.seq
 (.region [0, 1, 2] [oX 3 25 4 0,
 oO 6 (.mv (.c (.nils)))])
 (.seq
 (.region [1, 2, 3] [oO 7 (.mv (.c (.nils)))])
 (.seq
 (.region [1, 2, 3, 7] [oL 10 4 3,
 oM 11 1,
 oM 12 2,
 oO 13 (z3 72 10 11 12),
 oM 8 13])
 (.seq
 (.seq
 (.region [1, 3, 7, 8] [oO 9 (.mv (.c (.int .i64 0)))])
 (.block 0
 (.loop c51_l0)))
 (.seq
 (.region [7] [oM 32 7,
 oO 33 (z1 92 32),
 oM 6 33])
 .ret))))), false, false⟩
/-- progeny/call.gets -/
def c56 : CFn := ⟨6, [.t 2],
 (.seq
 (.region [0] [oO 2 (.mv (.c (.bool false)))])
 (.seq
 (.region [0] [oO 3 (.bslice 9 1 [[.str ⟨#[]⟩], [.str ⟨#[]⟩], [.str ⟨#[]⟩], [.str ⟨#[]⟩], [.str ⟨#[]⟩], [.str ⟨#[]⟩]] [(0, (.c (.str ⟨#[71, 85]⟩))), (1, (.c (.str ⟨#[71, 78]⟩))), (2, (.c (.str ⟨#[71, 78, 80]⟩))), (3, (.c (.str ⟨#[71, 72, 85]⟩))), (4, (.c (.str ⟨#[71, 72, 78]⟩))), (5, (.c (.str ⟨#[71, 72, 78, 80]⟩)))]),
 oM 4 0,
 oO 5 (k2 100 3 4),
 oM 2 5])
 .ret)), false, false⟩
/-- progeny/call.changes -/
def c57 : CFn := ⟨6, [.t 2],
 (.seq
 (.region [0] [oO 2 (.mv (.c (.bool false)))])
 (.seq
 (.region [0] [oO 3 (.bslice 9 1 [[.str ⟨#[]⟩], [.str ⟨#[]⟩], [.str ⟨#[]⟩]] [(0, (.c (.str ⟨#[73, 83, 82, 84]⟩))), (1, (.c (.str ⟨#[82, 69, 80, 76]⟩))), (2, (.c (.str ⟨#[68, 76, 69, 84]⟩)))]),
 oM 4 0,
 oO 5 (k2 100 3 4),
 oM 2 5])
 .ret)), false, false⟩
/-- (*progeny/call.book).satisfies -/
def c62 : CFn := ⟨35, [.t 8],
 (.seq
 (.region [0, 1, 2, 3] [oO 8 (.mv (.c (.bool false)))])
 (.seq
 (.seq
 (.region [0, 1, 2, 3] [oM 10 2,
 oO 11 (.len false (.t 10)),
 oM 9 11])
 (.seq
 (.draw [0, 1, 2, 3, 9] [oM 12 9,
 oF 13 (.bin .gtr (.t 12) (.c (.int .i64 0))) [0],
 oF 14 (.mv (.t 13)) [0, 1],
 ⟨(some 15), .mv (.t 0), some (14, true), [0, 1, 2], []⟩,
 ⟨(some 16), .nilck (.t 15), some (14, true), (u 4), []⟩,
 ⟨(some 17), .faddr 4 (.t 16), some (14, true), (u 5), []⟩,
 ⟨(some 18), .load false 1 (.t 17), some (14, true), (u 6), []⟩,
 ⟨(some 19), .mv (.t 3), some (14, true), [0, 1, 2], []⟩,
 ⟨(some 20), .iaddr 2 (.t 18) (.t 19), some (14, true), (u 8), []⟩,
 ⟨(some 21), .faddr 0 (.t 20), some (14, true), (u 9), []⟩,
 ⟨(some 22), .load false 1 (.t 21), some (14, true), (u 10), []⟩,
 ⟨(some 23), .mv (.t 2), some (14, true), [0, 1, 2], []⟩,
 ⟨(some 24), .mv (.t 9), some (14, true), [0, 1, 2], []⟩,
 ⟨(some 25), .bin .sub (.t 24) (.c (.int .i64 1)), some (14, true), [0, 1, 2, 12], []⟩,
 ⟨(some 26), .iaddr 1 (.t 23) (.t 25), some (14, true), [0, 1, 2, 11, 12, 13], []⟩,
 ⟨(some 27), .load false 1 (.t 26), some (14, true), [0, 1, 2, 11, 12, 13, 14], []⟩,
 ⟨(some 28), .bin .neq (.t 22) (.t 27), some (14, true), (u 16), []⟩,
 oF 29 (.pick (.t 14) (.t 28) (.c (.bool false))) (u 17)])
 (.cond (.t 29)
 (.seq
 (.region [] [oO 8 (.mv (.c (.bool false)))])
 .ret)
 .skip)))
 (.seq
 (.region [0, 1, 2, 3] [oM 30 0,
 oM 31 1,
 oM 32 2,
 oM 33 3,
 oO 34 (k4 106 30 31 32 33),
 oM 8 34])
 .ret))), false, false⟩
def c65_l0 : CC :=
 (.seq
 (.seq
 (.region [0, 1, 2, 4, 11] [oM 13 11,
 oM 14 4,
 oB 15 .lss 13 14])
 (.cond (.t 15)
 .skip
 (.exit 0)))
 (.seq
 (.block 1
 (.seq
 (.region [0, 1, 2, 4, 11] [oM 18 0,
 oM 19 1,
 oM 20 2,
 oM 21 11,
 oO 22 (k4 62 18 19 20 21)])
 (.cond (.t 22)
 (.seq
 (.region [11] [oM 23 11,
 oM 10 23])
 .ret)
 .skip)))
 (.region [0, 1, 2, 4, 11] [oM 16 11,
 oO 17 (.bin .add (.t 16) (.c (.int .i64 1))),
 oM 11 17])))
/-- (*progeny/call.book).search -/
def c65 : CFn := ⟨24, [.t 10],
 (.seq
 (.region [0, 1, 2, 3, 4] [oO 10 (.mv (.c (.int .i64 0)))])
 (.seq
 (.seq
 (.region [0, 1, 2, 3, 4] [oM 12 3,
 oM 11 12])
 (.block 0
 (.loop c65_l0)))
 (.seq
 (.region [] [oO 10 (.mv (.c (.int .i64 (-1))))])
 .ret))), false, false⟩
/-- slices.ContainsFunc[[]int,int] -/
def c67 : CFn := ⟨9, [.t 4],
 (.seq
 (.region [0, 1] [oO 4 (.mv (.c (.bool false)))])
 (.seq
 (.region [0, 1] [oM 5 0,
 oM 6 1,
 oO 7 (k2 107 5 6),
 oO 8 (.bin .geq (.t 7) (.c (.int .i64 0))),
 oM 4 8])
 .ret)), false, false⟩
def c69_l0 : CC :=
 (.seq
 (.seq
 (.region [0, 1, 2] [oM 7 1,
 oO 8 (.bin .geq (.t 7) (.c (.int .i64 0))),
 oM 9 8,
 oG 10 (.mv (.t 0)) 9 true,
 oG 11 (.nilck (.t 10)) 9 true,
 oG 12 (.faddr 4 (.t 11)) 9 true,
 oG 13 (.load false 1 (.t 12)) 9 true,
 oG 14 (.mv (.t 1)) 9 true,
 oG 15 (.iaddr 2 (.t 13) (.t 14)) 9 true,
 oG 16 (.faddr 0 (.t 15)) 9 true,
 oG 17 (.load false 1 (.t 16)) 9 true,
 oG 18 (.mv (.t 2)) 9 true,
 oG 19 (.bin .neq (.t 17) (.t 18)) 9 true,
 oO 20 (.pick (.t 9) (.t 19) (.c (.bool false)))])
 (.cond (.t 20)
 .skip
 (.exit 0)))
 (.block 1
 (.region [0, 1, 2] [oM 21 0,
 oO 22 (.nilck (.t 21)),
 oA 23 5 22,
 ol 24 1 23,
 oM 25 1,
 oI 26 1 24 25,
 ol 27 1 26,
 oM 1 27])))
/-- (*progeny/call.book).on -/
def c69 : CFn := ⟨29, [.t 6],
 (.seq
 (.region [0, 1, 2] [oO 6 (.mv (.c (.int .i64 0)))])
 (.seq
 (.block 0
 (.loop c69_l0))
 (.seq
 (.region [1] [oM 28 1,
 oM 6 28])
 .ret))), false, false⟩
def c70_l0 : CC :=
 (.seq
 (.region [0, 1, 2, 3, 8, 9, 10, 11, 21, 22, 23] [oB 24 .lss 23 22])
 (.seq
 (.cond (.t 24)
 .skip
 (.exit 0))
 (.seq
 (.block 1
 (.seq
 (.region [0, 1, 2, 3, 8, 9, 10, 11, 21, 22, 23] [oI 25 1 21 23,
 ol 26 1 25,
 oM 13 26])
 (.seq
 (.region [0, 1, 2, 3, 8, 9, 10, 11, 13, 21, 22, 23] [oM 27 0,
 oO 28 (.nilck (.t 27)),
 oA 29 4 28,
 ol 30 1 29,
 oM 31 13,
 oI 32 2 30 31,
 oL 33 2 32,
 oO 14 (.box 55 2 (.c (.agg [.int .i64 0, .str ⟨#[]⟩]))),
 oS 2 14 33])
 (.seq
 (.draw [0, 1, 2, 3, 8, 9, 10, 11, 14, 21, 22, 23] [oM 35 0,
 oF 36 (.nilck (.t 35)) [0],
 oF 37 (.faddr 0 (.t 36)) [0, 1],
 oF 38 (.load true 4 (.t 37)) [0, 1, 2],
 oA 39 0 14,
 oF 40 (.load false 1 (.t 39)) [4],
 oA 41 1 14,
 oF 42 (.load false 1 (.t 41)) [6],
 oF 43 (k3 109 38 40 42) (u 8),
 oF 34 (.mv (.t 43)) (u 9),
 oF 44 (.extract (.t 34) 0) (u 10),
 oF 45 (.extract (.t 34) 1) (u 10),
 oF 15 (.mv (.t 44)) (u 11),
 oF 16 (.mv (.t 45)) (u 13)])
 (.seq
 (.region [0, 1, 2, 3, 8, 9, 10, 11, 14, 15, 21, 22, 23] [oM 46 9,
 oM 47 15,
 oO 48 (.bslice 9 1 [[.str ⟨#[]⟩]] [(0, (.t 47))]),
 oO 49 (.app 9 1 16 false (.t 46) (.t 48)),
 oM 9 49])
 (.seq
 (.region [0, 1, 2, 3, 8, 9, 10, 11, 14, 21, 22, 23] [oM 50 2,
 oA 51 0 14,
 ol 52 1 51,
 oO 53 (k2 110 50 52),
 oM 17 53])
 (.seq
 (.region [0, 1, 2, 3, 8, 9, 10, 11, 14, 17, 21, 22, 23] [oM 54 17,
 oO 55 (.bin .geq (.t 54) (.c (.int .i64 0))),
 oM 56 55,
 oG 57 (.mv (.t 17)) 56 true,
 oG 58 (.mv (.t 1)) 56 true,
 oG 59 (.len false (.t 58)) 56 true,
 oG 60 (.bin .sub (.t 59) (.c (.int .i64 1))) 56 true,
 oG 61 (.bin .lss (.t 57) (.t 60)) 56 true,
 oO 62 (.pick (.t 56) (.t 61) (.c (.bool false))),
 oM 63 62,
 oG 64 (.mv (.t 1)) 63 true,
 oG 65 (.mv (.t 17)) 63 true,
 oG 66 (.iaddr 3 (.t 64) (.t 65)) 63 true,
 oG 67 (.load true 3 (.t 66)) 63 true,
 oG 68 (.call (.c (.fn 111 [])) [(.t 67), (.c (.int .u8 68))] false) 63 true,
 oO 69 (.pick (.t 63) (.t 68) (.c (.bool false)))])
 (.cond (.t 69)
 (.region [0, 1, 2, 3, 8, 9, 10, 11, 14, 21, 22, 23] [oM 70 10,
 oA 71 1 14,
 ol 72 1 71,
 oB 73 .add 70 72,
 oM 10 73])
 .skip))))))))
 (.region [0, 1, 2, 3, 8, 9, 10, 11, 21, 22, 23] [oO 74 (.bin .add (.t 23) (.c (.int .i64 1))),
 oM 23 74]))))
/-- (*progeny/call.book).answer -/
def c70 : CFn := ⟨108, [.cell 8 true 5],
 (.seq
 (.region [0, 1, 2, 3] [oO 8 (.box 49 5 (.c (.agg [.str ⟨#[]⟩, .str ⟨#[]⟩, .int .i64 0, .str ⟨#[]⟩, .str ⟨#[]⟩])))])
 (.seq
 (.region [0, 1, 2, 3, 8] [oO 9 (.mv (.c (.nils)))])
 (.seq
 (.region [0, 1, 2, 3, 8, 9] [oO 10 (.mv (.c (.str ⟨#[]⟩)))])
 (.seq
 (.region [0, 1, 2, 3, 8, 9, 10] [oM 18 0,
 oM 19 3,
 oO 20 (z2 108 18 19),
 oM 11 20])
 (.seq
 (.seq
 (.region [0, 1, 2, 3, 8, 9, 10, 11] [oM 21 11,
 oO 22 (.len false (.t 21)),
 oO 23 (.mv (.c (.int .i64 0)))])
 (.block 0
 (.loop c70_l0)))
 (.seq
 (.region [0, 3, 8, 9, 10, 11] [oM 75 10,
 oM 76 0,
 oO 77 (.nilck (.t 76)),
 oA 78 4 77,
 ol 79 1 78,
 oM 80 3,
 oI 81 2 79 80,
 oA 82 1 81,
 ol 83 1 82,
 oB 84 .add 75 83,
 oM 10 84])
 (.seq
 (.draw [0, 3, 8, 9, 10, 11] [oM 85 0,
 oF 86 (.nilck (.t 85)) [0],
 oF 87 (.faddr 0 (.t 86)) [0, 1],
 oF 88 (.faddr 2 (.t 87)) [0, 1, 2],
 oa 89 (.load false 1 (.t 88)) (u 4) [20],
 oM 90 0,
 oF 91 (.nilck (.t 90)) [5],
 oF 92 (.faddr 4 (.t 91)) [5, 6],
 oa 93 (.load false 1 (.t 92)) [5, 6, 7] [20],
 oM 94 3,
 oF 95 (.iaddr 2 (.t 93) (.t 94)) [5, 6, 7, 8, 9],
 oF 96 (.faddr 0 (.t 95)) [5, 6, 7, 8, 9, 10],
 oa 97 (.load false 1 (.t 96)) [5, 6, 7, 8, 9, 10, 11] [20],
 oF 98 (.iaddr 8 (.t 89) (.t 97)) (u 13),
 oF 99 (.faddr 0 (.t 98)) (u 14),
 oa 100 (.load false 1 (.t 99)) (u 15) [20],
 oM 101 11,
 oF 102 (.len false (.t 101)) [16],
 oM 103 9,
 oF 104 (z1 112 103) [18],
 oF 105 (.b2s (.t 104)) [18, 19],
 oM 106 10,
 oF 107 (.build [.str ⟨#[]⟩, .str ⟨#[]⟩, .int .i64 0, .str ⟨#[]⟩, .str ⟨#[]⟩] [(0, 1, (.c (.str ⟨#[32, 32]⟩))), (1, 1, (.t 100)), (2, 1, (.t 102)), (3, 1, (.t 105)), (4, 1, (.t 106))]) (u 22),
 ⟨none, .store 5 (.t 8) (.t 107), none, (u 23), []⟩])
 .ret))))))), false, false⟩
def c72_l0 : CC :=
 (.seq
 (.seq
 (.region [1, 2, 3, 7] [oM 8 2,
 oO 9 (.bin .geq (.t 8) (.c (.int .i64 0)))])
 (.cond (.t 9)
 .skip
 (.exit 0)))
 (.block 1
 (.seq
 (.region [1, 2, 3, 7] [oM 10 2,
 oO 11 (.bslice 3 1 [[.int .i64 0]] [(0, (.t 10))]),
 oM 12 7,
 oO 13 (.app 3 1 8 false (.t 11) (.t 12)),
 oM 7 13])
 (.region [1, 2, 3, 7] [oL 14 4 3,
 oM 15 1,
 oM 16 2,
 oO 17 (k3 89 14 15 16),
 oM 2 17]))))
/-- progeny/progenyref13.Way -/
def c72 : CFn := ⟨19, [.t 6],
 (.seq
 (.region [0, 1, 2] [oX 3 25 4 0,
 oO 6 (.mv (.c (.nils)))])
 (.seq
 (.region [1, 2, 3] [oO 7 (.mv (.c (.nils)))])
 (.seq
 (.block 0
 (.loop c72_l0))
 (.seq
 (.region [7] [oM 18 7,
 oM 6 18])
 .ret)))), false, false⟩
/-- progeny/dbd.Valid -/
def c75 : CFn := ⟨28, [.t 2],
 (.seq
 (.region [0] [oX 1 25 4 0,
 oO 2 (.mv (.c (.bool false)))])
 (.seq
 (.region [1] [oA 3 0 1,
 ol 4 1 3,
 oO 5 (k1 113 4),
 oM 6 5,
 oG 7 (.faddr 1 (.t 1)) 6 true,
 oG 8 (.load false 1 (.t 7)) 6 true,
 oG 9 (.bin .geq (.t 8) (.c (.int .i64 1))) 6 true,
 oO 10 (.pick (.t 6) (.t 9) (.c (.bool false))),
 oM 11 10,
 oG 12 (.faddr 1 (.t 1)) 11 true,
 oG 13 (.load false 1 (.t 12)) 11 true,
 oG 14 (.bin .leq (.t 13) (.c (.int .i64 4))) 11 true,
 oO 15 (.pick (.t 11) (.t 14) (.c (.bool false))),
 oM 16 15,
 oG 17 (.faddr 2 (.t 1)) 16 true,
 oG 18 (.load false 1 (.t 17)) 16 true,
 oG 19 (k1 114 18) 16 true,
 oO 20 (.pick (.t 16) (.t 19) (.c (.bool false))),
 oM 21 20,
 oG 22 (.faddr 3 (.t 1)) 21 true,
 oG 23 (.load false 1 (.t 22)) 21 true,
 oG 24 (.faddr 2 (.t 1)) 21 true,
 oG 25 (.load false 1 (.t 24)) 21 true,
 oG 26 (k2 115 23 25) 21 true,
 oO 27 (.pick (.t 21) (.t 26) (.c (.bool false))),
 oM 2 27])
 .ret)), false, false⟩
def c76_l0 : CC :=
 (.seq
 (.region [2, 3, 5, 6, 16, 17, 18] [oB 19 .lss 18 17])
 (.seq
 (.cond (.t 19)
 .skip
 (.exit 0))
 (.seq
 (.block 1
 (.seq
 (.region [2, 3, 5, 6, 16, 17, 18] [oM 20 18,
 oI 21 2 16 18,
 oL 22 2 21,
 oO 8 (.box 55 2 (.c (.agg [.int .i64 0, .str ⟨#[]⟩]))),
 oM 7 20,
 oS 2 8 22])
 (.seq
 (.seq
 (.region [2, 3, 5, 6, 7, 8, 16, 17, 18] [oL 23 4 2,
 oL 24 2 8,
 oO 25 (k2 116 23 24),
 oN 26 25])
 (.cond (.t 26)
 (.seq
 (.region [] [oO 4 (.mv (.c (.bool false)))])
 .ret)
 .skip))
 (.seq
 (.region [2, 3, 5, 6, 7, 8, 16, 17, 18] [oA 27 2 2,
 ol 28 1 27,
 oA 29 0 8,
 ol 30 1 29,
 oI 31 8 28 30,
 oA 32 1 31,
 ol 33 1 32,
 oO 9 (.box 3 1 (.c (.int .i64 0))),
 oS 1 9 33])
 (.seq
 (.region [2, 3, 5, 6, 7, 8, 9, 16, 17, 18] [oO 10 (.mv (.c (.int .i64 0)))])
 (.seq
 (.seq
 (.region [2, 3, 5, 6, 7, 8, 9, 10, 16, 17, 18] [ol 34 1 9,
 oO 35 (.bin .geq (.t 34) (.c (.int .i64 0)))])
 (.cond (.t 35)
 (.seq
 (.region [2, 3, 5, 6, 7, 8, 9, 16, 17, 18] [oM 36 5,
 oO 37 (.mkfn 117 [(.t 3), (.t 9)]),
 oO 38 (k2 107 36 37),
 oO 39 (.bin .add (.c (.int .i64 1)) (.t 38)),
 oM 10 39])
 (.seq
 (.region [2, 3, 5, 6, 7, 8, 10, 16, 17, 18] [oM 40 10,
 oO 41 (.bin .eql (.t 40) (.c (.int .i64 0)))])
 (.cond (.t 41)
 (.seq
 (.region [] [oO 4 (.mv (.c (.bool false)))])
 .ret)
 .skip)))
 .skip))
 (.seq
 (.seq
 (.region [2, 3, 5, 6, 7, 8, 10, 16, 17, 18] [oM 42 6,
 oM 43 10,
 oI 44 1 42 43,
 ol 45 1 44,
 oM 11 45])
 (.seq
 (.draw [2, 3, 5, 6, 7, 8, 10, 11, 16, 17, 18] [oM 46 11,
 oF 47 (.bin .geq (.t 46) (.c (.int .i64 0))) [0],
 oF 48 (.mv (.t 47)) [0, 1],
 ⟨(some 49), .load false 1 (.t 3), some (48, true), [0, 1, 2], []⟩,
 ⟨(some 50), .mv (.t 11), some (48, true), [0, 1, 2], []⟩,
 ⟨(some 51), .iaddr 2 (.t 49) (.t 50), some (48, true), (u 5), []⟩,
 ⟨(some 52), .faddr 0 (.t 51), some (48, true), (u 6), []⟩,
 ⟨(some 53), .load false 1 (.t 52), some (48, true), (u 7), []⟩,
 ⟨(some 54), .faddr 0 (.t 8), some (48, true), [0, 1, 2], []⟩,
 ⟨(some 55), .load false 1 (.t 54), some (48, true), [0, 1, 2, 8], []⟩,
 ⟨(some 56), .bin .gtr (.t 53) (.t 55), some (48, true), (u 10), []⟩,
 ⟨(some 57), .mv (.t 56), some (48, true), (u 11), []⟩,
 ⟨(some 58), .load false 1 (.t 3), some (57, false), (u 12), []⟩,
 ⟨(some 59), .mv (.t 11), some (57, false), (u 12), []⟩,
 ⟨(some 60), .iaddr 2 (.t 58) (.t 59), some (57, false), (u 14), []⟩,
 ⟨(some 61), .faddr 0 (.t 60), some (57, false), (u 15), []⟩,
 ⟨(some 62), .load false 1 (.t 61), some (57, false), (u 16), []⟩,
 ⟨(some 63), .faddr 0 (.t 8), some (57, false), (u 12), []⟩,
 ⟨(some 64), .load false 1 (.t 63), some (57, false), (u 12 ++ [17]), []⟩,
 ⟨(some 65), .bin .eql (.t 62) (.t 64), some (57, false), (u 19), []⟩,
 ⟨(some 66), .mv (.t 65), some (57, false), (u 20), []⟩,
 ⟨(some 67), .faddr 2 (.t 2), some (66, true), (u 21), []⟩,
 ⟨(some 68), .load false 1 (.t 67), some (66, true), (u 22), []⟩,
 ⟨(some 69), .faddr 0 (.t 8), some (66, true), (u 21), []⟩,
 ⟨(some 70), .load false 1 (.t 69), some (66, true), (u 21 ++ [23]), []⟩,
 ⟨(some 71), .iaddr 8 (.t 68) (.t 70), some (66, true), (u 25), []⟩,
 ⟨(some 72), .load true 8 (.t 71), some (66, true), (u 26), []⟩,
 ⟨(some 73), .load false 1 (.t 3), some (66, true), (u 21), []⟩,
 ⟨(some 74), .mv (.t 11), some (66, true), (u 21), []⟩,
 ⟨(some 75), .iaddr 2 (.t 73) (.t 74), some (66, true), (u 21 ++ [27, 28]), []⟩,
 ⟨(some 76), .faddr 1 (.t 75), some (66, true), (u 21 ++ [27, 28, 29]), []⟩,
 ⟨(some 77), .load false 1 (.t 76), some (66, true), (u 21 ++ [27, 28, 29, 30]), []⟩,
 ⟨(some 78), .faddr 1 (.t 8), some (66, true), (u 21), []⟩,
 ⟨(some 79), .load false 1 (.t 78), some (66, true), (u 21 ++ [32]), []⟩,
 ⟨(some 80), k3 118 72 77 79, some (66, true), (u 34), []⟩,
 ⟨(some 81), .un .not (.t 80), some (66, true), (u 35), []⟩,
 ⟨(some 82), .pick (.t 66) (.t 81) (.c (.bool false)), some (57, false), (u 36), []⟩,
 ⟨(some 83), .pick (.t 57) (.c (.bool true)) (.t 82), some (48, true), (u 37), []⟩,
 oF 84 (.pick (.t 48) (.t 83) (.c (.bool false))) (u 38)])
 (.cond (.t 84)
 (.seq
 (.region [] [oO 4 (.mv (.c (.bool false)))])
 .ret)
 .skip)))
 (.draw [2, 3, 5, 6, 7, 10, 16, 17, 18] [oM 85 5,
 oM 86 10,
 oF 87 (.slc 1 (.t 85) none (some (.t 86)) none) [0, 1],
 oM 88 7,
 oF 89 (.flst 3 1 [[.int .i64 0]] [(0, (.t 88))]) [3],
 oF 90 (.app 3 1 8 false (.t 87) (.t 89)) (u 5),
 oM 91 6,
 oM 92 10,
 oa 93 (.slc 1 (.t 91) none (some (.t 92)) none) [6, 7] [5],
 oM 94 7,
 oF 95 (.flst 3 1 [[.int .i64 0], [.int .i64 0]] [(0, (.t 94)), (1, (.c (.int .i64 (-1))))]) [9],
 oF 96 (.app 3 1 8 false (.t 93) (.t 95)) (u 11),
 oF 5 (.mv (.t 90)) (u 12),
 oF 6 (.mv (.t 96)) (u 13)]))))))))
 (.region [2, 3, 5, 6, 16, 17, 18] [oO 97 (.bin .add (.t 18) (.c (.int .i64 1))),
 oM 18 97]))))
/-- progeny/plain.valid -/
def c76 : CFn := ⟨98, [.t 4],
 (.seq
 (.region [0, 1] [oX 2 25 4 0,
 oX 3 26 1 1,
 oO 4 (.mv (.c (.bool false)))])
 (.seq
 (.seq
 (.region [2, 3] [ol 12 1 3,
 oO 13 (.len false (.t 12)),
 oO 14 (.bin .gtr (.t 13) (.c (.int .i64 200)))])
 (.cond (.t 14)
 (.seq
 (.region [] [oO 4 (.mv (.c (.bool false)))])
 .ret)
 .skip))
 (.seq
 (.region [2, 3] [oO 5 (.mv (.c (.nils)))])
 (.seq
 (.region [2, 3, 5] [oO 15 (.bslice 3 1 [[.int .i64 0]] [(0, (.c (.int .i64 (-1))))]),
 oM 6 15])
 (.seq
 (.seq
 (.region [2, 3, 5, 6] [ol 16 1 3,
 oO 17 (.len false (.t 16)),
 oO 18 (.mv (.c (.int .i64 0)))])
 (.block 0
 (.loop c76_l0)))
 (.seq
 (.region [] [oO 4 (.mv (.c (.bool true)))])
 .ret)))))), false, false⟩
def c77_l0 : CC :=
 (.seq
 (.seq
 (.region [0, 3] [oM 5 3,
 oM 6 0,
 oO 7 (.len true (.t 6)),
 oB 8 .lss 5 7])
 (.cond (.t 8)
 .skip
 (.exit 0)))
 (.seq
 (.block 1
 (.seq
 (.region [0, 3] [oM 11 0,
 oM 12 3,
 oO 13 (.idx (.t 11) (.t 12)),
 oO 14 (.bin .geq (.t 13) (.c (.int .u8 65))),
 oM 15 14,
 oG 16 (.mv (.t 0)) 15 true,
 oG 17 (.mv (.t 3)) 15 true,
 oG 18 (.idx (.t 16) (.t 17)) 15 true,
 oG 19 (.bin .leq (.t 18) (.c (.int .u8 90))) 15 true,
 oO 20 (.pick (.t 15) (.t 19) (.c (.bool false))),
 oM 4 20])
 (.seq
 (.region [0, 3, 4] [oM 21 4,
 oN 22 21,
 oM 23 22,
 oG 24 (.mv (.t 3)) 23 true,
 oG 25 (.bin .eql (.t 24) (.c (.int .i64 0))) 23 true,
 oG 26 (.mv (.t 25)) 23 true,
 oG 27 (.mv (.t 0)) 26 false,
 oG 28 (.mv (.t 3)) 26 false,
 oG 29 (.idx (.t 27) (.t 28)) 26 false,
 oG 30 (.bin .lss (.t 29) (.c (.int .u8 48))) 26 false,
 oG 31 (.pick (.t 26) (.c (.bool true)) (.t 30)) 23 true,
 oG 32 (.mv (.t 31)) 23 true,
 oG 33 (.mv (.t 0)) 32 false,
 oG 34 (.mv (.t 3)) 32 false,
 oG 35 (.idx (.t 33) (.t 34)) 32 false,
 oG 36 (.bin .gtr (.t 35) (.c (.int .u8 57))) 32 false,
 oG 37 (.pick (.t 32) (.c (.bool true)) (.t 36)) 23 true,
 oO 38 (.pick (.t 23) (.t 37) (.c (.bool false)))])
 (.cond (.t 38)
 (.seq
 (.region [] [oO 2 (.mv (.c (.bool false)))])
 .ret)
 .skip))))
 (.region [0, 3] [oM 9 3,
 oO 10 (.bin .add (.t 9) (.c (.int .i64 1))),
 oM 3 10])))
/-- progeny/progenyref11.IsName -/
def c77 : CFn := ⟨47, [.t 2],
 (.seq
 (.region [0] [oO 2 (.mv (.c (.bool false)))])
 (.seq
 (.seq
 (.region [0] [oO 3 (.mv (.c (.int .i64 0)))])
 (.block 0
 (.loop c77_l0)))
 (.seq
 (.region [0] [oM 39 0,
 oO 40 (.len true (.t 39)),
 oO 41 (.bin .geq (.t 40) (.c (.int .i64 1))),
 oM 42 41,
 oG 43 (.mv (.t 0)) 42 true,
 oG 44 (.len true (.t 43)) 42 true,
 oG 45 (.bin .leq (.t 44) (.c (.int .i64 8))) 42 true,
 oO 46 (.pick (.t 42) (.t 45) (.c (.bool false))),
 oM 2 46])
 .ret))), false, false⟩
def c78_l0 : CC :=
 (.seq
 (.seq
 (.region [1, 3, 4, 5] [oM 49 5,
 oM 50 3,
 oB 51 .lss 49 50])
 (.cond (.t 51)
 .skip
 (.exit 2)))
 (.seq
 (.block 3
 (.seq
 (.draw [1, 3, 4, 5] [oA 54 4 1,
 oF 55 (.load false 1 (.t 54)) [0],
 oM 56 5,
 oF 57 (.iaddr 3 (.t 55) (.t 56)) [0, 1, 2],
 oF 58 (.faddr 0 (.t 57)) (u 4),
 oF 59 (.load false 1 (.t 58)) (u 5),
 oA 60 0 4,
 oF 61 (.load false 1 (.t 60)) [6],
 oF 62 (.bin .eql (.t 59) (.t 61)) (u 8)])
 (.cond (.t 62)
 (.seq
 (.region [] [oO 2 (.mv (.c (.bool false)))])
 .ret)
 .skip)))
 (.region [1, 3, 4, 5] [oM 52 5,
 oO 53 (.bin .add (.t 52) (.c (.int .i64 1))),
 oM 5 53])))
def c78_l1 : CC :=
 (.seq
 (.seq
 (.region [1, 3] [oM 6 3,
 oA 7 4 1,
 ol 8 1 7,
 oO 9 (.len false (.t 8)),
 oB 10 .lss 6 9])
 (.cond (.t 10)
 .skip
 (.exit 0)))
 (.seq
 (.block 1
 (.seq
 (.region [1, 3] [oA 13 4 1,
 ol 14 1 13,
 oM 15 3,
 oI 16 3 14 15,
 oL 17 3 16,
 oO 4 (.box 120 3 (.c (.agg [.str ⟨#[]⟩, .int .i64 0, .int .i64 0]))),
 oS 3 4 17])
 (.seq
 (.seq
 (.region [1, 3, 4] [oA 18 0 4,
 ol 19 1 18,
 oO 20 (k1 77 19),
 oN 21 20,
 oM 22 21,
 oG 23 (.faddr 1 (.t 4)) 22 false,
 oG 24 (.load false 1 (.t 23)) 22 false,
 oG 25 (.bin .lss (.t 24) (.c (.int .i64 0))) 22 false,
 oO 26 (.pick (.t 22) (.c (.bool true)) (.t 25)),
 oM 27 26,
 oG 28 (.faddr 1 (.t 4)) 27 false,
 oG 29 (.load false 1 (.t 28)) 27 false,
 oG 30 (.faddr 3 (.t 1)) 27 false,
 oG 31 (.load false 1 (.t 30)) 27 false,
 oG 32 (.bin .gtr (.t 29) (.t 31)) 27 false,
 oO 33 (.pick (.t 27) (.c (.bool true)) (.t 32)),
 oM 34 33,
 oG 35 (.faddr 2 (.t 4)) 34 false,
 oG 36 (.load false 1 (.t 35)) 34 false,
 oG 37 (.bin .lss (.t 36) (.c (.int .i64 1))) 34 false,
 oO 38 (.pick (.t 34) (.c (.bool true)) (.t 37)),
 oM 39 38,
 oG 40 (.faddr 2 (.t 4)) 39 false,
 oG 41 (.load false 1 (.t 40)) 39 false,
 oG 42 (.faddr 3 (.t 1)) 39 false,
 oG 43 (.load false 1 (.t 42)) 39 false,
 oG 44 (.faddr 1 (.t 4)) 39 false,
 oG 45 (.load false 1 (.t 44)) 39 false,
 oG 46 (.bin .sub (.t 43) (.t 45)) 39 false,
 oG 47 (.bin .gtr (.t 41) (.t 46)) 39 false,
 oO 48 (.pick (.t 39) (.c (.bool true)) (.t 47))])
 (.cond (.t 48)
 (.seq
 (.region [] [oO 2 (.mv (.c (.bool false)))])
 .ret)
 .skip))
 (.seq
 (.region [1, 3, 4] [oO 5 (.mv (.c (.int .i64 0)))])
 (.block 2
 (.loop c78_l0))))))
 (.region [1, 3] [oM 11 3,
 oO 12 (.bin .add (.t 11) (.c (.int .i64 1))),
 oM 3 12])))
/-- progeny/progenyref11.fields -/
def c78 : CFn := ⟨112, [.t 2],
 (.seq
 (.region [0] [oX 1 61 8 0,
 oO 2 (.mv (.c (.bool false)))])
 (.seq
 (.seq
 (.region [1] [oO 3 (.mv (.c (.int .i64 0)))])
 (.block 0
 (.loop c78_l1)))
 (.seq
 (.seq
 (.region [1] [oA 63 5 1,
 ol 64 1 63,
 oO 65 (.bin .lss (.t 64) (.c (.int .i64 (-1)))),
 oM 66 65,
 oG 67 (.faddr 5 (.t 1)) 66 false,
 oG 68 (.load false 1 (.t 67)) 66 false,
 oG 69 (.faddr 4 (.t 1)) 66 false,
 oG 70 (.load false 1 (.t 69)) 66 false,
 oG 71 (.len false (.t 70)) 66 false,
 oG 72 (.bin .geq (.t 68) (.t 71)) 66 false,
 oO 73 (.pick (.t 66) (.c (.bool true)) (.t 72)),
 oM 74 73,
 oG 75 (.faddr 5 (.t 1)) 74 false,
 oG 76 (.load false 1 (.t 75)) 74 false,
 oG 77 (.bin .lss (.t 76) (.c (.int .i64 0))) 74 false,
 oG 78 (.mv (.t 77)) 74 false,
 oG 79 (.faddr 6 (.t 1)) 78 true,
 oG 80 (.load false 1 (.t 79)) 78 true,
 oG 81 (.pick (.t 78) (.t 80) (.c (.bool false))) 74 false,
 oO 82 (.pick (.t 74) (.c (.bool true)) (.t 81))])
 (.cond (.t 82)
 (.seq
 (.region [] [oO 2 (.mv (.c (.bool false)))])
 .ret)
 .skip))
 (.seq
 (.draw [1] [oA 83 4 1,
 oF 84 (.load false 1 (.t 83)) [0],
 oF 85 (.len false (.t 84)) [0, 1],
 oF 86 (.bin .leq (.t 85) (.c (.int .i64 5))) [0, 1, 2],
 oF 87 (.mv (.t 86)) (u 4),
 ⟨(some 88), .faddr 5 (.t 1), some (87, true), (u 5), []⟩,
 ⟨(some 89), .load false 1 (.t 88), some (87, true), (u 6), []⟩,
 ⟨(some 90), .bin .lss (.t 89) (.c (.int .i64 0)), some (87, true), (u 7), []⟩,
 ⟨(some 91), .mv (.t 90), some (87, true), (u 8), []⟩,
 ⟨(some 92), .faddr 4 (.t 1), some (91, false), (u 9), []⟩,
 ⟨(some 93), .load false 1 (.t 92), some (91, false), (u 10), []⟩,
 ⟨(some 94), .faddr 5 (.t 1), some (91, false), (u 9), []⟩,
 ⟨(some 95), .load false 1 (.t 94), some (91, false), (u 9 ++ [11]), []⟩,
 ⟨(some 96), .iaddr 3 (.t 93) (.t 95), some (91, false), (u 13), []⟩,
 ⟨(some 97), .faddr 1 (.t 96), some (91, false), (u 14), []⟩,
 ⟨(some 98), .load false 1 (.t 97), some (91, false), (u 15), []⟩,
 ⟨(some 99), .faddr 4 (.t 1), some (91, false), (u 9), []⟩,
 ⟨(some 100), .load false 1 (.t 99), some (91, false), (u 9 ++ [16]), []⟩,
 ⟨(some 101), .faddr 5 (.t 1), some (91, false), (u 9), []⟩,
 ⟨(some 102), .load false 1 (.t 101), some (91, false), (u 9 ++ [18]), []⟩,
 ⟨(some 103), .iaddr 3 (.t 100) (.t 102), some (91, false), (u 9 ++ [16, 17, 18, 19]), []⟩,
 ⟨(some 104), .faddr 2 (.t 103), some (91, false), (u 9 ++ [16, 17, 18, 19, 20]), []⟩,
 ⟨(some 105), .load false 1 (.t 104), some (91, false), (u 9 ++ [16, 17, 18, 19, 20, 21]), []⟩,
 ⟨(some 106), .bin .add (.t 98) (.t 105), some (91, false), (u 23), []⟩,
 ⟨(some 107), .faddr 2 (.t 1), some (91, false), (u 9), []⟩,
 ⟨(some 108), .load false 1 (.t 107), some (91, false), (u 9 ++ [24]), []⟩,
 ⟨(some 109), .bin .leq (.t 106) (.t 108), some (91, false), (u 26), []⟩,
 ⟨(some 110), .pick (.t 91) (.c (.bool true)) (.t 109), some (87, true), (u 27), []⟩,
 oF 111 (.pick (.t 87) (.t 110) (.c (.bool false))) (u 28),
 oF 2 (.mv (.t 111)) (u 29)])
 .ret)))), false, false⟩
def c79_l0 : CC :=
 (.seq
 (.seq
 (.region [1, 2, 3] [oM 13 2,
 oO 14 (.bin .geq (.t 13) (.c (.int .i64 0)))])
 (.cond (.t 14)
 .skip
 (.exit 0)))
 (.seq
 (.block 1
 (.seq
 (.region [1, 2, 3] [oM 21 2,
 oM 22 1,
 oB 23 .eql 21 22])
 (.cond (.t 23)
 (.seq
 (.region [] [oO 6 (.mv (.c (.bool true)))])
 .ret)
 .skip)))
 (.region [1, 2, 3] [oA 15 2 3,
 ol 16 1 15,
 oM 17 2,
 oI 18 8 16 17,
 oA 19 1 18,
 ol 20 1 19,
 oM 2 20])))
/-- progeny/progenyref11.above -/
def c79 : CFn := ⟨24, [.t 6],
 (.seq
 (.region [0, 1, 2] [oX 3 25 4 0,
 oO 6 (.mv (.c (.bool false)))])
 (.seq
 (.seq
 (.region [1, 2, 3] [oA 7 2 3,
 ol 8 1 7,
 oM 9 2,
 oI 10 8 8 9,
 oA 11 1 10,
 ol 12 1 11,
 oM 2 12])
 (.block 0
 (.loop c79_l0)))
 (.seq
 (.region [] [oO 6 (.mv (.c (.bool false)))])
 .ret))), false, false⟩
def c80_l0 : CC :=
 (.seq
 (.seq
 (.region [1, 2, 5] [oM 6 1,
 oO 7 (.bin .geq (.t 6) (.c (.int .i64 0)))])
 (.cond (.t 7)
 .skip
 (.exit 0)))
 (.block 1
 (.seq
 (.region [1, 2, 5] [oM 8 1,
 oO 9 (.bslice 3 1 [[.int .i64 0]] [(0, (.t 8))]),
 oM 10 5,
 oO 11 (.app 3 1 8 false (.t 9) (.t 10)),
 oM 5 11])
 (.region [1, 2, 5] [oA 12 2 2,
 ol 13 1 12,
 oM 14 1,
 oI 15 8 13 14,
 oA 16 1 15,
 ol 17 1 16,
 oM 1 17]))))
/-- progeny/progenyref11.way -/
def c80 : CFn := ⟨19, [.t 4],
 (.seq
 (.region [0, 1] [oX 2 25 4 0,
 oO 4 (.mv (.c (.nils)))])
 (.seq
 (.region [1, 2] [oO 5 (.mv (.c (.nils)))])
 (.seq
 (.block 0
 (.loop c80_l0))
 (.seq
 (.region [5] [oM 18 5,
 oM 4 18])
 .ret)))), false, false⟩
/-- progeny/call.said -/
def c82 : CFn := ⟨10, [.cell 4 true 5, .cell 5 true 5],
 (.seq
 (.region [0, 1] [oX 2 35 5 0,
 oO 4 (.box 35 5 (.c (.agg [.nils, .int .i64 0, .int .i64 0, .int .i64 0, .bool false]))),
 oO 5 (.box 49 5 (.c (.agg [.str ⟨#[]⟩, .str ⟨#[]⟩, .int .i64 0, .str ⟨#[]⟩, .str ⟨#[]⟩])))])
 (.seq
 (.region [1, 2, 4, 5] [oA 6 4 2,
 ⟨none, .store 1 (.t 6) (.c (.bool false)), none, [], []⟩])
 (.seq
 (.region [1, 2, 4, 5] [oL 7 5 2,
 oM 8 1,
 oO 9 (.build [.str ⟨#[]⟩, .str ⟨#[]⟩, .int .i64 0, .str ⟨#[]⟩, .str ⟨#[]⟩] [(0, 1, (.t 8))]),
 oS 5 4 7,
 oS 5 5 9])
 .ret))), false, false⟩
/-- progeny/ssa.Check -/
def c85 : CFn := ⟨18, [.t 4, .t 5],
 (.seq
 (.region [0, 1] [oX 2 25 4 0,
 oO 4 (.mv (.c (.str ⟨#[]⟩))),
 oO 5 (.mv (.c (.int .i64 0)))])
 (.seq
 (.seq
 (.region [1, 2] [oL 8 4 2,
 oO 9 (k1 75 8),
 oN 10 9])
 (.cond (.t 10)
 (.seq
 (.region [] [oO 4 (.mv (.c (.str ⟨#[]⟩))),
 oO 5 (.mv (.c (.int .i64 100)))])
 .ret)
 .skip))
 (.seq
 (.region [1, 2] [oL 12 4 2,
 oM 13 1,
 oO 14 (z2 123 12 13),
 oM 11 14,
 oE 15 11 0,
 oE 16 11 1,
 oM 6 15,
 oM 7 16])
 (.seq
 (.region [6] [oM 17 6,
 oM 4 17,
 oO 5 (.mv (.c (.int .i64 0)))])
 .ret)))), false, false⟩
/-- progeny/ssa.Types -/
def c86 : CFn := ⟨20, [.t 4, .t 5],
 (.seq
 (.region [0, 1] [oX 2 25 4 0,
 oO 4 (.mv (.c (.nils))),
 oO 5 (.mv (.c (.int .i64 0)))])
 (.seq
 (.seq
 (.region [1, 2] [oL 8 4 2,
 oO 9 (k1 75 8),
 oN 10 9])
 (.cond (.t 10)
 (.seq
 (.region [] [oO 4 (.mv (.c (.nils))),
 oO 5 (.mv (.c (.int .i64 100)))])
 .ret)
 .skip))
 (.seq
 (.region [1, 2] [oL 12 4 2,
 oM 13 1,
 oO 14 (z2 123 12 13),
 oM 11 14,
 oE 15 11 0,
 oE 16 11 1,
 oM 6 15,
 oM 7 16])
 (.seq
 (.seq
 (.region [6, 7] [oM 17 6,
 oO 18 (.bin .neq (.t 17) (.c (.str ⟨#[32, 32]⟩)))])
 (.cond (.t 18)
 (.seq
 (.region [] [oO 4 (.mv (.c (.nils))),
 oO 5 (.mv (.c (.int .i64 2)))])
 .ret)
 .skip))
 (.seq
 (.region [7] [oM 19 7,
 oM 4 19,
 oO 5 (.mv (.c (.int .i64 0)))])
 .ret))))), false, false⟩
def c88_l0 : CC :=
 (.seq
 (.region [3, 5, 8, 9, 10, 14, 15, 120, 121, 122] [oB 123 .lss 122 121])
 (.seq
 (.cond (.t 123)
 .skip
 (.exit 2))
 (.seq
 (.block 3
 (.seq
 (.region [3, 5, 8, 9, 10, 14, 15, 120, 121, 122] [oM 124 122,
 oI 125 3 120 122,
 oL 126 3 125,
 oO 17 (.box 82 3 (.c (.agg [.str ⟨#[]⟩, .str ⟨#[]⟩, .nils]))),
 oM 16 124,
 oS 3 17 126])
 (.seq
 (.region [3, 5, 8, 9, 10, 14, 15, 16, 17, 120, 121, 122] [oL 127 3 17,
 oO 128 (.call (.c (.fn 111 [])) [(.t 127), (.c (.int .u8 80))] false)])
 (.cond (.t 128)
 (.region [3, 5, 8, 9, 10, 14, 15, 16, 120, 121, 122] [oM 129 10,
 oM 130 14,
 oM 131 3,
 oM 132 16,
 oI 133 1 131 132,
 ol 134 1 133,
 oO 135 (k3 69 129 130 134),
 oA 136 3 5,
 oS 1 136 135])
 .skip))))
 (.region [3, 5, 8, 9, 10, 14, 15, 120, 121, 122] [oO 137 (.bin .add (.t 122) (.c (.int .i64 1))),
 oM 122 137]))))
/-- progeny/call.get -/
def c88 : CFn := ⟨140, [.cell 8 true 5, .cell 9 true 5],
 (.seq
 (.region [0, 1, 2, 3] [oX 4 25 4 0,
 oX 5 35 5 1,
 oX 6 31 3 2,
 oO 8 (.box 35 5 (.c (.agg [.nils, .int .i64 0, .int .i64 0, .int .i64 0, .bool false]))),
 oO 9 (.box 49 5 (.c (.agg [.str ⟨#[]⟩, .str ⟨#[]⟩, .int .i64 0, .str ⟨#[]⟩, .str ⟨#[]⟩])))])
 (.seq
 (.region [3, 4, 5, 6, 8, 9] [oL 18 4 4,
 oA 19 0 5,
 ol 20 1 19,
 oO 21 (k2 105 18 20),
 oM 10 21])
 (.seq
 (.region [3, 5, 6, 8, 9, 10] [oA 22 0 6,
 ol 23 1 22,
 oM 11 23])
 (.seq
 (.seq
 (.region [3, 5, 6, 8, 9, 10, 11] [oM 24 11,
 oO 25 (k1 125 24)])
 (.cond (.t 25)
 (.region [3, 5, 6, 8, 9, 10, 11] [oM 26 11,
 oO 27 (.slcs (.t 26) (some (.c (.int .i64 2))) none),
 oO 28 (.bin .add (.c (.str ⟨#[71]⟩)) (.t 27)),
 oM 11 28])
 .skip))
 (.seq
 (.draw [3, 5, 6, 8, 9, 10, 11] [oA 29 2 5,
 oF 30 (.load false 1 (.t 29)) [0],
 oA 31 0 5,
 oF 32 (.load false 1 (.t 31)) [2],
 oF 33 (.len false (.t 32)) [2, 3],
 oF 12 (.mv (.t 30)) [0, 1],
 oF 13 (.mv (.t 33)) (u 6)])
 (.seq
 (.seq
 (.region [3, 5, 6, 8, 9, 10, 11, 12, 13] [oM 34 11])
 (.block 0
 (.seq
 (.region [3, 5, 6, 8, 9, 10, 11, 12, 13, 34] [oO 36 (.bin .eql (.t 34) (.c (.str ⟨#[71, 85]⟩))),
 oM 35 36])
 (.cond (.t 35)
 (.region [3, 5, 6, 8, 9, 10, 11, 13] [oO 12 (.mv (.c (.int .i64 0)))])
 (.seq
 (.region [3, 5, 6, 8, 9, 10, 11, 12, 13, 34] [oO 38 (.bin .eql (.t 34) (.c (.str ⟨#[71, 78, 80]⟩))),
 oM 37 38])
 (.cond (.t 37)
 (.seq
 (.seq
 (.region [3, 5, 6, 8, 9, 10, 11, 12] [oA 39 3 5,
 ol 40 1 39,
 oO 41 (.bin .lss (.t 40) (.c (.int .i64 0)))])
 (.cond (.t 41)
 (.seq
 (.region [5, 8, 9] [oL 42 5 5,
 oO 43 (.call (.c (.fn 82 [])) [(.t 42), (.c (.str ⟨#[71, 80]⟩))] false),
 oE 44 43 0,
 oE 45 43 1,
 oS 5 8 44,
 oS 5 9 45])
 .ret)
 .skip))
 (.draw [3, 5, 6, 8, 9, 10, 11, 12] [oM 46 12,
 oA 47 3 5,
 oa 48 (.load false 1 (.t 47)) [1] [9],
 oF 49 (.bin .add (.t 48) (.c (.int .i64 1))) [1, 2],
 oF 50 (.mm true (.t 46) [(.t 49)]) (u 4),
 oM 51 10,
 oA 52 3 5,
 oF 53 (.load false 1 (.t 52)) [6],
 oF 54 (k2 126 51 53) [5, 6, 7],
 oF 12 (.mv (.t 50)) (u 9),
 oF 13 (.mv (.t 54)) (u 10)]))
 .skip))))))
 (.seq
 (.region [3, 5, 6, 8, 9, 10, 11, 12, 13] [oM 55 10,
 oA 56 1 6,
 ol 57 1 56,
 oM 58 3,
 oM 59 12,
 oM 60 13,
 oO 61 (k5 65 55 57 58 59 60),
 oM 14 61])
 (.seq
 (.block 1
 (.seq
 (.region [3, 5, 6, 8, 9, 10, 11, 14] [oM 63 14,
 oO 64 (.bin .lss (.t 63) (.c (.int .i64 0))),
 oM 65 64,
 oG 66 (.mv (.t 11)) 65 true,
 oG 67 (.bin .eql (.t 66) (.c (.str ⟨#[71, 78]⟩))) 65 true,
 oO 68 (.pick (.t 65) (.t 67) (.c (.bool false))),
 oM 69 68,
 oG 70 (.faddr 1 (.t 6)) 69 true,
 oG 71 (.load false 1 (.t 70)) 69 true,
 oG 72 (.len false (.t 71)) 69 true,
 oG 73 (.bin .eql (.t 72) (.c (.int .i64 0))) 69 true,
 oO 74 (.pick (.t 69) (.t 73) (.c (.bool false))),
 oM 62 74])
 (.cond (.t 62)
 (.seq
 (.region [5, 8, 9] [oA 75 0 5,
 ol 76 1 75,
 oO 77 (z1 42 76),
 oO 78 (.build [.str ⟨#[]⟩, .str ⟨#[]⟩, .int .i64 0, .str ⟨#[]⟩, .str ⟨#[]⟩] [(0, 1, (.c (.str ⟨#[71, 66]⟩)))]),
 oS 5 8 77,
 oS 5 9 78])
 .ret)
 (.seq
 (.region [3, 5, 6, 8, 9, 10, 11, 14] [oM 80 14,
 oO 81 (.bin .lss (.t 80) (.c (.int .i64 0))),
 oM 79 81])
 (.cond (.t 79)
 (.seq
 (.region [5, 8, 9] [oL 82 5 5,
 oO 83 (.call (.c (.fn 82 [])) [(.t 82), (.c (.str ⟨#[71, 69]⟩))] false),
 oE 84 83 0,
 oE 85 83 1,
 oS 5 8 84,
 oS 5 9 85])
 .ret)
 .skip)))))
 (.seq
 (.region [3, 5, 6, 8, 9, 10, 11, 14] [oM 86 10,
 oA 87 1 6,
 ol 88 1 87,
 oM 89 3,
 oM 90 14,
 oO 91 (k4 70 86 88 89 90),
 oO 15 (.box 49 5 (.c (.agg [.str ⟨#[]⟩, .str ⟨#[]⟩, .int .i64 0, .str ⟨#[]⟩, .str ⟨#[]⟩]))),
 oS 5 15 91])
 (.seq
 (.seq
 (.region [3, 5, 6, 8, 9, 10, 11, 14, 15] [oM 92 11,
 oO 93 (.bin .neq (.t 92) (.c (.str ⟨#[71, 85]⟩))),
 oM 94 93,
 oG 95 (.faddr 1 (.t 6)) 94 true,
 oG 96 (.load false 1 (.t 95)) 94 true,
 oG 97 (.len false (.t 96)) 94 true,
 oG 98 (.bin .eql (.t 97) (.c (.int .i64 0))) 94 true,
 oO 99 (.pick (.t 94) (.t 98) (.c (.bool false)))])
 (.cond (.t 99)
 (.region [3, 5, 6, 8, 9, 10, 11, 14, 15] [oM 100 10,
 oA 101 1 5,
 ol 102 1 101,
 oM 103 14,
 oO 104 (k3 127 100 102 103),
 oA 105 0 15,
 oS 1 105 104])
 .skip))
 (.seq
 (.region [3, 5, 6, 8, 9, 10, 11, 14, 15] [oM 106 14,
 oM 107 14,
 oO 108 (.bin .add (.t 107) (.c (.int .i64 1))),
 oA 109 0 6,
 ol 110 1 109,
 oO 111 (k1 125 110),
 oA 112 1 5,
 oS 1 112 106,
 oA 113 2 5,
 oS 1 113 108,
 oA 114 4 5,
 oS 1 114 111])
 (.seq
 (.seq
 (.region [3, 5, 6, 8, 9, 10, 11, 14, 15] [oM 115 11,
 oO 116 (.bin .neq (.t 115) (.c (.str ⟨#[71, 78, 80]⟩)))])
 (.cond (.t 116)
 (.region [3, 5, 6, 8, 9, 10, 14, 15] [oM 117 14,
 oA 118 3 5,
 oS 1 118 117])
 .skip))
 (.seq
 (.seq
 (.region [3, 5, 6, 8, 9, 10, 14, 15] [oA 119 1 6,
 ol 120 1 119,
 oO 121 (.len false (.t 120)),
 oO 122 (.mv (.c (.int .i64 0)))])
 (.block 2
 (.loop c88_l0)))
 (.seq
 (.draw [5, 8, 9, 15] [oL 138 5 5,
 oa 139 (.load true 5 (.t 15)) [] [3],
 ⟨none, .store 5 (.t 8) (.t 138), none, [0], []⟩,
 ⟨none, .store 5 (.t 9) (.t 139), none, [0, 1, 2], []⟩])
 .ret)))))))))))))), false, false⟩
def c89_l0 : CC :=
 (.seq
 (.seq
 (.region [1, 7, 8] [oM 21 8,
 oO 22 (.bin .geq (.t 21) (.c (.int .i64 0))),
 oM 23 22,
 oG 24 (.mv (.t 7)) 23 true,
 oG 25 (.bin .geq (.t 24) (.c (.int .i64 0))) 23 true,
 oO 26 (.pick (.t 23) (.t 25) (.c (.bool false)))])
 (.cond (.t 26)
 .skip
 (.exit 0)))
 (.seq
 (.block 1
 (.seq
 (.region [1, 7, 8] [oM 29 1,
 oM 30 8,
 oI 31 2 29 30,
 oA 32 0 31,
 ol 33 1 32,
 oM 34 7,
 oB 35 .eql 33 34])
 (.cond (.t 35)
 (.seq
 (.region [8] [oM 36 8,
 oM 6 36])
 .ret)
 .skip)))
 (.region [1, 7, 8] [oM 27 8,
 oO 28 (.bin .sub (.t 27) (.c (.int .i64 1))),
 oM 8 28])))
/-- progeny/progenyref13.parent -/
def c89 : CFn := ⟨37, [.t 6],
 (.seq
 (.region [0, 1, 2] [oX 3 25 4 0,
 oO 6 (.mv (.c (.int .i64 0)))])
 (.seq
 (.draw [1, 2, 3] [oA 9 2 3,
 oF 10 (.load false 1 (.t 9)) [0],
 oM 11 1,
 oM 12 2,
 oF 13 (.iaddr 2 (.t 11) (.t 12)) [2, 3],
 oF 14 (.faddr 0 (.t 13)) [2, 3, 4],
 oF 15 (.load false 1 (.t 14)) [2, 3, 4, 5],
 oF 16 (.iaddr 8 (.t 10) (.t 15)) (u 7),
 oF 17 (.faddr 1 (.t 16)) (u 8),
 oF 18 (.load false 1 (.t 17)) (u 9),
 oF 7 (.mv (.t 18)) (u 10)])
 (.seq
 (.seq
 (.region [1, 2, 7] [oM 19 2,
 oO 20 (.bin .sub (.t 19) (.c (.int .i64 1))),
 oM 8 20])
 (.block 0
 (.loop c89_l0)))
 (.seq
 (.region [] [oO 6 (.mv (.c (.int .i64 (-1))))])
 .ret)))), false, false⟩
/-- progeny/progenyref13.key -/
def c90 : CFn := ⟨40, [.t 4],
 (.seq
 (.region [0, 1] [oX 2 25 4 0,
 oX 3 55 2 1,
 oO 4 (.mv (.c (.str ⟨#[]⟩)))])
 (.seq
 (.region [2, 3] [oA 6 2 2,
 ol 7 1 6,
 oA 8 0 3,
 ol 9 1 8,
 oI 10 8 7 9,
 oL 11 8 10,
 oO 5 (.box 61 8 (.c (.agg [.str ⟨#[]⟩, .int .i64 0, .int .i64 0, .int .i64 0, .nils, .int .i64 0, .bool false, .bool false]))),
 oS 8 5 11])
 (.seq
 (.seq
 (.region [3, 5] [oA 12 5 5,
 ol 13 1 12,
 oO 14 (.bin .lss (.t 13) (.c (.int .i64 0)))])
 (.cond (.t 14)
 (.seq
 (.region [] [oO 4 (.mv (.c (.str ⟨#[]⟩)))])
 .ret)
 .skip))
 (.seq
 (.draw [3, 5] [oA 15 1 3,
 oF 16 (.load false 1 (.t 15)) [0],
 oA 17 4 5,
 oF 18 (.load false 1 (.t 17)) [2],
 oA 19 5 5,
 oF 20 (.load false 1 (.t 19)) [4],
 oF 21 (.iaddr 3 (.t 18) (.t 20)) [2, 3, 4, 5],
 oF 22 (.faddr 1 (.t 21)) [2, 3, 4, 5, 6],
 oF 23 (.load false 1 (.t 22)) [2, 3, 4, 5, 6, 7],
 oA 24 4 5,
 oF 25 (.load false 1 (.t 24)) [9],
 oA 26 5 5,
 oF 27 (.load false 1 (.t 26)) [11],
 oF 28 (.iaddr 3 (.t 25) (.t 27)) [9, 10, 11, 12],
 oF 29 (.faddr 1 (.t 28)) [9, 10, 11, 12, 13],
 oF 30 (.load false 1 (.t 29)) [9, 10, 11, 12, 13, 14],
 oA 31 4 5,
 oF 32 (.load false 1 (.t 31)) [16],
 oA 33 5 5,
 oF 34 (.load false 1 (.t 33)) [18],
 oF 35 (.iaddr 3 (.t 32) (.t 34)) [16, 17, 18, 19],
 oF 36 (.faddr 2 (.t 35)) [16, 17, 18, 19, 20],
 oF 37 (.load false 1 (.t 36)) [16, 17, 18, 19, 20, 21],
 oF 38 (.bin .add (.t 30) (.t 37)) [9, 10, 11, 12, 13, 14, 15, 16, 17, 18, 19, 20, 21, 22],
 oF 39 (.slcs (.t 16) (some (.t 23)) (some (.t 38))) (u 24),
 oF 4 (.mv (.t 39)) (u 25)])
 .ret)))), false, false⟩
def c91_l0 : CC :=
 (.seq
 (.seq
 (.region [1, 2, 5] [oM 9 5,
 oM 10 1,
 oO 11 (.len false (.t 10)),
 oB 12 .lss 9 11])
 (.cond (.t 12)
 .skip
 (.exit 0)))
 (.seq
 (.block 1
 (.seq
 (.draw [1, 2, 5] [oL 15 4 2,
 oM 16 1,
 oM 17 5,
 oF 18 (.iaddr 1 (.t 16) (.t 17)) [1, 2],
 oF 19 (.load false 1 (.t 18)) [1, 2, 3],
 oF 20 (k2 128 15 19) (u 5),
 oF 21 (.un .not (.t 20)) (u 6)])
 (.cond (.t 21)
 (.seq
 (.region [] [oO 4 (.mv (.c (.int .i64 2)))])
 .ret)
 .skip)))
 (.region [1, 2, 5] [oM 13 5,
 oO 14 (.bin .add (.t 13) (.c (.int .i64 1))),
 oM 5 14])))
/-- progeny/progenyref11.asked -/
def c91 : CFn := ⟨22, [.t 4],
 (.seq
 (.region [0, 1] [oX 2 25 4 0,
 oO 4 (.mv (.c (.int .i64 0)))])
 (.seq
 (.seq
 (.region [1, 2] [oL 6 4 2,
 oO 7 (k1 43 6),
 oN 8 7])
 (.cond (.t 8)
 (.seq
 (.region [] [oO 4 (.mv (.c (.int .i64 100)))])
 .ret)
 .skip))
 (.seq
 (.seq
 (.region [1, 2] [oO 5 (.mv (.c (.int .i64 0)))])
 (.block 0
 (.loop c91_l0)))
 (.seq
 (.region [] [oO 4 (.mv (.c (.int .i64 0)))])
 .ret)))), false, false⟩
def c92_l0 : CC :=
 (.seq
 (.seq
 (.region [0, 3, 4, 5] [oM 12 5,
 oM 13 0,
 oM 14 4,
 oI 15 1 13 14,
 ol 16 1 15,
 oO 17 (.len true (.t 16)),
 oB 18 .lss 12 17])
 (.cond (.t 18)
 .skip
 (.exit 2)))
 (.seq
 (.block 3
 (.seq
 (.region [0, 3, 4, 5] [oM 21 3,
 oM 22 0,
 oM 23 4,
 oI 24 1 22 23,
 ol 25 1 24,
 oM 26 5,
 oO 27 (.idx (.t 25) (.t 26)),
 oO 28 (.bslice 5 1 [[.int .u8 0]] [(0, (.t 27))]),
 oO 29 (.app 5 1 1 false (.t 21) (.t 28)),
 oM 3 29])
 (.seq
 (.region [0, 3, 4, 5] [oM 30 0,
 oM 31 4,
 oI 32 1 30 31,
 ol 33 1 32,
 oM 34 5,
 oO 35 (.idx (.t 33) (.t 34)),
 oO 36 (.bin .eql (.t 35) (.c (.int .u8 0)))])
 (.cond (.t 36)
 (.region [0, 3, 4, 5] [oM 37 3,
 oO 38 (.bslice 5 1 [[.int .u8 0]] [(0, (.c (.int .u8 255)))]),
 oO 39 (.app 5 1 1 false (.t 37) (.t 38)),
 oM 3 39])
 .skip))))
 (.region [0, 3, 4, 5] [oM 19 5,
 oO 20 (.bin .add (.t 19) (.c (.int .i64 1))),
 oM 5 20])))
def c92_l1 : CC :=
 (.seq
 (.seq
 (.region [0, 3, 4] [oM 6 4,
 oM 7 0,
 oO 8 (.len false (.t 7)),
 oB 9 .lss 6 8])
 (.cond (.t 9)
 .skip
 (.exit 0)))
 (.seq
 (.block 1
 (.seq
 (.seq
 (.region [0, 3, 4] [oO 5 (.mv (.c (.int .i64 0)))])
 (.block 2
 (.loop c92_l0)))
 (.region [0, 3, 4] [oM 40 3,
 oO 41 (.bslice 5 1 [[.int .u8 0], [.int .u8 0]] [(0, (.c (.int .u8 0))), (1, (.c (.int .u8 1)))]),
 oO 42 (.app 5 1 1 false (.t 40) (.t 41)),
 oM 3 42])))
 (.region [0, 3, 4] [oM 10 4,
 oO 11 (.bin .add (.t 10) (.c (.int .i64 1))),
 oM 4 11])))
/-- progeny/progenyref01.Key -/
def c92 : CFn := ⟨44, [.t 2],
 (.seq
 (.region [0] [oO 2 (.mv (.c (.nils)))])
 (.seq
 (.region [0] [oO 3 (.mv (.c (.nils)))])
 (.seq
 (.seq
 (.region [0, 3] [oO 4 (.mv (.c (.int .i64 0)))])
 (.block 0
 (.loop c92_l1)))
 (.seq
 (.region [3] [oM 43 3,
 oM 2 43])
 .ret)))), false, false⟩
/-- slices.Contains[[]string,string] -/
def c100 : CFn := ⟨9, [.t 4],
 (.seq
 (.region [0, 1] [oO 4 (.mv (.c (.bool false)))])
 (.seq
 (.region [0, 1] [oM 5 0,
 oM 6 1,
 oO 7 (k2 133 5 6),
 oO 8 (.bin .geq (.t 7) (.c (.int .i64 0))),
 oM 4 8])
 .ret)), false, false⟩
def c105_l0 : CC :=
 (.seq
 (.region [2, 5, 6, 20, 21, 22] [oB 23 .lss 22 21])
 (.seq
 (.cond (.t 23)
 .skip
 (.exit 0))
 (.seq
 (.block 1
 (.seq
 (.region [2, 5, 6, 20, 21, 22] [oM 24 22,
 oI 25 2 20 22,
 oL 26 2 25,
 oO 8 (.box 55 2 (.c (.agg [.int .i64 0, .str ⟨#[]⟩]))),
 oM 7 24,
 oS 2 8 26])
 (.seq
 (.region [2, 5, 6, 7, 8, 20, 21, 22] [oO 9 (.mv (.c (.int .i64 (-1))))])
 (.seq
 (.seq
 (.region [2, 5, 6, 7, 8, 9, 20, 21, 22] [oA 27 2 2,
 ol 28 1 27,
 oA 29 0 8,
 ol 30 1 29,
 oI 31 8 28 30,
 oA 32 1 31,
 ol 33 1 32,
 oM 10 33])
 (.seq
 (.region [2, 5, 6, 7, 8, 9, 10, 20, 21, 22] [oM 34 10,
 oO 35 (.bin .geq (.t 34) (.c (.int .i64 0)))])
 (.cond (.t 35)
 (.region [2, 5, 6, 7, 8, 10, 20, 21, 22] [oM 36 6,
 oM 37 10,
 oI 38 1 36 37,
 ol 39 1 38,
 oM 9 39])
 .skip)))
 (.seq
 (.region [2, 5, 6, 7, 8, 9, 20, 21, 22] [oM 40 5,
 oM 41 5,
 oO 42 (.nilck (.t 41)),
 oA 43 5 42,
 ol 44 1 43,
 oM 45 9,
 oO 46 (.bslice 3 1 [[.int .i64 0]] [(0, (.t 45))]),
 oO 47 (.app 3 1 8 false (.t 44) (.t 46)),
 oO 48 (.nilck (.t 40)),
 oA 49 5 48,
 oS 1 49 47])
 (.region [2, 5, 6, 7, 8, 20, 21, 22] [oM 50 6,
 oA 51 0 8,
 ol 52 1 51,
 oM 53 7,
 oI 54 1 50 52,
 oS 1 54 53]))))))
 (.region [2, 5, 6, 20, 21, 22] [oO 55 (.bin .add (.t 22) (.c (.int .i64 1))),
 oM 22 55]))))
/-- progeny/call.open -/
def c105 : CFn := ⟨57, [.t 4],
 (.seq
 (.region [0, 1] [oX 2 25 4 0,
 oO 4 (.mv (.c (.nilptr)))])
 (.seq
 (.region [1, 2] [oL 11 4 2,
 oM 12 1,
 oO 13 (.build [.str ⟨#[]⟩, .int .i64 0, .nils, .nils, .nils, .nils] [(0, 4, (.t 11)), (4, 1, (.t 12)), (5, 1, (.c (.nils)))]),
 oX 14 149 6 13,
 oM 5 14])
 (.seq
 (.region [1, 2, 5] [oO 15 (.bslice 3 1 [[.int .i64 0]] [(0, (.c (.int .i64 (-1))))]),
 oA 16 2 2,
 ol 17 1 16,
 oO 18 (.len false (.t 17)),
 oO 19 (k2 136 15 18),
 oM 6 19])
 (.seq
 (.seq
 (.region [1, 2, 5, 6] [oM 20 1,
 oO 21 (.len false (.t 20)),
 oO 22 (.mv (.c (.int .i64 0)))])
 (.block 0
 (.loop c105_l0)))
 (.seq
 (.region [5] [oM 56 5,
 oM 4 56])
 .ret))))), false, false⟩
def c106_l0 : CC :=
 (.seq
 (.region [0, 2, 3, 12, 13, 14] [oB 15 .lss 14 13])
 (.seq
 (.cond (.t 15)
 .skip
 (.exit 0))
 (.seq
 (.block 1
 (.seq
 (.region [0, 2, 3, 12, 13, 14] [oM 16 14,
 oI 17 3 12 14,
 oL 18 3 17,
 oO 10 (.box 82 3 (.c (.agg [.str ⟨#[]⟩, .str ⟨#[]⟩, .nils]))),
 oM 9 16,
 oS 3 10 18])
 (.seq
 (.region [0, 2, 3, 9, 10, 12, 13, 14] [oM 19 0,
 oM 20 3,
 oM 21 2,
 oM 22 9,
 oI 23 1 21 22,
 ol 24 1 23,
 oO 25 (k3 69 19 20 24),
 oM 11 25])
 (.seq
 (.region [0, 2, 3, 10, 11, 12, 13, 14] [oM 26 11,
 oO 27 (.bin .lss (.t 26) (.c (.int .i64 0))),
 oM 28 27,
 oG 29 (.mv (.t 0)) 28 false,
 oG 30 (.load true 3 (.t 10)) 28 false,
 oG 31 (.mv (.t 11)) 28 false,
 oG 32 (k3 137 29 30 31) 28 false,
 oG 33 (.un .not (.t 32)) 28 false,
 oO 34 (.pick (.t 28) (.c (.bool true)) (.t 33))])
 (.cond (.t 34)
 (.seq
 (.region [] [oO 8 (.mv (.c (.bool false)))])
 .ret)
 .skip)))))
 (.region [0, 2, 3, 12, 13, 14] [oO 35 (.bin .add (.t 14) (.c (.int .i64 1))),
 oM 14 35]))))
/-- (*progeny/call.book).fits -/
def c106 : CFn := ⟨36, [.t 8],
 (.seq
 (.region [0, 1, 2, 3] [oO 8 (.mv (.c (.bool false)))])
 (.seq
 (.seq
 (.region [0, 1, 2, 3] [oM 12 1,
 oO 13 (.len false (.t 12)),
 oO 14 (.mv (.c (.int .i64 0)))])
 (.block 0
 (.loop c106_l0)))
 (.seq
 (.region [] [oO 8 (.mv (.c (.bool true)))])
 .ret))), false, false⟩
def c107_l0 : CC :=
 (.seq
 (.region [0, 1, 7, 8] [oB 9 .lss 8 7])
 (.seq
 (.cond (.t 9)
 .skip
 (.exit 0))
 (.seq
 (.block 1
 (.seq
 (.region [0, 1, 7, 8] [oM 10 8,
 oM 5 10])
 (.seq
 (.region [0, 1, 5, 7, 8] [oM 11 1,
 oM 12 0,
 oM 13 5,
 oI 14 1 12 13,
 ol 15 1 14,
 oO 16 (.call (.t 11) [(.t 15)] false)])
 (.cond (.t 16)
 (.seq
 (.region [5] [oM 17 5,
 oM 4 17])
 .ret)
 .skip))))
 (.region [0, 1, 7, 8] [oO 18 (.bin .add (.t 8) (.c (.int .i64 1))),
 oM 8 18]))))
/-- slices.IndexFunc[[]int,int] -/
def c107 : CFn := ⟨19, [.t 4],
 (.seq
 (.region [0, 1] [oO 4 (.mv (.c (.int .i64 0)))])
 (.seq
 (.seq
 (.region [0, 1] [oM 6 0,
 oO 7 (.len false (.t 6)),
 oO 8 (.mv (.c (.int .i64 0)))])
 (.block 0
 (.loop c107_l0)))
 (.seq
 (.region [] [oO 4 (.mv (.c (.int .i64 (-1))))])
 .ret))), false, false⟩
def c108_l0 : CC :=
 (.seq
 (.seq
 (.region [0, 1, 5] [oM 6 1,
 oO 7 (.bin .geq (.t 6) (.c (.int .i64 0)))])
 (.cond (.t 7)
 .skip
 (.exit 0)))
 (.seq
 (.block 1
 (.region [0, 1, 5] [oM 15 5,
 oM 16 1,
 oO 17 (.bslice 3 1 [[.int .i64 0]] [(0, (.t 16))]),
 oO 18 (.app 3 1 8 false (.t 15) (.t 17)),
 oM 5 18]))
 (.region [0, 1, 5] [oM 8 0,
 oO 9 (.nilck (.t 8)),
 oA 10 5 9,
 ol 11 1 10,
 oM 12 1,
 oI 13 1 11 12,
 ol 14 1 13,
 oM 1 14])))
/-- (*progeny/call.book).path -/
def c108 : CFn := ⟨22, [.t 4],
 (.seq
 (.region [0, 1] [oO 4 (.mv (.c (.nils)))])
 (.seq
 (.region [0, 1] [oO 5 (.mv (.c (.nils)))])
 (.seq
 (.block 0
 (.loop c108_l0))
 (.seq
 (.region [5] [oM 19 5,
 oO 20 (k1 138 19)])
 (.seq
 (.region [5] [oM 21 5,
 oM 4 21])
 .ret))))), false, false⟩
/-- progeny/dbd.KeyOf -/
def c109 : CFn := ⟨45, [.t 6, .t 7],
 (.seq
 (.region [0, 1, 2] [oX 3 25 4 0,
 oO 6 (.mv (.c (.str ⟨#[]⟩))),
 oO 7 (.mv (.c (.int .i64 0)))])
 (.seq
 (.seq
 (.region [1, 2, 3] [oL 12 4 3,
 oM 13 1,
 oO 14 (.bslice 3 1 [[.int .i64 0]] [(0, (.t 13))]),
 oO 15 (k2 139 12 14),
 oM 8 15])
 (.seq
 (.region [1, 2, 3, 8] [oM 16 8,
 oO 17 (.bin .neq (.t 16) (.c (.int .i64 0)))])
 (.cond (.t 17)
 (.seq
 (.region [8] [oM 18 8,
 oO 6 (.mv (.c (.str ⟨#[]⟩))),
 oM 7 18])
 .ret)
 .skip)))
 (.seq
 (.region [1, 2, 3] [oA 19 2 3,
 ol 20 1 19,
 oM 21 1,
 oI 22 8 20 21,
 oL 23 8 22,
 oO 9 (.box 61 8 (.c (.agg [.str ⟨#[]⟩, .int .i64 0, .int .i64 0, .int .i64 0, .nils, .int .i64 0, .bool false, .bool false]))),
 oS 8 9 23])
 (.seq
 (.block 0
 (.seq
 (.region [2, 9] [oL 25 8 9,
 oM 26 2,
 oO 27 (k2 140 25 26),
 oN 28 27,
 oM 24 28])
 (.cond (.t 24)
 (.seq
 (.region [] [oO 6 (.mv (.c (.str ⟨#[]⟩))),
 oO 7 (.mv (.c (.int .i64 2)))])
 .ret)
 (.seq
 (.region [2, 9] [oA 30 5 9,
 ol 31 1 30,
 oO 32 (.bin .lss (.t 31) (.c (.int .i64 0))),
 oM 29 32])
 (.cond (.t 29)
 (.seq
 (.region [] [oO 6 (.mv (.c (.str ⟨#[]⟩))),
 oO 7 (.mv (.c (.int .i64 0)))])
 .ret)
 .skip)))))
 (.seq
 (.region [2, 9] [oA 34 4 9,
 ol 35 1 34,
 oA 36 5 9,
 ol 37 1 36,
 oI 38 3 35 37,
 oL 39 3 38,
 oM 40 2,
 oO 41 (k2 141 39 40),
 oM 33 41,
 oE 42 33 0,
 oE 43 33 1,
 oM 10 42,
 oM 11 43])
 (.seq
 (.region [10] [oM 44 10,
 oM 6 44,
 oO 7 (.mv (.c (.int .i64 0)))])
 .ret)))))), false, false⟩
def c110_l0 : CC :=
 (.seq
 (.region [0, 1, 7, 8] [oB 9 .lss 8 7])
 (.seq
 (.cond (.t 9)
 .skip
 (.exit 0))
 (.seq
 (.block 1
 (.seq
 (.region [0, 1, 7, 8] [oM 10 8,
 oM 5 10])
 (.seq
 (.region [0, 1, 5, 7, 8] [oM 11 1,
 oM 12 0,
 oM 13 5,
 oI 14 1 12 13,
 ol 15 1 14,
 oB 16 .eql 11 15])
 (.cond (.t 16)
 (.seq
 (.region [5] [oM 17 5,
 oM 4 17])
 .ret)
 .skip))))
 (.region [0, 1, 7, 8] [oO 18 (.bin .add (.t 8) (.c (.int .i64 1))),
 oM 8 18]))))
/-- slices.Index[[]int,int] -/
def c110 : CFn := ⟨19, [.t 4],
 (.seq
 (.region [0, 1] [oO 4 (.mv (.c (.int .i64 0)))])
 (.seq
 (.seq
 (.region [0, 1] [oM 6 0,
 oO 7 (.len false (.t 6)),
 oO 8 (.mv (.c (.int .i64 0)))])
 (.block 0
 (.loop c110_l0)))
 (.seq
 (.region [] [oO 4 (.mv (.c (.int .i64 (-1))))])
 .ret))), false, false⟩
/-- progeny/ssa.Has -/
def c111 : CFn := ⟨10, [.t 4],
 (.seq
 (.region [0, 1] [oX 2 82 3 0,
 oO 4 (.mv (.c (.bool false)))])
 (.seq
 (.region [1, 2] [oA 5 1 2,
 ol 6 1 5,
 oM 7 1,
 oO 8 (k2 142 6 7),
 oO 9 (.bin .geq (.t 8) (.c (.int .i64 0))),
 oM 4 9])
 .ret)), false, false⟩
def c112_l0 : CC :=
 (.seq
 (.region [3, 6, 7, 8] [oB 9 .lss 8 7])
 (.seq
 (.cond (.t 9)
 .skip
 (.exit 0))
 (.seq
 (.block 1
 (.seq
 (.region [3, 6, 7, 8] [oI 10 1 6 8,
 ol 11 1 10,
 oM 5 11])
 (.seq
 (.region [3, 5, 6, 7, 8] [oM 12 3,
 oM 13 5,
 oO 14 (.call (.c (.fn 143 [])) [(.t 13), (.c (.str ⟨#[0]⟩)), (.c (.str ⟨#[0, 255]⟩))] false),
 oO 15 (.app 5 1 1 false (.t 12) (.t 14)),
 oM 3 15])
 (.region [3, 6, 7, 8] [oM 16 3,
 oO 17 (.bslice 5 1 [[.int .u8 0], [.int .u8 0]] [(0, (.c (.int .u8 0))), (1, (.c (.int .u8 1)))]),
 oO 18 (.app 5 1 1 false (.t 16) (.t 17)),
 oM 3 18]))))
 (.region [3, 6, 7, 8] [oO 19 (.bin .add (.t 8) (.c (.int .i64 1))),
 oM 8 19]))))
/-- progeny/octet.Key -/
def c112 : CFn := ⟨21, [.t 2],
 (.seq
 (.region [0] [oO 2 (.mv (.c (.nils)))])
 (.seq
 (.region [0] [oO 3 (.mv (.c (.nils)))])
 (.seq
 (.seq
 (.region [0, 3] [oM 6 0,
 oO 7 (.len false (.t 6)),
 oO 8 (.mv (.c (.int .i64 0)))])
 (.block 0
 (.loop c112_l0)))
 (.seq
 (.region [3] [oM 20 3,
 oM 2 20])
 .ret)))), false, false⟩
def c113_l0 : CC :=
 (.seq
 (.region [0, 6, 7] [oB 8 .lss 7 6])
 (.seq
 (.cond (.t 8)
 .skip
 (.exit 0))
 (.seq
 (.block 1
 (.seq
 (.region [0, 6, 7] [oM 9 7,
 oM 3 9])
 (.seq
 (.region [0, 3, 6, 7] [oM 10 0,
 oM 11 3,
 oO 12 (.idx (.t 10) (.t 11)),
 oO 13 (.bin .geq (.t 12) (.c (.int .u8 65))),
 oM 14 13,
 oG 15 (.mv (.t 0)) 14 true,
 oG 16 (.mv (.t 3)) 14 true,
 oG 17 (.idx (.t 15) (.t 16)) 14 true,
 oG 18 (.bin .leq (.t 17) (.c (.int .u8 90))) 14 true,
 oO 19 (.pick (.t 14) (.t 18) (.c (.bool false))),
 oM 4 19])
 (.seq
 (.region [0, 3, 4, 6, 7] [oM 20 4,
 oN 21 20,
 oM 22 21,
 oG 23 (.mv (.t 3)) 22 true,
 oG 24 (.bin .eql (.t 23) (.c (.int .i64 0))) 22 true,
 oG 25 (.mv (.t 24)) 22 true,
 oG 26 (.mv (.t 0)) 25 false,
 oG 27 (.mv (.t 3)) 25 false,
 oG 28 (.idx (.t 26) (.t 27)) 25 false,
 oG 29 (.bin .lss (.t 28) (.c (.int .u8 48))) 25 false,
 oG 30 (.pick (.t 25) (.c (.bool true)) (.t 29)) 22 true,
 oG 31 (.mv (.t 30)) 22 true,
 oG 32 (.mv (.t 0)) 31 false,
 oG 33 (.mv (.t 3)) 31 false,
 oG 34 (.idx (.t 32) (.t 33)) 31 false,
 oG 35 (.bin .gtr (.t 34) (.c (.int .u8 57))) 31 false,
 oG 36 (.pick (.t 31) (.c (.bool true)) (.t 35)) 22 true,
 oO 37 (.pick (.t 22) (.t 36) (.c (.bool false)))])
 (.cond (.t 37)
 (.seq
 (.region [] [oO 2 (.mv (.c (.bool false)))])
 .ret)
 .skip)))))
 (.region [0, 6, 7] [oO 38 (.bin .add (.t 7) (.c (.int .i64 1))),
 oM 7 38]))))
/-- progeny/dbd.IsName -/
def c113 : CFn := ⟨47, [.t 2],
 (.seq
 (.region [0] [oO 2 (.mv (.c (.bool false)))])
 (.seq
 (.seq
 (.region [0] [oM 5 0,
 oO 6 (.len true (.t 5)),
 oO 7 (.mv (.c (.int .i64 0)))])
 (.block 0
 (.loop c113_l0)))
 (.seq
 (.region [0] [oM 39 0,
 oO 40 (.len true (.t 39)),
 oO 41 (.bin .geq (.t 40) (.c (.int .i64 1))),
 oM 42 41,
 oG 43 (.mv (.t 0)) 42 true,
 oG 44 (.len true (.t 43)) 42 true,
 oG 45 (.bin .leq (.t 44) (.c (.int .i64 8))) 42 true,
 oO 46 (.pick (.t 42) (.t 45) (.c (.bool false))),
 oM 2 46])
 .ret))), false, false⟩
def c114_l0 : CC :=
 (.seq
 (.region [0, 3, 15, 16, 17] [oB 18 .lss 17 16])
 (.seq
 (.cond (.t 18)
 .skip
 (.exit 0))
 (.seq
 (.block 1
 (.seq
 (.region [0, 3, 15, 16, 17] [oM 19 17,
 oI 20 8 15 17,
 oL 21 8 20,
 oO 5 (.box 61 8 (.c (.agg [.str ⟨#[]⟩, .int .i64 0, .int .i64 0, .int .i64 0, .nils, .int .i64 0, .bool false, .bool false]))),
 oM 4 19,
 oS 8 5 21])
 (.seq
 (.seq
 (.region [0, 3, 4, 5, 15, 16, 17] [oL 22 8 5,
 oO 23 (k1 144 22),
 oN 24 23,
 oM 25 24,
 oG 26 (.mv (.t 0)) 25 false,
 oG 27 (.mv (.t 4)) 25 false,
 oG 28 (.slc 8 (.t 26) none (some (.t 27)) none) 25 false,
 oG 29 (.mkfn 146 [(.t 5)]) 25 false,
 oG 30 (k2 145 28 29) 25 false,
 oO 31 (.pick (.t 25) (.c (.bool true)) (.t 30))])
 (.cond (.t 31)
 (.seq
 (.region [] [oO 2 (.mv (.c (.bool false)))])
 .ret)
 .skip))
 (.seq
 (.region [0, 3, 4, 5, 15, 16, 17] [oM 32 3,
 oA 33 1 5,
 ol 34 1 33,
 oO 35 (k2 110 32 34),
 oM 6 35])
 (.seq
 (.seq
 (.region [0, 3, 4, 5, 6, 15, 16, 17] [oM 36 4,
 oO 37 (.bin .eql (.t 36) (.c (.int .i64 0))),
 oM 38 37,
 oG 39 (.faddr 1 (.t 5)) 38 true,
 oG 40 (.load false 1 (.t 39)) 38 true,
 oG 41 (.bin .neq (.t 40) (.c (.int .i64 (-1)))) 38 true,
 oG 42 (.mv (.t 41)) 38 true,
 oG 43 (.faddr 5 (.t 5)) 42 false,
 oG 44 (.load false 1 (.t 43)) 42 false,
 oG 45 (.bin .lss (.t 44) (.c (.int .i64 0))) 42 false,
 oG 46 (.pick (.t 42) (.c (.bool true)) (.t 45)) 38 true,
 oG 47 (.mv (.t 46)) 38 true,
 oG 48 (.faddr 6 (.t 5)) 47 false,
 oG 49 (.load false 1 (.t 48)) 47 false,
 oG 50 (.un .not (.t 49)) 47 false,
 oG 51 (.pick (.t 47) (.c (.bool true)) (.t 50)) 38 true,
 oG 52 (.mv (.t 51)) 38 true,
 oG 53 (.faddr 4 (.t 5)) 52 false,
 oG 54 (.load false 1 (.t 53)) 52 false,
 oG 55 (.faddr 5 (.t 5)) 52 false,
 oG 56 (.load false 1 (.t 55)) 52 false,
 oG 57 (.iaddr 3 (.t 54) (.t 56)) 52 false,
 oG 58 (.faddr 2 (.t 57)) 52 false,
 oG 59 (.load false 1 (.t 58)) 52 false,
 oG 60 (.bin .gtr (.t 59) (.c (.int .i64 24))) 52 false,
 oG 61 (.pick (.t 52) (.c (.bool true)) (.t 60)) 38 true,
 oO 62 (.pick (.t 38) (.t 61) (.c (.bool false))),
 oM 63 62,
 oG 64 (.mv (.t 4)) 63 false,
 oG 65 (.bin .gtr (.t 64) (.c (.int .i64 0))) 63 false,
 oG 66 (.mv (.t 65)) 63 false,
 oG 67 (.mv (.t 6)) 66 true,
 oG 68 (.bin .lss (.t 67) (.c (.int .i64 0))) 66 true,
 oG 69 (.pick (.t 66) (.t 68) (.c (.bool false))) 63 false,
 oO 70 (.pick (.t 63) (.c (.bool true)) (.t 69))])
 (.cond (.t 70)
 (.seq
 (.region [] [oO 2 (.mv (.c (.bool false)))])
 .ret)
 .skip))
 (.seq
 (.region [0, 3, 4, 6, 15, 16, 17] [oM 71 3,
 oM 72 6,
 oO 73 (.bin .add (.t 72) (.c (.int .i64 1))),
 oO 74 (.slc 1 (.t 71) none (some (.t 73)) none),
 oM 75 4,
 oO 76 (.bslice 3 1 [[.int .i64 0]] [(0, (.t 75))]),
 oO 77 (.app 3 1 8 false (.t 74) (.t 76)),
 oM 3 77])
 (.seq
 (.region [0, 3, 15, 16, 17] [oM 78 3,
 oO 79 (.len false (.t 78)),
 oO 80 (.bin .gtr (.t 79) (.c (.int .i64 5)))])
 (.cond (.t 80)
 (.seq
 (.region [] [oO 2 (.mv (.c (.bool false)))])
 .ret)
 .skip))))))))
 (.region [0, 3, 15, 16, 17] [oO 81 (.bin .add (.t 17) (.c (.int .i64 1))),
 oM 17 81]))))
/-- progeny/dbd.areTypes -/
def c114 : CFn := ⟨82, [.t 2],
 (.seq
 (.region [0] [oO 2 (.mv (.c (.bool false)))])
 (.seq
 (.seq
 (.region [0] [oM 7 0,
 oO 8 (.len false (.t 7)),
 oO 9 (.bin .lss (.t 8) (.c (.int .i64 1))),
 oM 10 9,
 oG 11 (.mv (.t 0)) 10 false,
 oG 12 (.len false (.t 11)) 10 false,
 oG 13 (.bin .gtr (.t 12) (.c (.int .i64 8))) 10 false,
 oO 14 (.pick (.t 10) (.c (.bool true)) (.t 13))])
 (.cond (.t 14)
 (.seq
 (.region [] [oO 2 (.mv (.c (.bool false)))])
 .ret)
 .skip))
 (.seq
 (.region [0] [oO 3 (.mv (.c (.nils)))])
 (.seq
 (.seq
 (.region [0, 3] [oM 15 0,
 oO 16 (.len false (.t 15)),
 oO 17 (.mv (.c (.int .i64 0)))])
 (.block 0
 (.loop c114_l0)))
 (.seq
 (.region [] [oO 2 (.mv (.c (.bool true)))])
 .ret))))), false, false⟩
def c115_l0 : CC :=
 (.seq
 (.region [0, 1, 8, 9, 10] [oB 11 .lss 10 9])
 (.seq
 (.cond (.t 11)
 .skip
 (.exit 0))
 (.seq
 (.block 1
 (.seq
 (.region [0, 1, 8, 9, 10] [oM 12 10,
 oI 13 4 8 10,
 oL 14 4 13,
 oO 6 (.box 125 4 (.c (.agg [.str ⟨#[]⟩, .int .i64 0, .int .i64 0, .str ⟨#[]⟩]))),
 oM 5 12,
 oS 4 6 14])
 (.seq
 (.seq
 (.region [0, 1, 5, 6, 8, 9, 10] [oA 15 0 6,
 ol 16 1 15,
 oO 17 (k1 113 16),
 oN 18 17,
 oM 19 18,
 oG 20 (.faddr 1 (.t 6)) 19 false,
 oG 21 (.load false 1 (.t 20)) 19 false,
 oG 22 (.bin .lss (.t 21) (.c (.int .i64 0))) 19 false,
 oO 23 (.pick (.t 19) (.c (.bool true)) (.t 22)),
 oM 24 23,
 oG 25 (.faddr 1 (.t 6)) 24 false,
 oG 26 (.load false 1 (.t 25)) 24 false,
 oG 27 (.mv (.t 1)) 24 false,
 oG 28 (.len false (.t 27)) 24 false,
 oG 29 (.bin .geq (.t 26) (.t 28)) 24 false,
 oO 30 (.pick (.t 24) (.c (.bool true)) (.t 29)),
 oM 31 30,
 oG 32 (.faddr 3 (.t 6)) 31 false,
 oG 33 (.load false 1 (.t 32)) 31 false,
 oG 34 (.len true (.t 33)) 31 false,
 oG 35 (.bin .gtr (.t 34) (.c (.int .i64 1))) 31 false,
 oO 36 (.pick (.t 31) (.c (.bool true)) (.t 35)),
 oM 37 36,
 oG 38 (.mv (.t 0)) 37 false,
 oG 39 (.mv (.t 5)) 37 false,
 oG 40 (.slc 4 (.t 38) none (some (.t 39)) none) 37 false,
 oG 41 (.mkfn 148 [(.t 6)]) 37 false,
 oG 42 (k2 147 40 41) 37 false,
 oO 43 (.pick (.t 37) (.c (.bool true)) (.t 42))])
 (.cond (.t 43)
 (.seq
 (.region [] [oO 4 (.mv (.c (.bool false)))])
 .ret)
 .skip))
 (.seq
 (.region [0, 1, 6, 8, 9, 10] [oM 44 1,
 oA 45 1 6,
 ol 46 1 45,
 oI 47 8 44 46,
 oA 48 4 47,
 ol 49 1 48,
 oM 7 49])
 (.seq
 (.region [0, 1, 6, 7, 8, 9, 10] [oA 50 2 6,
 ol 51 1 50,
 oO 52 (.bin .lss (.t 51) (.c (.int .i64 0))),
 oM 53 52,
 oG 54 (.faddr 2 (.t 6)) 53 false,
 oG 55 (.load false 1 (.t 54)) 53 false,
 oG 56 (.mv (.t 7)) 53 false,
 oG 57 (.len false (.t 56)) 53 false,
 oG 58 (.bin .geq (.t 55) (.t 57)) 53 false,
 oO 59 (.pick (.t 53) (.c (.bool true)) (.t 58)),
 oM 60 59,
 oG 61 (.mv (.t 7)) 60 false,
 oG 62 (.faddr 2 (.t 6)) 60 false,
 oG 63 (.load false 1 (.t 62)) 60 false,
 oG 64 (.iaddr 3 (.t 61) (.t 63)) 60 false,
 oG 65 (.faddr 2 (.t 64)) 60 false,
 oG 66 (.load false 1 (.t 65)) 60 false,
 oG 67 (.bin .gtr (.t 66) (.c (.int .i64 20))) 60 false,
 oO 68 (.pick (.t 60) (.c (.bool true)) (.t 67))])
 (.cond (.t 68)
 (.seq
 (.region [] [oO 4 (.mv (.c (.bool false)))])
 .ret)
 .skip))))))
 (.region [0, 1, 8, 9, 10] [oO 69 (.bin .add (.t 10) (.c (.int .i64 1))),
 oM 10 69]))))
/-- progeny/dbd.areIndexes -/
def c115 : CFn := ⟨73, [.t 4],
 (.seq
 (.region [0, 1] [oO 4 (.mv (.c (.bool false)))])
 (.seq
 (.seq
 (.region [0, 1] [oM 8 0,
 oO 9 (.len false (.t 8)),
 oO 10 (.mv (.c (.int .i64 0)))])
 (.block 0
 (.loop c115_l0)))
 (.seq
 (.region [0] [oM 70 0,
 oO 71 (.len false (.t 70)),
 oO 72 (.bin .leq (.t 71) (.c (.int .i64 3))),
 oM 4 72])
 .ret))), false, false⟩
/-- progeny/plain.fits -/
def c116 : CFn := ⟨42, [.t 4],
 (.seq
 (.region [0, 1] [oX 2 25 4 0,
 oX 3 55 2 1,
 oO 4 (.mv (.c (.bool false)))])
 (.seq
 (.draw [2, 3] [oA 5 0 3,
 oF 6 (.load false 1 (.t 5)) [0],
 oF 7 (.bin .geq (.t 6) (.c (.int .i64 0))) [0, 1],
 oF 8 (.mv (.t 7)) [0, 1, 2],
 ⟨(some 9), .faddr 0 (.t 3), some (8, true), (u 4), []⟩,
 ⟨(some 10), .load false 1 (.t 9), some (8, true), (u 5), []⟩,
 ⟨(some 11), .faddr 2 (.t 2), some (8, true), (u 4), []⟩,
 ⟨(some 12), .load false 1 (.t 11), some (8, true), (u 4 ++ [6]), []⟩,
 ⟨(some 13), .len false (.t 12), some (8, true), (u 4 ++ [6, 7]), []⟩,
 ⟨(some 14), .bin .lss (.t 10) (.t 13), some (8, true), (u 9), []⟩,
 oF 15 (.pick (.t 8) (.t 14) (.c (.bool false))) (u 10),
 oF 16 (.mv (.t 15)) (u 11),
 ⟨(some 17), .faddr 1 (.t 3), some (16, true), (u 12), []⟩,
 ⟨(some 18), .load false 1 (.t 17), some (16, true), (u 13), []⟩,
 ⟨(some 19), .len true (.t 18), some (16, true), (u 14), []⟩,
 ⟨(some 20), .faddr 2 (.t 2), some (16, true), (u 12), []⟩,
 ⟨(some 21), .load false 1 (.t 20), some (16, true), (u 12 ++ [15]), []⟩,
 ⟨(some 22), .faddr 0 (.t 3), some (16, true), (u 12), []⟩,
 ⟨(some 23), .load false 1 (.t 22), some (16, true), (u 12 ++ [17]), []⟩,
 ⟨(some 24), .iaddr 8 (.t 21) (.t 23), some (16, true), (u 12 ++ [15, 16, 17, 18]), []⟩,
 ⟨(some 25), .faddr 2 (.t 24), some (16, true), (u 12 ++ [15, 16, 17, 18, 19]), []⟩,
 ⟨(some 26), .load false 1 (.t 25), some (16, true), (u 12 ++ [15, 16, 17, 18, 19, 20]), []⟩,
 ⟨(some 27), .bin .geq (.t 19) (.t 26), some (16, true), (u 22), []⟩,
 oF 28 (.pick (.t 16) (.t 27) (.c (.bool false))) (u 23),
 oF 29 (.mv (.t 28)) (u 24),
 ⟨(some 30), .faddr 1 (.t 3), some (29, true), (u 25), []⟩,
 ⟨(some 31), .load false 1 (.t 30), some (29, true), (u 26), []⟩,
 ⟨(some 32), .len true (.t 31), some (29, true), (u 27), []⟩,
 ⟨(some 33), .faddr 2 (.t 2), some (29, true), (u 25), []⟩,
 ⟨(some 34), .load false 1 (.t 33), some (29, true), (u 25 ++ [28]), []⟩,
 ⟨(some 35), .faddr 0 (.t 3), some (29, true), (u 25), []⟩,
 ⟨(some 36), .load false 1 (.t 35), some (29, true), (u 25 ++ [30]), []⟩,
 ⟨(some 37), .iaddr 8 (.t 34) (.t 36), some (29, true), (u 25 ++ [28, 29, 30, 31]), []⟩,
 ⟨(some 38), .faddr 3 (.t 37), some (29, true), (u 25 ++ [28, 29, 30, 31, 32]), []⟩,
 ⟨(some 39), .load false 1 (.t 38), some (29, true), (u 25 ++ [28, 29, 30, 31, 32, 33]), []⟩,
 ⟨(some 40), .bin .leq (.t 32) (.t 39), some (29, true), (u 35), []⟩,
 oF 41 (.pick (.t 29) (.t 40) (.c (.bool false))) (u 36),
 oF 4 (.mv (.t 41)) (u 37)])
 .ret)), false, false⟩
/-- progeny/plain.valid$1 -/
def c117 : CFn := ⟨12, [.t 4],
 (.seq
 (.region [0, 1, 2] [oO 4 (.mv (.c (.bool false)))])
 (.seq
 (.draw [0, 1, 2] [ol 5 1 1,
 oM 6 0,
 oF 7 (.iaddr 2 (.t 5) (.t 6)) [0, 1],
 oF 8 (.faddr 0 (.t 7)) [0, 1, 2],
 oF 9 (.load false 1 (.t 8)) (u 4),
 ol 10 1 2,
 oF 11 (.bin .eql (.t 9) (.t 10)) (u 6),
 oF 4 (.mv (.t 11)) (u 7)])
 .ret)), false, false⟩
/-- progeny/plain.inOrder -/
def c118 : CFn := ⟨31, [.t 6],
 (.seq
 (.region [0, 1, 2] [oX 3 61 8 0,
 oO 6 (.mv (.c (.bool false)))])
 (.seq
 (.seq
 (.region [1, 2, 3] [oA 9 5 3,
 ol 10 1 9,
 oO 11 (.bin .lss (.t 10) (.c (.int .i64 0)))])
 (.cond (.t 11)
 (.seq
 (.region [] [oO 6 (.mv (.c (.bool true)))])
 .ret)
 .skip))
 (.seq
 (.draw [1, 2, 3] [oL 12 8 3,
 oM 13 1,
 oF 14 (k2 149 12 13) [0, 1],
 oa 15 (.load true 8 (.t 3)) [] [2],
 oM 16 2,
 oF 17 (k2 149 15 16) (u 5),
 oF 7 (.mv (.t 14)) (u 6),
 oF 8 (.mv (.t 17)) (u 7)])
 (.seq
 (.region [3, 7, 8] [oM 18 7,
 oM 19 8,
 oB 20 .lss 18 19,
 oM 21 20,
 oG 22 (.mv (.t 7)) 21 false,
 oG 23 (.mv (.t 8)) 21 false,
 oG 24 (.bin .eql (.t 22) (.t 23)) 21 false,
 oG 25 (.mv (.t 24)) 21 false,
 oG 26 (.faddr 6 (.t 3)) 25 true,
 oG 27 (.load false 1 (.t 26)) 25 true,
 oG 28 (.un .not (.t 27)) 25 true,
 oG 29 (.pick (.t 25) (.t 28) (.c (.bool false))) 21 false,
 oO 30 (.pick (.t 21) (.c (.bool true)) (.t 29)),
 oM 6 30])
 .ret)))), false, false⟩
/-- progeny/dbd.Fits -/
def c119 : CFn := ⟨23, [.t 6, .t 7],
 (.seq
 (.region [0, 1, 2] [oX 3 25 4 0,
 oO 6 (.mv (.c (.bool false))),
 oO 7 (.mv (.c (.int .i64 0)))])
 (.seq
 (.seq
 (.region [1, 2, 3] [oL 9 4 3,
 oM 10 1,
 oO 11 (.bslice 3 1 [[.int .i64 0]] [(0, (.t 10))]),
 oO 12 (k2 139 9 11),
 oM 8 12])
 (.seq
 (.region [1, 2, 3, 8] [oM 13 8,
 oO 14 (.bin .neq (.t 13) (.c (.int .i64 0)))])
 (.cond (.t 14)
 (.seq
 (.region [8] [oM 15 8,
 oO 6 (.mv (.c (.bool false))),
 oM 7 15])
 .ret)
 .skip)))
 (.seq
 (.region [1, 2, 3] [oA 16 2 3,
 ol 17 1 16,
 oM 18 1,
 oI 19 8 17 18,
 oL 20 8 19,
 oM 21 2,
 oO 22 (k2 140 20 21),
 oM 6 22,
 oO 7 (.mv (.c (.int .i64 0)))])
 .ret))), false, false⟩
def c123_l0 : CC :=
 (.seq
 (.region [2, 6, 7, 15, 16, 17] [oB 18 .lss 17 16])
 (.seq
 (.cond (.t 18)
 .skip
 (.exit 0))
 (.seq
 (.block 1
 (.seq
 (.region [2, 6, 7, 15, 16, 17] [oI 19 3 15 17,
 oL 20 3 19,
 oO 9 (.box 82 3 (.c (.agg [.str ⟨#[]⟩, .str ⟨#[]⟩, .nils]))),
 oS 3 9 20])
 (.seq
 (.region [2, 6, 7, 9, 15, 16, 17] [oL 22 4 2,
 oM 23 6,
 oL 24 3 9,
 oO 25 (k3 153 22 23 24),
 oM 21 25,
 oE 26 21 0,
 oE 27 21 1,
 oM 10 26,
 oM 11 27])
 (.seq
 (.seq
 (.region [2, 7, 10, 11, 15, 16, 17] [oM 28 10,
 oO 29 (.bin .neq (.t 28) (.c (.str ⟨#[32, 32]⟩)))])
 (.cond (.t 29)
 (.seq
 (.region [10] [oM 30 10,
 oM 4 30,
 oO 5 (.mv (.c (.nils)))])
 .ret)
 .skip))
 (.seq
 (.region [2, 7, 11, 15, 16, 17] [oM 31 11,
 oM 6 31])
 (.region [2, 6, 7, 11, 15, 16, 17] [oM 32 7,
 oM 33 11,
 oO 34 (.bslice 3 1 [[.int .i64 0]] [(0, (.t 33))]),
 oO 35 (.app 3 1 8 false (.t 32) (.t 34)),
 oM 7 35]))))))
 (.region [2, 6, 7, 15, 16, 17] [oO 36 (.bin .add (.t 17) (.c (.int .i64 1))),
 oM 17 36]))))
/-- progeny/ssa.check -/
def c123 : CFn := ⟨38, [.t 4, .t 5],
 (.seq
 (.region [0, 1] [oX 2 25 4 0,
 oO 4 (.mv (.c (.str ⟨#[]⟩))),
 oO 5 (.mv (.c (.nils)))])
 (.seq
 (.seq
 (.region [1, 2] [oM 12 1,
 oO 13 (.len false (.t 12)),
 oO 14 (.bin .gtr (.t 13) (.c (.int .i64 5)))])
 (.cond (.t 14)
 (.seq
 (.region [] [oO 4 (.mv (.c (.str ⟨#[65, 74]⟩))),
 oO 5 (.mv (.c (.nils)))])
 .ret)
 .skip))
 (.seq
 (.region [1, 2] [oO 6 (.mv (.c (.int .i64 (-1))))])
 (.seq
 (.region [1, 2, 6] [oO 7 (.mv (.c (.nils)))])
 (.seq
 (.seq
 (.region [1, 2, 6, 7] [oM 15 1,
 oO 16 (.len false (.t 15)),
 oO 17 (.mv (.c (.int .i64 0)))])
 (.block 0
 (.loop c123_l0)))
 (.seq
 (.region [7] [oM 37 7,
 oO 4 (.mv (.c (.str ⟨#[32, 32]⟩))),
 oM 5 37])
 .ret)))))), false, false⟩
/-- progeny/call.holds -/
def c125 : CFn := ⟨6, [.t 2],
 (.seq
 (.region [0] [oO 2 (.mv (.c (.bool false)))])
 (.seq
 (.region [0] [oM 3 0,
 oO 4 (.idx (.t 3) (.c (.int .i64 1))),
 oO 5 (.bin .eql (.t 4) (.c (.int .u8 72))),
 oM 2 5])
 .ret)), false, false⟩
def c126_l0 : CC :=
 (.seq
 (.seq
 (.region [0, 1, 5] [oM 8 5,
 oM 9 0,
 oO 10 (.nilck (.t 9)),
 oA 11 4 10,
 ol 12 1 11,
 oO 13 (.len false (.t 12)),
 oB 14 .lss 8 13,
 oM 15 14,
 oG 16 (.mv (.t 0)) 15 true,
 oG 17 (.nilck (.t 16)) 15 true,
 oG 18 (.faddr 5 (.t 17)) 15 true,
 oG 19 (.load false 1 (.t 18)) 15 true,
 oG 20 (.mv (.t 5)) 15 true,
 oG 21 (.iaddr 1 (.t 19) (.t 20)) 15 true,
 oG 22 (.load false 1 (.t 21)) 15 true,
 oG 23 (.mv (.t 1)) 15 true,
 oG 24 (.bin .geq (.t 22) (.t 23)) 15 true,
 oO 25 (.pick (.t 15) (.t 24) (.c (.bool false)))])
 (.cond (.t 25)
 .skip
 (.exit 0)))
 (.block 1
 (.region [0, 1, 5] [oM 26 5,
 oO 27 (.bin .add (.t 26) (.c (.int .i64 1))),
 oM 5 27])))
/-- (*progeny/call.book).end -/
def c126 : CFn := ⟨29, [.t 4],
 (.seq
 (.region [0, 1] [oO 4 (.mv (.c (.int .i64 0)))])
 (.seq
 (.region [0, 1] [oM 6 1,
 oO 7 (.bin .add (.t 6) (.c (.int .i64 1))),
 oM 5 7])
 (.seq
 (.block 0
 (.loop c126_l0))
 (.seq
 (.region [5] [oM 28 5,
 oM 4 28])
 .ret)))), false, false⟩
/-- (*progeny/call.book).moved -/
def c127 : CFn := ⟨46, [.t 6],
 (.seq
 (.region [0, 1, 2] [oO 6 (.mv (.c (.str ⟨#[]⟩)))])
 (.seq
 (.seq
 (.region [0, 1, 2] [oM 9 1,
 oO 10 (.bin .lss (.t 9) (.c (.int .i64 0)))])
 (.cond (.t 10)
 (.seq
 (.region [] [oO 6 (.mv (.c (.str ⟨#[32, 32]⟩)))])
 .ret)
 .skip))
 (.seq
 (.region [0, 1, 2] [oM 11 0,
 oM 12 1,
 oO 13 (z2 108 11 12),
 oO 14 (.len false (.t 13)),
 oM 15 0,
 oM 16 2,
 oO 17 (z2 108 15 16),
 oO 18 (.len false (.t 17)),
 oM 7 14,
 oM 8 18])
 (.seq
 (.block 0
 (.seq
 (.region [0, 1, 2, 7, 8] [oM 20 8,
 oM 21 7,
 oB 22 .lss 20 21,
 oM 19 22])
 (.cond (.t 19)
 (.seq
 (.region [] [oO 6 (.mv (.c (.str ⟨#[71, 65]⟩)))])
 .ret)
 (.seq
 (.draw [0, 1, 2, 7, 8] [oM 24 8,
 oM 25 7,
 oF 26 (.bin .eql (.t 24) (.t 25)) [0, 1],
 oF 27 (.mv (.t 26)) [0, 1, 2],
 ⟨(some 28), .mv (.t 0), some (27, true), (u 4), []⟩,
 ⟨(some 29), .nilck (.t 28), some (27, true), (u 5), []⟩,
 ⟨(some 30), .faddr 4 (.t 29), some (27, true), (u 6), []⟩,
 ⟨(some 31), .load false 1 (.t 30), some (27, true), (u 7), []⟩,
 ⟨(some 32), .mv (.t 2), some (27, true), (u 4), []⟩,
 ⟨(some 33), .iaddr 2 (.t 31) (.t 32), some (27, true), (u 9), []⟩,
 ⟨(some 34), .faddr 0 (.t 33), some (27, true), (u 10), []⟩,
 ⟨(some 35), .load false 1 (.t 34), some (27, true), (u 11), []⟩,
 ⟨(some 36), .mv (.t 0), some (27, true), (u 4), []⟩,
 ⟨(some 37), .nilck (.t 36), some (27, true), (u 4 ++ [12]), []⟩,
 ⟨(some 38), .faddr 4 (.t 37), some (27, true), (u 4 ++ [12, 13]), []⟩,
 ⟨(some 39), .load false 1 (.t 38), some (27, true), (u 4 ++ [12, 13, 14]), []⟩,
 ⟨(some 40), .mv (.t 1), some (27, true), (u 4), []⟩,
 ⟨(some 41), .iaddr 2 (.t 39) (.t 40), some (27, true), (u 4 ++ [12, 13, 14, 15, 16]), []⟩,
 ⟨(some 42), .faddr 0 (.t 41), some (27, true), (u 4 ++ [12, 13, 14, 15, 16, 17]), []⟩,
 ⟨(some 43), .load false 1 (.t 42), some (27, true), (u 4 ++ [12, 13, 14, 15, 16, 17, 18]), []⟩,
 ⟨(some 44), .bin .neq (.t 35) (.t 43), some (27, true), (u 20), []⟩,
 oF 45 (.pick (.t 27) (.t 44) (.c (.bool false))) (u 21),
 oF 23 (.mv (.t 45)) (u 22)])
 (.cond (.t 23)
 (.seq
 (.region [] [oO 6 (.mv (.c (.str ⟨#[71, 75]⟩)))])
 .ret)
 .skip)))))
 (.seq
 (.region [] [oO 6 (.mv (.c (.str ⟨#[32, 32]⟩)))])
 .ret))))), false, false⟩
/-- progeny/progenyref11.isType -/
def c128 : CFn := ⟨14, [.t 4],
 (.seq
 (.region [0, 1] [oX 2 25 4 0,
 oO 4 (.mv (.c (.bool false)))])
 (.seq
 (.region [1, 2] [oM 5 1,
 oO 6 (.bin .geq (.t 5) (.c (.int .i64 0))),
 oM 7 6,
 oG 8 (.mv (.t 1)) 7 true,
 oG 9 (.faddr 2 (.t 2)) 7 true,
 oG 10 (.load false 1 (.t 9)) 7 true,
 oG 11 (.len false (.t 10)) 7 true,
 oG 12 (.bin .lss (.t 8) (.t 11)) 7 true,
 oO 13 (.pick (.t 7) (.t 12) (.c (.bool false))),
 oM 4 13])
 .ret)), false, false⟩
def c133_l0 : CC :=
 (.seq
 (.region [0, 1, 7, 8] [oB 9 .lss 8 7])
 (.seq
 (.cond (.t 9)
 .skip
 (.exit 0))
 (.seq
 (.block 1
 (.seq
 (.region [0, 1, 7, 8] [oM 10 8,
 oM 5 10])
 (.seq
 (.region [0, 1, 5, 7, 8] [oM 11 1,
 oM 12 0,
 oM 13 5,
 oI 14 1 12 13,
 ol 15 1 14,
 oB 16 .eql 11 15])
 (.cond (.t 16)
 (.seq
 (.region [5] [oM 17 5,
 oM 4 17])
 .ret)
 .skip))))
 (.region [0, 1, 7, 8] [oO 18 (.bin .add (.t 8) (.c (.int .i64 1))),
 oM 8 18]))))
/-- slices.Index[[]string,string] -/
def c133 : CFn := ⟨19, [.t 4],
 (.seq
 (.region [0, 1] [oO 4 (.mv (.c (.int .i64 0)))])
 (.seq
 (.seq
 (.region [0, 1] [oM 6 0,
 oO 7 (.len false (.t 6)),
 oO 8 (.mv (.c (.int .i64 0)))])
 (.block 0
 (.loop c133_l0)))
 (.seq
 (.region [] [oO 4 (.mv (.c (.int .i64 (-1))))])
 .ret))), false, false⟩
def c136_l0 : CC :=
 (.seq
 (.seq
 (.region [7, 8] [oM 34 8,
 oM 35 7,
 oO 36 (.len false (.t 35)),
 oB 37 .lss 34 36])
 (.cond (.t 37)
 .skip
 (.exit 0)))
 (.block 1
 (.draw [7, 8] [oM 38 8,
 oM 39 7,
 oM 40 8,
 oF 41 (.slc 1 (.t 39) (some (.t 40)) none none) [1, 2],
 oM 42 7,
 oM 43 8,
 oF 44 (.slc 1 (.t 42) none (some (.t 43)) none) [4, 5],
 oF 45 (.copy 1 (.t 41) (.t 44)) [1, 2, 3, 4, 5, 6],
 oF 46 (.bin .add (.t 38) (.t 45)) (u 8),
 oF 8 (.mv (.t 46)) (u 9)])))
/-- slices.Repeat[[]int,int] -/
def c136 : CFn := ⟨48, [.t 4],
 (.seq
 (.region [0, 1] [oO 4 (.mv (.c (.nils)))])
 (.seq
 (.seq
 (.region [0, 1] [oM 9 1,
 oO 10 (.bin .lss (.t 9) (.c (.int .i64 0)))])
 (.cond (.t 10)
 .stuck
 .skip))
 (.seq
 (.region [0, 1] [oM 13 0,
 oO 14 (.len false (.t 13)),
 oO 15 (.convI .u64 (.t 14)),
 oM 16 1,
 oO 17 (.convI .u64 (.t 16)),
 oO 18 (k2 161 15 17),
 oM 12 18,
 oE 19 12 0,
 oE 20 12 1,
 oM 5 19,
 oM 6 20])
 (.seq
 (.seq
 (.region [0, 5, 6] [oM 21 5,
 oO 22 (.bin .gtr (.t 21) (.c (.int .u64 0))),
 oM 23 22,
 oG 24 (.mv (.t 6)) 23 false,
 oG 25 (.bin .gtr (.t 24) (.c (.int .u64 9223372036854775807))) 23 false,
 oO 26 (.pick (.t 23) (.c (.bool true)) (.t 25))])
 (.cond (.t 26)
 .stuck
 .skip))
 (.seq
 (.region [0, 6] [oM 28 6,
 oO 29 (.convI .i64 (.t 28)),
 oO 30 (.mks 3 1 8 [.int .i64 0] (.t 29) (.t 29)),
 oM 7 30])
 (.seq
 (.region [0, 7] [oM 31 7,
 oM 32 0,
 oO 33 (.copy 1 (.t 31) (.t 32)),
 oM 8 33])
 (.seq
 (.block 0
 (.loop c136_l0))
 (.seq
 (.region [7] [oM 47 7,
 oM 4 47])
 .ret)))))))), false, false⟩
def c137_l0 : CC :=
 (.seq
 (.seq
 (.region [0, 2, 4, 7] [oM 18 7,
 oM 19 0,
 oO 20 (.nilck (.t 19)),
 oA 21 4 20,
 ol 22 1 21,
 oO 23 (.len false (.t 22)),
 oB 24 .lss 18 23])
 (.cond (.t 24)
 .skip
 (.exit 0)))
 (.seq
 (.block 1
 (.seq
 (.draw [0, 2, 4, 7] [oM 27 0,
 oF 28 (.nilck (.t 27)) [0],
 oF 29 (.faddr 4 (.t 28)) [0, 1],
 oF 30 (.load false 1 (.t 29)) [0, 1, 2],
 oM 31 7,
 oF 32 (.iaddr 2 (.t 30) (.t 31)) (u 5),
 oF 33 (.faddr 0 (.t 32)) (u 6),
 oF 34 (.load false 1 (.t 33)) (u 7),
 oM 35 0,
 oF 36 (.nilck (.t 35)) [8],
 oF 37 (.faddr 4 (.t 36)) [8, 9],
 oF 38 (.load false 1 (.t 37)) [8, 9, 10],
 oM 39 2,
 oF 40 (.iaddr 2 (.t 38) (.t 39)) [8, 9, 10, 11, 12],
 oF 41 (.faddr 0 (.t 40)) [8, 9, 10, 11, 12, 13],
 oF 42 (.load false 1 (.t 41)) [8, 9, 10, 11, 12, 13, 14],
 oF 43 (.bin .eql (.t 34) (.t 42)) (u 16),
 oF 44 (.mv (.t 43)) (u 17),
 ⟨(some 45), .mv (.t 0), some (44, true), (u 18), []⟩,
 ⟨(some 46), .nilck (.t 45), some (44, true), (u 19), []⟩,
 ⟨(some 47), .faddr 5 (.t 46), some (44, true), (u 20), []⟩,
 ⟨(some 48), .load false 1 (.t 47), some (44, true), (u 21), []⟩,
 ⟨(some 49), .mv (.t 7), some (44, true), (u 18), []⟩,
 ⟨(some 50), .iaddr 1 (.t 48) (.t 49), some (44, true), (u 23), []⟩,
 ⟨(some 51), .load false 1 (.t 50), some (44, true), (u 24), []⟩,
 ⟨(some 52), .mv (.t 0), some (44, true), (u 18), []⟩,
 ⟨(some 53), .nilck (.t 52), some (44, true), (u 18 ++ [25]), []⟩,
 ⟨(some 54), .faddr 5 (.t 53), some (44, true), (u 18 ++ [25, 26]), []⟩,
 ⟨(some 55), .load false 1 (.t 54), some (44, true), (u 18 ++ [25, 26, 27]), []⟩,
 ⟨(some 56), .mv (.t 2), some (44, true), (u 18), []⟩,
 ⟨(some 57), .iaddr 1 (.t 55) (.t 56), some (44, true), (u 18 ++ [25, 26, 27, 28, 29]), []⟩,
 ⟨(some 58), .load false 1 (.t 57), some (44, true), (u 18 ++ [25, 26, 27, 28, 29, 30]), []⟩,
 ⟨(some 59), .bin .eql (.t 51) (.t 58), some (44, true), (u 32), []⟩,
 oF 60 (.pick (.t 44) (.t 59) (.c (.bool false))) (u 33),
 oF 61 (.mv (.t 60)) (u 34),
 ⟨(some 62), .mv (.t 0), some (61, true), (u 35), []⟩,
 ⟨(some 63), .load true 3 (.t 4), some (61, true), (u 35), []⟩,
 ⟨(some 64), .mv (.t 7), some (61, true), (u 35), []⟩,
 ⟨(some 65), k3 162 62 63 64, some (61, true), (u 38), []⟩,
 oF 66 (.pick (.t 61) (.t 65) (.c (.bool false))) (u 39)])
 (.cond (.t 66)
 (.seq
 (.region [] [oO 6 (.mv (.c (.bool false)))])
 .ret)
 .skip)))
 (.region [0, 2, 4, 7] [oM 25 7,
 oO 26 (.bin .add (.t 25) (.c (.int .i64 1))),
 oM 7 26])))
/-- (*progeny/call.book).fit -/
def c137 : CFn := ⟨67, [.t 6],
 (.seq
 (.region [0, 1, 2] [oX 4 82 3 1,
 oO 6 (.mv (.c (.bool false)))])
 (.seq
 (.seq
 (.region [0, 2, 4] [oM 8 0,
 oL 9 3 4,
 oM 10 2,
 oO 11 (k3 162 8 9 10),
 oN 12 11])
 (.cond (.t 12)
 (.seq
 (.region [] [oO 6 (.mv (.c (.bool false)))])
 .ret)
 .skip))
 (.seq
 (.seq
 (.region [0, 2, 4] [oL 13 3 4,
 oO 14 (.call (.c (.fn 111 [])) [(.t 13), (.c (.int .u8 76))] false),
 oN 15 14])
 (.cond (.t 15)
 (.seq
 (.region [] [oO 6 (.mv (.c (.bool true)))])
 .ret)
 .skip))
 (.seq
 (.seq
 (.region [0, 2, 4] [oM 16 2,
 oO 17 (.bin .add (.t 16) (.c (.int .i64 1))),
 oM 7 17])
 (.block 0
 (.loop c137_l0)))
 (.seq
 (.region [] [oO 6 (.mv (.c (.bool true)))])
 .ret))))), false, false⟩
def c138_l0 : CC :=
 (.seq
 (.seq
 (.region [0, 2, 3] [oM 7 2,
 oM 8 3,
 oB 9 .lss 7 8])
 (.cond (.t 9)
 .skip
 (.exit 0)))
 (.seq
 (.block 1
 (.draw [0, 2, 3] [oM 14 0,
 oM 15 2,
 oM 16 0,
 oM 17 3,
 oM 18 0,
 oM 19 3,
 oF 20 (.iaddr 1 (.t 18) (.t 19)) [4, 5],
 oF 21 (.load false 1 (.t 20)) [4, 5, 6],
 oM 22 0,
 oM 23 2,
 oF 24 (.iaddr 1 (.t 22) (.t 23)) [8, 9],
 oF 25 (.load false 1 (.t 24)) [8, 9, 10],
 oF 26 (.iaddr 1 (.t 14) (.t 15)) [0, 1, 4, 5, 6, 7, 8, 9, 10, 11],
 ⟨none, .store 1 (.t 26) (.t 21), none, [0, 1, 4, 5, 6, 7, 8, 9, 10, 11, 12], []⟩,
 oF 27 (.iaddr 1 (.t 16) (.t 17)) (u 14),
 ⟨none, .store 1 (.t 27) (.t 25), none, (u 15), []⟩]))
 (.region [0, 2, 3] [oM 10 2,
 oO 11 (.bin .add (.t 10) (.c (.int .i64 1))),
 oM 12 3,
 oO 13 (.bin .sub (.t 12) (.c (.int .i64 1))),
 oM 2 11,
 oM 3 13])))
/-- slices.Reverse[[]int,int] -/
def c138 : CFn := ⟨28, [],
 (.seq
 (.region [0] [oM 4 0,
 oO 5 (.len false (.t 4)),
 oO 6 (.bin .sub (.t 5) (.c (.int .i64 1))),
 oO 2 (.mv (.c (.int .i64 0))),
 oM 3 6])
 (.block 0
 (.loop c138_l0))), false, false⟩
/-- progeny/dbd.asked -/
def c139 : CFn := ⟨13, [.t 4],
 (.seq
 (.region [0, 1] [oX 2 25 4 0,
 oO 4 (.mv (.c (.int .i64 0)))])
 (.seq
 (.block 0
 (.seq
 (.region [1, 2] [oL 6 4 2,
 oO 7 (k1 75 6),
 oN 8 7,
 oM 5 8])
 (.cond (.t 5)
 (.seq
 (.region [] [oO 4 (.mv (.c (.int .i64 100)))])
 .ret)
 (.seq
 (.region [1, 2] [oM 10 1,
 oO 11 (.mkfn 163 [(.t 2)]),
 oO 12 (k2 67 10 11),
 oM 9 12])
 (.cond (.t 9)
 (.seq
 (.region [] [oO 4 (.mv (.c (.int .i64 2)))])
 .ret)
 .skip)))))
 (.seq
 (.region [] [oO 4 (.mv (.c (.int .i64 0)))])
 .ret))), false, false⟩
/-- progeny/dbd.fits -/
def c140 : CFn := ⟨17, [.t 4],
 (.seq
 (.region [0, 1] [oX 2 61 8 0,
 oO 4 (.mv (.c (.bool false)))])
 (.seq
 (.region [1, 2] [oM 5 1,
 oO 6 (.len true (.t 5)),
 oA 7 2 2,
 ol 8 1 7,
 oB 9 .geq 6 8,
 oM 10 9,
 oG 11 (.mv (.t 1)) 10 true,
 oG 12 (.len true (.t 11)) 10 true,
 oG 13 (.faddr 3 (.t 2)) 10 true,
 oG 14 (.load false 1 (.t 13)) 10 true,
 oG 15 (.bin .leq (.t 12) (.t 14)) 10 true,
 oO 16 (.pick (.t 10) (.t 15) (.c (.bool false))),
 oM 4 16])
 .ret)), false, false⟩
/-- progeny/dbd.value -/
def c141 : CFn := ⟨23, [.t 4, .t 5],
 (.seq
 (.region [0, 1] [oX 2 120 3 0,
 oO 4 (.mv (.c (.str ⟨#[]⟩))),
 oO 5 (.mv (.c (.bool false)))])
 (.seq
 (.seq
 (.region [1, 2] [oA 6 1 2,
 ol 7 1 6,
 oA 8 2 2,
 ol 9 1 8,
 oB 10 .add 7 9,
 oM 11 1,
 oO 12 (.len true (.t 11)),
 oB 13 .gtr 10 12])
 (.cond (.t 13)
 (.seq
 (.region [] [oO 4 (.mv (.c (.str ⟨#[]⟩))),
 oO 5 (.mv (.c (.bool false)))])
 .ret)
 .skip))
 (.seq
 (.region [1, 2] [oM 14 1,
 oA 15 1 2,
 ol 16 1 15,
 oA 17 1 2,
 ol 18 1 17,
 oA 19 2 2,
 ol 20 1 19,
 oB 21 .add 18 20,
 oO 22 (.slcs (.t 14) (some (.t 16)) (some (.t 21))),
 oM 4 22,
 oO 5 (.mv (.c (.bool true)))])
 .ret))), false, false⟩
/-- strings.IndexByte -/
def c142 : CFn := ⟨0, [.t 0], .user pIdx, false, false⟩
/-- strings.ReplaceAll -/
def c143 : CFn := ⟨0, [.t 0], .user pRepl, false, false⟩
/-- progeny/dbd.isType -/
def c144 : CFn := ⟨70, [.t 2],
 (.seq
 (.region [0] [oX 1 61 8 0,
 oO 2 (.mv (.c (.bool false)))])
 (.seq
 (.block 0
 (.seq
 (.region [1] [oA 4 0 1,
 ol 5 1 4,
 oO 6 (k1 113 5),
 oN 7 6,
 oM 8 7,
 oG 9 (.faddr 2 (.t 1)) 8 false,
 oG 10 (.load false 1 (.t 9)) 8 false,
 oG 11 (.bin .lss (.t 10) (.c (.int .i64 1))) 8 false,
 oO 12 (.pick (.t 8) (.c (.bool true)) (.t 11)),
 oM 13 12,
 oG 14 (.faddr 2 (.t 1)) 13 false,
 oG 15 (.load false 1 (.t 14)) 13 false,
 oG 16 (.faddr 3 (.t 1)) 13 false,
 oG 17 (.load false 1 (.t 16)) 13 false,
 oG 18 (.bin .gtr (.t 15) (.t 17)) 13 false,
 oO 19 (.pick (.t 13) (.c (.bool true)) (.t 18)),
 oM 20 19,
 oG 21 (.faddr 3 (.t 1)) 20 false,
 oG 22 (.load false 1 (.t 21)) 20 false,
 oG 23 (.bin .gtr (.t 22) (.c (.int .i64 40))) 20 false,
 oO 24 (.pick (.t 20) (.c (.bool true)) (.t 23)),
 oM 25 24,
 oG 26 (.faddr 4 (.t 1)) 25 false,
 oG 27 (.load false 1 (.t 26)) 25 false,
 oG 28 (.faddr 3 (.t 1)) 25 false,
 oG 29 (.load false 1 (.t 28)) 25 false,
 oG 30 (k2 166 27 29) 25 false,
 oG 31 (.un .not (.t 30)) 25 false,
 oO 32 (.pick (.t 25) (.c (.bool true)) (.t 31)),
 oM 3 32])
 (.cond (.t 3)
 (.seq
 (.region [] [oO 2 (.mv (.c (.bool false)))])
 .ret)
 (.seq
 (.region [1] [oA 34 5 1,
 ol 35 1 34,
 oO 36 (.bin .eql (.t 35) (.c (.int .i64 (-1)))),
 oM 33 36])
 (.cond (.t 33)
 (.seq
 (.region [1] [oA 37 6 1,
 ol 38 1 37,
 oN 39 38,
 oM 2 39])
 .ret)
 (.seq
 (.region [1] [oA 41 5 1,
 ol 42 1 41,
 oO 43 (.bin .lss (.t 42) (.c (.int .i64 0))),
 oM 44 43,
 oG 45 (.faddr 5 (.t 1)) 44 false,
 oG 46 (.load false 1 (.t 45)) 44 false,
 oG 47 (.faddr 4 (.t 1)) 44 false,
 oG 48 (.load false 1 (.t 47)) 44 false,
 oG 49 (.len false (.t 48)) 44 false,
 oG 50 (.bin .geq (.t 46) (.t 49)) 44 false,
 oO 51 (.pick (.t 44) (.c (.bool true)) (.t 50)),
 oM 40 51])
 (.cond (.t 40)
 (.seq
 (.region [] [oO 2 (.mv (.c (.bool false)))])
 .ret)
 .skip)))))))
 (.seq
 (.draw [1] [oA 52 4 1,
 oF 53 (.load false 1 (.t 52)) [0],
 oA 54 5 1,
 oF 55 (.load false 1 (.t 54)) [2],
 oF 56 (.iaddr 3 (.t 53) (.t 55)) (u 4),
 oF 57 (.faddr 1 (.t 56)) (u 5),
 oF 58 (.load false 1 (.t 57)) (u 6),
 oA 59 4 1,
 oF 60 (.load false 1 (.t 59)) [7],
 oA 61 5 1,
 oF 62 (.load false 1 (.t 61)) [9],
 oF 63 (.iaddr 3 (.t 60) (.t 62)) [7, 8, 9, 10],
 oF 64 (.faddr 2 (.t 63)) [7, 8, 9, 10, 11],
 oF 65 (.load false 1 (.t 64)) [7, 8, 9, 10, 11, 12],
 oF 66 (.bin .add (.t 58) (.t 65)) (u 14),
 oA 67 2 1,
 oF 68 (.load false 1 (.t 67)) [15],
 oF 69 (.bin .leq (.t 66) (.t 68)) (u 17),
 oF 2 (.mv (.t 69)) (u 18)])
 .ret))), false, false⟩
/-- slices.ContainsFunc[[]progeny/api.Type,progeny/api.Type] -/
def c145 : CFn := ⟨9, [.t 4],
 (.seq
 (.region [0, 1] [oO 4 (.mv (.c (.bool false)))])
 (.seq
 (.region [0, 1] [oM 5 0,
 oM 6 1,
 oO 7 (k2 167 5 6),
 oO 8 (.bin .geq (.t 7) (.c (.int .i64 0))),
 oM 4 8])
 .ret)), false, false⟩
/-- progeny/dbd.areTypes$1 -/
def c146 : CFn := ⟨9, [.t 3],
 (.seq
 (.region [0, 1] [oX 2 61 8 0,
 oO 3 (.mv (.c (.bool false)))])
 (.seq
 (.region [1, 2] [oA 4 0 2,
 ol 5 1 4,
 oA 6 0 1,
 ol 7 1 6,
 oB 8 .eql 5 7,
 oM 3 8])
 .ret)), false, false⟩
/-- slices.ContainsFunc[[]progeny/api.Search,progeny/api.Search] -/
def c147 : CFn := ⟨9, [.t 4],
 (.seq
 (.region [0, 1] [oO 4 (.mv (.c (.bool false)))])
 (.seq
 (.region [0, 1] [oM 5 0,
 oM 6 1,
 oO 7 (k2 168 5 6),
 oO 8 (.bin .geq (.t 7) (.c (.int .i64 0))),
 oM 4 8])
 .ret)), false, false⟩
/-- progeny/dbd.areIndexes$1 -/
def c148 : CFn := ⟨9, [.t 3],
 (.seq
 (.region [0, 1] [oX 2 125 4 0,
 oO 3 (.mv (.c (.bool false)))])
 (.seq
 (.region [1, 2] [oA 4 0 2,
 ol 5 1 4,
 oA 6 0 1,
 ol 7 1 6,
 oB 8 .eql 5 7,
 oM 3 8])
 .ret)), false, false⟩
/-- progeny/plain.key -/
def c149 : CFn := ⟨24, [.t 4],
 (.seq
 (.region [0, 1] [oX 2 61 8 0,
 oO 4 (.mv (.c (.str ⟨#[]⟩)))])
 (.seq
 (.seq
 (.region [1, 2] [oA 6 5 2,
 ol 7 1 6,
 oO 8 (.bin .lss (.t 7) (.c (.int .i64 0)))])
 (.cond (.t 8)
 (.seq
 (.region [] [oO 4 (.mv (.c (.str ⟨#[]⟩)))])
 .ret)
 .skip))
 (.seq
 (.region [1, 2] [oA 9 4 2,
 ol 10 1 9,
 oA 11 5 2,
 ol 12 1 11,
 oI 13 3 10 12,
 oL 14 3 13,
 oO 5 (.box 120 3 (.c (.agg [.str ⟨#[]⟩, .int .i64 0, .int .i64 0]))),
 oS 3 5 14])
 (.seq
 (.region [1, 5] [oM 15 1,
 oA 16 1 5,
 ol 17 1 16,
 oA 18 1 5,
 ol 19 1 18,
 oA 20 2 5,
 ol 21 1 20,
 oB 22 .add 19 21,
 oO 23 (.slcs (.t 15) (some (.t 17)) (some (.t 22))),
 oM 4 23])
 .ret)))), false, false⟩
/-- progeny/ssa.status -/
def c153 : CFn := ⟨49, [.t 6, .t 7],
 (.seq
 (.region [0, 1, 2] [oX 3 25 4 0,
 oX 5 82 3 2,
 oO 6 (.mv (.c (.str ⟨#[]⟩))),
 oO 7 (.mv (.c (.int .i64 0)))])
 (.seq
 (.seq
 (.region [1, 3, 5] [oA 14 1 5,
 ol 15 1 14,
 oO 16 (k1 171 15),
 oN 17 16])
 (.cond (.t 17)
 (.seq
 (.region [] [oO 6 (.mv (.c (.str ⟨#[65, 74]⟩))),
 oO 7 (.mv (.c (.int .i64 0)))])
 .ret)
 .skip))
 (.seq
 (.region [1, 3, 5] [oL 19 4 3,
 oA 20 0 5,
 ol 21 1 20,
 oO 22 (k2 172 19 21),
 oM 18 22,
 oE 23 18 0,
 oE 24 18 1,
 oM 8 23,
 oM 9 24])
 (.seq
 (.seq
 (.region [1, 3, 5, 8, 9] [oM 25 9,
 oO 26 (.bin .neq (.t 25) (.c (.int .i64 0)))])
 (.cond (.t 26)
 (.seq
 (.region [] [oO 6 (.mv (.c (.str ⟨#[65, 67]⟩))),
 oO 7 (.mv (.c (.int .i64 0)))])
 .ret)
 .skip))
 (.seq
 (.seq
 (.region [1, 3, 5, 8] [oM 27 1,
 oO 28 (.bin .geq (.t 27) (.c (.int .i64 0)))])
 (.cond (.t 28)
 (.seq
 (.region [1, 3, 5, 8] [oL 30 4 3,
 oM 31 1,
 oM 32 8,
 oO 33 (k3 173 30 31 32),
 oM 29 33,
 oE 34 29 0,
 oE 35 29 1,
 oM 10 34,
 oM 11 35])
 (.seq
 (.region [3, 5, 8, 10] [oM 36 10,
 oN 37 36])
 (.cond (.t 37)
 (.seq
 (.region [] [oO 6 (.mv (.c (.str ⟨#[65, 67]⟩))),
 oO 7 (.mv (.c (.int .i64 0)))])
 .ret)
 .skip)))
 .skip))
 (.seq
 (.seq
 (.region [3, 5, 8] [oL 39 4 3,
 oM 40 8,
 oA 41 2 5,
 ol 42 1 41,
 oO 43 (k3 174 39 40 42),
 oM 38 43,
 oE 44 38 0,
 oE 45 38 1,
 oM 12 44,
 oM 13 45])
 (.seq
 (.region [8, 12] [oM 46 12,
 oN 47 46])
 (.cond (.t 47)
 (.seq
 (.region [] [oO 6 (.mv (.c (.str ⟨#[65, 75]⟩))),
 oO 7 (.mv (.c (.int .i64 0)))])
 .ret)
 .skip)))
 (.seq
 (.region [8] [oM 48 8,
 oO 6 (.mv (.c (.str ⟨#[32, 32]⟩))),
 oM 7 48])
 .ret))))))), false, false⟩
/-- math/bits.Mul -/
def c161 : CFn := ⟨30, [.t 4, .t 5],
 (.seq
 (.region [0, 1] [oO 4 (.mv (.c (.int .u64 0))),
 oO 5 (.mv (.c (.int .u64 0)))])
 (.seq
 (.cond (.c (.bool false))
 (.seq
 (.region [0, 1] [oM 11 0,
 oO 12 (.convI .u32 (.t 11)),
 oM 13 1,
 oO 14 (.convI .u32 (.t 13)),
 oO 15 (k2 180 12 14),
 oM 10 15,
 oE 16 10 0,
 oE 17 10 1,
 oM 6 16,
 oM 7 17])
 (.seq
 (.region [6, 7] [oM 18 6,
 oO 19 (.convI .u64 (.t 18)),
 oM 20 7,
 oO 21 (.convI .u64 (.t 20)),
 oM 4 19,
 oM 5 21])
 .ret))
 .skip)
 (.seq
 (.region [0, 1] [oM 23 0,
 oM 24 1,
 oO 25 (k2 181 23 24),
 oM 22 25,
 oE 26 22 0,
 oE 27 22 1,
 oM 8 26,
 oM 9 27])
 (.seq
 (.region [8, 9] [oM 28 8,
 oM 29 9,
 oM 4 28,
 oM 5 29])
 .ret)))), false, false⟩
/-- (*progeny/call.book).when -/
def c162 : CFn := ⟨40, [.t 6],
 (.seq
 (.region [0, 1, 2] [oX 4 82 3 1,
 oO 6 (.mv (.c (.bool false)))])
 (.seq
 (.draw [0, 2, 4] [oM 10 0,
 oF 11 (.nilck (.t 10)) [0],
 oF 12 (.faddr 0 (.t 11)) [0, 1],
 oF 13 (.load true 4 (.t 12)) [0, 1, 2],
 oM 14 0,
 oF 15 (.nilck (.t 14)) [4],
 oF 16 (.faddr 4 (.t 15)) [4, 5],
 oF 17 (.load false 1 (.t 16)) [4, 5, 6],
 oM 18 2,
 oF 19 (.iaddr 2 (.t 17) (.t 18)) [4, 5, 6, 7, 8],
 oF 20 (.faddr 0 (.t 19)) [4, 5, 6, 7, 8, 9],
 oF 21 (.load false 1 (.t 20)) [4, 5, 6, 7, 8, 9, 10],
 oA 22 2 4,
 oF 23 (.load false 1 (.t 22)) [12],
 oM 24 0,
 oF 25 (.nilck (.t 24)) [14],
 oF 26 (.faddr 4 (.t 25)) [14, 15],
 oF 27 (.load false 1 (.t 26)) [14, 15, 16],
 oM 28 2,
 oF 29 (.iaddr 2 (.t 27) (.t 28)) [14, 15, 16, 17, 18],
 oF 30 (.faddr 1 (.t 29)) [14, 15, 16, 17, 18, 19],
 oF 31 (.load false 1 (.t 30)) [14, 15, 16, 17, 18, 19, 20],
 oF 32 (k4 182 13 21 23 31) (u 22),
 oF 9 (.mv (.t 32)) (u 23),
 oF 33 (.extract (.t 9) 0) (u 24),
 oF 34 (.extract (.t 9) 1) (u 24),
 oF 7 (.mv (.t 33)) (u 25),
 oF 8 (.mv (.t 34)) (u 27)])
 (.seq
 (.region [7, 8] [oM 35 8,
 oO 36 (.bin .eql (.t 35) (.c (.int .i64 0))),
 oM 37 36,
 oG 38 (.mv (.t 7)) 37 true,
 oO 39 (.pick (.t 37) (.t 38) (.c (.bool false))),
 oM 6 39])
 .ret))), false, false⟩
/-- progeny/dbd.asked$1 -/
def c163 : CFn := ⟨13, [.t 3],
 (.seq
 (.region [0, 1] [oO 3 (.mv (.c (.bool false)))])
 (.seq
 (.region [0, 1] [oM 4 0,
 oO 5 (.bin .lss (.t 4) (.c (.int .i64 0))),
 oM 6 5,
 oG 7 (.mv (.t 0)) 6 false,
 oG 8 (.faddr 2 (.t 1)) 6 false,
 oG 9 (.load false 1 (.t 8)) 6 false,
 oG 10 (.len false (.t 9)) 6 false,
 oG 11 (.bin .geq (.t 7) (.t 10)) 6 false,
 oO 12 (.pick (.t 6) (.c (.bool true)) (.t 11)),
 oM 3 12])
 .ret)), false, false⟩
def c166_l0 : CC :=
 (.seq
 (.region [0, 1, 7, 8, 9] [oB 10 .lss 9 8])
 (.seq
 (.cond (.t 10)
 .skip
 (.exit 0))
 (.seq
 (.block 1
 (.seq
 (.region [0, 1, 7, 8, 9] [oM 11 9,
 oI 12 3 7 9,
 oL 13 3 12,
 oO 6 (.box 120 3 (.c (.agg [.str ⟨#[]⟩, .int .i64 0, .int .i64 0]))),
 oM 5 11,
 oS 3 6 13])
 (.seq
 (.seq
 (.region [0, 1, 5, 6, 7, 8, 9] [oA 14 0 6,
 ol 15 1 14,
 oO 16 (k1 113 15),
 oN 17 16,
 oM 18 17,
 oG 19 (.faddr 1 (.t 6)) 18 false,
 oG 20 (.load false 1 (.t 19)) 18 false,
 oG 21 (.bin .lss (.t 20) (.c (.int .i64 0))) 18 false,
 oO 22 (.pick (.t 18) (.c (.bool true)) (.t 21)),
 oM 23 22,
 oG 24 (.faddr 1 (.t 6)) 23 false,
 oG 25 (.load false 1 (.t 24)) 23 false,
 oG 26 (.mv (.t 1)) 23 false,
 oG 27 (.bin .geq (.t 25) (.t 26)) 23 false,
 oO 28 (.pick (.t 23) (.c (.bool true)) (.t 27)),
 oM 29 28,
 oG 30 (.faddr 2 (.t 6)) 29 false,
 oG 31 (.load false 1 (.t 30)) 29 false,
 oG 32 (.bin .lss (.t 31) (.c (.int .i64 1))) 29 false,
 oO 33 (.pick (.t 29) (.c (.bool true)) (.t 32)),
 oM 34 33,
 oG 35 (.faddr 2 (.t 6)) 34 false,
 oG 36 (.load false 1 (.t 35)) 34 false,
 oG 37 (.mv (.t 1)) 34 false,
 oG 38 (.faddr 1 (.t 6)) 34 false,
 oG 39 (.load false 1 (.t 38)) 34 false,
 oG 40 (.bin .sub (.t 37) (.t 39)) 34 false,
 oG 41 (.bin .gtr (.t 36) (.t 40)) 34 false,
 oO 42 (.pick (.t 34) (.c (.bool true)) (.t 41))])
 (.cond (.t 42)
 (.seq
 (.region [] [oO 4 (.mv (.c (.bool false)))])
 .ret)
 .skip))
 (.seq
 (.region [0, 1, 5, 6, 7, 8, 9] [oM 43 0,
 oM 44 5,
 oO 45 (.slc 3 (.t 43) none (some (.t 44)) none),
 oO 46 (.mkfn 191 [(.t 6)]),
 oO 47 (k2 190 45 46)])
 (.cond (.t 47)
 (.seq
 (.region [] [oO 4 (.mv (.c (.bool false)))])
 .ret)
 .skip)))))
 (.region [0, 1, 7, 8, 9] [oO 48 (.bin .add (.t 9) (.c (.int .i64 1))),
 oM 9 48]))))
/-- progeny/dbd.areFields -/
def c166 : CFn := ⟨52, [.t 4],
 (.seq
 (.region [0, 1] [oO 4 (.mv (.c (.bool false)))])
 (.seq
 (.seq
 (.region [0, 1] [oM 7 0,
 oO 8 (.len false (.t 7)),
 oO 9 (.mv (.c (.int .i64 0)))])
 (.block 0
 (.loop c166_l0)))
 (.seq
 (.region [0] [oM 49 0,
 oO 50 (.len false (.t 49)),
 oO 51 (.bin .leq (.t 50) (.c (.int .i64 5))),
 oM 4 51])
 .ret))), false, false⟩
def c167_l0 : CC :=
 (.seq
 (.region [0, 1, 7, 8] [oB 9 .lss 8 7])
 (.seq
 (.cond (.t 9)
 .skip
 (.exit 0))
 (.seq
 (.block 1
 (.seq
 (.region [0, 1, 7, 8] [oM 10 8,
 oM 5 10])
 (.seq
 (.region [0, 1, 5, 7, 8] [oM 11 1,
 oM 12 0,
 oM 13 5,
 oI 14 8 12 13,
 oL 15 8 14,
 oO 16 (.call (.t 11) [(.t 15)] false)])
 (.cond (.t 16)
 (.seq
 (.region [5] [oM 17 5,
 oM 4 17])
 .ret)
 .skip))))
 (.region [0, 1, 7, 8] [oO 18 (.bin .add (.t 8) (.c (.int .i64 1))),
 oM 8 18]))))
/-- slices.IndexFunc[[]progeny/api.Type,progeny/api.Type] -/
def c167 : CFn := ⟨19, [.t 4],
 (.seq
 (.region [0, 1] [oO 4 (.mv (.c (.int .i64 0)))])
 (.seq
 (.seq
 (.region [0, 1] [oM 6 0,
 oO 7 (.len false (.t 6)),
 oO 8 (.mv (.c (.int .i64 0)))])
 (.block 0
 (.loop c167_l0)))
 (.seq
 (.region [] [oO 4 (.mv (.c (.int .i64 (-1))))])
 .ret))), false, false⟩
def c168_l0 : CC :=
 (.seq
 (.region [0, 1, 7, 8] [oB 9 .lss 8 7])
 (.seq
 (.cond (.t 9)
 .skip
 (.exit 0))
 (.seq
 (.block 1
 (.seq
 (.region [0, 1, 7, 8] [oM 10 8,
 oM 5 10])
 (.seq
 (.region [0, 1, 5, 7, 8] [oM 11 1,
 oM 12 0,
 oM 13 5,
 oI 14 4 12 13,
 oL 15 4 14,
 oO 16 (.call (.t 11) [(.t 15)] false)])
 (.cond (.t 16)
 (.seq
 (.region [5] [oM 17 5,
 oM 4 17])
 .ret)
 .skip))))
 (.region [0, 1, 7, 8] [oO 18 (.bin .add (.t 8) (.c (.int .i64 1))),
 oM 8 18]))))
/-- slices.IndexFunc[[]progeny/api.Search,progeny/api.Search] -/
def c168 : CFn := ⟨19, [.t 4],
 (.seq
 (.region [0, 1] [oO 4 (.mv (.c (.int .i64 0)))])
 (.seq
 (.seq
 (.region [0, 1] [oM 6 0,
 oO 7 (.len false (.t 6)),
 oO 8 (.mv (.c (.int .i64 0)))])
 (.block 0
 (.loop c168_l0)))
 (.seq
 (.region [] [oO 4 (.mv (.c (.int .i64 (-1))))])
 .ret))), false, false⟩
def c171_l0 : CC :=
 (.seq
 (.region [0, 3, 7, 8] [oB 9 .lss 8 7])
 (.seq
 (.cond (.t 9)
 .skip
 (.exit 0))
 (.seq
 (.block 1
 (.seq
 (.region [0, 3, 7, 8] [oM 10 8,
 oM 4 10])
 (.seq
 (.draw [0, 3, 4, 7, 8] [oM 11 3,
 oF 12 (.slcs (.c (.str ⟨#[68, 76, 80]⟩)) (some (.t 11)) none) [0],
 oM 13 0,
 oM 14 4,
 oF 15 (.idx (.t 13) (.t 14)) [2, 3],
 oF 16 (k2 142 12 15) (u 5),
 oF 5 (.mv (.t 16)) (u 6)])
 (.seq
 (.seq
 (.region [0, 3, 5, 7, 8] [oM 17 5,
 oO 18 (.bin .lss (.t 17) (.c (.int .i64 0)))])
 (.cond (.t 18)
 (.seq
 (.region [] [oO 2 (.mv (.c (.bool false)))])
 .ret)
 .skip))
 (.region [0, 3, 5, 7, 8] [oM 19 3,
 oM 20 5,
 oO 21 (.bin .add (.t 20) (.c (.int .i64 1))),
 oB 22 .add 19 21,
 oM 3 22])))))
 (.region [0, 3, 7, 8] [oO 23 (.bin .add (.t 8) (.c (.int .i64 1))),
 oM 8 23]))))
/-- progeny/ssa.areCodes -/
def c171 : CFn := ⟨24, [.t 2],
 (.seq
 (.region [0] [oO 2 (.mv (.c (.bool false)))])
 (.seq
 (.region [0] [oO 3 (.mv (.c (.int .i64 0)))])
 (.seq
 (.seq
 (.region [0, 3] [oM 6 0,
 oO 7 (.len true (.t 6)),
 oO 8 (.mv (.c (.int .i64 0)))])
 (.block 0
 (.loop c171_l0)))
 (.seq
 (.region [] [oO 2 (.mv (.c (.bool true)))])
 .ret)))), false, false⟩
/-- progeny/dbd.Type -/
def c172 : CFn := ⟨19, [.t 4, .t 5],
 (.seq
 (.region [0, 1] [oX 2 25 4 0,
 oX 3 9 1 1,
 oO 4 (.mv (.c (.int .i64 0))),
 oO 5 (.mv (.c (.int .i64 0)))])
 (.seq
 (.seq
 (.region [2, 3] [oL 7 4 2,
 oO 8 (.call (.c (.fn 139 [])) [(.t 7), (.c (.nils))] false),
 oM 6 8])
 (.seq
 (.region [2, 3, 6] [oM 9 6,
 oO 10 (.bin .neq (.t 9) (.c (.int .i64 0)))])
 (.cond (.t 10)
 (.seq
 (.region [6] [oM 11 6,
 oO 4 (.mv (.c (.int .i64 0))),
 oM 5 11])
 .ret)
 .skip)))
 (.seq
 (.region [2, 3] [oA 12 2 2,
 ol 13 1 12,
 oO 14 (.mkfn 193 [(.t 3)]),
 oO 15 (k2 167 13 14),
 oO 16 (k1 192 15),
 oE 17 16 0,
 oE 18 16 1,
 oM 4 17,
 oM 5 18])
 .ret))), false, false⟩
/-- progeny/dbd.IsAbove -/
def c173 : CFn := ⟨27, [.t 6, .t 7],
 (.seq
 (.region [0, 1, 2] [oX 3 25 4 0,
 oO 6 (.mv (.c (.bool false))),
 oO 7 (.mv (.c (.int .i64 0)))])
 (.seq
 (.seq
 (.region [1, 2, 3] [oL 9 4 3,
 oM 10 1,
 oM 11 2,
 oO 12 (.bslice 3 1 [[.int .i64 0], [.int .i64 0]] [(0, (.t 10)), (1, (.t 11))]),
 oO 13 (k2 139 9 12),
 oM 8 13])
 (.seq
 (.region [1, 2, 3, 8] [oM 14 8,
 oO 15 (.bin .neq (.t 14) (.c (.int .i64 0)))])
 (.cond (.t 15)
 (.seq
 (.region [8] [oM 16 8,
 oO 6 (.mv (.c (.bool false))),
 oM 7 16])
 .ret)
 .skip)))
 (.seq
 (.region [1, 2, 3] [oM 17 1,
 oM 18 2,
 oB 19 .neq 17 18,
 oM 20 19,
 oG 21 (.load true 4 (.t 3)) 20 true,
 oG 22 (.mv (.t 2)) 20 true,
 oG 23 (z2 195 21 22) 20 true,
 oG 24 (.mv (.t 1)) 20 true,
 oG 25 (k2 194 23 24) 20 true,
 oO 26 (.pick (.t 20) (.t 25) (.c (.bool false))),
 oM 6 26,
 oO 7 (.mv (.c (.int .i64 0)))])
 .ret))), false, false⟩
/-- progeny/match.Valid -/
def c174 : CFn := ⟨22, [.t 6, .t 7],
 (.seq
 (.region [0, 1, 2] [oX 3 25 4 0,
 oO 6 (.mv (.c (.bool false))),
 oO 7 (.mv (.c (.int .i64 0)))])
 (.seq
 (.seq
 (.region [1, 2, 3] [oL 9 4 3,
 oM 10 1,
 oO 11 (k2 196 9 10),
 oM 8 11])
 (.seq
 (.region [1, 2, 3, 8] [oM 12 8,
 oO 13 (.bin .neq (.t 12) (.c (.int .i64 0)))])
 (.cond (.t 13)
 (.seq
 (.region [8] [oM 14 8,
 oO 6 (.mv (.c (.bool false))),
 oM 7 14])
 .ret)
 .skip)))
 (.seq
 (.region [1, 2, 3] [oA 15 2 3,
 ol 16 1 15,
 oM 17 1,
 oI 18 8 16 17,
 oL 19 8 18,
 oM 20 2,
 oO 21 (k2 197 19 20),
 oM 6 21,
 oO 7 (.mv (.c (.int .i64 0)))])
 .ret))), false, false⟩
/-- math/bits.Mul32 -/
def c180 : CFn := ⟨17, [.t 4, .t 5],
 (.seq
 (.region [0, 1] [oO 4 (.mv (.c (.int .u32 0))),
 oO 5 (.mv (.c (.int .u32 0)))])
 (.seq
 (.region [0, 1] [oM 7 0,
 oO 8 (.convI .u64 (.t 7)),
 oM 9 1,
 oO 10 (.convI .u64 (.t 9)),
 oB 11 .mul 8 10,
 oM 6 11])
 (.seq
 (.region [6] [oM 12 6,
 oO 13 (.bin .shr (.t 12) (.c (.int .u64 32))),
 oO 14 (.convI .u32 (.t 13)),
 oM 15 6,
 oO 16 (.convI .u32 (.t 15)),
 oM 4 14,
 oM 5 16])
 .ret))), false, false⟩
/-- math/bits.Mul64 -/
def c181 : CFn := ⟨51, [.t 4, .t 5],
 (.seq
 (.region [0, 1] [oO 4 (.mv (.c (.int .u64 0))),
 oO 5 (.mv (.c (.int .u64 0)))])
 (.seq
 (.region [0, 1] [oM 14 0,
 oO 15 (.bin .and (.t 14) (.c (.int .u64 4294967295))),
 oM 6 15])
 (.seq
 (.region [0, 1, 6] [oM 16 0,
 oO 17 (.bin .shr (.t 16) (.c (.int .u64 32))),
 oM 7 17])
 (.seq
 (.region [0, 1, 6, 7] [oM 18 1,
 oO 19 (.bin .and (.t 18) (.c (.int .u64 4294967295))),
 oM 8 19])
 (.seq
 (.region [0, 1, 6, 7, 8] [oM 20 1,
 oO 21 (.bin .shr (.t 20) (.c (.int .u64 32))),
 oM 9 21])
 (.seq
 (.region [0, 1, 6, 7, 8, 9] [oM 22 6,
 oM 23 8,
 oB 24 .mul 22 23,
 oM 10 24])
 (.seq
 (.region [0, 1, 6, 7, 8, 9, 10] [oM 25 7,
 oM 26 8,
 oB 27 .mul 25 26,
 oM 28 10,
 oO 29 (.bin .shr (.t 28) (.c (.int .u64 32))),
 oB 30 .add 27 29,
 oM 11 30])
 (.seq
 (.region [0, 1, 6, 7, 9, 11] [oM 31 11,
 oO 32 (.bin .and (.t 31) (.c (.int .u64 4294967295))),
 oM 12 32])
 (.seq
 (.region [0, 1, 6, 7, 9, 11, 12] [oM 33 11,
 oO 34 (.bin .shr (.t 33) (.c (.int .u64 32))),
 oM 13 34])
 (.seq
 (.region [0, 1, 6, 7, 9, 12, 13] [oM 35 12,
 oM 36 6,
 oM 37 9,
 oB 38 .mul 36 37,
 oB 39 .add 35 38,
 oM 12 39])
 (.seq
 (.region [0, 1, 7, 9, 12, 13] [oM 40 7,
 oM 41 9,
 oB 42 .mul 40 41,
 oM 43 13,
 oB 44 .add 42 43,
 oM 45 12,
 oO 46 (.bin .shr (.t 45) (.c (.int .u64 32))),
 oB 47 .add 44 46,
 oM 4 47])
 (.seq
 (.region [0, 1, 4] [oM 48 0,
 oM 49 1,
 oB 50 .mul 48 49,
 oM 5 50])
 .ret)))))))))))), false, false⟩
/-- progeny/match.Holds -/
def c182 : CFn := ⟨50, [.t 8, .t 9],
 (.seq
 (.region [0, 1, 2, 3] [oX 4 25 4 0,
 oX 7 9 1 3,
 oO 8 (.mv (.c (.bool false))),
 oO 9 (.mv (.c (.int .i64 0)))])
 (.seq
 (.region [1, 2, 4, 7] [oL 16 4 4,
 oM 17 1,
 ol 18 1 7,
 oO 19 (k3 119 16 17 18),
 oM 15 19,
 oE 20 15 0,
 oE 21 15 1,
 oM 10 20,
 oM 11 21])
 (.seq
 (.block 0
 (.seq
 (.region [1, 2, 4, 7, 10, 11] [oM 23 11,
 oO 24 (.bin .neq (.t 23) (.c (.int .i64 0))),
 oM 22 24])
 (.cond (.t 22)
 (.seq
 (.region [11] [oM 25 11,
 oO 8 (.mv (.c (.bool false))),
 oM 9 25])
 .ret)
 (.seq
 (.region [1, 2, 4, 7, 10] [oM 27 10,
 oN 28 27,
 oM 26 28])
 (.cond (.t 26)
 (.seq
 (.region [] [oO 8 (.mv (.c (.bool false))),
 oO 9 (.mv (.c (.int .i64 2)))])
 .ret)
 .skip)))))
 (.seq
 (.region [1, 2, 4, 7] [oL 30 4 4,
 oM 31 1,
 oM 32 2,
 oO 33 (.bslice 80 1 [[.nils]] [(0, (.t 32))]),
 oO 34 (k3 199 30 31 33),
 oM 29 34,
 oE 35 29 0,
 oE 36 29 1,
 oO 12 (.box 61 8 (.c (.agg [.str ⟨#[]⟩, .int .i64 0, .int .i64 0, .int .i64 0, .nils, .int .i64 0, .bool false, .bool false]))),
 oS 8 12 35,
 oM 11 36])
 (.seq
 (.seq
 (.region [2, 7, 11, 12] [oM 37 11,
 oO 38 (.bin .neq (.t 37) (.c (.int .i64 0)))])
 (.cond (.t 38)
 (.seq
 (.region [11] [oM 39 11,
 oO 8 (.mv (.c (.bool false))),
 oM 9 39])
 .ret)
 .skip))
 (.seq
 (.region [2, 7, 12] [oO 40 (.mkfn 200 [(.t 12), (.t 7)]),
 oO 13 (.box 229 1 (.c (.nilfn))),
 oS 1 13 40])
 (.seq
 (.region [2, 13] [oO 41 (.mkfn 203 [(.t 13)]),
 oM 14 41])
 (.seq
 (.region [2, 14] [oM 42 2,
 oO 43 (.len false (.t 42)),
 oO 44 (.bin .eql (.t 43) (.c (.int .i64 0))),
 oM 45 44,
 oG 46 (.mv (.t 2)) 45 false,
 oG 47 (.mv (.t 14)) 45 false,
 oG 48 (k2 206 46 47) 45 false,
 oO 49 (.pick (.t 45) (.c (.bool true)) (.t 48)),
 oM 8 49,
 oO 9 (.mv (.c (.int .i64 0)))])
 .ret)))))))), false, false⟩
/-- slices.ContainsFunc[[]progeny/api.Field,progeny/api.Field] -/
def c190 : CFn := ⟨9, [.t 4],
 (.seq
 (.region [0, 1] [oO 4 (.mv (.c (.bool false)))])
 (.seq
 (.region [0, 1] [oM 5 0,
 oM 6 1,
 oO 7 (k2 213 5 6),
 oO 8 (.bin .geq (.t 7) (.c (.int .i64 0))),
 oM 4 8])
 .ret)), false, false⟩
/-- progeny/dbd.areFields$1 -/
def c191 : CFn := ⟨9, [.t 3],
 (.seq
 (.region [0, 1] [oX 2 120 3 0,
 oO 3 (.mv (.c (.bool false)))])
 (.seq
 (.region [1, 2] [oA 4 0 2,
 ol 5 1 4,
 oA 6 0 1,
 ol 7 1 6,
 oB 8 .eql 5 7,
 oM 3 8])
 .ret)), false, false⟩
/-- progeny/dbd.index -/
def c192 : CFn := ⟨7, [.t 2, .t 3],
 (.seq
 (.region [0] [oO 2 (.mv (.c (.int .i64 0))),
 oO 3 (.mv (.c (.int .i64 0)))])
 (.seq
 (.seq
 (.region [0] [oM 4 0,
 oO 5 (.bin .lss (.t 4) (.c (.int .i64 0)))])
 (.cond (.t 5)
 (.seq
 (.region [] [oO 2 (.mv (.c (.int .i64 0))),
 oO 3 (.mv (.c (.int .i64 5)))])
 .ret)
 .skip))
 (.seq
 (.region [0] [oM 6 0,
 oM 2 6,
 oO 3 (.mv (.c (.int .i64 0)))])
 .ret))), false, false⟩
/-- progeny/dbd.Type$1 -/
def c193 : CFn := ⟨8, [.t 3],
 (.seq
 (.region [0, 1] [oX 2 61 8 0,
 oO 3 (.mv (.c (.bool false)))])
 (.seq
 (.region [1, 2] [oA 4 0 2,
 ol 5 1 4,
 ol 6 1 1,
 oB 7 .eql 5 6,
 oM 3 7])
 .ret)), false, false⟩
/-- slices.Contains[[]int,int] -/
def c194 : CFn := ⟨9, [.t 4],
 (.seq
 (.region [0, 1] [oO 4 (.mv (.c (.bool false)))])
 (.seq
 (.region [0, 1] [oM 5 0,
 oM 6 1,
 oO 7 (k2 110 5 6),
 oO 8 (.bin .geq (.t 7) (.c (.int .i64 0))),
 oM 4 8])
 .ret)), false, false⟩
def c195_l0 : CC :=
 (.seq
 (.seq
 (.region [1, 2, 5] [oM 6 1,
 oO 7 (.bin .geq (.t 6) (.c (.int .i64 0)))])
 (.cond (.t 7)
 .skip
 (.exit 0)))
 (.seq
 (.block 1
 (.region [1, 2, 5] [oM 14 5,
 oM 15 1,
 oO 16 (.bslice 3 1 [[.int .i64 0]] [(0, (.t 15))]),
 oO 17 (.app 3 1 8 false (.t 14) (.t 16)),
 oM 5 17]))
 (.region [1, 2, 5] [oA 8 2 2,
 ol 9 1 8,
 oM 10 1,
 oI 11 8 9 10,
 oA 12 1 11,
 ol 13 1 12,
 oM 1 13])))
/-- progeny/dbd.way -/
def c195 : CFn := ⟨21, [.t 4],
 (.seq
 (.region [0, 1] [oX 2 25 4 0,
 oO 4 (.mv (.c (.nils)))])
 (.seq
 (.region [1, 2] [oO 5 (.mv (.c (.nils)))])
 (.seq
 (.block 0
 (.loop c195_l0))
 (.seq
 (.region [5] [oM 18 5,
 oO 19 (k1 138 18)])
 (.seq
 (.region [5] [oM 20 5,
 oM 4 20])
 .ret))))), false, false⟩
/-- progeny/match.asked -/
def c196 : CFn := ⟨14, [.t 4],
 (.seq
 (.region [0, 1] [oX 2 25 4 0,
 oO 4 (.mv (.c (.int .i64 0)))])
 (.seq
 (.region [1, 2] [oL 8 4 2,
 oM 9 1,
 oO 10 (k2 214 8 9),
 oM 7 10,
 oE 11 7 0,
 oE 12 7 1,
 oM 5 11,
 oM 6 12])
 (.seq
 (.region [6] [oM 13 6,
 oM 4 13])
 .ret))), false, false⟩
/-- progeny/match.valid -/
def c197 : CFn := ⟨14, [.t 4],
 (.seq
 (.region [0, 1] [oX 2 61 8 0,
 oO 4 (.mv (.c (.bool false)))])
 (.seq
 (.region [1, 2] [oM 5 1,
 oO 6 (.len false (.t 5)),
 oO 7 (.bin .leq (.t 6) (.c (.int .i64 4))),
 oM 8 7,
 oG 9 (.mv (.t 1)) 8 true,
 oG 10 (.mkfn 215 [(.t 2)]) 8 true,
 oG 11 (k2 206 9 10) 8 true,
 oG 12 (.un .not (.t 11)) 8 true,
 oO 13 (.pick (.t 8) (.t 12) (.c (.bool false))),
 oM 4 13])
 .ret)), false, false⟩
/-- progeny/match.conditions -/
def c199 : CFn := ⟨27, [.cell 6 true 8, .t 7],
 (.seq
 (.region [0, 1, 2] [oX 3 25 4 0,
 oO 6 (.box 61 8 (.c (.agg [.str ⟨#[]⟩, .int .i64 0, .int .i64 0, .int .i64 0, .nils, .int .i64 0, .bool false, .bool false]))),
 oO 7 (.mv (.c (.int .i64 0)))])
 (.seq
 (.seq
 (.region [1, 2, 3, 6] [oL 10 4 3,
 oM 11 1,
 oO 12 (k2 196 10 11),
 oM 8 12])
 (.seq
 (.region [1, 2, 3, 6, 8] [oM 13 8,
 oO 14 (.bin .neq (.t 13) (.c (.int .i64 0)))])
 (.cond (.t 14)
 (.seq
 (.region [6, 8] [oO 15 (.build [.str ⟨#[]⟩, .int .i64 0, .int .i64 0, .int .i64 0, .nils, .int .i64 0, .bool false, .bool false] []),
 oM 16 8,
 oS 8 6 15,
 oM 7 16])
 .ret)
 .skip)))
 (.seq
 (.region [1, 2, 3, 6] [oA 17 2 3,
 ol 18 1 17,
 oM 19 1,
 oI 20 8 18 19,
 oL 21 8 20,
 oO 9 (.box 61 8 (.c (.agg [.str ⟨#[]⟩, .int .i64 0, .int .i64 0, .int .i64 0, .nils, .int .i64 0, .bool false, .bool false]))),
 oS 8 9 21])
 (.seq
 (.seq
 (.region [2, 6, 9] [oM 22 2,
 oO 23 (.mkfn 220 [(.t 9)]),
 oO 24 (k2 219 22 23)])
 (.cond (.t 24)
 (.seq
 (.region [6] [oO 25 (.build [.str ⟨#[]⟩, .int .i64 0, .int .i64 0, .int .i64 0, .nils, .int .i64 0, .bool false, .bool false] []),
 oS 8 6 25,
 oO 7 (.mv (.c (.int .i64 110)))])
 .ret)
 .skip))
 (.seq
 (.region [6, 9] [oL 26 8 9,
 oS 8 6 26,
 oO 7 (.mv (.c (.int .i64 0)))])
 .ret))))), false, false⟩
/-- progeny/match.Holds$1 -/
def c200 : CFn := ⟨44, [.t 4],
 (.seq
 (.region [0, 1, 2] [oX 3 84 3 0,
 oO 4 (.mv (.c (.bool false)))])
 (.seq
 (.region [1, 2, 3] [oL 9 8 1,
 oA 10 0 3,
 ol 11 1 10,
 oO 12 (k2 201 9 11),
 oM 8 12,
 oE 13 8 0,
 oE 14 8 1,
 oM 5 13,
 oM 6 14])
 (.seq
 (.region [1, 2, 3, 5] [oA 15 4 1,
 ol 16 1 15,
 oM 17 5,
 oI 18 3 16 17,
 oL 19 3 18,
 oO 7 (.box 120 3 (.c (.agg [.str ⟨#[]⟩, .int .i64 0, .int .i64 0]))),
 oS 3 7 19])
 (.seq
 (.draw [2, 3, 7] [oA 20 1 7,
 oF 21 (.load false 1 (.t 20)) [0],
 oA 22 2 7,
 oF 23 (.load false 1 (.t 22)) [2],
 oF 24 (.bin .add (.t 21) (.t 23)) (u 4),
 ol 25 1 2,
 oF 26 (.len true (.t 25)) [5],
 oF 27 (.bin .leq (.t 24) (.t 26)) (u 7),
 oF 28 (.mv (.t 27)) (u 8),
 ⟨(some 29), .faddr 1 (.t 3), some (28, true), (u 9), []⟩,
 ⟨(some 30), .load false 1 (.t 29), some (28, true), (u 10), []⟩,
 ⟨(some 31), .load false 1 (.t 2), some (28, true), (u 9), []⟩,
 ⟨(some 32), .faddr 1 (.t 7), some (28, true), (u 9), []⟩,
 ⟨(some 33), .load false 1 (.t 32), some (28, true), (u 9 ++ [12]), []⟩,
 ⟨(some 34), .faddr 1 (.t 7), some (28, true), (u 9), []⟩,
 ⟨(some 35), .load false 1 (.t 34), some (28, true), (u 9 ++ [14]), []⟩,
 ⟨(some 36), .faddr 2 (.t 7), some (28, true), (u 9), []⟩,
 ⟨(some 37), .load false 1 (.t 36), some (28, true), (u 9 ++ [16]), []⟩,
 ⟨(some 38), .bin .add (.t 35) (.t 37), some (28, true), (u 9 ++ [14, 15, 16, 17]), []⟩,
 ⟨(some 39), .slcs (.t 31) (some (.t 33)) (some (.t 38)), some (28, true), (u 9 ++ [11, 12, 13, 14, 15, 16, 17, 18]), []⟩,
 ⟨(some 40), .faddr 2 (.t 3), some (28, true), (u 9), []⟩,
 ⟨(some 41), .load false 1 (.t 40), some (28, true), (u 9 ++ [20]), []⟩,
 ⟨(some 42), k3 202 30 39 41, some (28, true), (u 22), []⟩,
 oF 43 (.pick (.t 28) (.t 42) (.c (.bool false))) (u 23),
 oF 4 (.mv (.t 43)) (u 24)])
 .ret)))), false, false⟩
/-- progeny/match.field -/
def c201 : CFn := ⟨14, [.t 4, .t 5],
 (.seq
 (.region [0, 1] [oX 2 61 8 0,
 oX 3 9 1 1,
 oO 4 (.mv (.c (.int .i64 0))),
 oO 5 (.mv (.c (.bool false)))])
 (.seq
 (.region [2, 3] [oA 7 4 2,
 ol 8 1 7,
 oO 9 (.mkfn 221 [(.t 3)]),
 oO 10 (k2 213 8 9),
 oM 6 10])
 (.seq
 (.region [6] [oM 11 6,
 oM 12 6,
 oO 13 (.bin .geq (.t 12) (.c (.int .i64 0))),
 oM 4 11,
 oM 5 13])
 .ret))), false, false⟩
/-- progeny/match.holds -/
def c202 : CFn := ⟨34, [.t 6],
 (.seq
 (.region [0, 1, 2] [oO 6 (.mv (.c (.bool false)))])
 (.seq
 (.region [0, 1, 2] [oM 8 1,
 oM 9 2,
 oO 10 (k2 222 8 9),
 oM 7 10])
 (.seq
 (.seq
 (.region [0, 7] [oM 11 0])
 (.block 0
 (.seq
 (.region [7, 11] [oO 13 (.bin .eql (.t 11) (.c (.int .i64 1))),
 oM 12 13])
 (.cond (.t 12)
 (.seq
 (.region [7] [oM 14 7,
 oO 15 (.bin .eql (.t 14) (.c (.int .i64 0))),
 oM 6 15])
 .ret)
 (.seq
 (.region [7, 11] [oO 17 (.bin .eql (.t 11) (.c (.int .i64 2))),
 oM 16 17])
 (.cond (.t 16)
 (.seq
 (.region [7] [oM 18 7,
 oO 19 (.bin .neq (.t 18) (.c (.int .i64 0))),
 oM 6 19])
 .ret)
 (.seq
 (.region [7, 11] [oO 21 (.bin .eql (.t 11) (.c (.int .i64 3))),
 oM 20 21])
 (.cond (.t 20)
 (.seq
 (.region [7] [oM 22 7,
 oO 23 (.bin .lss (.t 22) (.c (.int .i64 0))),
 oM 6 23])
 .ret)
 (.seq
 (.region [7, 11] [oO 25 (.bin .eql (.t 11) (.c (.int .i64 4))),
 oM 24 25])
 (.cond (.t 24)
 (.seq
 (.region [7] [oM 26 7,
 oO 27 (.bin .leq (.t 26) (.c (.int .i64 0))),
 oM 6 27])
 .ret)
 (.seq
 (.region [7, 11] [oO 29 (.bin .eql (.t 11) (.c (.int .i64 5))),
 oM 28 29])
 (.cond (.t 28)
 (.seq
 (.region [7] [oM 30 7,
 oO 31 (.bin .gtr (.t 30) (.c (.int .i64 0))),
 oM 6 31])
 .ret)
 .skip))))))))))))
 (.seq
 (.region [7] [oM 32 7,
 oO 33 (.bin .geq (.t 32) (.c (.int .i64 0))),
 oM 6 33])
 .ret)))), false, false⟩
/-- progeny/match.Holds$2 -/
def c203 : CFn := ⟨8, [.t 3],
 (.seq
 (.region [0, 1] [oO 3 (.mv (.c (.bool false)))])
 (.seq
 (.region [0, 1] [oM 4 0,
 oO 5 (.mkfn 205 [(.t 1)]),
 oO 6 (k2 204 4 5),
 oN 7 6,
 oM 3 7])
 .ret)), false, false⟩
/-- slices.ContainsFunc[[]progeny/api.Term,progeny/api.Term] -/
def c204 : CFn := ⟨9, [.t 4],
 (.seq
 (.region [0, 1] [oO 4 (.mv (.c (.bool false)))])
 (.seq
 (.region [0, 1] [oM 5 0,
 oM 6 1,
 oO 7 (k2 223 5 6),
 oO 8 (.bin .geq (.t 7) (.c (.int .i64 0))),
 oM 4 8])
 .ret)), false, false⟩
/-- progeny/match.Holds$2$1 -/
def c205 : CFn := ⟨8, [.t 3],
 (.seq
 (.region [0, 1] [oX 2 84 3 0,
 oO 3 (.mv (.c (.bool false)))])
 (.seq
 (.region [1, 2] [ol 4 1 1,
 oL 5 3 2,
 oO 6 (.call (.t 4) [(.t 5)] false),
 oN 7 6,
 oM 3 7])
 .ret)), false, false⟩
/-- slices.ContainsFunc[[][]progeny/api.Term,[]progeny/api.Term] -/
def c206 : CFn := ⟨9, [.t 4],
 (.seq
 (.region [0, 1] [oO 4 (.mv (.c (.bool false)))])
 (.seq
 (.region [0, 1] [oM 5 0,
 oM 6 1,
 oO 7 (k2 224 5 6),
 oO 8 (.bin .geq (.t 7) (.c (.int .i64 0))),
 oM 4 8])
 .ret)), false, false⟩
def c213_l0 : CC :=
 (.seq
 (.region [0, 1, 7, 8] [oB 9 .lss 8 7])
 (.seq
 (.cond (.t 9)
 .skip
 (.exit 0))
 (.seq
 (.block 1
 (.seq
 (.region [0, 1, 7, 8] [oM 10 8,
 oM 5 10])
 (.seq
 (.region [0, 1, 5, 7, 8] [oM 11 1,
 oM 12 0,
 oM 13 5,
 oI 14 3 12 13,
 oL 15 3 14,
 oO 16 (.call (.t 11) [(.t 15)] false)])
 (.cond (.t 16)
 (.seq
 (.region [5] [oM 17 5,
 oM 4 17])
 .ret)
 .skip))))
 (.region [0, 1, 7, 8] [oO 18 (.bin .add (.t 8) (.c (.int .i64 1))),
 oM 8 18]))))
/-- slices.IndexFunc[[]progeny/api.Field,progeny/api.Field] -/
def c213 : CFn := ⟨19, [.t 4],
 (.seq
 (.region [0, 1] [oO 4 (.mv (.c (.int .i64 0)))])
 (.seq
 (.seq
 (.region [0, 1] [oM 6 0,
 oO 7 (.len false (.t 6)),
 oO 8 (.mv (.c (.int .i64 0)))])
 (.block 0
 (.loop c213_l0)))
 (.seq
 (.region [] [oO 4 (.mv (.c (.int .i64 (-1))))])
 .ret))), false, false⟩
/-- progeny/dbd.Depth -/
def c214 : CFn := ⟨17, [.t 4, .t 5],
 (.seq
 (.region [0, 1] [oX 2 25 4 0,
 oO 4 (.mv (.c (.int .i64 0))),
 oO 5 (.mv (.c (.int .i64 0)))])
 (.seq
 (.region [1, 2] [oL 9 4 2,
 oM 10 1,
 oO 11 (z2 230 9 10),
 oM 8 11,
 oE 12 8 0,
 oE 13 8 1,
 oM 6 12,
 oM 7 13])
 (.seq
 (.region [6, 7] [oM 14 6,
 oO 15 (.len false (.t 14)),
 oM 16 7,
 oM 4 15,
 oM 5 16])
 .ret))), false, false⟩
/-- progeny/match.valid$1 -/
def c215 : CFn := ⟨17, [.t 3],
 (.seq
 (.region [0, 1] [oO 3 (.mv (.c (.bool false)))])
 (.seq
 (.region [0, 1] [oM 4 0,
 oO 5 (.len false (.t 4)),
 oO 6 (.bin .lss (.t 5) (.c (.int .i64 1))),
 oM 7 6,
 oG 8 (.mv (.t 0)) 7 false,
 oG 9 (.len false (.t 8)) 7 false,
 oG 10 (.bin .gtr (.t 9) (.c (.int .i64 4))) 7 false,
 oO 11 (.pick (.t 7) (.c (.bool true)) (.t 10)),
 oM 12 11,
 oG 13 (.mv (.t 0)) 12 false,
 oG 14 (.mkfn 216 [(.t 1)]) 12 false,
 oG 15 (k2 204 13 14) 12 false,
 oO 16 (.pick (.t 12) (.c (.bool true)) (.t 15)),
 oM 3 16])
 .ret)), false, false⟩
/-- progeny/match.valid$1$1 -/
def c216 : CFn := ⟨8, [.t 3],
 (.seq
 (.region [0, 1] [oX 2 84 3 0,
 oO 3 (.mv (.c (.bool false)))])
 (.seq
 (.region [1, 2] [oL 4 8 1,
 oL 5 3 2,
 oO 6 (k2 217 4 5),
 oN 7 6,
 oM 3 7])
 .ret)), false, false⟩
/-- progeny/match.isTerm -/
def c217 : CFn := ⟨37, [.t 4],
 (.seq
 (.region [0, 1] [oX 2 61 8 0,
 oX 3 84 3 1,
 oO 4 (.mv (.c (.bool false)))])
 (.seq
 (.region [2, 3] [oL 8 8 2,
 oA 9 0 3,
 ol 10 1 9,
 oO 11 (k2 201 8 10),
 oM 7 11,
 oE 12 7 0,
 oE 13 7 1,
 oM 5 12,
 oM 6 13])
 (.seq
 (.draw [2, 3, 5, 6] [oM 14 6,
 oF 15 (.mv (.t 14)) [0],
 ⟨(some 16), .faddr 1 (.t 3), some (15, true), [0, 1], []⟩,
 ⟨(some 17), .load false 1 (.t 16), some (15, true), [0, 1, 2], []⟩,
 ⟨(some 18), .bin .geq (.t 17) (.c (.int .i64 1)), some (15, true), (u 4), []⟩,
 oF 19 (.pick (.t 15) (.t 18) (.c (.bool false))) (u 5),
 oF 20 (.mv (.t 19)) (u 6),
 ⟨(some 21), .faddr 1 (.t 3), some (20, true), (u 7), []⟩,
 ⟨(some 22), .load false 1 (.t 21), some (20, true), (u 8), []⟩,
 ⟨(some 23), .bin .leq (.t 22) (.c (.int .i64 6)), some (20, true), (u 9), []⟩,
 oF 24 (.pick (.t 20) (.t 23) (.c (.bool false))) (u 10),
 oF 25 (.mv (.t 24)) (u 11),
 ⟨(some 26), .faddr 2 (.t 3), some (25, true), (u 12), []⟩,
 ⟨(some 27), .load false 1 (.t 26), some (25, true), (u 13), []⟩,
 ⟨(some 28), .len true (.t 27), some (25, true), (u 14), []⟩,
 ⟨(some 29), .faddr 4 (.t 2), some (25, true), (u 12), []⟩,
 ⟨(some 30), .load false 1 (.t 29), some (25, true), (u 12 ++ [15]), []⟩,
 ⟨(some 31), .mv (.t 5), some (25, true), (u 12), []⟩,
 ⟨(some 32), .iaddr 3 (.t 30) (.t 31), some (25, true), (u 12 ++ [15, 16, 17]), []⟩,
 ⟨(some 33), .faddr 2 (.t 32), some (25, true), (u 12 ++ [15, 16, 17, 18]), []⟩,
 ⟨(some 34), .load false 1 (.t 33), some (25, true), (u 12 ++ [15, 16, 17, 18, 19]), []⟩,
 ⟨(some 35), .bin .eql (.t 28) (.t 34), some (25, true), (u 21), []⟩,
 oF 36 (.pick (.t 25) (.t 35) (.c (.bool false))) (u 22),
 oF 4 (.mv (.t 36)) (u 23)])
 .ret))), false, false⟩
/-- slices.ContainsFunc[[][][]progeny/api.Term,[][]progeny/api.Term] -/
def c219 : CFn := ⟨9, [.t 4],
 (.seq
 (.region [0, 1] [oO 4 (.mv (.c (.bool false)))])
 (.seq
 (.region [0, 1] [oM 5 0,
 oM 6 1,
 oO 7 (k2 231 5 6),
 oO 8 (.bin .geq (.t 7) (.c (.int .i64 0))),
 oM 4 8])
 .ret)), false, false⟩
/-- progeny/match.conditions$1 -/
def c220 : CFn := ⟨8, [.t 3],
 (.seq
 (.region [0, 1] [oO 3 (.mv (.c (.bool false)))])
 (.seq
 (.region [0, 1] [oL 4 8 1,
 oM 5 0,
 oO 6 (k2 197 4 5),
 oN 7 6,
 oM 3 7])
 .ret)), false, false⟩
/-- progeny/match.field$1 -/
def c221 : CFn := ⟨8, [.t 3],
 (.seq
 (.region [0, 1] [oX 2 120 3 0,
 oO 3 (.mv (.c (.bool false)))])
 (.seq
 (.region [1, 2] [oA 4 0 2,
 ol 5 1 4,
 ol 6 1 1,
 oB 7 .eql 5 6,
 oM 3 7])
 .ret)), false, false⟩
/-- strings.Compare -/
def c222 : CFn := ⟨0, [.t 0], .user pCmp, false, false⟩
def c223_l0 : CC :=
 (.seq
 (.region [0, 1, 7, 8] [oB 9 .lss 8 7])
 (.seq
 (.cond (.t 9)
 .skip
 (.exit 0))
 (.seq
 (.block 1
 (.seq
 (.region [0, 1, 7, 8] [oM 10 8,
 oM 5 10])
 (.seq
 (.region [0, 1, 5, 7, 8] [oM 11 1,
 oM 12 0,
 oM 13 5,
 oI 14 3 12 13,
 oL 15 3 14,
 oO 16 (.call (.t 11) [(.t 15)] false)])
 (.cond (.t 16)
 (.seq
 (.region [5] [oM 17 5,
 oM 4 17])
 .ret)
 .skip))))
 (.region [0, 1, 7, 8] [oO 18 (.bin .add (.t 8) (.c (.int .i64 1))),
 oM 8 18]))))
/-- slices.IndexFunc[[]progeny/api.Term,progeny/api.Term] -/
def c223 : CFn := ⟨19, [.t 4],
 (.seq
 (.region [0, 1] [oO 4 (.mv (.c (.int .i64 0)))])
 (.seq
 (.seq
 (.region [0, 1] [oM 6 0,
 oO 7 (.len false (.t 6)),
 oO 8 (.mv (.c (.int .i64 0)))])
 (.block 0
 (.loop c223_l0)))
 (.seq
 (.region [] [oO 4 (.mv (.c (.int .i64 (-1))))])
 .ret))), false, false⟩
def c224_l0 : CC :=
 (.seq
 (.region [0, 1, 7, 8] [oB 9 .lss 8 7])
 (.seq
 (.cond (.t 9)
 .skip
 (.exit 0))
 (.seq
 (.block 1
 (.seq
 (.region [0, 1, 7, 8] [oM 10 8,
 oM 5 10])
 (.seq
 (.region [0, 1, 5, 7, 8] [oM 11 1,
 oM 12 0,
 oM 13 5,
 oI 14 1 12 13,
 ol 15 1 14,
 oO 16 (.call (.t 11) [(.t 15)] false)])
 (.cond (.t 16)
 (.seq
 (.region [5] [oM 17 5,
 oM 4 17])
 .ret)
 .skip))))
 (.region [0, 1, 7, 8] [oO 18 (.bin .add (.t 8) (.c (.int .i64 1))),
 oM 8 18]))))
/-- slices.IndexFunc[[][]progeny/api.Term,[]progeny/api.Term] -/
def c224 : CFn := ⟨19, [.t 4],
 (.seq
 (.region [0, 1] [oO 4 (.mv (.c (.int .i64 0)))])
 (.seq
 (.seq
 (.region [0, 1] [oM 6 0,
 oO 7 (.len false (.t 6)),
 oO 8 (.mv (.c (.int .i64 0)))])
 (.block 0
 (.loop c224_l0)))
 (.seq
 (.region [] [oO 4 (.mv (.c (.int .i64 (-1))))])
 .ret))), false, false⟩
/-- progeny/dbd.Way -/
def c230 : CFn := ⟨17, [.t 4, .t 5],
 (.seq
 (.region [0, 1] [oX 2 25 4 0,
 oO 4 (.mv (.c (.nils))),
 oO 5 (.mv (.c (.int .i64 0)))])
 (.seq
 (.seq
 (.region [1, 2] [oL 7 4 2,
 oM 8 1,
 oO 9 (.bslice 3 1 [[.int .i64 0]] [(0, (.t 8))]),
 oO 10 (k2 139 7 9),
 oM 6 10])
 (.seq
 (.region [1, 2, 6] [oM 11 6,
 oO 12 (.bin .neq (.t 11) (.c (.int .i64 0)))])
 (.cond (.t 12)
 (.seq
 (.region [6] [oM 13 6,
 oO 4 (.mv (.c (.nils))),
 oM 5 13])
 .ret)
 .skip)))
 (.seq
 (.region [1, 2] [oL 14 4 2,
 oM 15 1,
 oO 16 (z2 195 14 15),
 oM 4 16,
 oO 5 (.mv (.c (.int .i64 0)))])
 .ret))), false, false⟩
def c231_l0 : CC :=
 (.seq
 (.region [0, 1, 7, 8] [oB 9 .lss 8 7])
 (.seq
 (.cond (.t 9)
 .skip
 (.exit 0))
 (.seq
 (.block 1
 (.seq
 (.region [0, 1, 7, 8] [oM 10 8,
 oM 5 10])
 (.seq
 (.region [0, 1, 5, 7, 8] [oM 11 1,
 oM 12 0,
 oM 13 5,
 oI 14 1 12 13,
 ol 15 1 14,
 oO 16 (.call (.t 11) [(.t 15)] false)])
 (.cond (.t 16)
 (.seq
 (.region [5] [oM 17 5,
 oM 4 17])
 .ret)
 .skip))))
 (.region [0, 1, 7, 8] [oO 18 (.bin .add (.t 8) (.c (.int .i64 1))),
 oM 8 18]))))
/-- slices.IndexFunc[[][][]progeny/api.Term,[][]progeny/api.Term] -/
def c231 : CFn := ⟨19, [.t 4],
 (.seq
 (.region [0, 1] [oO 4 (.mv (.c (.int .i64 0)))])
 (.seq
 (.seq
 (.region [0, 1] [oM 6 0,
 oO 7 (.len false (.t 6)),
 oO 8 (.mv (.c (.int .i64 0)))])
 (.block 0
 (.loop c231_l0)))
 (.seq
 (.region [] [oO 4 (.mv (.c (.int .i64 (-1))))])
 .ret))), false, false⟩

def ctab : List (Nat × CFn) := [(4, c4), (10, c10), (11, c11), (12, c12), (14, c14), (16, c16), (18, c18), (19, c19), (20, c20), (21, c21), (22, c22), (23, c23), (39, c39), (40, c40), (41, c41), (42, c42), (43, c43), (45, c45), (46, c46), (48, c48), (49, c49), (50, c50), (51, c51), (56, c56), (57, c57), (62, c62), (65, c65), (67, c67), (69, c69), (70, c70), (72, c72), (75, c75), (76, c76), (77, c77), (78, c78), (79, c79), (80, c80), (82, c82), (85, c85), (86, c86), (88, c88), (89, c89), (90, c90), (91, c91), (92, c92), (100, c100), (105, c105), (106, c106), (107, c107), (108, c108), (109, c109), (110, c110), (111, c111), (112, c112), (113, c113), (114, c114), (115, c115), (116, c116), (117, c117), (118, c118), (119, c119), (123, c123), (125, c125), (126, c126), (127, c127), (128, c128), (133, c133), (136, c136), (137, c137), (138, c138), (139, c139), (140, c140), (141, c141), (144, c144), (145, c145), (146, c146), (147, c147), (148, c148), (149, c149), (153, c153), (161, c161), (162, c162), (163, c163), (166, c166), (167, c167), (168, c168), (171, c171), (172, c172), (173, c173), (174, c174), (180, c180), (181, c181), (182, c182), (190, c190), (191, c191), (192, c192), (193, c193), (194, c194), (195, c195), (196, c196), (197, c197), (199, c199), (200, c200), (201, c201), (202, c202), (203, c203), (204, c204), (205, c205), (206, c206), (213, c213), (214, c214), (215, c215), (216, c216), (217, c217), (219, c219), (220, c220), (221, c221), (223, c223), (224, c224), (230, c230), (231, c231)]
def utab : List (Nat × CFn) := [(142, c142), (143, c143), (222, c222)]
def cprog (f : Nat) : Option CFn := ((ctab ++ utab).find? fun p => p.1 == f).map (·.2)
theorem ok_all : ctab.all (fun p => okFn Go.Proofs.Tryz.prog p.1 p.2) = true := by kernel_rfl
theorem cprog_ok {f : Nat} {c : CFn} (h : cprog f = some c) : okFn Go.Proofs.Tryz.prog f c = true ∨ (f, c) ∈ utab := by
  unfold cprog at h
  cases hf : (ctab ++ utab).find? fun p => p.1 == f with
  | none => rw [hf] at h; cases h
  | some p =>
    rw [hf] at h
    simp only [Option.map_some, Option.some.injEq] at h
    have h1 := List.mem_of_find?_eq_some hf
    have h2 := List.find?_some hf
    simp only [beq_iff_eq] at h2
    rcases List.mem_append.1 h1 with h1 | h1
    · have h3 := List.all_eq_true.1 ok_all p h1
      rw [← h, ← h2]; exact .inl h3
    · rw [← h, ← h2]; exact .inr h1
theorem at4 : cprog 4 = some c4 := rfl
theorem at10 : cprog 10 = some c10 := rfl
theorem at11 : cprog 11 = some c11 := rfl
theorem at12 : cprog 12 = some c12 := rfl
theorem at14 : cprog 14 = some c14 := rfl
theorem at16 : cprog 16 = some c16 := rfl
theorem at18 : cprog 18 = some c18 := rfl
theorem at19 : cprog 19 = some c19 := rfl
theorem at20 : cprog 20 = some c20 := rfl
theorem at21 : cprog 21 = some c21 := rfl
theorem at22 : cprog 22 = some c22 := rfl
theorem at23 : cprog 23 = some c23 := rfl
theorem at39 : cprog 39 = some c39 := rfl
theorem at40 : cprog 40 = some c40 := rfl
theorem at41 : cprog 41 = some c41 := rfl
theorem at42 : cprog 42 = some c42 := rfl
theorem at43 : cprog 43 = some c43 := rfl
theorem at45 : cprog 45 = some c45 := rfl
theorem at46 : cprog 46 = some c46 := rfl
theorem at48 : cprog 48 = some c48 := rfl
theorem at49 : cprog 49 = some c49 := rfl
theorem at50 : cprog 50 = some c50 := rfl
theorem at51 : cprog 51 = some c51 := rfl
theorem at56 : cprog 56 = some c56 := rfl
theorem at57 : cprog 57 = some c57 := rfl
theorem at62 : cprog 62 = some c62 := rfl
theorem at65 : cprog 65 = some c65 := rfl
theorem at67 : cprog 67 = some c67 := rfl
theorem at69 : cprog 69 = some c69 := rfl
theorem at70 : cprog 70 = some c70 := rfl
theorem at72 : cprog 72 = some c72 := rfl
theorem at75 : cprog 75 = some c75 := rfl
theorem at76 : cprog 76 = some c76 := rfl
theorem at77 : cprog 77 = some c77 := rfl
theorem at78 : cprog 78 = some c78 := rfl
theorem at79 : cprog 79 = some c79 := rfl
theorem at80 : cprog 80 = some c80 := rfl
theorem at82 : cprog 82 = some c82 := rfl
theorem at85 : cprog 85 = some c85 := rfl
theorem at86 : cprog 86 = some c86 := rfl
theorem at88 : cprog 88 = some c88 := rfl
theorem at89 : cprog 89 = some c89 := rfl
theorem at90 : cprog 90 = some c90 := rfl
theorem at91 : cprog 91 = some c91 := rfl
theorem at92 : cprog 92 = some c92 := rfl
theorem at100 : cprog 100 = some c100 := rfl
theorem at105 : cprog 105 = some c105 := rfl
theorem at106 : cprog 106 = some c106 := rfl
theorem at107 : cprog 107 = some c107 := rfl
theorem at108 : cprog 108 = some c108 := rfl
theorem at109 : cprog 109 = some c109 := rfl
theorem at110 : cprog 110 = some c110 := rfl
theorem at111 : cprog 111 = some c111 := rfl
theorem at112 : cprog 112 = some c112 := rfl
theorem at113 : cprog 113 = some c113 := rfl
theorem at114 : cprog 114 = some c114 := rfl
theorem at115 : cprog 115 = some c115 := rfl
theorem at116 : cprog 116 = some c116 := rfl
theorem at117 : cprog 117 = some c117 := rfl
theorem at118 : cprog 118 = some c118 := rfl
theorem at119 : cprog 119 = some c119 := rfl
theorem at123 : cprog 123 = some c123 := rfl
theorem at125 : cprog 125 = some c125 := rfl
theorem at126 : cprog 126 = some c126 := rfl
theorem at127 : cprog 127 = some c127 := rfl
theorem at128 : cprog 128 = some c128 := rfl
theorem at133 : cprog 133 = some c133 := rfl
theorem at136 : cprog 136 = some c136 := rfl
theorem at137 : cprog 137 = some c137 := rfl
theorem at138 : cprog 138 = some c138 := rfl
theorem at139 : cprog 139 = some c139 := rfl
theorem at140 : cprog 140 = some c140 := rfl
theorem at141 : cprog 141 = some c141 := rfl
theorem at142 : cprog 142 = some c142 := rfl
theorem at143 : cprog 143 = some c143 := rfl
theorem at144 : cprog 144 = some c144 := rfl
theorem at145 : cprog 145 = some c145 := rfl
theorem at146 : cprog 146 = some c146 := rfl
theorem at147 : cprog 147 = some c147 := rfl
theorem at148 : cprog 148 = some c148 := rfl
theorem at149 : cprog 149 = some c149 := rfl
theorem at153 : cprog 153 = some c153 := rfl
theorem at161 : cprog 161 = some c161 := rfl
theorem at162 : cprog 162 = some c162 := rfl
theorem at163 : cprog 163 = some c163 := rfl
theorem at166 : cprog 166 = some c166 := rfl
theorem at167 : cprog 167 = some c167 := rfl
theorem at168 : cprog 168 = some c168 := rfl
theorem at171 : cprog 171 = some c171 := rfl
theorem at172 : cprog 172 = some c172 := rfl
theorem at173 : cprog 173 = some c173 := rfl
theorem at174 : cprog 174 = some c174 := rfl
theorem at180 : cprog 180 = some c180 := rfl
theorem at181 : cprog 181 = some c181 := rfl
theorem at182 : cprog 182 = some c182 := rfl
theorem at190 : cprog 190 = some c190 := rfl
theorem at191 : cprog 191 = some c191 := rfl
theorem at192 : cprog 192 = some c192 := rfl
theorem at193 : cprog 193 = some c193 := rfl
theorem at194 : cprog 194 = some c194 := rfl
theorem at195 : cprog 195 = some c195 := rfl
theorem at196 : cprog 196 = some c196 := rfl
theorem at197 : cprog 197 = some c197 := rfl
theorem at199 : cprog 199 = some c199 := rfl
theorem at200 : cprog 200 = some c200 := rfl
theorem at201 : cprog 201 = some c201 := rfl
theorem at202 : cprog 202 = some c202 := rfl
theorem at203 : cprog 203 = some c203 := rfl
theorem at204 : cprog 204 = some c204 := rfl
theorem at205 : cprog 205 = some c205 := rfl
theorem at206 : cprog 206 = some c206 := rfl
theorem at213 : cprog 213 = some c213 := rfl
theorem at214 : cprog 214 = some c214 := rfl
theorem at215 : cprog 215 = some c215 := rfl
theorem at216 : cprog 216 = some c216 := rfl
theorem at217 : cprog 217 = some c217 := rfl
theorem at219 : cprog 219 = some c219 := rfl
theorem at220 : cprog 220 = some c220 := rfl
theorem at221 : cprog 221 = some c221 := rfl
theorem at222 : cprog 222 = some c222 := rfl
theorem at223 : cprog 223 = some c223 := rfl
theorem at224 : cprog 224 = some c224 := rfl
theorem at230 : cprog 230 = some c230 := rfl
theorem at231 : cprog 231 = some c231 := rfl
end Go.Proofs.YtbdpceigmnpoaaaGreatDoor.Code
