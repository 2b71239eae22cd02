/- The compact code of the functions, printed by a program of ours (gen.py); the kernel checks it against the program's own form. -/
import Derived.Test.YtondenmkhfignaaDoorWeR
import Derived.Test.YtondenmkhfignaaDoorProg
import Derived.KernelRfl
namespace Go.Proofs.YtondenmkhfignaaDoor.Code
open Go.Proofs.YtondenmkhfignaaDoor.Ev
abbrev u (n : Nat) : List Nat := List.range n
abbrev oO (d : Nat) (o : CO) : COp := ⟨some d, o, none, [], []⟩
abbrev oF (d : Nat) (o : CO) (bf : List Nat) : COp := ⟨some d, o, none, bf, []⟩
abbrev oG (d : Nat) (o : CO) (i : Nat) (b : Bool) : COp := ⟨some d, o, some (i, b), [], []⟩
abbrev oM (d x : Nat) : COp := ⟨some d, .mv (.t x), none, [], []⟩
abbrev ol (d z x : Nat) : COp := ⟨some d, .load false z (.t x), none, [], []⟩
abbrev oL (d z x : Nat) : COp := ⟨some d, .load true z (.t x), none, [], []⟩
abbrev oA (d o x : Nat) : COp := ⟨some d, .faddr o (.t x), none, [], []⟩
abbrev oI (d z x y : Nat) : COp := ⟨some d, .iaddr z (.t x) (.t y), none, [], []⟩
abbrev oE (d x k : Nat) : COp := ⟨some d, .extract (.t x) k, none, [], []⟩
abbrev oB (d : Nat) (p : BinOp) (x y : Nat) : COp := ⟨some d, .bin p (.t x) (.t y), none, [], []⟩
abbrev oN (d x : Nat) : COp := ⟨some d, .un .not (.t x), none, [], []⟩
abbrev oX (d y z x : Nat) : COp := ⟨some d, .box y z (.t x), none, [], []⟩
abbrev oS (z x y : Nat) : COp := ⟨none, .store z (.t x) (.t y), none, [], []⟩
abbrev oa (d : Nat) (o : CO) (bf alts : List Nat) : COp := ⟨some d, o, none, bf, alts⟩
abbrev k0 (f : Nat) : CO := .call (.c (.fn f [])) [] false
abbrev k1 (f a : Nat) : CO := .call (.c (.fn f [])) [.t a] false
abbrev k2 (f a b : Nat) : CO := .call (.c (.fn f [])) [.t a, .t b] false
abbrev k3 (f a b c : Nat) : CO := .call (.c (.fn f [])) [.t a, .t b, .t c] false
abbrev k4 (f a b c d : Nat) : CO := .call (.c (.fn f [])) [.t a, .t b, .t c, .t d] false
abbrev k5 (f a b c d e : Nat) : CO := .call (.c (.fn f [])) [.t a, .t b, .t c, .t d, .t e] false
abbrev k6 (f a b c d e g : Nat) : CO := .call (.c (.fn f [])) [.t a, .t b, .t c, .t d, .t e, .t g] false
abbrev z1 (f a : Nat) : CO := .call (.c (.fn f [])) [.t a] true
abbrev z2 (f a b : Nat) : CO := .call (.c (.fn f [])) [.t a, .t b] true
abbrev z3 (f a b c : Nat) : CO := .call (.c (.fn f [])) [.t a, .t b, .t c] true
abbrev z4 (f a b c d : Nat) : CO := .call (.c (.fn f [])) [.t a, .t b, .t c, .t d] true
abbrev z5 (f a b c d e : Nat) : CO := .call (.c (.fn f [])) [.t a, .t b, .t c, .t d, .t e] true
abbrev z6 (f a b c d e g : Nat) : CO := .call (.c (.fn f [])) [.t a, .t b, .t c, .t d, .t e, .t g] true
def c3_l0 : CC :=
 (.seq
 (.seq
 (.region [1, 2, 5, 6] [oM 45 6,
 oM 46 1,
 oO 47 (.len false (.t 46)),
 oB 48 .lss 45 47])
 (.cond (.t 48)
 .skip
 (.exit 0)))
 (.seq
 (.block 1
 (.seq
 (.draw [1, 2, 5, 6] [oL 52 4 2,
 oM 53 5,
 oM 54 1,
 oM 55 6,
 oF 56 (.iaddr 3 (.t 54) (.t 55)) [2, 3],
 oF 57 (.faddr 0 (.t 56)) [2, 3, 4],
 oF 58 (.load false 1 (.t 57)) [2, 3, 4, 5],
 oM 59 1,
 oM 60 6,
 oF 61 (.iaddr 3 (.t 59) (.t 60)) [7, 8],
 oF 62 (.faddr 1 (.t 61)) [7, 8, 9],
 oF 63 (.load false 1 (.t 62)) [7, 8, 9, 10],
 oM 64 1,
 oM 65 6,
 oF 66 (.iaddr 3 (.t 64) (.t 65)) [12, 13],
 oF 67 (.faddr 2 (.t 66)) [12, 13, 14],
 oF 68 (.load false 1 (.t 67)) [12, 13, 14, 15],
 oF 69 (z5 7 52 53 58 63 68) (u 17),
 oF 51 (.mv (.t 69)) (u 18),
 oF 70 (.extract (.t 51) 0) (u 19),
 oF 71 (.extract (.t 51) 1) (u 19),
 oF 72 (.extract (.t 51) 2) (u 19),
 oF 7 (.mv (.t 70)) (u 20),
 oF 8 (.mv (.t 71)) (u 21 ++ [22]),
 oF 9 (.mv (.t 72)) (u 24)])
 (.seq
 (.seq
 (.region [1, 2, 5, 6, 7, 9] [oM 73 9,
 oO 74 (.bin .eql (.t 73) (.c (.int .i64 0)))])
 (.cond (.t 74)
 (.region [1, 2, 6, 7] [oM 75 7,
 oM 5 75])
 .skip))
 (.seq
 (.region [1, 2, 5, 6] [oL 77 4 2,
 oM 78 5,
 oO 79 (k2 8 77 78),
 oM 76 79,
 oE 80 76 0,
 oE 81 76 1,
 oM 10 80,
 oM 11 81])
 (.seq
 (.region [1, 2, 5, 6, 10, 11] [oM 82 11,
 oO 83 (.bin .neq (.t 82) (.c (.int .i64 0))),
 oM 84 83,
 oG 85 (.mv (.t 10)) 84 false,
 oG 86 (.un .not (.t 85)) 84 false,
 oO 87 (.pick (.t 84) (.c (.bool true)) (.t 86))])
 (.cond (.t 87)
 (.seq
 (.region [] [oO 4 (.mv (.c (.bool false)))])
 .ret)
 .skip))))))
 (.region [1, 2, 5, 6] [oM 49 6,
 oO 50 (.bin .add (.t 49) (.c (.int .i64 1))),
 oM 6 50])))
def c3_l1 : CC :=
 (.seq
 (.seq
 (.region [2, 5, 12, 13, 15] [oM 118 15,
 oM 119 5,
 oO 120 (.len false (.t 119)),
 oB 121 .lss 118 120])
 (.cond (.t 121)
 .skip
 (.exit 4)))
 (.seq
 (.block 5
 (.seq
 (.region [2, 5, 12, 13, 15] [oL 125 4 2,
 oM 126 5,
 oM 127 15,
 oO 128 (k3 10 125 126 127),
 oM 124 128,
 oE 129 124 0,
 oE 130 124 1,
 oM 16 129,
 oM 17 130])
 (.seq
 (.region [2, 5, 12, 13, 15, 16, 17] [oM 131 17,
 oO 132 (.bin .neq (.t 131) (.c (.int .i64 0))),
 oM 133 132,
 oG 134 (.mv (.t 15)) 133 false,
 oG 135 (.mv (.t 12)) 133 false,
 oG 136 (.bin .leq (.t 134) (.t 135)) 133 false,
 oG 137 (.mv (.t 136)) 133 false,
 oG 138 (.mv (.t 12)) 137 true,
 oG 139 (.mv (.t 16)) 137 true,
 oG 140 (.bin .lss (.t 138) (.t 139)) 137 true,
 oG 141 (.pick (.t 137) (.t 140) (.c (.bool false))) 133 false,
 oG 142 (.mv (.t 13)) 133 false,
 oG 143 (.mv (.t 15)) 133 false,
 oG 144 (k2 11 142 143) 133 false,
 oG 145 (.eqb true (.t 141) (.t 144)) 133 false,
 oO 146 (.pick (.t 133) (.c (.bool true)) (.t 145))])
 (.cond (.t 146)
 (.seq
 (.region [] [oO 4 (.mv (.c (.bool false)))])
 .ret)
 .skip))))
 (.region [2, 5, 12, 13, 15] [oM 122 15,
 oO 123 (.bin .add (.t 122) (.c (.int .i64 1))),
 oM 15 123])))
def c3_l2 : CC :=
 (.seq
 (.seq
 (.region [2, 5, 12, 22, 23, 25] [oM 190 25,
 oM 191 23,
 oO 192 (.len false (.t 191)),
 oB 193 .lss 190 192])
 (.cond (.t 193)
 .skip
 (.exit 6)))
 (.seq
 (.block 7
 (.draw [2, 5, 12, 22, 23, 25] [oM 196 22,
 oF 197 (.mv (.t 196)) [0],
 ⟨(some 198), .faddr 2 (.t 2), some (197, true), [0, 1], []⟩,
 ⟨(some 199), .load false 1 (.t 198), some (197, true), [0, 1, 2], []⟩,
 ⟨(some 200), .mv (.t 23), some (197, true), [0, 1], []⟩,
 ⟨(some 201), .mv (.t 25), some (197, true), [0, 1], []⟩,
 ⟨(some 202), .iaddr 1 (.t 200) (.t 201), some (197, true), [0, 1, 4, 5], []⟩,
 ⟨(some 203), .load false 1 (.t 202), some (197, true), [0, 1, 4, 5, 6], []⟩,
 ⟨(some 204), .iaddr 8 (.t 199) (.t 203), some (197, true), (u 8), []⟩,
 ⟨(some 205), .faddr 6 (.t 204), some (197, true), (u 9), []⟩,
 ⟨(some 206), .load false 1 (.t 205), some (197, true), (u 10), []⟩,
 oF 207 (.pick (.t 197) (.t 206) (.c (.bool false))) (u 11),
 oF 22 (.mv (.t 207)) (u 12)]))
 (.region [2, 5, 12, 22, 23, 25] [oM 194 25,
 oO 195 (.bin .add (.t 194) (.c (.int .i64 1))),
 oM 25 195])))
def c3_l3 : CC :=
 (.seq
 (.seq
 (.region [2, 5, 12] [oM 88 12,
 oM 89 5,
 oO 90 (.len false (.t 89)),
 oB 91 .lss 88 90])
 (.cond (.t 91)
 .skip
 (.exit 2)))
 (.seq
 (.block 3
 (.seq
 (.region [2, 5, 12] [oL 95 4 2,
 oM 96 5,
 oM 97 12,
 oO 98 (z3 9 95 96 97),
 oM 94 98,
 oE 99 94 0,
 oE 100 94 1,
 oM 13 99,
 oM 14 100])
 (.seq
 (.seq
 (.region [2, 5, 12, 13, 14] [oM 101 14,
 oO 102 (.bin .neq (.t 101) (.c (.int .i64 0))),
 oM 103 102,
 oG 104 (.mv (.t 13)) 103 false,
 oG 105 (.len false (.t 104)) 103 false,
 oG 106 (.bin .eql (.t 105) (.c (.int .i64 0))) 103 false,
 oO 107 (.pick (.t 103) (.c (.bool true)) (.t 106)),
 oM 108 107,
 oG 109 (.mv (.t 13)) 108 false,
 oG 110 (.mv (.t 13)) 108 false,
 oG 111 (.len false (.t 110)) 108 false,
 oG 112 (.bin .sub (.t 111) (.c (.int .i64 1))) 108 false,
 oG 113 (.iaddr 1 (.t 109) (.t 112)) 108 false,
 oG 114 (.load false 1 (.t 113)) 108 false,
 oG 115 (.mv (.t 12)) 108 false,
 oG 116 (.bin .neq (.t 114) (.t 115)) 108 false,
 oO 117 (.pick (.t 108) (.c (.bool true)) (.t 116))])
 (.cond (.t 117)
 (.seq
 (.region [] [oO 4 (.mv (.c (.bool false)))])
 .ret)
 .skip))
 (.seq
 (.seq
 (.region [2, 5, 12, 13] [oO 15 (.mv (.c (.int .i64 0)))])
 (.block 4
 (.loop c3_l1)))
 (.seq
 (.seq
 (.region [2, 5, 12, 13] [oM 147 13,
 oO 148 (.len false (.t 147)),
 oO 149 (.bin .gtr (.t 148) (.c (.int .i64 1)))])
 (.cond (.t 149)
 (.seq
 (.region [2, 5, 12, 13] [oL 151 4 2,
 oM 152 5,
 oM 153 12,
 oO 154 (k3 10 151 152 153),
 oM 150 154,
 oE 155 150 0,
 oE 156 150 1,
 oM 18 155,
 oM 19 156])
 (.seq
 (.draw [2, 5, 12, 13, 18, 19] [oL 158 4 2,
 oM 159 5,
 oM 160 13,
 oM 161 13,
 oF 162 (.len false (.t 161)) [3],
 oF 163 (.bin .sub (.t 162) (.c (.int .i64 2))) [3, 4],
 oF 164 (.iaddr 1 (.t 160) (.t 163)) [2, 3, 4, 5],
 oF 165 (.load false 1 (.t 164)) [2, 3, 4, 5, 6],
 oF 166 (k3 10 158 159 165) (u 8),
 oF 157 (.mv (.t 166)) (u 9),
 oF 167 (.extract (.t 157) 0) (u 10),
 oF 168 (.extract (.t 157) 1) (u 10),
 oF 20 (.mv (.t 167)) (u 11),
 oF 21 (.mv (.t 168)) (u 13)])
 (.seq
 (.region [2, 5, 12, 18, 19, 20, 21] [oM 169 19,
 oO 170 (.bin .neq (.t 169) (.c (.int .i64 0))),
 oM 171 170,
 oG 172 (.mv (.t 21)) 171 false,
 oG 173 (.bin .neq (.t 172) (.c (.int .i64 0))) 171 false,
 oO 174 (.pick (.t 171) (.c (.bool true)) (.t 173)),
 oM 175 174,
 oG 176 (.mv (.t 18)) 175 false,
 oG 177 (.mv (.t 20)) 175 false,
 oG 178 (.bin .gtr (.t 176) (.t 177)) 175 false,
 oO 179 (.pick (.t 175) (.c (.bool true)) (.t 178))])
 (.cond (.t 179)
 (.seq
 (.region [] [oO 4 (.mv (.c (.bool false)))])
 .ret)
 .skip))))
 .skip))
 (.seq
 (.region [2, 5, 12] [oO 22 (.mv (.c (.bool true)))])
 (.seq
 (.draw [2, 5, 12, 22] [oL 181 4 2,
 oM 182 5,
 oM 183 12,
 oF 184 (.iaddr 2 (.t 182) (.t 183)) [1, 2],
 oF 185 (.faddr 0 (.t 184)) [1, 2, 3],
 oF 186 (.load false 1 (.t 185)) [1, 2, 3, 4],
 oF 187 (z2 12 181 186) (u 6),
 oF 180 (.mv (.t 187)) (u 7),
 oF 188 (.extract (.t 180) 0) (u 8),
 oF 189 (.extract (.t 180) 1) (u 8),
 oF 23 (.mv (.t 188)) (u 9),
 oF 24 (.mv (.t 189)) (u 11)])
 (.seq
 (.seq
 (.region [2, 5, 12, 22, 23] [oO 25 (.mv (.c (.int .i64 0)))])
 (.block 6
 (.loop c3_l2)))
 (.seq
 (.region [2, 5, 12, 22] [oL 209 4 2,
 oM 210 5,
 oM 211 12,
 oO 212 (z3 13 209 210 211),
 oM 208 212,
 oE 213 208 0,
 oE 214 208 1,
 oM 26 213,
 oM 14 214])
 (.seq
 (.draw [2, 5, 12, 14, 22, 26] [oL 216 4 2,
 oM 217 5,
 oM 218 26,
 oM 219 5,
 oM 220 12,
 oF 221 (.iaddr 2 (.t 219) (.t 220)) [3, 4],
 oF 222 (.faddr 0 (.t 221)) [3, 4, 5],
 oF 223 (.load false 1 (.t 222)) [3, 4, 5, 6],
 oF 224 (z4 14 216 217 218 223) (u 8),
 oF 215 (.mv (.t 224)) (u 9),
 oF 225 (.extract (.t 215) 0) (u 10),
 oF 226 (.extract (.t 215) 1) (u 10),
 oF 27 (.mv (.t 225)) (u 11),
 oF 28 (.mv (.t 226)) (u 13)])
 (.seq
 (.region [2, 5, 12, 14, 22, 27, 28] [oM 227 14,
 oO 228 (.bin .neq (.t 227) (.c (.int .i64 0))),
 oM 229 228,
 oG 230 (.mv (.t 28)) 229 false,
 oG 231 (.bin .neq (.t 230) (.c (.int .i64 0))) 229 false,
 oO 232 (.pick (.t 229) (.c (.bool true)) (.t 231)),
 oM 233 232,
 oG 234 (.mv (.t 27)) 233 false,
 oG 235 (.mv (.t 12)) 233 false,
 oG 236 (k2 11 234 235) 233 false,
 oG 237 (.un .not (.t 236)) 233 false,
 oO 238 (.pick (.t 233) (.c (.bool true)) (.t 237)),
 oM 239 238,
 oG 240 (.mv (.t 22)) 239 false,
 oG 241 (.mv (.t 240)) 239 false,
 oG 242 (.mv (.t 27)) 241 true,
 oG 243 (.len false (.t 242)) 241 true,
 oG 244 (.bin .neq (.t 243) (.c (.int .i64 1))) 241 true,
 oG 245 (.pick (.t 241) (.t 244) (.c (.bool false))) 239 false,
 oO 246 (.pick (.t 239) (.c (.bool true)) (.t 245))])
 (.cond (.t 246)
 (.seq
 (.region [] [oO 4 (.mv (.c (.bool false)))])
 .ret)
 .skip))))))))))))
 (.region [2, 5, 12] [oM 92 12,
 oO 93 (.bin .add (.t 92) (.c (.int .i64 1))),
 oM 12 93])))
def c3_l4 : CC :=
 (.seq
 (.seq
 (.region [2, 5] [oM 247 5,
 oO 248 (.len false (.t 247)),
 oO 249 (.bin .gtr (.t 248) (.c (.int .i64 0)))])
 (.cond (.t 249)
 .skip
 (.exit 8)))
 (.block 9
 (.seq
 (.region [2, 5] [oL 251 4 2,
 oM 252 5,
 oM 253 5,
 oO 254 (.len false (.t 253)),
 oO 255 (.bin .sub (.t 254) (.c (.int .i64 1))),
 oO 256 (z3 15 251 252 255),
 oM 250 256,
 oE 257 250 0,
 oE 258 250 1,
 oM 29 257,
 oM 30 258])
 (.seq
 (.seq
 (.region [2, 5, 29, 30] [oM 259 30,
 oO 260 (.bin .neq (.t 259) (.c (.int .i64 0))),
 oM 261 260,
 oG 262 (.mv (.t 29)) 261 false,
 oG 263 (.len false (.t 262)) 261 false,
 oG 264 (.mv (.t 5)) 261 false,
 oG 265 (.len false (.t 264)) 261 false,
 oG 266 (.bin .sub (.t 265) (.c (.int .i64 1))) 261 false,
 oG 267 (.bin .neq (.t 263) (.t 266)) 261 false,
 oO 268 (.pick (.t 261) (.c (.bool true)) (.t 267)),
 oM 269 268,
 oG 270 (.mv (.t 29)) 269 false,
 oG 271 (.mv (.t 5)) 269 false,
 oG 272 (.mv (.t 5)) 269 false,
 oG 273 (.len false (.t 272)) 269 false,
 oG 274 (.bin .sub (.t 273) (.c (.int .i64 1))) 269 false,
 oG 275 (.slc 2 (.t 271) none (some (.t 274)) none) 269 false,
 oG 276 (k2 16 270 275) 269 false,
 oG 277 (.un .not (.t 276)) 269 false,
 oO 278 (.pick (.t 269) (.c (.bool true)) (.t 277))])
 (.cond (.t 278)
 (.seq
 (.region [] [oO 4 (.mv (.c (.bool false)))])
 .ret)
 .skip))
 (.region [2, 29] [oM 279 29,
 oM 5 279])))))
/-- progeny/progenytop.TopForest -/
def c3 : CFn := ⟨281, [.t 4],
 (.seq
 (.region [0, 1] [oX 2 25 4 0,
 oO 4 (.mv (.c (.bool false)))])
 (.seq
 (.seq
 (.region [1, 2] [oL 31 4 2,
 oO 32 (.call (.c (.fn 4 [])) [(.t 31), (.c (.nils))] false),
 oN 33 32,
 oM 34 33,
 oG 35 (.load true 4 (.t 2)) 34 false,
 oG 36 (k1 5 35) 34 false,
 oG 37 (.un .not (.t 36)) 34 false,
 oO 38 (.pick (.t 34) (.c (.bool true)) (.t 37)),
 oM 39 38,
 oG 40 (.mv (.t 1)) 39 false,
 oG 41 (.len false (.t 40)) 39 false,
 oG 42 (.bin .gtr (.t 41) (.c (.int .i64 20))) 39 false,
 oO 43 (.pick (.t 39) (.c (.bool true)) (.t 42))])
 (.cond (.t 43)
 (.seq
 (.region [] [oO 44 (k0 6),
 oM 4 44])
 .ret)
 .skip))
 (.seq
 (.region [1, 2] [oO 5 (.mv (.c (.nils)))])
 (.seq
 (.seq
 (.region [1, 2, 5] [oO 6 (.mv (.c (.int .i64 0)))])
 (.block 0
 (.loop c3_l0)))
 (.seq
 (.seq
 (.region [2, 5] [oO 12 (.mv (.c (.int .i64 0)))])
 (.block 2
 (.loop c3_l3)))
 (.seq
 (.block 8
 (.loop c3_l4))
 (.seq
 (.region [] [oO 280 (k0 6),
 oM 4 280])
 .ret))))))), false, false⟩
def c4_l0 : CC :=
 (.seq
 (.seq
 (.region [1, 2, 5] [oM 7 5,
 oA 8 2 2,
 ol 9 1 8,
 oO 10 (.len false (.t 9)),
 oB 11 .lss 7 10])
 (.cond (.t 11)
 .skip
 (.exit 0)))
 (.seq
 (.block 1
 (.seq
 (.region [1, 2, 5] [oA 14 2 2,
 ol 15 1 14,
 oM 16 5,
 oI 17 8 15 16,
 oA 18 4 17,
 ol 19 1 18,
 oO 20 (.len false (.t 19)),
 oO 21 (.bin .gtr (.t 20) (.c (.int .i64 10)))])
 (.cond (.t 21)
 (.seq
 (.region [] [oO 4 (.mv (.c (.bool false)))])
 .ret)
 .skip)))
 (.region [1, 2, 5] [oM 12 5,
 oO 13 (.bin .add (.t 12) (.c (.int .i64 1))),
 oM 5 13])))
def c4_l1 : CC :=
 (.seq
 (.seq
 (.region [1, 2, 6] [oM 22 6,
 oM 23 1,
 oO 24 (.len false (.t 23)),
 oB 25 .lss 22 24])
 (.cond (.t 25)
 .skip
 (.exit 2)))
 (.seq
 (.block 3
 (.seq
 (.region [1, 2, 6] [oM 28 1,
 oM 29 6,
 oI 30 2 28 29,
 oA 31 1 30,
 ol 32 1 31,
 oO 33 (.len true (.t 32)),
 oO 34 (.bin .gtr (.t 33) (.c (.int .i64 100)))])
 (.cond (.t 34)
 (.seq
 (.region [] [oO 4 (.mv (.c (.bool false)))])
 .ret)
 .skip)))
 (.region [1, 2, 6] [oM 26 6,
 oO 27 (.bin .add (.t 26) (.c (.int .i64 1))),
 oM 6 27])))
/-- progeny/progenylaw13.Small -/
def c4 : CFn := ⟨50, [.t 4],
 (.seq
 (.region [0, 1] [oX 2 25 4 0,
 oO 4 (.mv (.c (.bool false)))])
 (.seq
 (.seq
 (.region [1, 2] [oO 5 (.mv (.c (.int .i64 0)))])
 (.block 0
 (.loop c4_l0)))
 (.seq
 (.seq
 (.region [1, 2] [oO 6 (.mv (.c (.int .i64 0)))])
 (.block 2
 (.loop c4_l1)))
 (.seq
 (.region [1, 2] [oA 35 2 2,
 ol 36 1 35,
 oO 37 (.len false (.t 36)),
 oO 38 (.bin .leq (.t 37) (.c (.int .i64 12))),
 oM 39 38,
 oG 40 (.faddr 3 (.t 2)) 39 true,
 oG 41 (.load false 1 (.t 40)) 39 true,
 oG 42 (.len false (.t 41)) 39 true,
 oG 43 (.bin .leq (.t 42) (.c (.int .i64 6))) 39 true,
 oO 44 (.pick (.t 39) (.t 43) (.c (.bool false))),
 oM 45 44,
 oG 46 (.mv (.t 1)) 45 true,
 oG 47 (.len false (.t 46)) 45 true,
 oG 48 (.bin .leq (.t 47) (.c (.int .i64 60))) 45 true,
 oO 49 (.pick (.t 45) (.t 48) (.c (.bool false))),
 oM 4 49])
 .ret)))), false, false⟩
def c5_l0 : CC :=
 (.seq
 (.seq
 (.region [1, 3, 4, 5] [oM 79 5,
 oM 80 3,
 oB 81 .lss 79 80])
 (.cond (.t 81)
 .skip
 (.exit 2)))
 (.seq
 (.block 3
 (.seq
 (.draw [1, 3, 4, 5] [oA 84 2 1,
 oF 85 (.load false 1 (.t 84)) [0],
 oM 86 5,
 oF 87 (.iaddr 8 (.t 85) (.t 86)) [0, 1, 2],
 oF 88 (.faddr 0 (.t 87)) (u 4),
 oF 89 (.load false 1 (.t 88)) (u 5),
 oA 90 0 4,
 oF 91 (.load false 1 (.t 90)) [6],
 oF 92 (.bin .eql (.t 89) (.t 91)) (u 8)])
 (.cond (.t 92)
 (.seq
 (.region [] [oO 2 (.mv (.c (.bool false)))])
 .ret)
 .skip)))
 (.region [1, 3, 4, 5] [oM 82 5,
 oO 83 (.bin .add (.t 82) (.c (.int .i64 1))),
 oM 5 83])))
def c5_l1 : CC :=
 (.seq
 (.seq
 (.region [1, 3] [oM 41 3,
 oA 42 2 1,
 ol 43 1 42,
 oO 44 (.len false (.t 43)),
 oB 45 .lss 41 44])
 (.cond (.t 45)
 .skip
 (.exit 0)))
 (.seq
 (.block 1
 (.seq
 (.region [1, 3] [oA 48 2 1,
 ol 49 1 48,
 oM 50 3,
 oI 51 8 49 50,
 oL 52 8 51,
 oO 4 (.box 49 8 (.c (.agg [.str ⟨#[]⟩, .int .i64 0, .int .i64 0, .int .i64 0, .nils, .int .i64 0, .bool false, .bool false]))),
 oS 8 4 52])
 (.seq
 (.seq
 (.region [1, 3, 4] [oA 53 0 4,
 ol 54 1 53,
 oO 55 (k1 17 54),
 oN 56 55,
 oM 57 56,
 oG 58 (.faddr 2 (.t 4)) 57 false,
 oG 59 (.load false 1 (.t 58)) 57 false,
 oG 60 (.bin .lss (.t 59) (.c (.int .i64 1))) 57 false,
 oO 61 (.pick (.t 57) (.c (.bool true)) (.t 60)),
 oM 62 61,
 oG 63 (.faddr 2 (.t 4)) 62 false,
 oG 64 (.load false 1 (.t 63)) 62 false,
 oG 65 (.faddr 3 (.t 4)) 62 false,
 oG 66 (.load false 1 (.t 65)) 62 false,
 oG 67 (.bin .gtr (.t 64) (.t 66)) 62 false,
 oO 68 (.pick (.t 62) (.c (.bool true)) (.t 67)),
 oM 69 68,
 oG 70 (.faddr 3 (.t 4)) 69 false,
 oG 71 (.load false 1 (.t 70)) 69 false,
 oG 72 (.bin .gtr (.t 71) (.c (.int .i64 40))) 69 false,
 oO 73 (.pick (.t 69) (.c (.bool true)) (.t 72)),
 oM 74 73,
 oG 75 (.load true 8 (.t 4)) 74 false,
 oG 76 (k1 18 75) 74 false,
 oG 77 (.un .not (.t 76)) 74 false,
 oO 78 (.pick (.t 74) (.c (.bool true)) (.t 77))])
 (.cond (.t 78)
 (.seq
 (.region [] [oO 2 (.mv (.c (.bool false)))])
 .ret)
 .skip))
 (.seq
 (.seq
 (.region [1, 3, 4] [oO 5 (.mv (.c (.int .i64 0)))])
 (.block 2
 (.loop c5_l0)))
 (.seq
 (.seq
 (.region [1, 3, 4] [oM 93 3,
 oO 94 (.bin .eql (.t 93) (.c (.int .i64 0)))])
 (.cond (.t 94)
 (.seq
 (.seq
 (.region [1, 3, 4] [oA 95 1 4,
 ol 96 1 95,
 oO 97 (.bin .neq (.t 96) (.c (.int .i64 (-1)))),
 oM 98 97,
 oG 99 (.faddr 5 (.t 4)) 98 false,
 oG 100 (.load false 1 (.t 99)) 98 false,
 oG 101 (.bin .lss (.t 100) (.c (.int .i64 0))) 98 false,
 oO 102 (.pick (.t 98) (.c (.bool true)) (.t 101)),
 oM 103 102,
 oG 104 (.faddr 6 (.t 4)) 103 false,
 oG 105 (.load false 1 (.t 104)) 103 false,
 oG 106 (.un .not (.t 105)) 103 false,
 oO 107 (.pick (.t 103) (.c (.bool true)) (.t 106)),
 oM 108 107,
 oG 109 (.faddr 4 (.t 4)) 108 false,
 oG 110 (.load false 1 (.t 109)) 108 false,
 oG 111 (.faddr 5 (.t 4)) 108 false,
 oG 112 (.load false 1 (.t 111)) 108 false,
 oG 113 (.iaddr 3 (.t 110) (.t 112)) 108 false,
 oG 114 (.faddr 2 (.t 113)) 108 false,
 oG 115 (.load false 1 (.t 114)) 108 false,
 oG 116 (.bin .gtr (.t 115) (.c (.int .i64 24))) 108 false,
 oO 117 (.pick (.t 108) (.c (.bool true)) (.t 116))])
 (.cond (.t 117)
 (.seq
 (.region [] [oO 2 (.mv (.c (.bool false)))])
 .ret)
 .skip))
 (.exit 1))
 .skip))
 (.seq
 (.region [1, 3, 4] [oA 118 1 4,
 ol 119 1 118,
 oO 120 (.bin .lss (.t 119) (.c (.int .i64 0))),
 oM 121 120,
 oG 122 (.faddr 1 (.t 4)) 121 false,
 oG 123 (.load false 1 (.t 122)) 121 false,
 oG 124 (.mv (.t 3)) 121 false,
 oG 125 (.bin .geq (.t 123) (.t 124)) 121 false,
 oO 126 (.pick (.t 121) (.c (.bool true)) (.t 125)),
 oM 127 126,
 oG 128 (.faddr 1 (.t 4)) 127 false,
 oG 129 (.load false 1 (.t 128)) 127 false,
 oG 130 (.mv (.t 3)) 127 false,
 oG 131 (.bin .sub (.t 130) (.c (.int .i64 1))) 127 false,
 oG 132 (.bin .neq (.t 129) (.t 131)) 127 false,
 oG 133 (.mv (.t 132)) 127 false,
 oG 134 (.load true 4 (.t 1)) 133 true,
 oG 135 (.faddr 1 (.t 4)) 133 true,
 oG 136 (.load false 1 (.t 135)) 133 true,
 oG 137 (.mv (.t 3)) 133 true,
 oG 138 (.bin .sub (.t 137) (.c (.int .i64 1))) 133 true,
 oG 139 (k3 19 134 136 138) 133 true,
 oG 140 (.un .not (.t 139)) 133 true,
 oG 141 (.pick (.t 133) (.t 140) (.c (.bool false))) 127 false,
 oO 142 (.pick (.t 127) (.c (.bool true)) (.t 141)),
 oM 143 142,
 oG 144 (.load true 4 (.t 1)) 143 false,
 oG 145 (.mv (.t 3)) 143 false,
 oG 146 (z2 20 144 145) 143 false,
 oG 147 (.len false (.t 146)) 143 false,
 oG 148 (.bin .gtr (.t 147) (.c (.int .i64 5))) 143 false,
 oO 149 (.pick (.t 143) (.c (.bool true)) (.t 148))])
 (.cond (.t 149)
 (.seq
 (.region [] [oO 2 (.mv (.c (.bool false)))])
 .ret)
 .skip)))))))
 (.region [1, 3] [oM 46 3,
 oO 47 (.bin .add (.t 46) (.c (.int .i64 1))),
 oM 3 47])))
def c5_l2 : CC :=
 (.seq
 (.seq
 (.region [1, 6, 7, 8] [oM 218 8,
 oM 219 6,
 oB 220 .lss 218 219])
 (.cond (.t 220)
 .skip
 (.exit 6)))
 (.seq
 (.block 7
 (.seq
 (.draw [1, 6, 7, 8] [oA 223 3 1,
 oF 224 (.load false 1 (.t 223)) [0],
 oM 225 8,
 oF 226 (.iaddr 4 (.t 224) (.t 225)) [0, 1, 2],
 oF 227 (.faddr 0 (.t 226)) (u 4),
 oF 228 (.load false 1 (.t 227)) (u 5),
 oA 229 0 7,
 oF 230 (.load false 1 (.t 229)) [6],
 oF 231 (.bin .eql (.t 228) (.t 230)) (u 8)])
 (.cond (.t 231)
 (.seq
 (.region [] [oO 2 (.mv (.c (.bool false)))])
 .ret)
 .skip)))
 (.region [1, 6, 7, 8] [oM 221 8,
 oO 222 (.bin .add (.t 221) (.c (.int .i64 1))),
 oM 8 222])))
def c5_l3 : CC :=
 (.seq
 (.seq
 (.region [1, 6] [oM 150 6,
 oA 151 3 1,
 ol 152 1 151,
 oO 153 (.len false (.t 152)),
 oB 154 .lss 150 153])
 (.cond (.t 154)
 .skip
 (.exit 4)))
 (.seq
 (.block 5
 (.seq
 (.region [1, 6] [oA 157 3 1,
 ol 158 1 157,
 oM 159 6,
 oI 160 4 158 159,
 oL 161 4 160,
 oO 7 (.box 65 4 (.c (.agg [.str ⟨#[]⟩, .int .i64 0, .int .i64 0, .str ⟨#[]⟩]))),
 oS 4 7 161])
 (.seq
 (.seq
 (.draw [1, 6, 7] [oA 162 0 7,
 oF 163 (.load false 1 (.t 162)) [0],
 oF 164 (k1 17 163) [0, 1],
 oF 165 (.un .not (.t 164)) [0, 1, 2],
 oF 166 (.mv (.t 165)) (u 4),
 ⟨(some 167), .faddr 1 (.t 7), some (166, false), (u 5), []⟩,
 ⟨(some 168), .load false 1 (.t 167), some (166, false), (u 6), []⟩,
 ⟨(some 169), .bin .lss (.t 168) (.c (.int .i64 0)), some (166, false), (u 7), []⟩,
 oF 170 (.pick (.t 166) (.c (.bool true)) (.t 169)) (u 8),
 oF 171 (.mv (.t 170)) (u 9),
 ⟨(some 172), .faddr 1 (.t 7), some (171, false), (u 10), []⟩,
 ⟨(some 173), .load false 1 (.t 172), some (171, false), (u 11), []⟩,
 ⟨(some 174), .faddr 2 (.t 1), some (171, false), (u 10), []⟩,
 ⟨(some 175), .load false 1 (.t 174), some (171, false), (u 10 ++ [12]), []⟩,
 ⟨(some 176), .len false (.t 175), some (171, false), (u 10 ++ [12, 13]), []⟩,
 ⟨(some 177), .bin .geq (.t 173) (.t 176), some (171, false), (u 15), []⟩,
 oF 178 (.pick (.t 171) (.c (.bool true)) (.t 177)) (u 16),
 oF 179 (.mv (.t 178)) (u 17),
 ⟨(some 180), .faddr 2 (.t 7), some (179, false), (u 18), []⟩,
 ⟨(some 181), .load false 1 (.t 180), some (179, false), (u 19), []⟩,
 ⟨(some 182), .bin .lss (.t 181) (.c (.int .i64 0)), some (179, false), (u 20), []⟩,
 oF 183 (.pick (.t 179) (.c (.bool true)) (.t 182)) (u 21),
 oF 184 (.mv (.t 183)) (u 22),
 ⟨(some 185), .faddr 2 (.t 7), some (184, false), (u 23), []⟩,
 ⟨(some 186), .load false 1 (.t 185), some (184, false), (u 24), []⟩,
 ⟨(some 187), .faddr 2 (.t 1), some (184, false), (u 23), []⟩,
 ⟨(some 188), .load false 1 (.t 187), some (184, false), (u 23 ++ [25]), []⟩,
 ⟨(some 189), .faddr 1 (.t 7), some (184, false), (u 23), []⟩,
 ⟨(some 190), .load false 1 (.t 189), some (184, false), (u 23 ++ [27]), []⟩,
 ⟨(some 191), .iaddr 8 (.t 188) (.t 190), some (184, false), (u 23 ++ [25, 26, 27, 28]), []⟩,
 ⟨(some 192), .faddr 4 (.t 191), some (184, false), (u 23 ++ [25, 26, 27, 28, 29]), []⟩,
 ⟨(some 193), .load false 1 (.t 192), some (184, false), (u 23 ++ [25, 26, 27, 28, 29, 30]), []⟩,
 ⟨(some 194), .len false (.t 193), some (184, false), (u 23 ++ [25, 26, 27, 28, 29, 30, 31]), []⟩,
 ⟨(some 195), .bin .geq (.t 186) (.t 194), some (184, false), (u 33), []⟩,
 oF 196 (.pick (.t 184) (.c (.bool true)) (.t 195)) (u 34),
 oF 197 (.mv (.t 196)) (u 35),
 ⟨(some 198), .faddr 2 (.t 1), some (197, false), (u 36), []⟩,
 ⟨(some 199), .load false 1 (.t 198), some (197, false), (u 37), []⟩,
 ⟨(some 200), .faddr 1 (.t 7), some (197, false), (u 36), []⟩,
 ⟨(some 201), .load false 1 (.t 200), some (197, false), (u 36 ++ [38]), []⟩,
 ⟨(some 202), .iaddr 8 (.t 199) (.t 201), some (197, false), (u 40), []⟩,
 ⟨(some 203), .faddr 4 (.t 202), some (197, false), (u 41), []⟩,
 ⟨(some 204), .load false 1 (.t 203), some (197, false), (u 42), []⟩,
 ⟨(some 205), .faddr 2 (.t 7), some (197, false), (u 36), []⟩,
 ⟨(some 206), .load false 1 (.t 205), some (197, false), (u 36 ++ [43]), []⟩,
 ⟨(some 207), .iaddr 3 (.t 204) (.t 206), some (197, false), (u 45), []⟩,
 ⟨(some 208), .faddr 2 (.t 207), some (197, false), (u 46), []⟩,
 ⟨(some 209), .load false 1 (.t 208), some (197, false), (u 47), []⟩,
 ⟨(some 210), .bin .gtr (.t 209) (.c (.int .i64 20)), some (197, false), (u 48), []⟩,
 oF 211 (.pick (.t 197) (.c (.bool true)) (.t 210)) (u 49),
 oF 212 (.mv (.t 211)) (u 50),
 ⟨(some 213), .faddr 3 (.t 7), some (212, false), (u 51), []⟩,
 ⟨(some 214), .load false 1 (.t 213), some (212, false), (u 52), []⟩,
 ⟨(some 215), .len true (.t 214), some (212, false), (u 53), []⟩,
 ⟨(some 216), .bin .gtr (.t 215) (.c (.int .i64 1)), some (212, false), (u 54), []⟩,
 oF 217 (.pick (.t 212) (.c (.bool true)) (.t 216)) (u 55)])
 (.cond (.t 217)
 (.seq
 (.region [] [oO 2 (.mv (.c (.bool false)))])
 .ret)
 .skip))
 (.seq
 (.region [1, 6, 7] [oO 8 (.mv (.c (.int .i64 0)))])
 (.block 6
 (.loop c5_l2))))))
 (.region [1, 6] [oM 155 6,
 oO 156 (.bin .add (.t 155) (.c (.int .i64 1))),
 oM 6 156])))
/-- progeny/progenyref11.Valid -/
def c5 : CFn := ⟨232, [.t 2],
 (.seq
 (.region [0] [oX 1 25 4 0,
 oO 2 (.mv (.c (.bool false)))])
 (.seq
 (.seq
 (.region [1] [oA 9 0 1,
 ol 10 1 9,
 oO 11 (k1 17 10),
 oN 12 11,
 oM 13 12,
 oG 14 (.faddr 1 (.t 1)) 13 false,
 oG 15 (.load false 1 (.t 14)) 13 false,
 oG 16 (.bin .lss (.t 15) (.c (.int .i64 1))) 13 false,
 oO 17 (.pick (.t 13) (.c (.bool true)) (.t 16)),
 oM 18 17,
 oG 19 (.faddr 1 (.t 1)) 18 false,
 oG 20 (.load false 1 (.t 19)) 18 false,
 oG 21 (.bin .gtr (.t 20) (.c (.int .i64 4))) 18 false,
 oO 22 (.pick (.t 18) (.c (.bool true)) (.t 21)),
 oM 23 22,
 oG 24 (.faddr 2 (.t 1)) 23 false,
 oG 25 (.load false 1 (.t 24)) 23 false,
 oG 26 (.len false (.t 25)) 23 false,
 oG 27 (.bin .lss (.t 26) (.c (.int .i64 1))) 23 false,
 oO 28 (.pick (.t 23) (.c (.bool true)) (.t 27)),
 oM 29 28,
 oG 30 (.faddr 2 (.t 1)) 29 false,
 oG 31 (.load false 1 (.t 30)) 29 false,
 oG 32 (.len false (.t 31)) 29 false,
 oG 33 (.bin .gtr (.t 32) (.c (.int .i64 8))) 29 false,
 oO 34 (.pick (.t 29) (.c (.bool true)) (.t 33)),
 oM 35 34,
 oG 36 (.faddr 3 (.t 1)) 35 false,
 oG 37 (.load false 1 (.t 36)) 35 false,
 oG 38 (.len false (.t 37)) 35 false,
 oG 39 (.bin .gtr (.t 38) (.c (.int .i64 3))) 35 false,
 oO 40 (.pick (.t 35) (.c (.bool true)) (.t 39))])
 (.cond (.t 40)
 (.seq
 (.region [] [oO 2 (.mv (.c (.bool false)))])
 .ret)
 .skip))
 (.seq
 (.seq
 (.region [1] [oO 3 (.mv (.c (.int .i64 0)))])
 (.block 0
 (.loop c5_l1)))
 (.seq
 (.seq
 (.region [1] [oO 6 (.mv (.c (.int .i64 0)))])
 (.block 4
 (.loop c5_l3)))
 (.seq
 (.region [] [oO 2 (.mv (.c (.bool true)))])
 .ret))))), false, false⟩
/-- progeny/progenylaw13.First -/
def c6 : CFn := ⟨51, [.t 0],
 (.seq
 (.region [] [oO 0 (.mv (.c (.bool false)))])
 (.seq
 (.region [] [oO 9 (k0 21),
 oO 10 (k0 22),
 oO 1 (.box 25 4 (.c (.agg [.str ⟨#[]⟩, .int .i64 0, .nils, .nils]))),
 oS 4 1 9,
 oM 2 10])
 (.seq
 (.region [1, 2] [oL 12 4 1,
 oM 13 2,
 oO 14 (.call (.c (.fn 23 [])) [(.t 12), (.t 13), (.c (.int .i64 4))] false),
 oM 11 14,
 oE 15 11 0,
 oE 16 11 1,
 oM 3 15,
 oM 4 16])
 (.seq
 (.region [1, 2, 3, 4] [oL 18 4 1,
 oM 19 2,
 oO 20 (.call (.c (.fn 10 [])) [(.t 18), (.t 19), (.c (.int .i64 1))] false),
 oM 17 20,
 oE 21 17 0,
 oE 22 17 1,
 oM 5 21,
 oM 6 22])
 (.seq
 (.region [1, 2, 3, 4, 5, 6] [oL 24 4 1,
 oM 25 2,
 oO 26 (.call (.c (.fn 24 [])) [(.t 24), (.t 25), (.c (.int .i64 0)), (.c (.int .i64 1)), (.c (.str ⟨#[54]⟩))] false),
 oM 23 26,
 oE 27 23 0,
 oE 28 23 1,
 oM 7 27,
 oM 8 28])
 (.seq
 (.region [3, 4, 5, 6, 7, 8] [oM 29 4,
 oO 30 (.bin .eql (.t 29) (.c (.int .i64 0))),
 oM 31 30,
 oG 32 (.mv (.t 6)) 31 true,
 oG 33 (.bin .eql (.t 32) (.c (.int .i64 0))) 31 true,
 oO 34 (.pick (.t 31) (.t 33) (.c (.bool false))),
 oM 35 34,
 oG 36 (.mv (.t 8)) 35 true,
 oG 37 (.bin .eql (.t 36) (.c (.int .i64 0))) 35 true,
 oO 38 (.pick (.t 35) (.t 37) (.c (.bool false))),
 oM 39 38,
 oG 40 (.mv (.t 3)) 39 true,
 oG 41 (.bin .eql (.t 40) (.c (.int .i64 0))) 39 true,
 oO 42 (.pick (.t 39) (.t 41) (.c (.bool false))),
 oM 43 42,
 oG 44 (.mv (.t 5)) 43 true,
 oG 45 (.bin .eql (.t 44) (.c (.int .i64 3))) 43 true,
 oO 46 (.pick (.t 43) (.t 45) (.c (.bool false))),
 oM 47 46,
 oG 48 (.mv (.t 7)) 47 true,
 oG 49 (.bin .eql (.t 48) (.c (.int .i64 3))) 47 true,
 oO 50 (.pick (.t 47) (.t 49) (.c (.bool false))),
 oM 0 50])
 .ret)))))), false, true⟩
/-- progeny/plain.Insert -/
def c7 : CFn := ⟨41, [.t 10, .t 11, .t 12],
 (.seq
 (.region [0, 1, 2, 3, 4] [oX 5 25 4 0,
 oO 10 (.mv (.c (.nils))),
 oO 11 (.mv (.c (.int .i64 0))),
 oO 12 (.mv (.c (.int .i64 0)))])
 (.seq
 (.region [1, 2, 3, 4, 5] [oL 16 4 5,
 oM 17 1,
 oM 18 2,
 oM 19 3,
 oM 20 4,
 oO 21 (k5 25 16 17 18 19 20),
 oM 15 21,
 oE 22 15 0,
 oE 23 15 1,
 oM 13 22,
 oM 14 23])
 (.seq
 (.block 0
 (.seq
 (.region [1, 3, 4, 13, 14] [oM 25 14,
 oO 26 (.bin .neq (.t 25) (.c (.int .i64 0))),
 oM 24 26])
 (.cond (.t 24)
 (.seq
 (.region [14] [oM 27 14,
 oO 10 (.mv (.c (.nils))),
 oO 11 (.mv (.c (.int .i64 0))),
 oM 12 27])
 .ret)
 (.seq
 (.region [1, 3, 4, 13] [oM 29 1,
 oO 30 (.len false (.t 29)),
 oO 31 (.bin .geq (.t 30) (.c (.int .i64 200))),
 oM 28 31])
 (.cond (.t 28)
 (.seq
 (.region [] [oO 10 (.mv (.c (.nils))),
 oO 11 (.mv (.c (.int .i64 0))),
 oO 12 (.mv (.c (.int .i64 4)))])
 .ret)
 .skip)))))
 (.seq
 (.region [1, 3, 4, 13] [oM 32 1,
 oO 33 (k1 27 32),
 oM 34 13,
 oM 35 3,
 oM 36 4,
 oO 37 (.build [.int .i64 0, .str ⟨#[]⟩] [(0, 1, (.t 35)), (1, 1, (.t 36))]),
 oO 38 (.bslice 46 2 [[.int .i64 0, .str ⟨#[]⟩]] [(0, (.t 37))]),
 oO 39 (k3 26 33 34 38),
 oM 40 13,
 oM 10 39,
 oM 11 40,
 oO 12 (.mv (.c (.int .i64 0)))])
 .ret)))), false, false⟩
/-- progeny/plain.Valid -/
def c8 : CFn := ⟨12, [.t 4, .t 5],
 (.seq
 (.region [0, 1] [oX 2 25 4 0,
 oO 4 (.mv (.c (.bool false))),
 oO 5 (.mv (.c (.int .i64 0)))])
 (.seq
 (.seq
 (.region [1, 2] [oL 6 4 2,
 oO 7 (k1 28 6),
 oN 8 7])
 (.cond (.t 8)
 (.seq
 (.region [] [oO 4 (.mv (.c (.bool false))),
 oO 5 (.mv (.c (.int .i64 100)))])
 .ret)
 .skip))
 (.seq
 (.region [1, 2] [oL 9 4 2,
 oM 10 1,
 oO 11 (k2 29 9 10),
 oM 4 11,
 oO 5 (.mv (.c (.int .i64 0)))])
 .ret))), false, false⟩
/-- progeny/plain.Path -/
def c9 : CFn := ⟨21, [.t 6, .t 7],
 (.seq
 (.region [0, 1, 2] [oX 3 25 4 0,
 oO 6 (.mv (.c (.nils))),
 oO 7 (.mv (.c (.int .i64 0)))])
 (.seq
 (.seq
 (.region [1, 2, 3] [oL 9 4 3,
 oM 10 1,
 oM 11 2,
 oO 12 (.bslice 3 1 [[.int .i64 0]] [(0, (.t 11))]),
 oO 13 (k3 30 9 10 12),
 oM 8 13])
 (.seq
 (.region [1, 2, 3, 8] [oM 14 8,
 oO 15 (.bin .neq (.t 14) (.c (.int .i64 0)))])
 (.cond (.t 15)
 (.seq
 (.region [8] [oM 16 8,
 oO 6 (.mv (.c (.nils))),
 oM 7 16])
 .ret)
 .skip)))
 (.seq
 (.region [1, 2, 3] [oL 17 4 3,
 oM 18 1,
 oM 19 2,
 oO 20 (z3 31 17 18 19),
 oM 6 20,
 oO 7 (.mv (.c (.int .i64 0)))])
 .ret))), false, false⟩
/-- progeny/plain.End -/
def c10 : CFn := ⟨21, [.t 6, .t 7],
 (.seq
 (.region [0, 1, 2] [oX 3 25 4 0,
 oO 6 (.mv (.c (.int .i64 0))),
 oO 7 (.mv (.c (.int .i64 0)))])
 (.seq
 (.seq
 (.region [1, 2, 3] [oL 9 4 3,
 oM 10 1,
 oM 11 2,
 oO 12 (.bslice 3 1 [[.int .i64 0]] [(0, (.t 11))]),
 oO 13 (k3 30 9 10 12),
 oM 8 13])
 (.seq
 (.region [1, 2, 3, 8] [oM 14 8,
 oO 15 (.bin .neq (.t 14) (.c (.int .i64 0)))])
 (.cond (.t 15)
 (.seq
 (.region [8] [oM 16 8,
 oO 6 (.mv (.c (.int .i64 0))),
 oM 7 16])
 .ret)
 .skip)))
 (.seq
 (.region [1, 2, 3] [oL 17 4 3,
 oM 18 1,
 oM 19 2,
 oO 20 (k3 32 17 18 19),
 oM 6 20,
 oO 7 (.mv (.c (.int .i64 0)))])
 .ret))), false, false⟩
def c11_l0 : CC :=
 (.seq
 (.seq
 (.region [0, 1, 5] [oM 6 5,
 oM 7 0,
 oO 8 (.len false (.t 7)),
 oB 9 .lss 6 8])
 (.cond (.t 9)
 .skip
 (.exit 0)))
 (.seq
 (.block 1
 (.seq
 (.region [0, 1, 5] [oM 12 0,
 oM 13 5,
 oI 14 1 12 13,
 ol 15 1 14,
 oM 16 1,
 oB 17 .eql 15 16])
 (.cond (.t 17)
 (.seq
 (.region [] [oO 4 (.mv (.c (.bool true)))])
 .ret)
 .skip)))
 (.region [0, 1, 5] [oM 10 5,
 oO 11 (.bin .add (.t 10) (.c (.int .i64 1))),
 oM 5 11])))
/-- progeny/progenytop.has -/
def c11 : CFn := ⟨18, [.t 4],
 (.seq
 (.region [0, 1] [oO 4 (.mv (.c (.bool false)))])
 (.seq
 (.seq
 (.region [0, 1] [oO 5 (.mv (.c (.int .i64 0)))])
 (.block 0
 (.loop c11_l0)))
 (.seq
 (.region [] [oO 4 (.mv (.c (.bool false)))])
 .ret))), false, false⟩
/-- progeny/progenyref11.Way -/
def c12 : CFn := ⟨17, [.t 4, .t 5],
 (.seq
 (.region [0, 1] [oX 2 25 4 0,
 oO 4 (.mv (.c (.nils))),
 oO 5 (.mv (.c (.int .i64 0)))])
 (.seq
 (.seq
 (.region [1, 2] [oL 7 4 2,
 oM 8 1,
 oO 9 (.bslice 3 1 [[.int .i64 0]] [(0, (.t 8))]),
 oO 10 (k2 33 7 9),
 oM 6 10])
 (.seq
 (.region [1, 2, 6] [oM 11 6,
 oO 12 (.bin .neq (.t 11) (.c (.int .i64 0)))])
 (.cond (.t 12)
 (.seq
 (.region [6] [oM 13 6,
 oO 4 (.mv (.c (.nils))),
 oM 5 13])
 .ret)
 .skip)))
 (.seq
 (.region [1, 2] [oL 14 4 2,
 oM 15 1,
 oO 16 (z2 20 14 15),
 oM 4 16,
 oO 5 (.mv (.c (.int .i64 0)))])
 .ret))), false, false⟩
/-- progeny/plain.FullKey -/
def c13 : CFn := ⟨21, [.t 6, .t 7],
 (.seq
 (.region [0, 1, 2] [oX 3 25 4 0,
 oO 6 (.mv (.c (.nils))),
 oO 7 (.mv (.c (.int .i64 0)))])
 (.seq
 (.seq
 (.region [1, 2, 3] [oL 9 4 3,
 oM 10 1,
 oM 11 2,
 oO 12 (.bslice 3 1 [[.int .i64 0]] [(0, (.t 11))]),
 oO 13 (k3 30 9 10 12),
 oM 8 13])
 (.seq
 (.region [1, 2, 3, 8] [oM 14 8,
 oO 15 (.bin .neq (.t 14) (.c (.int .i64 0)))])
 (.cond (.t 15)
 (.seq
 (.region [8] [oM 16 8,
 oO 6 (.mv (.c (.nils))),
 oM 7 16])
 .ret)
 .skip)))
 (.seq
 (.region [1, 2, 3] [oL 17 4 3,
 oM 18 1,
 oM 19 2,
 oO 20 (z3 34 17 18 19),
 oM 6 20,
 oO 7 (.mv (.c (.int .i64 0)))])
 .ret))), false, false⟩
def c14_l0 : CC :=
 (.seq
 (.region [1, 2, 3, 4, 11, 31, 32, 33] [oB 34 .lss 33 32])
 (.seq
 (.cond (.t 34)
 .skip
 (.exit 1))
 (.seq
 (.block 2
 (.seq
 (.region [1, 2, 3, 4, 11, 31, 32, 33] [oM 35 33,
 oI 36 2 31 33,
 oL 37 2 36,
 oO 13 (.box 46 2 (.c (.agg [.int .i64 0, .str ⟨#[]⟩]))),
 oM 12 35,
 oS 2 13 37])
 (.seq
 (.region [1, 2, 3, 4, 11, 12, 13, 31, 32, 33] [oA 38 0 13,
 ol 39 1 38,
 oM 40 3,
 oB 41 .eql 39 40,
 oM 42 41,
 oG 43 (.load true 4 (.t 4)) 42 true,
 oG 44 (.mv (.t 1)) 42 true,
 oG 45 (.mv (.t 12)) 42 true,
 oG 46 (z3 34 43 44 45) 42 true,
 oG 47 (.mv (.t 2)) 42 true,
 oG 48 (k2 35 46 47) 42 true,
 oO 49 (.pick (.t 42) (.t 48) (.c (.bool false)))])
 (.cond (.t 49)
 (.region [1, 2, 3, 4, 11, 12, 31, 32, 33] [oM 50 11,
 oM 51 12,
 oO 52 (.bslice 3 1 [[.int .i64 0]] [(0, (.t 51))]),
 oO 53 (.app 3 1 8 false (.t 50) (.t 52)),
 oM 11 53])
 .skip))))
 (.region [1, 2, 3, 4, 11, 31, 32, 33] [oO 54 (.bin .add (.t 33) (.c (.int .i64 1))),
 oM 33 54]))))
/-- progeny/plain.Find -/
def c14 : CFn := ⟨56, [.t 8, .t 9],
 (.seq
 (.region [0, 1, 2, 3] [oX 4 25 4 0,
 oO 8 (.mv (.c (.nils))),
 oO 9 (.mv (.c (.int .i64 0)))])
 (.seq
 (.seq
 (.region [1, 2, 3, 4] [oL 14 4 4,
 oM 15 1,
 oO 16 (.call (.c (.fn 30 [])) [(.t 14), (.t 15), (.c (.nils))] false),
 oM 10 16])
 (.block 0
 (.seq
 (.region [1, 2, 3, 4, 10] [oM 18 10,
 oO 19 (.bin .neq (.t 18) (.c (.int .i64 0))),
 oM 17 19])
 (.cond (.t 17)
 (.seq
 (.region [10] [oM 20 10,
 oO 8 (.mv (.c (.nils))),
 oM 9 20])
 .ret)
 (.seq
 (.region [1, 2, 3, 4] [oM 22 3,
 oO 23 (.bin .lss (.t 22) (.c (.int .i64 0))),
 oM 24 23,
 oG 25 (.mv (.t 3)) 24 false,
 oG 26 (.faddr 2 (.t 4)) 24 false,
 oG 27 (.load false 1 (.t 26)) 24 false,
 oG 28 (.len false (.t 27)) 24 false,
 oG 29 (.bin .geq (.t 25) (.t 28)) 24 false,
 oO 30 (.pick (.t 24) (.c (.bool true)) (.t 29)),
 oM 21 30])
 (.cond (.t 21)
 (.seq
 (.region [] [oO 8 (.mv (.c (.nils))),
 oO 9 (.mv (.c (.int .i64 2)))])
 .ret)
 .skip))))))
 (.seq
 (.region [1, 2, 3, 4] [oO 11 (.mv (.c (.nils)))])
 (.seq
 (.seq
 (.region [1, 2, 3, 4, 11] [oM 31 1,
 oO 32 (.len false (.t 31)),
 oO 33 (.mv (.c (.int .i64 0)))])
 (.block 1
 (.loop c14_l0)))
 (.seq
 (.region [11] [oM 55 11,
 oM 8 55,
 oO 9 (.mv (.c (.int .i64 0)))])
 .ret))))), false, false⟩
/-- progeny/plain.Delete -/
def c15 : CFn := ⟨25, [.t 6, .t 7],
 (.seq
 (.region [0, 1, 2] [oX 3 25 4 0,
 oO 6 (.mv (.c (.nils))),
 oO 7 (.mv (.c (.int .i64 0)))])
 (.seq
 (.seq
 (.region [1, 2, 3] [oL 9 4 3,
 oM 10 1,
 oM 11 2,
 oO 12 (.bslice 3 1 [[.int .i64 0]] [(0, (.t 11))]),
 oO 13 (k3 30 9 10 12),
 oM 8 13])
 (.seq
 (.region [1, 2, 3, 8] [oM 14 8,
 oO 15 (.bin .neq (.t 14) (.c (.int .i64 0)))])
 (.cond (.t 15)
 (.seq
 (.region [8] [oM 16 8,
 oO 6 (.mv (.c (.nils))),
 oM 7 16])
 .ret)
 .skip)))
 (.seq
 (.draw [1, 2, 3] [oM 17 1,
 oF 18 (k1 27 17) [0],
 oM 19 2,
 oa 20 (.load true 4 (.t 3)) [] [1],
 oM 21 1,
 oM 22 2,
 oF 23 (k3 32 20 21 22) [0, 1, 3, 4, 5],
 oF 24 (k3 36 18 19 23) (u 7),
 oF 6 (.mv (.t 24)) (u 8),
 oF 7 (.mv (.c (.int .i64 0))) (u 9)])
 .ret))), false, false⟩
def c16_l0 : CC :=
 (.seq
 (.seq
 (.region [0, 1, 5] [oM 11 5,
 oM 12 0,
 oO 13 (.len false (.t 12)),
 oB 14 .lss 11 13])
 (.cond (.t 14)
 .skip
 (.exit 0)))
 (.seq
 (.block 1
 (.seq
 (.draw [0, 1, 5] [oM 17 0,
 oM 18 5,
 oF 19 (.iaddr 2 (.t 17) (.t 18)) [0, 1],
 oF 20 (.load true 2 (.t 19)) [0, 1, 2],
 oM 21 1,
 oM 22 5,
 oF 23 (.iaddr 2 (.t 21) (.t 22)) [4, 5],
 oF 24 (.load true 2 (.t 23)) [4, 5, 6],
 oF 25 (.eqs true [0, 2] (.t 20) (.t 24)) (u 8)])
 (.cond (.t 25)
 (.seq
 (.region [] [oO 4 (.mv (.c (.bool false)))])
 .ret)
 .skip)))
 (.region [0, 1, 5] [oM 15 5,
 oO 16 (.bin .add (.t 15) (.c (.int .i64 1))),
 oM 5 16])))
/-- progeny/progenyref13.Same -/
def c16 : CFn := ⟨26, [.t 4],
 (.seq
 (.region [0, 1] [oO 4 (.mv (.c (.bool false)))])
 (.seq
 (.seq
 (.region [0, 1] [oM 6 0,
 oO 7 (.len false (.t 6)),
 oM 8 1,
 oO 9 (.len false (.t 8)),
 oB 10 .neq 7 9])
 (.cond (.t 10)
 (.seq
 (.region [] [oO 4 (.mv (.c (.bool false)))])
 .ret)
 .skip))
 (.seq
 (.seq
 (.region [0, 1] [oO 5 (.mv (.c (.int .i64 0)))])
 (.block 0
 (.loop c16_l0)))
 (.seq
 (.region [] [oO 4 (.mv (.c (.bool true)))])
 .ret)))), false, false⟩
def c17_l0 : CC :=
 (.seq
 (.seq
 (.region [0, 3] [oM 5 3,
 oM 6 0,
 oO 7 (.len true (.t 6)),
 oB 8 .lss 5 7])
 (.cond (.t 8)
 .skip
 (.exit 0)))
 (.seq
 (.block 1
 (.seq
 (.region [0, 3] [oM 11 0,
 oM 12 3,
 oO 13 (.idx (.t 11) (.t 12)),
 oO 14 (.bin .geq (.t 13) (.c (.int .u8 65))),
 oM 15 14,
 oG 16 (.mv (.t 0)) 15 true,
 oG 17 (.mv (.t 3)) 15 true,
 oG 18 (.idx (.t 16) (.t 17)) 15 true,
 oG 19 (.bin .leq (.t 18) (.c (.int .u8 90))) 15 true,
 oO 20 (.pick (.t 15) (.t 19) (.c (.bool false))),
 oM 4 20])
 (.seq
 (.region [0, 3, 4] [oM 21 4,
 oN 22 21,
 oM 23 22,
 oG 24 (.mv (.t 3)) 23 true,
 oG 25 (.bin .eql (.t 24) (.c (.int .i64 0))) 23 true,
 oG 26 (.mv (.t 25)) 23 true,
 oG 27 (.mv (.t 0)) 26 false,
 oG 28 (.mv (.t 3)) 26 false,
 oG 29 (.idx (.t 27) (.t 28)) 26 false,
 oG 30 (.bin .lss (.t 29) (.c (.int .u8 48))) 26 false,
 oG 31 (.pick (.t 26) (.c (.bool true)) (.t 30)) 23 true,
 oG 32 (.mv (.t 31)) 23 true,
 oG 33 (.mv (.t 0)) 32 false,
 oG 34 (.mv (.t 3)) 32 false,
 oG 35 (.idx (.t 33) (.t 34)) 32 false,
 oG 36 (.bin .gtr (.t 35) (.c (.int .u8 57))) 32 false,
 oG 37 (.pick (.t 32) (.c (.bool true)) (.t 36)) 23 true,
 oO 38 (.pick (.t 23) (.t 37) (.c (.bool false)))])
 (.cond (.t 38)
 (.seq
 (.region [] [oO 2 (.mv (.c (.bool false)))])
 .ret)
 .skip))))
 (.region [0, 3] [oM 9 3,
 oO 10 (.bin .add (.t 9) (.c (.int .i64 1))),
 oM 3 10])))
/-- progeny/progenyref11.IsName -/
def c17 : CFn := ⟨47, [.t 2],
 (.seq
 (.region [0] [oO 2 (.mv (.c (.bool false)))])
 (.seq
 (.seq
 (.region [0] [oO 3 (.mv (.c (.int .i64 0)))])
 (.block 0
 (.loop c17_l0)))
 (.seq
 (.region [0] [oM 39 0,
 oO 40 (.len true (.t 39)),
 oO 41 (.bin .geq (.t 40) (.c (.int .i64 1))),
 oM 42 41,
 oG 43 (.mv (.t 0)) 42 true,
 oG 44 (.len true (.t 43)) 42 true,
 oG 45 (.bin .leq (.t 44) (.c (.int .i64 8))) 42 true,
 oO 46 (.pick (.t 42) (.t 45) (.c (.bool false))),
 oM 2 46])
 .ret))), false, false⟩
def c18_l0 : CC :=
 (.seq
 (.seq
 (.region [1, 3, 4, 5] [oM 49 5,
 oM 50 3,
 oB 51 .lss 49 50])
 (.cond (.t 51)
 .skip
 (.exit 2)))
 (.seq
 (.block 3
 (.seq
 (.draw [1, 3, 4, 5] [oA 54 4 1,
 oF 55 (.load false 1 (.t 54)) [0],
 oM 56 5,
 oF 57 (.iaddr 3 (.t 55) (.t 56)) [0, 1, 2],
 oF 58 (.faddr 0 (.t 57)) (u 4),
 oF 59 (.load false 1 (.t 58)) (u 5),
 oA 60 0 4,
 oF 61 (.load false 1 (.t 60)) [6],
 oF 62 (.bin .eql (.t 59) (.t 61)) (u 8)])
 (.cond (.t 62)
 (.seq
 (.region [] [oO 2 (.mv (.c (.bool false)))])
 .ret)
 .skip)))
 (.region [1, 3, 4, 5] [oM 52 5,
 oO 53 (.bin .add (.t 52) (.c (.int .i64 1))),
 oM 5 53])))
def c18_l1 : CC :=
 (.seq
 (.seq
 (.region [1, 3] [oM 6 3,
 oA 7 4 1,
 ol 8 1 7,
 oO 9 (.len false (.t 8)),
 oB 10 .lss 6 9])
 (.cond (.t 10)
 .skip
 (.exit 0)))
 (.seq
 (.block 1
 (.seq
 (.region [1, 3] [oA 13 4 1,
 ol 14 1 13,
 oM 15 3,
 oI 16 3 14 15,
 oL 17 3 16,
 oO 4 (.box 61 3 (.c (.agg [.str ⟨#[]⟩, .int .i64 0, .int .i64 0]))),
 oS 3 4 17])
 (.seq
 (.seq
 (.region [1, 3, 4] [oA 18 0 4,
 ol 19 1 18,
 oO 20 (k1 17 19),
 oN 21 20,
 oM 22 21,
 oG 23 (.faddr 1 (.t 4)) 22 false,
 oG 24 (.load false 1 (.t 23)) 22 false,
 oG 25 (.bin .lss (.t 24) (.c (.int .i64 0))) 22 false,
 oO 26 (.pick (.t 22) (.c (.bool true)) (.t 25)),
 oM 27 26,
 oG 28 (.faddr 1 (.t 4)) 27 false,
 oG 29 (.load false 1 (.t 28)) 27 false,
 oG 30 (.faddr 3 (.t 1)) 27 false,
 oG 31 (.load false 1 (.t 30)) 27 false,
 oG 32 (.bin .gtr (.t 29) (.t 31)) 27 false,
 oO 33 (.pick (.t 27) (.c (.bool true)) (.t 32)),
 oM 34 33,
 oG 35 (.faddr 2 (.t 4)) 34 false,
 oG 36 (.load false 1 (.t 35)) 34 false,
 oG 37 (.bin .lss (.t 36) (.c (.int .i64 1))) 34 false,
 oO 38 (.pick (.t 34) (.c (.bool true)) (.t 37)),
 oM 39 38,
 oG 40 (.faddr 2 (.t 4)) 39 false,
 oG 41 (.load false 1 (.t 40)) 39 false,
 oG 42 (.faddr 3 (.t 1)) 39 false,
 oG 43 (.load false 1 (.t 42)) 39 false,
 oG 44 (.faddr 1 (.t 4)) 39 false,
 oG 45 (.load false 1 (.t 44)) 39 false,
 oG 46 (.bin .sub (.t 43) (.t 45)) 39 false,
 oG 47 (.bin .gtr (.t 41) (.t 46)) 39 false,
 oO 48 (.pick (.t 39) (.c (.bool true)) (.t 47))])
 (.cond (.t 48)
 (.seq
 (.region [] [oO 2 (.mv (.c (.bool false)))])
 .ret)
 .skip))
 (.seq
 (.region [1, 3, 4] [oO 5 (.mv (.c (.int .i64 0)))])
 (.block 2
 (.loop c18_l0))))))
 (.region [1, 3] [oM 11 3,
 oO 12 (.bin .add (.t 11) (.c (.int .i64 1))),
 oM 3 12])))
/-- progeny/progenyref11.fields -/
def c18 : CFn := ⟨112, [.t 2],
 (.seq
 (.region [0] [oX 1 49 8 0,
 oO 2 (.mv (.c (.bool false)))])
 (.seq
 (.seq
 (.region [1] [oO 3 (.mv (.c (.int .i64 0)))])
 (.block 0
 (.loop c18_l1)))
 (.seq
 (.seq
 (.region [1] [oA 63 5 1,
 ol 64 1 63,
 oO 65 (.bin .lss (.t 64) (.c (.int .i64 (-1)))),
 oM 66 65,
 oG 67 (.faddr 5 (.t 1)) 66 false,
 oG 68 (.load false 1 (.t 67)) 66 false,
 oG 69 (.faddr 4 (.t 1)) 66 false,
 oG 70 (.load false 1 (.t 69)) 66 false,
 oG 71 (.len false (.t 70)) 66 false,
 oG 72 (.bin .geq (.t 68) (.t 71)) 66 false,
 oO 73 (.pick (.t 66) (.c (.bool true)) (.t 72)),
 oM 74 73,
 oG 75 (.faddr 5 (.t 1)) 74 false,
 oG 76 (.load false 1 (.t 75)) 74 false,
 oG 77 (.bin .lss (.t 76) (.c (.int .i64 0))) 74 false,
 oG 78 (.mv (.t 77)) 74 false,
 oG 79 (.faddr 6 (.t 1)) 78 true,
 oG 80 (.load false 1 (.t 79)) 78 true,
 oG 81 (.pick (.t 78) (.t 80) (.c (.bool false))) 74 false,
 oO 82 (.pick (.t 74) (.c (.bool true)) (.t 81))])
 (.cond (.t 82)
 (.seq
 (.region [] [oO 2 (.mv (.c (.bool false)))])
 .ret)
 .skip))
 (.seq
 (.draw [1] [oA 83 4 1,
 oF 84 (.load false 1 (.t 83)) [0],
 oF 85 (.len false (.t 84)) [0, 1],
 oF 86 (.bin .leq (.t 85) (.c (.int .i64 5))) [0, 1, 2],
 oF 87 (.mv (.t 86)) (u 4),
 ⟨(some 88), .faddr 5 (.t 1), some (87, true), (u 5), []⟩,
 ⟨(some 89), .load false 1 (.t 88), some (87, true), (u 6), []⟩,
 ⟨(some 90), .bin .lss (.t 89) (.c (.int .i64 0)), some (87, true), (u 7), []⟩,
 ⟨(some 91), .mv (.t 90), some (87, true), (u 8), []⟩,
 ⟨(some 92), .faddr 4 (.t 1), some (91, false), (u 9), []⟩,
 ⟨(some 93), .load false 1 (.t 92), some (91, false), (u 10), []⟩,
 ⟨(some 94), .faddr 5 (.t 1), some (91, false), (u 9), []⟩,
 ⟨(some 95), .load false 1 (.t 94), some (91, false), (u 9 ++ [11]), []⟩,
 ⟨(some 96), .iaddr 3 (.t 93) (.t 95), some (91, false), (u 13), []⟩,
 ⟨(some 97), .faddr 1 (.t 96), some (91, false), (u 14), []⟩,
 ⟨(some 98), .load false 1 (.t 97), some (91, false), (u 15), []⟩,
 ⟨(some 99), .faddr 4 (.t 1), some (91, false), (u 9), []⟩,
 ⟨(some 100), .load false 1 (.t 99), some (91, false), (u 9 ++ [16]), []⟩,
 ⟨(some 101), .faddr 5 (.t 1), some (91, false), (u 9), []⟩,
 ⟨(some 102), .load false 1 (.t 101), some (91, false), (u 9 ++ [18]), []⟩,
 ⟨(some 103), .iaddr 3 (.t 100) (.t 102), some (91, false), (u 9 ++ [16, 17, 18, 19]), []⟩,
 ⟨(some 104), .faddr 2 (.t 103), some (91, false), (u 9 ++ [16, 17, 18, 19, 20]), []⟩,
 ⟨(some 105), .load false 1 (.t 104), some (91, false), (u 9 ++ [16, 17, 18, 19, 20, 21]), []⟩,
 ⟨(some 106), .bin .add (.t 98) (.t 105), some (91, false), (u 23), []⟩,
 ⟨(some 107), .faddr 2 (.t 1), some (91, false), (u 9), []⟩,
 ⟨(some 108), .load false 1 (.t 107), some (91, false), (u 9 ++ [24]), []⟩,
 ⟨(some 109), .bin .leq (.t 106) (.t 108), some (91, false), (u 26), []⟩,
 ⟨(some 110), .pick (.t 91) (.c (.bool true)) (.t 109), some (87, true), (u 27), []⟩,
 oF 111 (.pick (.t 87) (.t 110) (.c (.bool false))) (u 28),
 oF 2 (.mv (.t 111)) (u 29)])
 .ret)))), false, false⟩
def c19_l0 : CC :=
 (.seq
 (.seq
 (.region [1, 2, 3] [oM 13 2,
 oO 14 (.bin .geq (.t 13) (.c (.int .i64 0)))])
 (.cond (.t 14)
 .skip
 (.exit 0)))
 (.seq
 (.block 1
 (.seq
 (.region [1, 2, 3] [oM 21 2,
 oM 22 1,
 oB 23 .eql 21 22])
 (.cond (.t 23)
 (.seq
 (.region [] [oO 6 (.mv (.c (.bool true)))])
 .ret)
 .skip)))
 (.region [1, 2, 3] [oA 15 2 3,
 ol 16 1 15,
 oM 17 2,
 oI 18 8 16 17,
 oA 19 1 18,
 ol 20 1 19,
 oM 2 20])))
/-- progeny/progenyref11.above -/
def c19 : CFn := ⟨24, [.t 6],
 (.seq
 (.region [0, 1, 2] [oX 3 25 4 0,
 oO 6 (.mv (.c (.bool false)))])
 (.seq
 (.seq
 (.region [1, 2, 3] [oA 7 2 3,
 ol 8 1 7,
 oM 9 2,
 oI 10 8 8 9,
 oA 11 1 10,
 ol 12 1 11,
 oM 2 12])
 (.block 0
 (.loop c19_l0)))
 (.seq
 (.region [] [oO 6 (.mv (.c (.bool false)))])
 .ret))), false, false⟩
def c20_l0 : CC :=
 (.seq
 (.seq
 (.region [1, 2, 5] [oM 6 1,
 oO 7 (.bin .geq (.t 6) (.c (.int .i64 0)))])
 (.cond (.t 7)
 .skip
 (.exit 0)))
 (.block 1
 (.seq
 (.region [1, 2, 5] [oM 8 1,
 oO 9 (.bslice 3 1 [[.int .i64 0]] [(0, (.t 8))]),
 oM 10 5,
 oO 11 (.app 3 1 8 false (.t 9) (.t 10)),
 oM 5 11])
 (.region [1, 2, 5] [oA 12 2 2,
 ol 13 1 12,
 oM 14 1,
 oI 15 8 13 14,
 oA 16 1 15,
 ol 17 1 16,
 oM 1 17]))))
/-- progeny/progenyref11.way -/
def c20 : CFn := ⟨19, [.t 4],
 (.seq
 (.region [0, 1] [oX 2 25 4 0,
 oO 4 (.mv (.c (.nils)))])
 (.seq
 (.region [1, 2] [oO 5 (.mv (.c (.nils)))])
 (.seq
 (.block 0
 (.loop c20_l0))
 (.seq
 (.region [5] [oM 18 5,
 oM 4 18])
 .ret)))), false, false⟩
/-- progeny/progenylaw13.Shop -/
def c21 : CFn := ⟨11, [.cell 0 true 4],
 (.seq
 (.region [] [oO 0 (.box 25 4 (.c (.agg [.str ⟨#[]⟩, .int .i64 0, .nils, .nils])))])
 (.seq
 (.region [0] [oO 1 (.build [.str ⟨#[]⟩, .int .i64 0, .int .i64 0] [(0, 1, (.c (.str ⟨#[67, 85, 83, 84, 78, 79]⟩))), (2, 1, (.c (.int .i64 1)))]),
 oO 2 (.bslice 61 3 [[.str ⟨#[]⟩, .int .i64 0, .int .i64 0]] [(0, (.t 1))]),
 oO 3 (.build [.str ⟨#[]⟩, .int .i64 0, .int .i64 0, .int .i64 0, .nils, .int .i64 0, .bool false, .bool false] [(0, 1, (.c (.str ⟨#[67, 85, 83, 84]⟩))), (1, 1, (.c (.int .i64 (-1)))), (2, 1, (.c (.int .i64 1))), (3, 1, (.c (.int .i64 10))), (4, 1, (.t 2)), (6, 1, (.c (.bool true)))]),
 oO 4 (.build [.str ⟨#[]⟩, .int .i64 0, .int .i64 0] [(0, 1, (.c (.str ⟨#[79, 82, 68, 78, 79]⟩))), (2, 1, (.c (.int .i64 1)))]),
 oO 5 (.bslice 61 3 [[.str ⟨#[]⟩, .int .i64 0, .int .i64 0]] [(0, (.t 4))]),
 oO 6 (.build [.str ⟨#[]⟩, .int .i64 0, .int .i64 0, .int .i64 0, .nils, .int .i64 0, .bool false, .bool false] [(0, 1, (.c (.str ⟨#[79, 82, 68, 69, 82]⟩))), (1, 1, (.c (.int .i64 0))), (2, 1, (.c (.int .i64 1))), (3, 1, (.c (.int .i64 12))), (4, 1, (.t 5)), (6, 1, (.c (.bool true)))]),
 oO 7 (.build [.str ⟨#[]⟩, .int .i64 0, .int .i64 0, .int .i64 0, .nils, .int .i64 0, .bool false, .bool false] [(0, 1, (.c (.str ⟨#[73, 84, 69, 77]⟩))), (1, 1, (.c (.int .i64 1))), (2, 1, (.c (.int .i64 1))), (3, 1, (.c (.int .i64 8))), (5, 1, (.c (.int .i64 (-1)))), (7, 1, (.c (.bool true)))]),
 oO 8 (.build [.str ⟨#[]⟩, .int .i64 0, .int .i64 0, .int .i64 0, .nils, .int .i64 0, .bool false, .bool false] [(0, 1, (.c (.str ⟨#[80, 72, 79, 78, 69]⟩))), (1, 1, (.c (.int .i64 0))), (2, 1, (.c (.int .i64 1))), (3, 1, (.c (.int .i64 8))), (5, 1, (.c (.int .i64 (-1))))]),
 oO 9 (.bslice 49 8 [[.str ⟨#[]⟩, .int .i64 0, .int .i64 0, .int .i64 0, .nils, .int .i64 0, .bool false, .bool false], [.str ⟨#[]⟩, .int .i64 0, .int .i64 0, .int .i64 0, .nils, .int .i64 0, .bool false, .bool false], [.str ⟨#[]⟩, .int .i64 0, .int .i64 0, .int .i64 0, .nils, .int .i64 0, .bool false, .bool false], [.str ⟨#[]⟩, .int .i64 0, .int .i64 0, .int .i64 0, .nils, .int .i64 0, .bool false, .bool false]] [(0, (.t 3)), (1, (.t 6)), (2, (.t 7)), (3, (.t 8))]),
 oO 10 (.build [.str ⟨#[]⟩, .int .i64 0, .nils, .nils] [(0, 1, (.c (.str ⟨#[83, 72, 79, 80]⟩))), (1, 1, (.c (.int .i64 4))), (2, 1, (.t 9))]),
 oS 4 0 10])
 .ret)), false, false⟩
/-- progeny/progenylaw13.Forest -/
def c22 : CFn := ⟨8, [.t 0],
 (.seq
 (.region [] [oO 0 (.mv (.c (.nils)))])
 (.seq
 (.region [] [oO 1 (.build [.int .i64 0, .str ⟨#[]⟩] [(0, 1, (.c (.int .i64 0))), (1, 1, (.c (.str ⟨#[49]⟩)))]),
 oO 2 (.build [.int .i64 0, .str ⟨#[]⟩] [(0, 1, (.c (.int .i64 1))), (1, 1, (.c (.str ⟨#[53]⟩)))]),
 oO 3 (.build [.int .i64 0, .str ⟨#[]⟩] [(0, 1, (.c (.int .i64 2))), (1, 1, (.c (.str ⟨#[120]⟩)))]),
 oO 4 (.build [.int .i64 0, .str ⟨#[]⟩] [(0, 1, (.c (.int .i64 1))), (1, 1, (.c (.str ⟨#[55]⟩)))]),
 oO 5 (.build [.int .i64 0, .str ⟨#[]⟩] [(0, 1, (.c (.int .i64 3))), (1, 1, (.c (.str ⟨#[112]⟩)))]),
 oO 6 (.build [.int .i64 0, .str ⟨#[]⟩] [(0, 1, (.c (.int .i64 0))), (1, 1, (.c (.str ⟨#[50]⟩)))]),
 oO 7 (.bslice 46 2 [[.int .i64 0, .str ⟨#[]⟩], [.int .i64 0, .str ⟨#[]⟩], [.int .i64 0, .str ⟨#[]⟩], [.int .i64 0, .str ⟨#[]⟩], [.int .i64 0, .str ⟨#[]⟩], [.int .i64 0, .str ⟨#[]⟩]] [(0, (.t 1)), (1, (.t 2)), (2, (.t 3)), (3, (.t 4)), (4, (.t 5)), (5, (.t 6))]),
 oM 0 7])
 .ret)), false, false⟩
/-- progeny/plain.Parent -/
def c23 : CFn := ⟨21, [.t 6, .t 7],
 (.seq
 (.region [0, 1, 2] [oX 3 25 4 0,
 oO 6 (.mv (.c (.int .i64 0))),
 oO 7 (.mv (.c (.int .i64 0)))])
 (.seq
 (.seq
 (.region [1, 2, 3] [oL 9 4 3,
 oM 10 1,
 oM 11 2,
 oO 12 (.bslice 3 1 [[.int .i64 0]] [(0, (.t 11))]),
 oO 13 (k3 30 9 10 12),
 oM 8 13])
 (.seq
 (.region [1, 2, 3, 8] [oM 14 8,
 oO 15 (.bin .neq (.t 14) (.c (.int .i64 0)))])
 (.cond (.t 15)
 (.seq
 (.region [8] [oM 16 8,
 oO 6 (.mv (.c (.int .i64 0))),
 oM 7 16])
 .ret)
 .skip)))
 (.seq
 (.region [1, 2, 3] [oL 17 4 3,
 oM 18 1,
 oM 19 2,
 oO 20 (k3 37 17 18 19),
 oM 6 20,
 oO 7 (.mv (.c (.int .i64 0)))])
 .ret))), false, false⟩
/-- progeny/plain.Place -/
def c24 : CFn := ⟨20, [.t 10, .t 11],
 (.seq
 (.region [0, 1, 2, 3, 4] [oX 5 25 4 0,
 oO 10 (.mv (.c (.int .i64 0))),
 oO 11 (.mv (.c (.int .i64 0)))])
 (.seq
 (.region [1, 2, 3, 4, 5] [oL 12 4 5,
 oM 13 1,
 oM 14 2,
 oM 15 3,
 oM 16 4,
 oO 17 (k5 25 12 13 14 15 16),
 oE 18 17 0,
 oE 19 17 1,
 oM 10 18,
 oM 11 19])
 .ret)), false, false⟩
def c25_l0 : CC :=
 (.seq
 (.region [1, 3, 5, 13, 14, 15, 16, 83, 84, 85] [oB 86 .lss 85 84])
 (.seq
 (.cond (.t 86)
 .skip
 (.exit 1))
 (.seq
 (.block 2
 (.seq
 (.region [1, 3, 5, 13, 14, 15, 16, 83, 84, 85] [oI 87 1 83 85,
 ol 88 1 87,
 oM 18 88])
 (.seq
 (.region [1, 3, 5, 13, 14, 15, 16, 18, 83, 84, 85] [oM 89 1,
 oM 90 18,
 oI 91 2 89 90,
 oA 92 0 91,
 ol 93 1 92,
 oM 94 3,
 oB 95 .lss 93 94,
 oM 19 95])
 (.seq
 (.seq
 (.region [1, 3, 5, 13, 14, 15, 16, 18, 19, 83, 84, 85] [oM 96 1,
 oM 97 18,
 oI 98 2 96 97,
 oA 99 0 98,
 ol 100 1 99,
 oM 101 3,
 oB 102 .eql 100 101])
 (.cond (.t 102)
 (.seq
 (.draw [1, 3, 5, 13, 14, 15, 16, 18, 83, 84, 85] [oL 103 8 13,
 oM 104 1,
 oM 105 18,
 oF 106 (.iaddr 2 (.t 104) (.t 105)) [1, 2],
 oF 107 (.faddr 1 (.t 106)) [1, 2, 3],
 oF 108 (.load false 1 (.t 107)) [1, 2, 3, 4],
 oF 109 (k2 39 103 108) (u 6),
 oF 20 (.mv (.t 109)) (u 7)])
 (.seq
 (.seq
 (.region [1, 3, 5, 13, 14, 15, 16, 18, 20, 83, 84, 85] [oA 110 6 13,
 ol 111 1 110,
 oM 112 111,
 oG 113 (.mv (.t 20)) 112 true,
 oG 114 (.mv (.t 15)) 112 true,
 oG 115 (.bin .eql (.t 113) (.t 114)) 112 true,
 oO 116 (.pick (.t 112) (.t 115) (.c (.bool false)))])
 (.cond (.t 116)
 (.seq
 (.region [] [oO 10 (.mv (.c (.int .i64 0))),
 oO 11 (.mv (.c (.int .i64 90)))])
 .ret)
 .skip))
 (.region [1, 3, 5, 13, 14, 15, 16, 18, 20, 83, 84, 85] [oM 117 20,
 oM 118 15,
 oB 119 .lss 117 118,
 oM 120 119,
 oG 121 (.mv (.t 20)) 120 false,
 oG 122 (.mv (.t 15)) 120 false,
 oG 123 (.bin .eql (.t 121) (.t 122)) 120 false,
 oG 124 (.mv (.t 123)) 120 false,
 oG 125 (.faddr 7 (.t 13)) 124 true,
 oG 126 (.load false 1 (.t 125)) 124 true,
 oG 127 (.pick (.t 124) (.t 126) (.c (.bool false))) 120 false,
 oO 128 (.pick (.t 120) (.c (.bool true)) (.t 127)),
 oM 19 128])))
 .skip))
 (.seq
 (.region [1, 3, 5, 13, 14, 15, 16, 18, 19, 83, 84, 85] [oM 129 16,
 oM 130 129,
 oG 131 (.mv (.t 19)) 130 false,
 oG 132 (.un .not (.t 131)) 130 false,
 oO 133 (.pick (.t 130) (.c (.bool true)) (.t 132)),
 oM 16 133])
 (.seq
 (.region [1, 3, 5, 13, 14, 15, 16, 18, 83, 84, 85] [oM 134 16,
 oN 135 134])
 (.cond (.t 135)
 (.region [1, 3, 5, 13, 15, 16, 18, 83, 84, 85] [oL 136 4 5,
 oM 137 1,
 oM 138 18,
 oO 139 (k3 32 136 137 138),
 oM 14 139])
 .skip)))))))
 (.region [1, 3, 5, 13, 14, 15, 16, 83, 84, 85] [oO 140 (.bin .add (.t 85) (.c (.int .i64 1))),
 oM 85 140]))))
/-- progeny/plain.place -/
def c25 : CFn := ⟨142, [.t 10, .t 11],
 (.seq
 (.region [0, 1, 2, 3, 4] [oX 5 25 4 0,
 oO 10 (.mv (.c (.int .i64 0))),
 oO 11 (.mv (.c (.int .i64 0)))])
 (.seq
 (.region [1, 2, 3, 4, 5] [oL 21 4 5,
 oM 22 1,
 oO 23 (.call (.c (.fn 30 [])) [(.t 21), (.t 22), (.c (.nils))] false),
 oM 12 23])
 (.seq
 (.block 0
 (.seq
 (.region [1, 2, 3, 4, 5, 12] [oM 25 12,
 oO 26 (.bin .neq (.t 25) (.c (.int .i64 0))),
 oM 24 26])
 (.cond (.t 24)
 (.seq
 (.region [12] [oM 27 12,
 oO 10 (.mv (.c (.int .i64 0))),
 oM 11 27])
 .ret)
 (.seq
 (.region [1, 2, 3, 4, 5] [oM 29 2,
 oO 30 (.bin .lss (.t 29) (.c (.int .i64 (-1)))),
 oM 31 30,
 oG 32 (.mv (.t 2)) 31 false,
 oG 33 (.mv (.t 1)) 31 false,
 oG 34 (.len false (.t 33)) 31 false,
 oG 35 (.bin .geq (.t 32) (.t 34)) 31 false,
 oO 36 (.pick (.t 31) (.c (.bool true)) (.t 35)),
 oM 37 36,
 oG 38 (.load true 4 (.t 5)) 37 false,
 oG 39 (.mv (.t 3)) 37 false,
 oG 40 (.mv (.t 4)) 37 false,
 oG 41 (.build [.int .i64 0, .str ⟨#[]⟩] [(0, 1, (.t 39)), (1, 1, (.t 40))]) 37 false,
 oG 42 (k2 38 38 41) 37 false,
 oG 43 (.un .not (.t 42)) 37 false,
 oO 44 (.pick (.t 37) (.c (.bool true)) (.t 43)),
 oM 28 44])
 (.cond (.t 28)
 (.seq
 (.region [] [oO 10 (.mv (.c (.int .i64 0))),
 oO 11 (.mv (.c (.int .i64 2)))])
 .ret)
 (.seq
 (.draw [1, 2, 3, 4, 5] [oM 46 2,
 oF 47 (.bin .lss (.t 46) (.c (.int .i64 0))) [0],
 oF 48 (.mv (.t 47)) [0, 1],
 ⟨(some 49), .mv (.t 3), some (48, true), [0, 1, 2], []⟩,
 ⟨(some 50), .bin .neq (.t 49) (.c (.int .i64 0)), some (48, true), (u 4), []⟩,
 oF 51 (.pick (.t 48) (.t 50) (.c (.bool false))) (u 5),
 oF 52 (.mv (.t 51)) (u 6),
 ⟨(some 53), .mv (.t 2), some (52, false), (u 7), []⟩,
 ⟨(some 54), .bin .geq (.t 53) (.c (.int .i64 0)), some (52, false), (u 8), []⟩,
 ⟨(some 55), .mv (.t 54), some (52, false), (u 9), []⟩,
 ⟨(some 56), .faddr 2 (.t 5), some (55, true), (u 10), []⟩,
 ⟨(some 57), .load false 1 (.t 56), some (55, true), (u 11), []⟩,
 ⟨(some 58), .mv (.t 3), some (55, true), (u 10), []⟩,
 ⟨(some 59), .iaddr 8 (.t 57) (.t 58), some (55, true), (u 13), []⟩,
 ⟨(some 60), .faddr 1 (.t 59), some (55, true), (u 14), []⟩,
 ⟨(some 61), .load false 1 (.t 60), some (55, true), (u 15), []⟩,
 ⟨(some 62), .mv (.t 1), some (55, true), (u 10), []⟩,
 ⟨(some 63), .mv (.t 2), some (55, true), (u 10), []⟩,
 ⟨(some 64), .iaddr 2 (.t 62) (.t 63), some (55, true), (u 10 ++ [16, 17]), []⟩,
 ⟨(some 65), .faddr 0 (.t 64), some (55, true), (u 10 ++ [16, 17, 18]), []⟩,
 ⟨(some 66), .load false 1 (.t 65), some (55, true), (u 10 ++ [16, 17, 18, 19]), []⟩,
 ⟨(some 67), .bin .neq (.t 61) (.t 66), some (55, true), (u 21), []⟩,
 ⟨(some 68), .pick (.t 55) (.t 67) (.c (.bool false)), some (52, false), (u 22), []⟩,
 oF 69 (.pick (.t 52) (.c (.bool true)) (.t 68)) (u 23),
 oF 45 (.mv (.t 69)) (u 24)])
 (.cond (.t 45)
 (.seq
 (.region [] [oO 10 (.mv (.c (.int .i64 0))),
 oO 11 (.mv (.c (.int .i64 2)))])
 .ret)
 .skip)))))))
 (.seq
 (.region [1, 2, 3, 4, 5] [oA 70 2 5,
 ol 71 1 70,
 oM 72 3,
 oI 73 8 71 72,
 oL 74 8 73,
 oO 13 (.box 49 8 (.c (.agg [.str ⟨#[]⟩, .int .i64 0, .int .i64 0, .int .i64 0, .nils, .int .i64 0, .bool false, .bool false]))),
 oS 8 13 74])
 (.seq
 (.region [1, 2, 3, 4, 5, 13] [oM 75 2,
 oO 76 (.bin .add (.t 75) (.c (.int .i64 1))),
 oM 14 76])
 (.seq
 (.region [1, 2, 3, 4, 5, 13, 14] [oL 77 8 13,
 oM 78 4,
 oO 79 (k2 39 77 78),
 oM 15 79])
 (.seq
 (.region [1, 2, 3, 5, 13, 14, 15] [oO 16 (.mv (.c (.bool false)))])
 (.seq
 (.seq
 (.region [1, 2, 3, 5, 13, 14, 15, 16] [oL 80 4 5,
 oM 81 1,
 oM 82 2,
 oO 83 (z3 40 80 81 82),
 oO 84 (.len false (.t 83)),
 oO 85 (.mv (.c (.int .i64 0)))])
 (.block 1
 (.loop c25_l0)))
 (.seq
 (.region [14] [oM 141 14,
 oM 10 141,
 oO 11 (.mv (.c (.int .i64 0)))])
 .ret))))))))), false, false⟩
/-- slices.Insert[[]progeny/api.Item,progeny/api.Item] -/
def c26 : CFn := ⟨0, [.t 0], .user (pIns 2 46 24), false, false⟩
/-- slices.Clone[[]progeny/api.Item,progeny/api.Item] -/
def c27 : CFn := ⟨8, [.t 2],
 (.seq
 (.region [0] [oO 2 (.mv (.c (.nils)))])
 (.seq
 (.seq
 (.region [0] [oM 3 0,
 oO 4 (.eqn false 1 (.t 3) (.c (.nils)))])
 (.cond (.t 4)
 (.seq
 (.region [] [oO 2 (.mv (.c (.nils)))])
 .ret)
 .skip))
 (.seq
 (.region [0] [oO 5 (.bslice 46 2 [] []),
 oM 6 0,
 oO 7 (.app 46 2 24 false (.t 5) (.t 6)),
 oM 2 7])
 .ret))), true, false⟩
/-- progeny/dbd.Valid -/
def c28 : CFn := ⟨28, [.t 2],
 (.seq
 (.region [0] [oX 1 25 4 0,
 oO 2 (.mv (.c (.bool false)))])
 (.seq
 (.region [1] [oA 3 0 1,
 ol 4 1 3,
 oO 5 (k1 43 4),
 oM 6 5,
 oG 7 (.faddr 1 (.t 1)) 6 true,
 oG 8 (.load false 1 (.t 7)) 6 true,
 oG 9 (.bin .geq (.t 8) (.c (.int .i64 1))) 6 true,
 oO 10 (.pick (.t 6) (.t 9) (.c (.bool false))),
 oM 11 10,
 oG 12 (.faddr 1 (.t 1)) 11 true,
 oG 13 (.load false 1 (.t 12)) 11 true,
 oG 14 (.bin .leq (.t 13) (.c (.int .i64 4))) 11 true,
 oO 15 (.pick (.t 11) (.t 14) (.c (.bool false))),
 oM 16 15,
 oG 17 (.faddr 2 (.t 1)) 16 true,
 oG 18 (.load false 1 (.t 17)) 16 true,
 oG 19 (k1 44 18) 16 true,
 oO 20 (.pick (.t 16) (.t 19) (.c (.bool false))),
 oM 21 20,
 oG 22 (.faddr 3 (.t 1)) 21 true,
 oG 23 (.load false 1 (.t 22)) 21 true,
 oG 24 (.faddr 2 (.t 1)) 21 true,
 oG 25 (.load false 1 (.t 24)) 21 true,
 oG 26 (k2 45 23 25) 21 true,
 oO 27 (.pick (.t 21) (.t 26) (.c (.bool false))),
 oM 2 27])
 .ret)), false, false⟩
def c29_l0 : CC :=
 (.seq
 (.region [2, 3, 5, 6, 16, 17, 18] [oB 19 .lss 18 17])
 (.seq
 (.cond (.t 19)
 .skip
 (.exit 0))
 (.seq
 (.block 1
 (.seq
 (.region [2, 3, 5, 6, 16, 17, 18] [oM 20 18,
 oI 21 2 16 18,
 oL 22 2 21,
 oO 8 (.box 46 2 (.c (.agg [.int .i64 0, .str ⟨#[]⟩]))),
 oM 7 20,
 oS 2 8 22])
 (.seq
 (.seq
 (.region [2, 3, 5, 6, 7, 8, 16, 17, 18] [oL 23 4 2,
 oL 24 2 8,
 oO 25 (k2 38 23 24),
 oN 26 25])
 (.cond (.t 26)
 (.seq
 (.region [] [oO 4 (.mv (.c (.bool false)))])
 .ret)
 .skip))
 (.seq
 (.region [2, 3, 5, 6, 7, 8, 16, 17, 18] [oA 27 2 2,
 ol 28 1 27,
 oA 29 0 8,
 ol 30 1 29,
 oI 31 8 28 30,
 oA 32 1 31,
 ol 33 1 32,
 oO 9 (.box 3 1 (.c (.int .i64 0))),
 oS 1 9 33])
 (.seq
 (.region [2, 3, 5, 6, 7, 8, 9, 16, 17, 18] [oO 10 (.mv (.c (.int .i64 0)))])
 (.seq
 (.seq
 (.region [2, 3, 5, 6, 7, 8, 9, 10, 16, 17, 18] [ol 34 1 9,
 oO 35 (.bin .geq (.t 34) (.c (.int .i64 0)))])
 (.cond (.t 35)
 (.seq
 (.region [2, 3, 5, 6, 7, 8, 9, 16, 17, 18] [oM 36 5,
 oO 37 (.mkfn 47 [(.t 3), (.t 9)]),
 oO 38 (k2 46 36 37),
 oO 39 (.bin .add (.c (.int .i64 1)) (.t 38)),
 oM 10 39])
 (.seq
 (.region [2, 3, 5, 6, 7, 8, 10, 16, 17, 18] [oM 40 10,
 oO 41 (.bin .eql (.t 40) (.c (.int .i64 0)))])
 (.cond (.t 41)
 (.seq
 (.region [] [oO 4 (.mv (.c (.bool false)))])
 .ret)
 .skip)))
 .skip))
 (.seq
 (.seq
 (.region [2, 3, 5, 6, 7, 8, 10, 16, 17, 18] [oM 42 6,
 oM 43 10,
 oI 44 1 42 43,
 ol 45 1 44,
 oM 11 45])
 (.seq
 (.draw [2, 3, 5, 6, 7, 8, 10, 11, 16, 17, 18] [oM 46 11,
 oF 47 (.bin .geq (.t 46) (.c (.int .i64 0))) [0],
 oF 48 (.mv (.t 47)) [0, 1],
 ⟨(some 49), .load false 1 (.t 3), some (48, true), [0, 1, 2], []⟩,
 ⟨(some 50), .mv (.t 11), some (48, true), [0, 1, 2], []⟩,
 ⟨(some 51), .iaddr 2 (.t 49) (.t 50), some (48, true), (u 5), []⟩,
 ⟨(some 52), .faddr 0 (.t 51), some (48, true), (u 6), []⟩,
 ⟨(some 53), .load false 1 (.t 52), some (48, true), (u 7), []⟩,
 ⟨(some 54), .faddr 0 (.t 8), some (48, true), [0, 1, 2], []⟩,
 ⟨(some 55), .load false 1 (.t 54), some (48, true), [0, 1, 2, 8], []⟩,
 ⟨(some 56), .bin .gtr (.t 53) (.t 55), some (48, true), (u 10), []⟩,
 ⟨(some 57), .mv (.t 56), some (48, true), (u 11), []⟩,
 ⟨(some 58), .load false 1 (.t 3), some (57, false), (u 12), []⟩,
 ⟨(some 59), .mv (.t 11), some (57, false), (u 12), []⟩,
 ⟨(some 60), .iaddr 2 (.t 58) (.t 59), some (57, false), (u 14), []⟩,
 ⟨(some 61), .faddr 0 (.t 60), some (57, false), (u 15), []⟩,
 ⟨(some 62), .load false 1 (.t 61), some (57, false), (u 16), []⟩,
 ⟨(some 63), .faddr 0 (.t 8), some (57, false), (u 12), []⟩,
 ⟨(some 64), .load false 1 (.t 63), some (57, false), (u 12 ++ [17]), []⟩,
 ⟨(some 65), .bin .eql (.t 62) (.t 64), some (57, false), (u 19), []⟩,
 ⟨(some 66), .mv (.t 65), some (57, false), (u 20), []⟩,
 ⟨(some 67), .faddr 2 (.t 2), some (66, true), (u 21), []⟩,
 ⟨(some 68), .load false 1 (.t 67), some (66, true), (u 22), []⟩,
 ⟨(some 69), .faddr 0 (.t 8), some (66, true), (u 21), []⟩,
 ⟨(some 70), .load false 1 (.t 69), some (66, true), (u 21 ++ [23]), []⟩,
 ⟨(some 71), .iaddr 8 (.t 68) (.t 70), some (66, true), (u 25), []⟩,
 ⟨(some 72), .load true 8 (.t 71), some (66, true), (u 26), []⟩,
 ⟨(some 73), .load false 1 (.t 3), some (66, true), (u 21), []⟩,
 ⟨(some 74), .mv (.t 11), some (66, true), (u 21), []⟩,
 ⟨(some 75), .iaddr 2 (.t 73) (.t 74), some (66, true), (u 21 ++ [27, 28]), []⟩,
 ⟨(some 76), .faddr 1 (.t 75), some (66, true), (u 21 ++ [27, 28, 29]), []⟩,
 ⟨(some 77), .load false 1 (.t 76), some (66, true), (u 21 ++ [27, 28, 29, 30]), []⟩,
 ⟨(some 78), .faddr 1 (.t 8), some (66, true), (u 21), []⟩,
 ⟨(some 79), .load false 1 (.t 78), some (66, true), (u 21 ++ [32]), []⟩,
 ⟨(some 80), k3 48 72 77 79, some (66, true), (u 34), []⟩,
 ⟨(some 81), .un .not (.t 80), some (66, true), (u 35), []⟩,
 ⟨(some 82), .pick (.t 66) (.t 81) (.c (.bool false)), some (57, false), (u 36), []⟩,
 ⟨(some 83), .pick (.t 57) (.c (.bool true)) (.t 82), some (48, true), (u 37), []⟩,
 oF 84 (.pick (.t 48) (.t 83) (.c (.bool false))) (u 38)])
 (.cond (.t 84)
 (.seq
 (.region [] [oO 4 (.mv (.c (.bool false)))])
 .ret)
 .skip)))
 (.draw [2, 3, 5, 6, 7, 10, 16, 17, 18] [oM 85 5,
 oM 86 10,
 oF 87 (.slc 1 (.t 85) none (some (.t 86)) none) [0, 1],
 oM 88 7,
 oF 89 (.flst 3 1 [[.int .i64 0]] [(0, (.t 88))]) [3],
 oF 90 (.app 3 1 8 false (.t 87) (.t 89)) (u 5),
 oM 91 6,
 oM 92 10,
 oa 93 (.slc 1 (.t 91) none (some (.t 92)) none) [6, 7] [5],
 oM 94 7,
 oF 95 (.flst 3 1 [[.int .i64 0], [.int .i64 0]] [(0, (.t 94)), (1, (.c (.int .i64 (-1))))]) [9],
 oF 96 (.app 3 1 8 false (.t 93) (.t 95)) (u 11),
 oF 5 (.mv (.t 90)) (u 12),
 oF 6 (.mv (.t 96)) (u 13)]))))))))
 (.region [2, 3, 5, 6, 16, 17, 18] [oO 97 (.bin .add (.t 18) (.c (.int .i64 1))),
 oM 18 97]))))
/-- progeny/plain.valid -/
def c29 : CFn := ⟨98, [.t 4],
 (.seq
 (.region [0, 1] [oX 2 25 4 0,
 oX 3 30 1 1,
 oO 4 (.mv (.c (.bool false)))])
 (.seq
 (.seq
 (.region [2, 3] [ol 12 1 3,
 oO 13 (.len false (.t 12)),
 oO 14 (.bin .gtr (.t 13) (.c (.int .i64 200)))])
 (.cond (.t 14)
 (.seq
 (.region [] [oO 4 (.mv (.c (.bool false)))])
 .ret)
 .skip))
 (.seq
 (.region [2, 3] [oO 5 (.mv (.c (.nils)))])
 (.seq
 (.region [2, 3, 5] [oO 15 (.bslice 3 1 [[.int .i64 0]] [(0, (.c (.int .i64 (-1))))]),
 oM 6 15])
 (.seq
 (.seq
 (.region [2, 3, 5, 6] [ol 16 1 3,
 oO 17 (.len false (.t 16)),
 oO 18 (.mv (.c (.int .i64 0)))])
 (.block 0
 (.loop c29_l0)))
 (.seq
 (.region [] [oO 4 (.mv (.c (.bool true)))])
 .ret)))))), false, false⟩
/-- progeny/plain.forest -/
def c30 : CFn := ⟨20, [.t 6],
 (.seq
 (.region [0, 1, 2] [oX 3 25 4 0,
 oX 4 30 1 1,
 oO 6 (.mv (.c (.int .i64 0)))])
 (.seq
 (.block 0
 (.seq
 (.region [2, 3, 4] [oL 8 4 3,
 oO 9 (k1 28 8),
 oN 10 9,
 oM 7 10])
 (.cond (.t 7)
 (.seq
 (.region [] [oO 6 (.mv (.c (.int .i64 100)))])
 .ret)
 (.seq
 (.region [2, 3, 4] [oL 12 4 3,
 ol 13 1 4,
 oO 14 (k2 29 12 13),
 oN 15 14,
 oM 11 15])
 (.cond (.t 11)
 (.seq
 (.region [] [oO 6 (.mv (.c (.int .i64 120)))])
 .ret)
 (.seq
 (.region [2, 4] [oM 17 2,
 oO 18 (.mkfn 50 [(.t 4)]),
 oO 19 (k2 49 17 18),
 oM 16 19])
 (.cond (.t 16)
 (.seq
 (.region [] [oO 6 (.mv (.c (.int .i64 2)))])
 .ret)
 .skip)))))))
 (.seq
 (.region [] [oO 6 (.mv (.c (.int .i64 0)))])
 .ret))), false, false⟩
def c31_l0 : CC :=
 (.seq
 (.seq
 (.region [1, 2, 3, 7] [oM 8 2,
 oO 9 (.bin .geq (.t 8) (.c (.int .i64 0)))])
 (.cond (.t 9)
 .skip
 (.exit 0)))
 (.seq
 (.block 1
 (.region [1, 2, 3, 7] [oM 14 7,
 oM 15 2,
 oO 16 (.bslice 3 1 [[.int .i64 0]] [(0, (.t 15))]),
 oO 17 (.app 3 1 8 false (.t 14) (.t 16)),
 oM 7 17]))
 (.region [1, 2, 3, 7] [oL 10 4 3,
 oM 11 1,
 oM 12 2,
 oO 13 (k3 37 10 11 12),
 oM 2 13])))
/-- progeny/plain.path -/
def c31 : CFn := ⟨21, [.t 6],
 (.seq
 (.region [0, 1, 2] [oX 3 25 4 0,
 oO 6 (.mv (.c (.nils)))])
 (.seq
 (.region [1, 2, 3] [oO 7 (.mv (.c (.nils)))])
 (.seq
 (.block 0
 (.loop c31_l0))
 (.seq
 (.region [7] [oM 18 7,
 oO 19 (k1 51 18)])
 (.seq
 (.region [7] [oM 20 7,
 oM 6 20])
 .ret))))), false, false⟩
def c32_l0 : CC :=
 (.seq
 (.seq
 (.draw [1, 2, 3, 7] [oM 17 2,
 oM 18 1,
 oF 19 (.len false (.t 18)) [1],
 oF 20 (.bin .lss (.t 17) (.t 19)) [0, 1, 2],
 oF 21 (.mv (.t 20)) (u 4),
 ⟨(some 22), .load true 4 (.t 3), some (21, true), (u 5), []⟩,
 ⟨(some 23), .mv (.t 1), some (21, true), (u 5), []⟩,
 ⟨(some 24), .mv (.t 2), some (21, true), (u 5), []⟩,
 ⟨(some 25), .iaddr 2 (.t 23) (.t 24), some (21, true), (u 5 ++ [6, 7]), []⟩,
 ⟨(some 26), .faddr 0 (.t 25), some (21, true), (u 5 ++ [6, 7, 8]), []⟩,
 ⟨(some 27), .load false 1 (.t 26), some (21, true), (u 5 ++ [6, 7, 8, 9]), []⟩,
 ⟨(some 28), k2 52 22 27, some (21, true), (u 11), []⟩,
 ⟨(some 29), .mv (.t 7), some (21, true), (u 5), []⟩,
 ⟨(some 30), .bin .gtr (.t 28) (.t 29), some (21, true), (u 13), []⟩,
 oF 31 (.pick (.t 21) (.t 30) (.c (.bool false))) (u 14)])
 (.cond (.t 31)
 .skip
 (.exit 0)))
 (.seq
 (.block 1
 .skip)
 (.region [1, 2, 3, 7] [oM 32 2,
 oO 33 (.bin .add (.t 32) (.c (.int .i64 1))),
 oM 2 33])))
/-- progeny/plain.end -/
def c32 : CFn := ⟨35, [.t 6],
 (.seq
 (.region [0, 1, 2] [oX 3 25 4 0,
 oO 6 (.mv (.c (.int .i64 0)))])
 (.seq
 (.draw [1, 2, 3] [oL 8 4 3,
 oM 9 1,
 oM 10 2,
 oF 11 (.iaddr 2 (.t 9) (.t 10)) [1, 2],
 oF 12 (.faddr 0 (.t 11)) [1, 2, 3],
 oF 13 (.load false 1 (.t 12)) [1, 2, 3, 4],
 oF 14 (k2 52 8 13) (u 6),
 oF 7 (.mv (.t 14)) (u 7)])
 (.seq
 (.seq
 (.region [1, 2, 3, 7] [oM 15 2,
 oO 16 (.bin .add (.t 15) (.c (.int .i64 1))),
 oM 2 16])
 (.block 0
 (.loop c32_l0)))
 (.seq
 (.region [2] [oM 34 2,
 oM 6 34])
 .ret)))), false, false⟩
def c33_l0 : CC :=
 (.seq
 (.seq
 (.region [1, 2, 5] [oM 9 5,
 oM 10 1,
 oO 11 (.len false (.t 10)),
 oB 12 .lss 9 11])
 (.cond (.t 12)
 .skip
 (.exit 0)))
 (.seq
 (.block 1
 (.seq
 (.draw [1, 2, 5] [oL 15 4 2,
 oM 16 1,
 oM 17 5,
 oF 18 (.iaddr 1 (.t 16) (.t 17)) [1, 2],
 oF 19 (.load false 1 (.t 18)) [1, 2, 3],
 oF 20 (k2 53 15 19) (u 5),
 oF 21 (.un .not (.t 20)) (u 6)])
 (.cond (.t 21)
 (.seq
 (.region [] [oO 4 (.mv (.c (.int .i64 2)))])
 .ret)
 .skip)))
 (.region [1, 2, 5] [oM 13 5,
 oO 14 (.bin .add (.t 13) (.c (.int .i64 1))),
 oM 5 14])))
/-- progeny/progenyref11.asked -/
def c33 : CFn := ⟨22, [.t 4],
 (.seq
 (.region [0, 1] [oX 2 25 4 0,
 oO 4 (.mv (.c (.int .i64 0)))])
 (.seq
 (.seq
 (.region [1, 2] [oL 6 4 2,
 oO 7 (k1 5 6),
 oN 8 7])
 (.cond (.t 8)
 (.seq
 (.region [] [oO 4 (.mv (.c (.int .i64 100)))])
 .ret)
 .skip))
 (.seq
 (.seq
 (.region [1, 2] [oO 5 (.mv (.c (.int .i64 0)))])
 (.block 0
 (.loop c33_l0)))
 (.seq
 (.region [] [oO 4 (.mv (.c (.int .i64 0)))])
 .ret)))), false, false⟩
def c34_l0 : CC :=
 (.seq
 (.region [1, 3, 7, 13, 14, 15] [oB 16 .lss 15 14])
 (.seq
 (.cond (.t 16)
 .skip
 (.exit 0))
 (.seq
 (.block 1
 (.seq
 (.region [1, 3, 7, 13, 14, 15] [oI 17 1 13 15,
 ol 18 1 17,
 oM 9 18])
 (.draw [1, 3, 7, 9, 13, 14, 15] [oM 19 7,
 oA 20 2 3,
 oF 21 (.load false 1 (.t 20)) [1],
 oM 22 1,
 oM 23 9,
 oF 24 (.iaddr 2 (.t 22) (.t 23)) [3, 4],
 oF 25 (.faddr 0 (.t 24)) [3, 4, 5],
 oF 26 (.load false 1 (.t 25)) [3, 4, 5, 6],
 oF 27 (.iaddr 8 (.t 21) (.t 26)) [1, 2, 3, 4, 5, 6, 7],
 oF 28 (.load true 8 (.t 27)) [1, 2, 3, 4, 5, 6, 7, 8],
 oM 29 1,
 oM 30 9,
 oF 31 (.iaddr 2 (.t 29) (.t 30)) [10, 11],
 oF 32 (.faddr 1 (.t 31)) [10, 11, 12],
 oF 33 (.load false 1 (.t 32)) [10, 11, 12, 13],
 oF 34 (k2 39 28 33) [1, 2, 3, 4, 5, 6, 7, 8, 9, 10, 11, 12, 13, 14],
 oF 35 (.bslice 9 1 [[.str ⟨#[]⟩]] [(0, (.t 34))]) [1, 2, 3, 4, 5, 6, 7, 8, 9, 10, 11, 12, 13, 14, 15],
 oF 36 (.app 9 1 16 false (.t 19) (.t 35)) (u 17),
 oF 7 (.mv (.t 36)) (u 18)])))
 (.region [1, 3, 7, 13, 14, 15] [oO 37 (.bin .add (.t 15) (.c (.int .i64 1))),
 oM 15 37]))))
/-- progeny/plain.fullKey -/
def c34 : CFn := ⟨40, [.t 6],
 (.seq
 (.region [0, 1, 2] [oX 3 25 4 0,
 oO 6 (.mv (.c (.nils)))])
 (.seq
 (.region [1, 2, 3] [oO 7 (.mv (.c (.nils)))])
 (.seq
 (.seq
 (.region [1, 2, 3, 7] [oL 10 4 3,
 oM 11 1,
 oM 12 2,
 oO 13 (z3 31 10 11 12),
 oO 14 (.len false (.t 13)),
 oO 15 (.mv (.c (.int .i64 0)))])
 (.block 0
 (.loop c34_l0)))
 (.seq
 (.region [7] [oM 38 7,
 oO 39 (z1 54 38),
 oM 6 39])
 .ret)))), false, false⟩
def c35_l0 : CC :=
 (.seq
 (.region [0, 1, 12, 13] [oB 14 .lss 13 12])
 (.seq
 (.cond (.t 14)
 .skip
 (.exit 0))
 (.seq
 (.block 1
 (.seq
 (.region [0, 1, 12, 13] [oM 15 13,
 oM 5 15])
 (.seq
 (.draw [0, 1, 5, 12, 13] [oM 16 0,
 oM 17 5,
 oF 18 (.iaddr 1 (.t 16) (.t 17)) [0, 1],
 oF 19 (.load false 1 (.t 18)) [0, 1, 2],
 oM 20 1,
 oM 21 5,
 oF 22 (.iaddr 1 (.t 20) (.t 21)) [4, 5],
 oF 23 (.load false 1 (.t 22)) [4, 5, 6],
 oF 24 (.bin .neq (.t 19) (.t 23)) (u 8)])
 (.cond (.t 24)
 (.seq
 (.region [] [oO 4 (.mv (.c (.bool false)))])
 .ret)
 .skip))))
 (.region [0, 1, 12, 13] [oO 25 (.bin .add (.t 13) (.c (.int .i64 1))),
 oM 13 25]))))
/-- slices.Equal[[]byte,byte] -/
def c35 : CFn := ⟨26, [.t 4],
 (.seq
 (.region [0, 1] [oO 4 (.mv (.c (.bool false)))])
 (.seq
 (.seq
 (.region [0, 1] [oM 6 0,
 oO 7 (.len false (.t 6)),
 oM 8 1,
 oO 9 (.len false (.t 8)),
 oB 10 .neq 7 9])
 (.cond (.t 10)
 (.seq
 (.region [] [oO 4 (.mv (.c (.bool false)))])
 .ret)
 .skip))
 (.seq
 (.seq
 (.region [0, 1] [oM 11 0,
 oO 12 (.len false (.t 11)),
 oO 13 (.mv (.c (.int .i64 0)))])
 (.block 0
 (.loop c35_l0)))
 (.seq
 (.region [] [oO 4 (.mv (.c (.bool true)))])
 .ret)))), false, false⟩
/-- slices.Delete[[]progeny/api.Item,progeny/api.Item] -/
def c36 : CFn := ⟨33, [.t 6],
 (.seq
 (.region [0, 1, 2] [oO 6 (.mv (.c (.nils)))])
 (.seq
 (.region [0, 1, 2] [oM 8 0,
 oM 9 1,
 oM 10 2,
 oM 11 0,
 oO 12 (.len false (.t 11)),
 oO 13 (.slc 2 (.t 8) (some (.t 9)) (some (.t 10)) (some (.t 12)))])
 (.seq
 (.seq
 (.region [0, 1, 2] [oM 14 1,
 oM 15 2,
 oB 16 .eql 14 15])
 (.cond (.t 16)
 (.seq
 (.region [0] [oM 17 0,
 oM 6 17])
 .ret)
 .skip))
 (.seq
 (.region [0, 1, 2] [oM 18 0,
 oO 19 (.len false (.t 18)),
 oM 7 19])
 (.seq
 (.draw [0, 1, 2, 7] [oM 20 0,
 oM 21 1,
 oF 22 (.slc 2 (.t 20) none (some (.t 21)) none) [0, 1],
 oM 23 0,
 oM 24 2,
 oF 25 (.slc 2 (.t 23) (some (.t 24)) none none) [3, 4],
 oF 26 (.app 46 2 24 true (.t 22) (.t 25)) (u 6),
 oF 0 (.mv (.t 26)) (u 7)])
 (.seq
 (.region [0, 7] [oM 27 0,
 oM 28 0,
 oO 29 (.len false (.t 28)),
 oM 30 7,
 oO 31 (.slc 2 (.t 27) (some (.t 29)) (some (.t 30)) none),
 ⟨none, .clear 2 [.int .i64 0, .str ⟨#[]⟩] (.t 31), none, [], []⟩])
 (.seq
 (.region [0] [oM 32 0,
 oM 6 32])
 .ret))))))), false, false⟩
def c37_l0 : CC :=
 (.seq
 (.seq
 (.region [1, 2, 7] [oM 22 1,
 oM 23 2,
 oI 24 2 22 23,
 oA 25 0 24,
 ol 26 1 25,
 oM 27 7,
 oB 28 .neq 26 27])
 (.cond (.t 28)
 .skip
 (.exit 0)))
 (.seq
 (.block 1
 .skip)
 (.region [1, 2, 7] [oM 29 2,
 oO 30 (.bin .sub (.t 29) (.c (.int .i64 1))),
 oM 2 30])))
/-- progeny/plain.parent -/
def c37 : CFn := ⟨32, [.t 6],
 (.seq
 (.region [0, 1, 2] [oX 3 25 4 0,
 oO 6 (.mv (.c (.int .i64 0)))])
 (.seq
 (.draw [1, 2, 3] [oA 8 2 3,
 oF 9 (.load false 1 (.t 8)) [0],
 oM 10 1,
 oM 11 2,
 oF 12 (.iaddr 2 (.t 10) (.t 11)) [2, 3],
 oF 13 (.faddr 0 (.t 12)) [2, 3, 4],
 oF 14 (.load false 1 (.t 13)) [2, 3, 4, 5],
 oF 15 (.iaddr 8 (.t 9) (.t 14)) (u 7),
 oF 16 (.faddr 1 (.t 15)) (u 8),
 oF 17 (.load false 1 (.t 16)) (u 9),
 oF 7 (.mv (.t 17)) (u 10)])
 (.seq
 (.seq
 (.region [1, 2, 7] [oM 18 7,
 oO 19 (.bin .lss (.t 18) (.c (.int .i64 0)))])
 (.cond (.t 19)
 (.seq
 (.region [] [oO 6 (.mv (.c (.int .i64 (-1))))])
 .ret)
 .skip))
 (.seq
 (.seq
 (.region [1, 2, 7] [oM 20 2,
 oO 21 (.bin .sub (.t 20) (.c (.int .i64 1))),
 oM 2 21])
 (.block 0
 (.loop c37_l0)))
 (.seq
 (.region [2] [oM 31 2,
 oM 6 31])
 .ret))))), false, false⟩
/-- progeny/plain.fits -/
def c38 : CFn := ⟨42, [.t 4],
 (.seq
 (.region [0, 1] [oX 2 25 4 0,
 oX 3 46 2 1,
 oO 4 (.mv (.c (.bool false)))])
 (.seq
 (.draw [2, 3] [oA 5 0 3,
 oF 6 (.load false 1 (.t 5)) [0],
 oF 7 (.bin .geq (.t 6) (.c (.int .i64 0))) [0, 1],
 oF 8 (.mv (.t 7)) [0, 1, 2],
 ⟨(some 9), .faddr 0 (.t 3), some (8, true), (u 4), []⟩,
 ⟨(some 10), .load false 1 (.t 9), some (8, true), (u 5), []⟩,
 ⟨(some 11), .faddr 2 (.t 2), some (8, true), (u 4), []⟩,
 ⟨(some 12), .load false 1 (.t 11), some (8, true), (u 4 ++ [6]), []⟩,
 ⟨(some 13), .len false (.t 12), some (8, true), (u 4 ++ [6, 7]), []⟩,
 ⟨(some 14), .bin .lss (.t 10) (.t 13), some (8, true), (u 9), []⟩,
 oF 15 (.pick (.t 8) (.t 14) (.c (.bool false))) (u 10),
 oF 16 (.mv (.t 15)) (u 11),
 ⟨(some 17), .faddr 1 (.t 3), some (16, true), (u 12), []⟩,
 ⟨(some 18), .load false 1 (.t 17), some (16, true), (u 13), []⟩,
 ⟨(some 19), .len true (.t 18), some (16, true), (u 14), []⟩,
 ⟨(some 20), .faddr 2 (.t 2), some (16, true), (u 12), []⟩,
 ⟨(some 21), .load false 1 (.t 20), some (16, true), (u 12 ++ [15]), []⟩,
 ⟨(some 22), .faddr 0 (.t 3), some (16, true), (u 12), []⟩,
 ⟨(some 23), .load false 1 (.t 22), some (16, true), (u 12 ++ [17]), []⟩,
 ⟨(some 24), .iaddr 8 (.t 21) (.t 23), some (16, true), (u 12 ++ [15, 16, 17, 18]), []⟩,
 ⟨(some 25), .faddr 2 (.t 24), some (16, true), (u 12 ++ [15, 16, 17, 18, 19]), []⟩,
 ⟨(some 26), .load false 1 (.t 25), some (16, true), (u 12 ++ [15, 16, 17, 18, 19, 20]), []⟩,
 ⟨(some 27), .bin .geq (.t 19) (.t 26), some (16, true), (u 22), []⟩,
 oF 28 (.pick (.t 16) (.t 27) (.c (.bool false))) (u 23),
 oF 29 (.mv (.t 28)) (u 24),
 ⟨(some 30), .faddr 1 (.t 3), some (29, true), (u 25), []⟩,
 ⟨(some 31), .load false 1 (.t 30), some (29, true), (u 26), []⟩,
 ⟨(some 32), .len true (.t 31), some (29, true), (u 27), []⟩,
 ⟨(some 33), .faddr 2 (.t 2), some (29, true), (u 25), []⟩,
 ⟨(some 34), .load false 1 (.t 33), some (29, true), (u 25 ++ [28]), []⟩,
 ⟨(some 35), .faddr 0 (.t 3), some (29, true), (u 25), []⟩,
 ⟨(some 36), .load false 1 (.t 35), some (29, true), (u 25 ++ [30]), []⟩,
 ⟨(some 37), .iaddr 8 (.t 34) (.t 36), some (29, true), (u 25 ++ [28, 29, 30, 31]), []⟩,
 ⟨(some 38), .faddr 3 (.t 37), some (29, true), (u 25 ++ [28, 29, 30, 31, 32]), []⟩,
 ⟨(some 39), .load false 1 (.t 38), some (29, true), (u 25 ++ [28, 29, 30, 31, 32, 33]), []⟩,
 ⟨(some 40), .bin .leq (.t 32) (.t 39), some (29, true), (u 35), []⟩,
 oF 41 (.pick (.t 29) (.t 40) (.c (.bool false))) (u 36),
 oF 4 (.mv (.t 41)) (u 37)])
 .ret)), false, false⟩
/-- progeny/plain.key -/
def c39 : CFn := ⟨24, [.t 4],
 (.seq
 (.region [0, 1] [oX 2 49 8 0,
 oO 4 (.mv (.c (.str ⟨#[]⟩)))])
 (.seq
 (.seq
 (.region [1, 2] [oA 6 5 2,
 ol 7 1 6,
 oO 8 (.bin .lss (.t 7) (.c (.int .i64 0)))])
 (.cond (.t 8)
 (.seq
 (.region [] [oO 4 (.mv (.c (.str ⟨#[]⟩)))])
 .ret)
 .skip))
 (.seq
 (.region [1, 2] [oA 9 4 2,
 ol 10 1 9,
 oA 11 5 2,
 ol 12 1 11,
 oI 13 3 10 12,
 oL 14 3 13,
 oO 5 (.box 61 3 (.c (.agg [.str ⟨#[]⟩, .int .i64 0, .int .i64 0]))),
 oS 3 5 14])
 (.seq
 (.region [1, 5] [oM 15 1,
 oA 16 1 5,
 ol 17 1 16,
 oA 18 1 5,
 ol 19 1 18,
 oA 20 2 5,
 ol 21 1 20,
 oB 22 .add 19 21,
 oO 23 (.slcs (.t 15) (some (.t 17)) (some (.t 22))),
 oM 4 23])
 .ret)))), false, false⟩
def c40_l0 : CC :=
 (.seq
 (.seq
 (.region [1, 3, 8, 9, 10] [oM 22 10,
 oM 23 8,
 oB 24 .lss 22 23])
 (.cond (.t 24)
 .skip
 (.exit 0)))
 (.seq
 (.block 1
 (.region [1, 3, 8, 9, 10] [oM 29 9,
 oM 30 10,
 oO 31 (.bslice 3 1 [[.int .i64 0]] [(0, (.t 30))]),
 oO 32 (.app 3 1 8 false (.t 29) (.t 31)),
 oM 9 32]))
 (.region [1, 3, 8, 9, 10] [oL 25 4 3,
 oM 26 1,
 oM 27 10,
 oO 28 (k3 32 25 26 27),
 oM 10 28])))
/-- progeny/plain.children -/
def c40 : CFn := ⟨34, [.t 6],
 (.seq
 (.region [0, 1, 2] [oX 3 25 4 0,
 oO 6 (.mv (.c (.nils)))])
 (.seq
 (.region [1, 2, 3] [oM 11 1,
 oO 12 (.len false (.t 11)),
 oO 7 (.mv (.c (.int .i64 0))),
 oM 8 12])
 (.seq
 (.seq
 (.region [1, 2, 3, 7, 8] [oM 13 2,
 oO 14 (.bin .geq (.t 13) (.c (.int .i64 0)))])
 (.cond (.t 14)
 (.region [1, 2, 3] [oM 15 2,
 oO 16 (.bin .add (.t 15) (.c (.int .i64 1))),
 oL 17 4 3,
 oM 18 1,
 oM 19 2,
 oO 20 (k3 32 17 18 19),
 oM 7 16,
 oM 8 20])
 .skip))
 (.seq
 (.region [1, 3, 7, 8] [oO 9 (.mv (.c (.nils)))])
 (.seq
 (.seq
 (.region [1, 3, 7, 8, 9] [oM 21 7,
 oM 10 21])
 (.block 0
 (.loop c40_l0)))
 (.seq
 (.region [9] [oM 33 9,
 oM 6 33])
 .ret)))))), false, false⟩
def c43_l0 : CC :=
 (.seq
 (.region [0, 6, 7] [oB 8 .lss 7 6])
 (.seq
 (.cond (.t 8)
 .skip
 (.exit 0))
 (.seq
 (.block 1
 (.seq
 (.region [0, 6, 7] [oM 9 7,
 oM 3 9])
 (.seq
 (.region [0, 3, 6, 7] [oM 10 0,
 oM 11 3,
 oO 12 (.idx (.t 10) (.t 11)),
 oO 13 (.bin .geq (.t 12) (.c (.int .u8 65))),
 oM 14 13,
 oG 15 (.mv (.t 0)) 14 true,
 oG 16 (.mv (.t 3)) 14 true,
 oG 17 (.idx (.t 15) (.t 16)) 14 true,
 oG 18 (.bin .leq (.t 17) (.c (.int .u8 90))) 14 true,
 oO 19 (.pick (.t 14) (.t 18) (.c (.bool false))),
 oM 4 19])
 (.seq
 (.region [0, 3, 4, 6, 7] [oM 20 4,
 oN 21 20,
 oM 22 21,
 oG 23 (.mv (.t 3)) 22 true,
 oG 24 (.bin .eql (.t 23) (.c (.int .i64 0))) 22 true,
 oG 25 (.mv (.t 24)) 22 true,
 oG 26 (.mv (.t 0)) 25 false,
 oG 27 (.mv (.t 3)) 25 false,
 oG 28 (.idx (.t 26) (.t 27)) 25 false,
 oG 29 (.bin .lss (.t 28) (.c (.int .u8 48))) 25 false,
 oG 30 (.pick (.t 25) (.c (.bool true)) (.t 29)) 22 true,
 oG 31 (.mv (.t 30)) 22 true,
 oG 32 (.mv (.t 0)) 31 false,
 oG 33 (.mv (.t 3)) 31 false,
 oG 34 (.idx (.t 32) (.t 33)) 31 false,
 oG 35 (.bin .gtr (.t 34) (.c (.int .u8 57))) 31 false,
 oG 36 (.pick (.t 31) (.c (.bool true)) (.t 35)) 22 true,
 oO 37 (.pick (.t 22) (.t 36) (.c (.bool false)))])
 (.cond (.t 37)
 (.seq
 (.region [] [oO 2 (.mv (.c (.bool false)))])
 .ret)
 .skip)))))
 (.region [0, 6, 7] [oO 38 (.bin .add (.t 7) (.c (.int .i64 1))),
 oM 7 38]))))
/-- progeny/dbd.IsName -/
def c43 : CFn := ⟨47, [.t 2],
 (.seq
 (.region [0] [oO 2 (.mv (.c (.bool false)))])
 (.seq
 (.seq
 (.region [0] [oM 5 0,
 oO 6 (.len true (.t 5)),
 oO 7 (.mv (.c (.int .i64 0)))])
 (.block 0
 (.loop c43_l0)))
 (.seq
 (.region [0] [oM 39 0,
 oO 40 (.len true (.t 39)),
 oO 41 (.bin .geq (.t 40) (.c (.int .i64 1))),
 oM 42 41,
 oG 43 (.mv (.t 0)) 42 true,
 oG 44 (.len true (.t 43)) 42 true,
 oG 45 (.bin .leq (.t 44) (.c (.int .i64 8))) 42 true,
 oO 46 (.pick (.t 42) (.t 45) (.c (.bool false))),
 oM 2 46])
 .ret))), false, false⟩
def c44_l0 : CC :=
 (.seq
 (.region [0, 3, 15, 16, 17] [oB 18 .lss 17 16])
 (.seq
 (.cond (.t 18)
 .skip
 (.exit 0))
 (.seq
 (.block 1
 (.seq
 (.region [0, 3, 15, 16, 17] [oM 19 17,
 oI 20 8 15 17,
 oL 21 8 20,
 oO 5 (.box 49 8 (.c (.agg [.str ⟨#[]⟩, .int .i64 0, .int .i64 0, .int .i64 0, .nils, .int .i64 0, .bool false, .bool false]))),
 oM 4 19,
 oS 8 5 21])
 (.seq
 (.seq
 (.region [0, 3, 4, 5, 15, 16, 17] [oL 22 8 5,
 oO 23 (k1 56 22),
 oN 24 23,
 oM 25 24,
 oG 26 (.mv (.t 0)) 25 false,
 oG 27 (.mv (.t 4)) 25 false,
 oG 28 (.slc 8 (.t 26) none (some (.t 27)) none) 25 false,
 oG 29 (.mkfn 58 [(.t 5)]) 25 false,
 oG 30 (k2 57 28 29) 25 false,
 oO 31 (.pick (.t 25) (.c (.bool true)) (.t 30))])
 (.cond (.t 31)
 (.seq
 (.region [] [oO 2 (.mv (.c (.bool false)))])
 .ret)
 .skip))
 (.seq
 (.region [0, 3, 4, 5, 15, 16, 17] [oM 32 3,
 oA 33 1 5,
 ol 34 1 33,
 oO 35 (k2 59 32 34),
 oM 6 35])
 (.seq
 (.seq
 (.region [0, 3, 4, 5, 6, 15, 16, 17] [oM 36 4,
 oO 37 (.bin .eql (.t 36) (.c (.int .i64 0))),
 oM 38 37,
 oG 39 (.faddr 1 (.t 5)) 38 true,
 oG 40 (.load false 1 (.t 39)) 38 true,
 oG 41 (.bin .neq (.t 40) (.c (.int .i64 (-1)))) 38 true,
 oG 42 (.mv (.t 41)) 38 true,
 oG 43 (.faddr 5 (.t 5)) 42 false,
 oG 44 (.load false 1 (.t 43)) 42 false,
 oG 45 (.bin .lss (.t 44) (.c (.int .i64 0))) 42 false,
 oG 46 (.pick (.t 42) (.c (.bool true)) (.t 45)) 38 true,
 oG 47 (.mv (.t 46)) 38 true,
 oG 48 (.faddr 6 (.t 5)) 47 false,
 oG 49 (.load false 1 (.t 48)) 47 false,
 oG 50 (.un .not (.t 49)) 47 false,
 oG 51 (.pick (.t 47) (.c (.bool true)) (.t 50)) 38 true,
 oG 52 (.mv (.t 51)) 38 true,
 oG 53 (.faddr 4 (.t 5)) 52 false,
 oG 54 (.load false 1 (.t 53)) 52 false,
 oG 55 (.faddr 5 (.t 5)) 52 false,
 oG 56 (.load false 1 (.t 55)) 52 false,
 oG 57 (.iaddr 3 (.t 54) (.t 56)) 52 false,
 oG 58 (.faddr 2 (.t 57)) 52 false,
 oG 59 (.load false 1 (.t 58)) 52 false,
 oG 60 (.bin .gtr (.t 59) (.c (.int .i64 24))) 52 false,
 oG 61 (.pick (.t 52) (.c (.bool true)) (.t 60)) 38 true,
 oO 62 (.pick (.t 38) (.t 61) (.c (.bool false))),
 oM 63 62,
 oG 64 (.mv (.t 4)) 63 false,
 oG 65 (.bin .gtr (.t 64) (.c (.int .i64 0))) 63 false,
 oG 66 (.mv (.t 65)) 63 false,
 oG 67 (.mv (.t 6)) 66 true,
 oG 68 (.bin .lss (.t 67) (.c (.int .i64 0))) 66 true,
 oG 69 (.pick (.t 66) (.t 68) (.c (.bool false))) 63 false,
 oO 70 (.pick (.t 63) (.c (.bool true)) (.t 69))])
 (.cond (.t 70)
 (.seq
 (.region [] [oO 2 (.mv (.c (.bool false)))])
 .ret)
 .skip))
 (.seq
 (.region [0, 3, 4, 6, 15, 16, 17] [oM 71 3,
 oM 72 6,
 oO 73 (.bin .add (.t 72) (.c (.int .i64 1))),
 oO 74 (.slc 1 (.t 71) none (some (.t 73)) none),
 oM 75 4,
 oO 76 (.bslice 3 1 [[.int .i64 0]] [(0, (.t 75))]),
 oO 77 (.app 3 1 8 false (.t 74) (.t 76)),
 oM 3 77])
 (.seq
 (.region [0, 3, 15, 16, 17] [oM 78 3,
 oO 79 (.len false (.t 78)),
 oO 80 (.bin .gtr (.t 79) (.c (.int .i64 5)))])
 (.cond (.t 80)
 (.seq
 (.region [] [oO 2 (.mv (.c (.bool false)))])
 .ret)
 .skip))))))))
 (.region [0, 3, 15, 16, 17] [oO 81 (.bin .add (.t 17) (.c (.int .i64 1))),
 oM 17 81]))))
/-- progeny/dbd.areTypes -/
def c44 : CFn := ⟨82, [.t 2],
 (.seq
 (.region [0] [oO 2 (.mv (.c (.bool false)))])
 (.seq
 (.seq
 (.region [0] [oM 7 0,
 oO 8 (.len false (.t 7)),
 oO 9 (.bin .lss (.t 8) (.c (.int .i64 1))),
 oM 10 9,
 oG 11 (.mv (.t 0)) 10 false,
 oG 12 (.len false (.t 11)) 10 false,
 oG 13 (.bin .gtr (.t 12) (.c (.int .i64 8))) 10 false,
 oO 14 (.pick (.t 10) (.c (.bool true)) (.t 13))])
 (.cond (.t 14)
 (.seq
 (.region [] [oO 2 (.mv (.c (.bool false)))])
 .ret)
 .skip))
 (.seq
 (.region [0] [oO 3 (.mv (.c (.nils)))])
 (.seq
 (.seq
 (.region [0, 3] [oM 15 0,
 oO 16 (.len false (.t 15)),
 oO 17 (.mv (.c (.int .i64 0)))])
 (.block 0
 (.loop c44_l0)))
 (.seq
 (.region [] [oO 2 (.mv (.c (.bool true)))])
 .ret))))), false, false⟩
def c45_l0 : CC :=
 (.seq
 (.region [0, 1, 8, 9, 10] [oB 11 .lss 10 9])
 (.seq
 (.cond (.t 11)
 .skip
 (.exit 0))
 (.seq
 (.block 1
 (.seq
 (.region [0, 1, 8, 9, 10] [oM 12 10,
 oI 13 4 8 10,
 oL 14 4 13,
 oO 6 (.box 65 4 (.c (.agg [.str ⟨#[]⟩, .int .i64 0, .int .i64 0, .str ⟨#[]⟩]))),
 oM 5 12,
 oS 4 6 14])
 (.seq
 (.seq
 (.region [0, 1, 5, 6, 8, 9, 10] [oA 15 0 6,
 ol 16 1 15,
 oO 17 (k1 43 16),
 oN 18 17,
 oM 19 18,
 oG 20 (.faddr 1 (.t 6)) 19 false,
 oG 21 (.load false 1 (.t 20)) 19 false,
 oG 22 (.bin .lss (.t 21) (.c (.int .i64 0))) 19 false,
 oO 23 (.pick (.t 19) (.c (.bool true)) (.t 22)),
 oM 24 23,
 oG 25 (.faddr 1 (.t 6)) 24 false,
 oG 26 (.load false 1 (.t 25)) 24 false,
 oG 27 (.mv (.t 1)) 24 false,
 oG 28 (.len false (.t 27)) 24 false,
 oG 29 (.bin .geq (.t 26) (.t 28)) 24 false,
 oO 30 (.pick (.t 24) (.c (.bool true)) (.t 29)),
 oM 31 30,
 oG 32 (.faddr 3 (.t 6)) 31 false,
 oG 33 (.load false 1 (.t 32)) 31 false,
 oG 34 (.len true (.t 33)) 31 false,
 oG 35 (.bin .gtr (.t 34) (.c (.int .i64 1))) 31 false,
 oO 36 (.pick (.t 31) (.c (.bool true)) (.t 35)),
 oM 37 36,
 oG 38 (.mv (.t 0)) 37 false,
 oG 39 (.mv (.t 5)) 37 false,
 oG 40 (.slc 4 (.t 38) none (some (.t 39)) none) 37 false,
 oG 41 (.mkfn 61 [(.t 6)]) 37 false,
 oG 42 (k2 60 40 41) 37 false,
 oO 43 (.pick (.t 37) (.c (.bool true)) (.t 42))])
 (.cond (.t 43)
 (.seq
 (.region [] [oO 4 (.mv (.c (.bool false)))])
 .ret)
 .skip))
 (.seq
 (.region [0, 1, 6, 8, 9, 10] [oM 44 1,
 oA 45 1 6,
 ol 46 1 45,
 oI 47 8 44 46,
 oA 48 4 47,
 ol 49 1 48,
 oM 7 49])
 (.seq
 (.region [0, 1, 6, 7, 8, 9, 10] [oA 50 2 6,
 ol 51 1 50,
 oO 52 (.bin .lss (.t 51) (.c (.int .i64 0))),
 oM 53 52,
 oG 54 (.faddr 2 (.t 6)) 53 false,
 oG 55 (.load false 1 (.t 54)) 53 false,
 oG 56 (.mv (.t 7)) 53 false,
 oG 57 (.len false (.t 56)) 53 false,
 oG 58 (.bin .geq (.t 55) (.t 57)) 53 false,
 oO 59 (.pick (.t 53) (.c (.bool true)) (.t 58)),
 oM 60 59,
 oG 61 (.mv (.t 7)) 60 false,
 oG 62 (.faddr 2 (.t 6)) 60 false,
 oG 63 (.load false 1 (.t 62)) 60 false,
 oG 64 (.iaddr 3 (.t 61) (.t 63)) 60 false,
 oG 65 (.faddr 2 (.t 64)) 60 false,
 oG 66 (.load false 1 (.t 65)) 60 false,
 oG 67 (.bin .gtr (.t 66) (.c (.int .i64 20))) 60 false,
 oO 68 (.pick (.t 60) (.c (.bool true)) (.t 67))])
 (.cond (.t 68)
 (.seq
 (.region [] [oO 4 (.mv (.c (.bool false)))])
 .ret)
 .skip))))))
 (.region [0, 1, 8, 9, 10] [oO 69 (.bin .add (.t 10) (.c (.int .i64 1))),
 oM 10 69]))))
/-- progeny/dbd.areIndexes -/
def c45 : CFn := ⟨73, [.t 4],
 (.seq
 (.region [0, 1] [oO 4 (.mv (.c (.bool false)))])
 (.seq
 (.seq
 (.region [0, 1] [oM 8 0,
 oO 9 (.len false (.t 8)),
 oO 10 (.mv (.c (.int .i64 0)))])
 (.block 0
 (.loop c45_l0)))
 (.seq
 (.region [0] [oM 70 0,
 oO 71 (.len false (.t 70)),
 oO 72 (.bin .leq (.t 71) (.c (.int .i64 3))),
 oM 4 72])
 .ret))), false, false⟩
def c46_l0 : CC :=
 (.seq
 (.region [0, 1, 7, 8] [oB 9 .lss 8 7])
 (.seq
 (.cond (.t 9)
 .skip
 (.exit 0))
 (.seq
 (.block 1
 (.seq
 (.region [0, 1, 7, 8] [oM 10 8,
 oM 5 10])
 (.seq
 (.region [0, 1, 5, 7, 8] [oM 11 1,
 oM 12 0,
 oM 13 5,
 oI 14 1 12 13,
 ol 15 1 14,
 oO 16 (.call (.t 11) [(.t 15)] false)])
 (.cond (.t 16)
 (.seq
 (.region [5] [oM 17 5,
 oM 4 17])
 .ret)
 .skip))))
 (.region [0, 1, 7, 8] [oO 18 (.bin .add (.t 8) (.c (.int .i64 1))),
 oM 8 18]))))
/-- slices.IndexFunc[[]int,int] -/
def c46 : CFn := ⟨19, [.t 4],
 (.seq
 (.region [0, 1] [oO 4 (.mv (.c (.int .i64 0)))])
 (.seq
 (.seq
 (.region [0, 1] [oM 6 0,
 oO 7 (.len false (.t 6)),
 oO 8 (.mv (.c (.int .i64 0)))])
 (.block 0
 (.loop c46_l0)))
 (.seq
 (.region [] [oO 4 (.mv (.c (.int .i64 (-1))))])
 .ret))), false, false⟩
/-- progeny/plain.valid$1 -/
def c47 : CFn := ⟨12, [.t 4],
 (.seq
 (.region [0, 1, 2] [oO 4 (.mv (.c (.bool false)))])
 (.seq
 (.draw [0, 1, 2] [ol 5 1 1,
 oM 6 0,
 oF 7 (.iaddr 2 (.t 5) (.t 6)) [0, 1],
 oF 8 (.faddr 0 (.t 7)) [0, 1, 2],
 oF 9 (.load false 1 (.t 8)) (u 4),
 ol 10 1 2,
 oF 11 (.bin .eql (.t 9) (.t 10)) (u 6),
 oF 4 (.mv (.t 11)) (u 7)])
 .ret)), false, false⟩
/-- progeny/plain.inOrder -/
def c48 : CFn := ⟨31, [.t 6],
 (.seq
 (.region [0, 1, 2] [oX 3 49 8 0,
 oO 6 (.mv (.c (.bool false)))])
 (.seq
 (.seq
 (.region [1, 2, 3] [oA 9 5 3,
 ol 10 1 9,
 oO 11 (.bin .lss (.t 10) (.c (.int .i64 0)))])
 (.cond (.t 11)
 (.seq
 (.region [] [oO 6 (.mv (.c (.bool true)))])
 .ret)
 .skip))
 (.seq
 (.draw [1, 2, 3] [oL 12 8 3,
 oM 13 1,
 oF 14 (k2 39 12 13) [0, 1],
 oa 15 (.load true 8 (.t 3)) [] [2],
 oM 16 2,
 oF 17 (k2 39 15 16) (u 5),
 oF 7 (.mv (.t 14)) (u 6),
 oF 8 (.mv (.t 17)) (u 7)])
 (.seq
 (.region [3, 7, 8] [oM 18 7,
 oM 19 8,
 oB 20 .lss 18 19,
 oM 21 20,
 oG 22 (.mv (.t 7)) 21 false,
 oG 23 (.mv (.t 8)) 21 false,
 oG 24 (.bin .eql (.t 22) (.t 23)) 21 false,
 oG 25 (.mv (.t 24)) 21 false,
 oG 26 (.faddr 6 (.t 3)) 25 true,
 oG 27 (.load false 1 (.t 26)) 25 true,
 oG 28 (.un .not (.t 27)) 25 true,
 oG 29 (.pick (.t 25) (.t 28) (.c (.bool false))) 21 false,
 oO 30 (.pick (.t 21) (.c (.bool true)) (.t 29)),
 oM 6 30])
 .ret)))), false, false⟩
/-- slices.ContainsFunc[[]int,int] -/
def c49 : CFn := ⟨9, [.t 4],
 (.seq
 (.region [0, 1] [oO 4 (.mv (.c (.bool false)))])
 (.seq
 (.region [0, 1] [oM 5 0,
 oM 6 1,
 oO 7 (k2 46 5 6),
 oO 8 (.bin .geq (.t 7) (.c (.int .i64 0))),
 oM 4 8])
 .ret)), false, false⟩
/-- progeny/plain.forest$1 -/
def c50 : CFn := ⟨12, [.t 3],
 (.seq
 (.region [0, 1] [oO 3 (.mv (.c (.bool false)))])
 (.seq
 (.region [0, 1] [oM 4 0,
 oO 5 (.bin .lss (.t 4) (.c (.int .i64 0))),
 oM 6 5,
 oG 7 (.mv (.t 0)) 6 false,
 oG 8 (.load false 1 (.t 1)) 6 false,
 oG 9 (.len false (.t 8)) 6 false,
 oG 10 (.bin .geq (.t 7) (.t 9)) 6 false,
 oO 11 (.pick (.t 6) (.c (.bool true)) (.t 10)),
 oM 3 11])
 .ret)), false, false⟩
def c51_l0 : CC :=
 (.seq
 (.seq
 (.region [0, 2, 3] [oM 7 2,
 oM 8 3,
 oB 9 .lss 7 8])
 (.cond (.t 9)
 .skip
 (.exit 0)))
 (.seq
 (.block 1
 (.draw [0, 2, 3] [oM 14 0,
 oM 15 2,
 oM 16 0,
 oM 17 3,
 oM 18 0,
 oM 19 3,
 oF 20 (.iaddr 1 (.t 18) (.t 19)) [4, 5],
 oF 21 (.load false 1 (.t 20)) [4, 5, 6],
 oM 22 0,
 oM 23 2,
 oF 24 (.iaddr 1 (.t 22) (.t 23)) [8, 9],
 oF 25 (.load false 1 (.t 24)) [8, 9, 10],
 oF 26 (.iaddr 1 (.t 14) (.t 15)) [0, 1, 4, 5, 6, 7, 8, 9, 10, 11],
 ⟨none, .store 1 (.t 26) (.t 21), none, [0, 1, 4, 5, 6, 7, 8, 9, 10, 11, 12], []⟩,
 oF 27 (.iaddr 1 (.t 16) (.t 17)) (u 14),
 ⟨none, .store 1 (.t 27) (.t 25), none, (u 15), []⟩]))
 (.region [0, 2, 3] [oM 10 2,
 oO 11 (.bin .add (.t 10) (.c (.int .i64 1))),
 oM 12 3,
 oO 13 (.bin .sub (.t 12) (.c (.int .i64 1))),
 oM 2 11,
 oM 3 13])))
/-- slices.Reverse[[]int,int] -/
def c51 : CFn := ⟨28, [],
 (.seq
 (.region [0] [oM 4 0,
 oO 5 (.len false (.t 4)),
 oO 6 (.bin .sub (.t 5) (.c (.int .i64 1))),
 oO 2 (.mv (.c (.int .i64 0))),
 oM 3 6])
 (.block 0
 (.loop c51_l0))), false, false⟩
def c52_l0 : CC :=
 (.seq
 (.seq
 (.region [1, 2, 5] [oM 6 1,
 oO 7 (.bin .geq (.t 6) (.c (.int .i64 0)))])
 (.cond (.t 7)
 .skip
 (.exit 0)))
 (.seq
 (.block 1
 (.region [1, 2, 5] [oM 14 5,
 oO 15 (.bin .add (.t 14) (.c (.int .i64 1))),
 oM 5 15]))
 (.region [1, 2, 5] [oA 8 2 2,
 ol 9 1 8,
 oM 10 1,
 oI 11 8 9 10,
 oA 12 1 11,
 ol 13 1 12,
 oM 1 13])))
/-- progeny/plain.depth -/
def c52 : CFn := ⟨17, [.t 4],
 (.seq
 (.region [0, 1] [oX 2 25 4 0,
 oO 4 (.mv (.c (.int .i64 0)))])
 (.seq
 (.region [1, 2] [oO 5 (.mv (.c (.int .i64 0)))])
 (.seq
 (.block 0
 (.loop c52_l0))
 (.seq
 (.region [5] [oM 16 5,
 oM 4 16])
 .ret)))), false, false⟩
/-- progeny/progenyref11.isType -/
def c53 : CFn := ⟨14, [.t 4],
 (.seq
 (.region [0, 1] [oX 2 25 4 0,
 oO 4 (.mv (.c (.bool false)))])
 (.seq
 (.region [1, 2] [oM 5 1,
 oO 6 (.bin .geq (.t 5) (.c (.int .i64 0))),
 oM 7 6,
 oG 8 (.mv (.t 1)) 7 true,
 oG 9 (.faddr 2 (.t 2)) 7 true,
 oG 10 (.load false 1 (.t 9)) 7 true,
 oG 11 (.len false (.t 10)) 7 true,
 oG 12 (.bin .lss (.t 8) (.t 11)) 7 true,
 oO 13 (.pick (.t 7) (.t 12) (.c (.bool false))),
 oM 4 13])
 .ret)), false, false⟩
def c54_l0 : CC :=
 (.seq
 (.region [3, 6, 7, 8] [oB 9 .lss 8 7])
 (.seq
 (.cond (.t 9)
 .skip
 (.exit 0))
 (.seq
 (.block 1
 (.seq
 (.region [3, 6, 7, 8] [oI 10 1 6 8,
 ol 11 1 10,
 oM 5 11])
 (.seq
 (.region [3, 5, 6, 7, 8] [oM 12 3,
 oM 13 5,
 oO 14 (.call (.c (.fn 62 [])) [(.t 13), (.c (.str ⟨#[0]⟩)), (.c (.str ⟨#[0, 255]⟩))] false),
 oO 15 (.app 5 1 1 false (.t 12) (.t 14)),
 oM 3 15])
 (.region [3, 6, 7, 8] [oM 16 3,
 oO 17 (.bslice 5 1 [[.int .u8 0], [.int .u8 0]] [(0, (.c (.int .u8 0))), (1, (.c (.int .u8 1)))]),
 oO 18 (.app 5 1 1 false (.t 16) (.t 17)),
 oM 3 18]))))
 (.region [3, 6, 7, 8] [oO 19 (.bin .add (.t 8) (.c (.int .i64 1))),
 oM 8 19]))))
/-- progeny/octet.Key -/
def c54 : CFn := ⟨21, [.t 2],
 (.seq
 (.region [0] [oO 2 (.mv (.c (.nils)))])
 (.seq
 (.region [0] [oO 3 (.mv (.c (.nils)))])
 (.seq
 (.seq
 (.region [0, 3] [oM 6 0,
 oO 7 (.len false (.t 6)),
 oO 8 (.mv (.c (.int .i64 0)))])
 (.block 0
 (.loop c54_l0)))
 (.seq
 (.region [3] [oM 20 3,
 oM 2 20])
 .ret)))), false, false⟩
/-- progeny/dbd.isType -/
def c56 : CFn := ⟨70, [.t 2],
 (.seq
 (.region [0] [oX 1 49 8 0,
 oO 2 (.mv (.c (.bool false)))])
 (.seq
 (.block 0
 (.seq
 (.region [1] [oA 4 0 1,
 ol 5 1 4,
 oO 6 (k1 43 5),
 oN 7 6,
 oM 8 7,
 oG 9 (.faddr 2 (.t 1)) 8 false,
 oG 10 (.load false 1 (.t 9)) 8 false,
 oG 11 (.bin .lss (.t 10) (.c (.int .i64 1))) 8 false,
 oO 12 (.pick (.t 8) (.c (.bool true)) (.t 11)),
 oM 13 12,
 oG 14 (.faddr 2 (.t 1)) 13 false,
 oG 15 (.load false 1 (.t 14)) 13 false,
 oG 16 (.faddr 3 (.t 1)) 13 false,
 oG 17 (.load false 1 (.t 16)) 13 false,
 oG 18 (.bin .gtr (.t 15) (.t 17)) 13 false,
 oO 19 (.pick (.t 13) (.c (.bool true)) (.t 18)),
 oM 20 19,
 oG 21 (.faddr 3 (.t 1)) 20 false,
 oG 22 (.load false 1 (.t 21)) 20 false,
 oG 23 (.bin .gtr (.t 22) (.c (.int .i64 40))) 20 false,
 oO 24 (.pick (.t 20) (.c (.bool true)) (.t 23)),
 oM 25 24,
 oG 26 (.faddr 4 (.t 1)) 25 false,
 oG 27 (.load false 1 (.t 26)) 25 false,
 oG 28 (.faddr 3 (.t 1)) 25 false,
 oG 29 (.load false 1 (.t 28)) 25 false,
 oG 30 (k2 64 27 29) 25 false,
 oG 31 (.un .not (.t 30)) 25 false,
 oO 32 (.pick (.t 25) (.c (.bool true)) (.t 31)),
 oM 3 32])
 (.cond (.t 3)
 (.seq
 (.region [] [oO 2 (.mv (.c (.bool false)))])
 .ret)
 (.seq
 (.region [1] [oA 34 5 1,
 ol 35 1 34,
 oO 36 (.bin .eql (.t 35) (.c (.int .i64 (-1)))),
 oM 33 36])
 (.cond (.t 33)
 (.seq
 (.region [1] [oA 37 6 1,
 ol 38 1 37,
 oN 39 38,
 oM 2 39])
 .ret)
 (.seq
 (.region [1] [oA 41 5 1,
 ol 42 1 41,
 oO 43 (.bin .lss (.t 42) (.c (.int .i64 0))),
 oM 44 43,
 oG 45 (.faddr 5 (.t 1)) 44 false,
 oG 46 (.load false 1 (.t 45)) 44 false,
 oG 47 (.faddr 4 (.t 1)) 44 false,
 oG 48 (.load false 1 (.t 47)) 44 false,
 oG 49 (.len false (.t 48)) 44 false,
 oG 50 (.bin .geq (.t 46) (.t 49)) 44 false,
 oO 51 (.pick (.t 44) (.c (.bool true)) (.t 50)),
 oM 40 51])
 (.cond (.t 40)
 (.seq
 (.region [] [oO 2 (.mv (.c (.bool false)))])
 .ret)
 .skip)))))))
 (.seq
 (.draw [1] [oA 52 4 1,
 oF 53 (.load false 1 (.t 52)) [0],
 oA 54 5 1,
 oF 55 (.load false 1 (.t 54)) [2],
 oF 56 (.iaddr 3 (.t 53) (.t 55)) (u 4),
 oF 57 (.faddr 1 (.t 56)) (u 5),
 oF 58 (.load false 1 (.t 57)) (u 6),
 oA 59 4 1,
 oF 60 (.load false 1 (.t 59)) [7],
 oA 61 5 1,
 oF 62 (.load false 1 (.t 61)) [9],
 oF 63 (.iaddr 3 (.t 60) (.t 62)) [7, 8, 9, 10],
 oF 64 (.faddr 2 (.t 63)) [7, 8, 9, 10, 11],
 oF 65 (.load false 1 (.t 64)) [7, 8, 9, 10, 11, 12],
 oF 66 (.bin .add (.t 58) (.t 65)) (u 14),
 oA 67 2 1,
 oF 68 (.load false 1 (.t 67)) [15],
 oF 69 (.bin .leq (.t 66) (.t 68)) (u 17),
 oF 2 (.mv (.t 69)) (u 18)])
 .ret))), false, false⟩
/-- slices.ContainsFunc[[]progeny/api.Type,progeny/api.Type] -/
def c57 : CFn := ⟨9, [.t 4],
 (.seq
 (.region [0, 1] [oO 4 (.mv (.c (.bool false)))])
 (.seq
 (.region [0, 1] [oM 5 0,
 oM 6 1,
 oO 7 (k2 65 5 6),
 oO 8 (.bin .geq (.t 7) (.c (.int .i64 0))),
 oM 4 8])
 .ret)), false, false⟩
/-- progeny/dbd.areTypes$1 -/
def c58 : CFn := ⟨9, [.t 3],
 (.seq
 (.region [0, 1] [oX 2 49 8 0,
 oO 3 (.mv (.c (.bool false)))])
 (.seq
 (.region [1, 2] [oA 4 0 2,
 ol 5 1 4,
 oA 6 0 1,
 ol 7 1 6,
 oB 8 .eql 5 7,
 oM 3 8])
 .ret)), false, false⟩
def c59_l0 : CC :=
 (.seq
 (.region [0, 1, 7, 8] [oB 9 .lss 8 7])
 (.seq
 (.cond (.t 9)
 .skip
 (.exit 0))
 (.seq
 (.block 1
 (.seq
 (.region [0, 1, 7, 8] [oM 10 8,
 oM 5 10])
 (.seq
 (.region [0, 1, 5, 7, 8] [oM 11 1,
 oM 12 0,
 oM 13 5,
 oI 14 1 12 13,
 ol 15 1 14,
 oB 16 .eql 11 15])
 (.cond (.t 16)
 (.seq
 (.region [5] [oM 17 5,
 oM 4 17])
 .ret)
 .skip))))
 (.region [0, 1, 7, 8] [oO 18 (.bin .add (.t 8) (.c (.int .i64 1))),
 oM 8 18]))))
/-- slices.Index[[]int,int] -/
def c59 : CFn := ⟨19, [.t 4],
 (.seq
 (.region [0, 1] [oO 4 (.mv (.c (.int .i64 0)))])
 (.seq
 (.seq
 (.region [0, 1] [oM 6 0,
 oO 7 (.len false (.t 6)),
 oO 8 (.mv (.c (.int .i64 0)))])
 (.block 0
 (.loop c59_l0)))
 (.seq
 (.region [] [oO 4 (.mv (.c (.int .i64 (-1))))])
 .ret))), false, false⟩
/-- slices.ContainsFunc[[]progeny/api.Search,progeny/api.Search] -/
def c60 : CFn := ⟨9, [.t 4],
 (.seq
 (.region [0, 1] [oO 4 (.mv (.c (.bool false)))])
 (.seq
 (.region [0, 1] [oM 5 0,
 oM 6 1,
 oO 7 (k2 66 5 6),
 oO 8 (.bin .geq (.t 7) (.c (.int .i64 0))),
 oM 4 8])
 .ret)), false, false⟩
/-- progeny/dbd.areIndexes$1 -/
def c61 : CFn := ⟨9, [.t 3],
 (.seq
 (.region [0, 1] [oX 2 65 4 0,
 oO 3 (.mv (.c (.bool false)))])
 (.seq
 (.region [1, 2] [oA 4 0 2,
 ol 5 1 4,
 oA 6 0 1,
 ol 7 1 6,
 oB 8 .eql 5 7,
 oM 3 8])
 .ret)), false, false⟩
/-- strings.ReplaceAll -/
def c62 : CFn := ⟨0, [.t 0], .user pRepl, false, false⟩
def c64_l0 : CC :=
 (.seq
 (.region [0, 1, 7, 8, 9] [oB 10 .lss 9 8])
 (.seq
 (.cond (.t 10)
 .skip
 (.exit 0))
 (.seq
 (.block 1
 (.seq
 (.region [0, 1, 7, 8, 9] [oM 11 9,
 oI 12 3 7 9,
 oL 13 3 12,
 oO 6 (.box 61 3 (.c (.agg [.str ⟨#[]⟩, .int .i64 0, .int .i64 0]))),
 oM 5 11,
 oS 3 6 13])
 (.seq
 (.seq
 (.region [0, 1, 5, 6, 7, 8, 9] [oA 14 0 6,
 ol 15 1 14,
 oO 16 (k1 43 15),
 oN 17 16,
 oM 18 17,
 oG 19 (.faddr 1 (.t 6)) 18 false,
 oG 20 (.load false 1 (.t 19)) 18 false,
 oG 21 (.bin .lss (.t 20) (.c (.int .i64 0))) 18 false,
 oO 22 (.pick (.t 18) (.c (.bool true)) (.t 21)),
 oM 23 22,
 oG 24 (.faddr 1 (.t 6)) 23 false,
 oG 25 (.load false 1 (.t 24)) 23 false,
 oG 26 (.mv (.t 1)) 23 false,
 oG 27 (.bin .geq (.t 25) (.t 26)) 23 false,
 oO 28 (.pick (.t 23) (.c (.bool true)) (.t 27)),
 oM 29 28,
 oG 30 (.faddr 2 (.t 6)) 29 false,
 oG 31 (.load false 1 (.t 30)) 29 false,
 oG 32 (.bin .lss (.t 31) (.c (.int .i64 1))) 29 false,
 oO 33 (.pick (.t 29) (.c (.bool true)) (.t 32)),
 oM 34 33,
 oG 35 (.faddr 2 (.t 6)) 34 false,
 oG 36 (.load false 1 (.t 35)) 34 false,
 oG 37 (.mv (.t 1)) 34 false,
 oG 38 (.faddr 1 (.t 6)) 34 false,
 oG 39 (.load false 1 (.t 38)) 34 false,
 oG 40 (.bin .sub (.t 37) (.t 39)) 34 false,
 oG 41 (.bin .gtr (.t 36) (.t 40)) 34 false,
 oO 42 (.pick (.t 34) (.c (.bool true)) (.t 41))])
 (.cond (.t 42)
 (.seq
 (.region [] [oO 4 (.mv (.c (.bool false)))])
 .ret)
 .skip))
 (.seq
 (.region [0, 1, 5, 6, 7, 8, 9] [oM 43 0,
 oM 44 5,
 oO 45 (.slc 3 (.t 43) none (some (.t 44)) none),
 oO 46 (.mkfn 69 [(.t 6)]),
 oO 47 (k2 68 45 46)])
 (.cond (.t 47)
 (.seq
 (.region [] [oO 4 (.mv (.c (.bool false)))])
 .ret)
 .skip)))))
 (.region [0, 1, 7, 8, 9] [oO 48 (.bin .add (.t 9) (.c (.int .i64 1))),
 oM 9 48]))))
/-- progeny/dbd.areFields -/
def c64 : CFn := ⟨52, [.t 4],
 (.seq
 (.region [0, 1] [oO 4 (.mv (.c (.bool false)))])
 (.seq
 (.seq
 (.region [0, 1] [oM 7 0,
 oO 8 (.len false (.t 7)),
 oO 9 (.mv (.c (.int .i64 0)))])
 (.block 0
 (.loop c64_l0)))
 (.seq
 (.region [0] [oM 49 0,
 oO 50 (.len false (.t 49)),
 oO 51 (.bin .leq (.t 50) (.c (.int .i64 5))),
 oM 4 51])
 .ret))), false, false⟩
def c65_l0 : CC :=
 (.seq
 (.region [0, 1, 7, 8] [oB 9 .lss 8 7])
 (.seq
 (.cond (.t 9)
 .skip
 (.exit 0))
 (.seq
 (.block 1
 (.seq
 (.region [0, 1, 7, 8] [oM 10 8,
 oM 5 10])
 (.seq
 (.region [0, 1, 5, 7, 8] [oM 11 1,
 oM 12 0,
 oM 13 5,
 oI 14 8 12 13,
 oL 15 8 14,
 oO 16 (.call (.t 11) [(.t 15)] false)])
 (.cond (.t 16)
 (.seq
 (.region [5] [oM 17 5,
 oM 4 17])
 .ret)
 .skip))))
 (.region [0, 1, 7, 8] [oO 18 (.bin .add (.t 8) (.c (.int .i64 1))),
 oM 8 18]))))
/-- slices.IndexFunc[[]progeny/api.Type,progeny/api.Type] -/
def c65 : CFn := ⟨19, [.t 4],
 (.seq
 (.region [0, 1] [oO 4 (.mv (.c (.int .i64 0)))])
 (.seq
 (.seq
 (.region [0, 1] [oM 6 0,
 oO 7 (.len false (.t 6)),
 oO 8 (.mv (.c (.int .i64 0)))])
 (.block 0
 (.loop c65_l0)))
 (.seq
 (.region [] [oO 4 (.mv (.c (.int .i64 (-1))))])
 .ret))), false, false⟩
def c66_l0 : CC :=
 (.seq
 (.region [0, 1, 7, 8] [oB 9 .lss 8 7])
 (.seq
 (.cond (.t 9)
 .skip
 (.exit 0))
 (.seq
 (.block 1
 (.seq
 (.region [0, 1, 7, 8] [oM 10 8,
 oM 5 10])
 (.seq
 (.region [0, 1, 5, 7, 8] [oM 11 1,
 oM 12 0,
 oM 13 5,
 oI 14 4 12 13,
 oL 15 4 14,
 oO 16 (.call (.t 11) [(.t 15)] false)])
 (.cond (.t 16)
 (.seq
 (.region [5] [oM 17 5,
 oM 4 17])
 .ret)
 .skip))))
 (.region [0, 1, 7, 8] [oO 18 (.bin .add (.t 8) (.c (.int .i64 1))),
 oM 8 18]))))
/-- slices.IndexFunc[[]progeny/api.Search,progeny/api.Search] -/
def c66 : CFn := ⟨19, [.t 4],
 (.seq
 (.region [0, 1] [oO 4 (.mv (.c (.int .i64 0)))])
 (.seq
 (.seq
 (.region [0, 1] [oM 6 0,
 oO 7 (.len false (.t 6)),
 oO 8 (.mv (.c (.int .i64 0)))])
 (.block 0
 (.loop c66_l0)))
 (.seq
 (.region [] [oO 4 (.mv (.c (.int .i64 (-1))))])
 .ret))), false, false⟩
/-- slices.ContainsFunc[[]progeny/api.Field,progeny/api.Field] -/
def c68 : CFn := ⟨9, [.t 4],
 (.seq
 (.region [0, 1] [oO 4 (.mv (.c (.bool false)))])
 (.seq
 (.region [0, 1] [oM 5 0,
 oM 6 1,
 oO 7 (k2 76 5 6),
 oO 8 (.bin .geq (.t 7) (.c (.int .i64 0))),
 oM 4 8])
 .ret)), false, false⟩
/-- progeny/dbd.areFields$1 -/
def c69 : CFn := ⟨9, [.t 3],
 (.seq
 (.region [0, 1] [oX 2 61 3 0,
 oO 3 (.mv (.c (.bool false)))])
 (.seq
 (.region [1, 2] [oA 4 0 2,
 ol 5 1 4,
 oA 6 0 1,
 ol 7 1 6,
 oB 8 .eql 5 7,
 oM 3 8])
 .ret)), false, false⟩
def c76_l0 : CC :=
 (.seq
 (.region [0, 1, 7, 8] [oB 9 .lss 8 7])
 (.seq
 (.cond (.t 9)
 .skip
 (.exit 0))
 (.seq
 (.block 1
 (.seq
 (.region [0, 1, 7, 8] [oM 10 8,
 oM 5 10])
 (.seq
 (.region [0, 1, 5, 7, 8] [oM 11 1,
 oM 12 0,
 oM 13 5,
 oI 14 3 12 13,
 oL 15 3 14,
 oO 16 (.call (.t 11) [(.t 15)] false)])
 (.cond (.t 16)
 (.seq
 (.region [5] [oM 17 5,
 oM 4 17])
 .ret)
 .skip))))
 (.region [0, 1, 7, 8] [oO 18 (.bin .add (.t 8) (.c (.int .i64 1))),
 oM 8 18]))))
/-- slices.IndexFunc[[]progeny/api.Field,progeny/api.Field] -/
def c76 : CFn := ⟨19, [.t 4],
 (.seq
 (.region [0, 1] [oO 4 (.mv (.c (.int .i64 0)))])
 (.seq
 (.seq
 (.region [0, 1] [oM 6 0,
 oO 7 (.len false (.t 6)),
 oO 8 (.mv (.c (.int .i64 0)))])
 (.block 0
 (.loop c76_l0)))
 (.seq
 (.region [] [oO 4 (.mv (.c (.int .i64 (-1))))])
 .ret))), false, false⟩

def ctab : List (Nat × CFn) := [(3, c3), (4, c4), (5, c5), (6, c6), (7, c7), (8, c8), (9, c9), (10, c10), (11, c11), (12, c12), (13, c13), (14, c14), (15, c15), (16, c16), (17, c17), (18, c18), (19, c19), (20, c20), (21, c21), (22, c22), (23, c23), (24, c24), (25, c25), (27, c27), (28, c28), (29, c29), (30, c30), (31, c31), (32, c32), (33, c33), (34, c34), (35, c35), (36, c36), (37, c37), (38, c38), (39, c39), (40, c40), (43, c43), (44, c44), (45, c45), (46, c46), (47, c47), (48, c48), (49, c49), (50, c50), (51, c51), (52, c52), (53, c53), (54, c54), (56, c56), (57, c57), (58, c58), (59, c59), (60, c60), (61, c61), (64, c64), (65, c65), (66, c66), (68, c68), (69, c69), (76, c76)]
def utab : List (Nat × CFn) := [(26, c26), (62, c62)]
def cprog (f : Nat) : Option CFn := ((ctab ++ utab).find? fun p => p.1 == f).map (·.2)
theorem ok_all : ctab.all (fun p => okFn Go.Proofs.Tryd.prog p.1 p.2) = true := by kernel_rfl
theorem cprog_ok {f : Nat} {c : CFn} (h : cprog f = some c) : okFn Go.Proofs.Tryd.prog f c = true ∨ (f, c) ∈ utab := by
  unfold cprog at h
  cases hf : (ctab ++ utab).find? fun p => p.1 == f with
  | none => rw [hf] at h; cases h
  | some p =>
    rw [hf] at h
    simp only [Option.map_some, Option.some.injEq] at h
    have h1 := List.mem_of_find?_eq_some hf
    have h2 := List.find?_some hf
    simp only [beq_iff_eq] at h2
    rcases List.mem_append.1 h1 with h1 | h1
    · have h3 := List.all_eq_true.1 ok_all p h1
      rw [← h, ← h2]; exact .inl h3
    · rw [← h, ← h2]; exact .inr h1
theorem at3 : cprog 3 = some c3 := rfl
theorem at4 : cprog 4 = some c4 := rfl
theorem at5 : cprog 5 = some c5 := rfl
theorem at6 : cprog 6 = some c6 := rfl
theorem at7 : cprog 7 = some c7 := rfl
theorem at8 : cprog 8 = some c8 := rfl
theorem at9 : cprog 9 = some c9 := rfl
theorem at10 : cprog 10 = some c10 := rfl
theorem at11 : cprog 11 = some c11 := rfl
theorem at12 : cprog 12 = some c12 := rfl
theorem at13 : cprog 13 = some c13 := rfl
theorem at14 : cprog 14 = some c14 := rfl
theorem at15 : cprog 15 = some c15 := rfl
theorem at16 : cprog 16 = some c16 := rfl
theorem at17 : cprog 17 = some c17 := rfl
theorem at18 : cprog 18 = some c18 := rfl
theorem at19 : cprog 19 = some c19 := rfl
theorem at20 : cprog 20 = some c20 := rfl
theorem at21 : cprog 21 = some c21 := rfl
theorem at22 : cprog 22 = some c22 := rfl
theorem at23 : cprog 23 = some c23 := rfl
theorem at24 : cprog 24 = some c24 := rfl
theorem at25 : cprog 25 = some c25 := rfl
theorem at26 : cprog 26 = some c26 := rfl
theorem at27 : cprog 27 = some c27 := rfl
theorem at28 : cprog 28 = some c28 := rfl
theorem at29 : cprog 29 = some c29 := rfl
theorem at30 : cprog 30 = some c30 := rfl
theorem at31 : cprog 31 = some c31 := rfl
theorem at32 : cprog 32 = some c32 := rfl
theorem at33 : cprog 33 = some c33 := rfl
theorem at34 : cprog 34 = some c34 := rfl
theorem at35 : cprog 35 = some c35 := rfl
theorem at36 : cprog 36 = some c36 := rfl
theorem at37 : cprog 37 = some c37 := rfl
theorem at38 : cprog 38 = some c38 := rfl
theorem at39 : cprog 39 = some c39 := rfl
theorem at40 : cprog 40 = some c40 := rfl
theorem at43 : cprog 43 = some c43 := rfl
theorem at44 : cprog 44 = some c44 := rfl
theorem at45 : cprog 45 = some c45 := rfl
theorem at46 : cprog 46 = some c46 := rfl
theorem at47 : cprog 47 = some c47 := rfl
theorem at48 : cprog 48 = some c48 := rfl
theorem at49 : cprog 49 = some c49 := rfl
theorem at50 : cprog 50 = some c50 := rfl
theorem at51 : cprog 51 = some c51 := rfl
theorem at52 : cprog 52 = some c52 := rfl
theorem at53 : cprog 53 = some c53 := rfl
theorem at54 : cprog 54 = some c54 := rfl
theorem at56 : cprog 56 = some c56 := rfl
theorem at57 : cprog 57 = some c57 := rfl
theorem at58 : cprog 58 = some c58 := rfl
theorem at59 : cprog 59 = some c59 := rfl
theorem at60 : cprog 60 = some c60 := rfl
theorem at61 : cprog 61 = some c61 := rfl
theorem at62 : cprog 62 = some c62 := rfl
theorem at64 : cprog 64 = some c64 := rfl
theorem at65 : cprog 65 = some c65 := rfl
theorem at66 : cprog 66 = some c66 := rfl
theorem at68 : cprog 68 = some c68 := rfl
theorem at69 : cprog 69 = some c69 := rfl
theorem at76 : cprog 76 = some c76 := rfl
end Go.Proofs.YtondenmkhfignaaDoor.Code
