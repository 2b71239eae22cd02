/- The compact code of the functions, printed by a program of ours (gen.py); the kernel checks it against the program's own form. -/
import Derived.Test.YtbchmbddcdionaaWeI
import Derived.Test.YtbchmbddcdionaaProg
import Derived.KernelRfl
namespace Go.Proofs.Ytbchmbddcdionaa.Code
open Go.Proofs.Ytbchmbddcdionaa.Ev
abbrev u (n : Nat) : List Nat := List.range n
abbrev oO (d : Nat) (o : CO) : COp := ⟨some d, o, none, [], []⟩
abbrev oF (d : Nat) (o : CO) (bf : List Nat) : COp := ⟨some d, o, none, bf, []⟩
abbrev oG (d : Nat) (o : CO) (i : Nat) (b : Bool) : COp := ⟨some d, o, some (i, b), [], []⟩
abbrev oM (d x : Nat) : COp := ⟨some d, .mv (.t x), none, [], []⟩
abbrev ol (d z x : Nat) : COp := ⟨some d, .load false z (.t x), none, [], []⟩
abbrev oL (d z x : Nat) : COp := ⟨some d, .load true z (.t x), none, [], []⟩
abbrev oA (d o x : Nat) : COp := ⟨some d, .faddr o (.t x), none, [], []⟩
abbrev oI (d z x y : Nat) : COp := ⟨some d, .iaddr z (.t x) (.t y), none, [], []⟩
abbrev oE (d x k : Nat) : COp := ⟨some d, .extract (.t x) k, none, [], []⟩
abbrev oB (d : Nat) (p : BinOp) (x y : Nat) : COp := ⟨some d, .bin p (.t x) (.t y), none, [], []⟩
abbrev oN (d x : Nat) : COp := ⟨some d, .un .not (.t x), none, [], []⟩
abbrev oX (d y z x : Nat) : COp := ⟨some d, .box y z (.t x), none, [], []⟩
abbrev oS (z x y : Nat) : COp := ⟨none, .store z (.t x) (.t y), none, [], []⟩
abbrev oa (d : Nat) (o : CO) (bf alts : List Nat) : COp := ⟨some d, o, none, bf, alts⟩
abbrev k0 (f : Nat) : CO := .call (.c (.fn f [])) [] false
abbrev k1 (f a : Nat) : CO := .call (.c (.fn f [])) [.t a] false
abbrev k2 (f a b : Nat) : CO := .call (.c (.fn f [])) [.t a, .t b] false
abbrev k3 (f a b c : Nat) : CO := .call (.c (.fn f [])) [.t a, .t b, .t c] false
abbrev k4 (f a b c d : Nat) : CO := .call (.c (.fn f [])) [.t a, .t b, .t c, .t d] false
abbrev k5 (f a b c d e : Nat) : CO := .call (.c (.fn f [])) [.t a, .t b, .t c, .t d, .t e] false
abbrev k6 (f a b c d e g : Nat) : CO := .call (.c (.fn f [])) [.t a, .t b, .t c, .t d, .t e, .t g] false
abbrev z1 (f a : Nat) : CO := .call (.c (.fn f [])) [.t a] true
abbrev z2 (f a b : Nat) : CO := .call (.c (.fn f [])) [.t a, .t b] true
abbrev z3 (f a b c : Nat) : CO := .call (.c (.fn f [])) [.t a, .t b, .t c] true
abbrev z4 (f a b c d : Nat) : CO := .call (.c (.fn f [])) [.t a, .t b, .t c, .t d] true
abbrev z5 (f a b c d e : Nat) : CO := .call (.c (.fn f [])) [.t a, .t b, .t c, .t d, .t e] true
abbrev z6 (f a b c d e g : Nat) : CO := .call (.c (.fn f [])) [.t a, .t b, .t c, .t d, .t e, .t g] true
/-- progeny/progenylaw19.LogicRules -/
def c8 : CFn := ⟨245, [.t 6],
 (.seq
 (.region [0, 1, 2] [oX 3 30 13 0,
 oX 4 55 3 1,
 oO 6 (.mv (.c (.bool false)))])
 (.seq
 (.seq
 (.region [2, 3, 4] [oL 22 13 3,
 oO 23 (k1 9 22),
 oN 24 23,
 oM 25 24,
 oG 26 (.mv (.t 2)) 25 false,
 oG 27 (.len true (.t 26)) 25 false,
 oG 28 (.bin .gtr (.t 27) (.c (.int .i64 100))) 25 false,
 oO 29 (.pick (.t 25) (.c (.bool true)) (.t 28)),
 oM 30 29,
 oG 31 (.faddr 0 (.t 3)) 30 false,
 oG 32 (.load true 4 (.t 31)) 30 false,
 oG 33 (.faddr 4 (.t 3)) 30 false,
 oG 34 (.load true 4 (.t 33)) 30 false,
 oG 35 (.faddr 8 (.t 3)) 30 false,
 oG 36 (.load true 3 (.t 35)) 30 false,
 oG 37 (.faddr 11 (.t 3)) 30 false,
 oG 38 (.load false 1 (.t 37)) 30 false,
 oG 39 (.faddr 12 (.t 3)) 30 false,
 oG 40 (.load false 1 (.t 39)) 30 false,
 oG 41 (k5 18 32 34 36 38 40) 30 false,
 oG 42 (.bin .neq (.t 41) (.c (.int .i64 0))) 30 false,
 oO 43 (.pick (.t 30) (.c (.bool true)) (.t 42))])
 (.cond (.t 43)
 (.seq
 (.region [] [oO 44 (k0 10),
 oM 6 44])
 .ret)
 .skip))
 (.seq
 (.seq
 (.region [2, 3, 4] [oA 46 0 3,
 oL 47 4 46,
 oA 48 4 3,
 oL 49 4 48,
 oA 50 8 3,
 oL 51 3 50,
 oA 52 11 3,
 ol 53 1 52,
 oA 54 12 3,
 ol 55 1 54,
 oO 56 (.iaddrA 1 3 (.t 4) (.c (.int .i64 0))),
 ol 57 1 56,
 oO 58 (.iaddrA 1 3 (.t 4) (.c (.int .i64 1))),
 ol 59 1 58,
 oM 60 2,
 oO 61 (.call (.c (.fn 32 [])) [(.t 47), (.t 49), (.t 51), (.t 53), (.t 55), (.t 57), (.t 59), (.t 60)] true),
 oM 45 61,
 oE 62 45 0,
 oE 63 45 1,
 oE 64 45 2,
 oM 7 62,
 oM 8 63,
 oM 9 64])
 (.seq
 (.region [3, 4, 7, 9] [oM 65 9,
 oO 66 (.bin .eql (.t 65) (.c (.int .i64 0)))])
 (.cond (.t 66)
 (.seq
 (.region [3, 4, 7] [oA 68 0 3,
 oL 69 4 68,
 oA 70 4 3,
 oL 71 4 70,
 oA 72 8 3,
 oL 73 3 72,
 oM 74 7,
 oA 75 12 3,
 ol 76 1 75,
 oO 77 (k5 16 69 71 73 74 76),
 oM 67 77,
 oE 78 67 0,
 oE 79 67 1,
 oM 10 78,
 oM 11 79])
 (.seq
 (.region [3, 4, 10, 11] [oM 80 11,
 oO 81 (.bin .neq (.t 80) (.c (.int .i64 0))),
 oM 82 81,
 oG 83 (.mv (.t 10)) 82 false,
 oG 84 (.un .not (.t 83)) 82 false,
 oO 85 (.pick (.t 82) (.c (.bool true)) (.t 84))])
 (.cond (.t 85)
 (.seq
 (.region [] [oO 6 (.mv (.c (.bool false)))])
 .ret)
 .skip)))
 .skip)))
 (.seq
 (.region [3, 4] [oO 86 (.iaddrA 1 3 (.t 4) (.c (.int .i64 2))),
 ol 87 1 86,
 oM 12 87])
 (.seq
 (.seq
 (.region [3, 12] [oM 88 12,
 oO 89 (.bin .lss (.t 88) (.c (.int .i64 0))),
 oM 90 89,
 oG 91 (.mv (.t 12)) 90 false,
 oG 92 (.faddr 12 (.t 3)) 90 false,
 oG 93 (.load false 1 (.t 92)) 90 false,
 oG 94 (.len false (.t 93)) 90 false,
 oG 95 (.bin .geq (.t 91) (.t 94)) 90 false,
 oO 96 (.pick (.t 90) (.c (.bool true)) (.t 95)),
 oM 97 96,
 oG 98 (.faddr 12 (.t 3)) 97 false,
 oG 99 (.load false 1 (.t 98)) 97 false,
 oG 100 (.mv (.t 12)) 97 false,
 oG 101 (.iaddr 2 (.t 99) (.t 100)) 97 false,
 oG 102 (.faddr 0 (.t 101)) 97 false,
 oG 103 (.load false 1 (.t 102)) 97 false,
 oG 104 (.bin .neq (.t 103) (.c (.int .i64 0))) 97 false,
 oO 105 (.pick (.t 97) (.c (.bool true)) (.t 104))])
 (.cond (.t 105)
 (.seq
 (.region [] [oO 106 (k0 10),
 oM 6 106])
 .ret)
 .skip))
 (.seq
 (.region [3, 12] [oA 108 0 3,
 oL 109 4 108,
 oA 110 4 3,
 oL 111 4 110,
 oA 112 8 3,
 oL 113 3 112,
 oA 114 11 3,
 ol 115 1 114,
 oA 116 12 3,
 ol 117 1 116,
 oM 118 12,
 oO 119 (z6 19 109 111 113 115 117 118),
 oM 107 119,
 oE 120 107 0,
 oE 121 107 1,
 oM 13 120,
 oM 14 121])
 (.seq
 (.region [3, 12, 13, 14] [oA 123 0 3,
 oL 124 4 123,
 oA 125 4 3,
 oL 126 4 125,
 oA 127 8 3,
 oL 128 3 127,
 oA 129 11 3,
 ol 130 1 129,
 oA 131 12 3,
 ol 132 1 131,
 oO 133 (z5 21 124 126 128 130 132),
 oM 122 133,
 oE 134 122 0,
 oE 135 122 1,
 oM 15 134,
 oM 16 135])
 (.seq
 (.region [3, 12, 13, 14, 15, 16] [oA 137 0 3,
 oL 138 4 137,
 oA 139 4 3,
 oL 140 4 139,
 oA 141 8 3,
 oL 142 3 141,
 oA 143 11 3,
 ol 144 1 143,
 oA 145 12 3,
 ol 146 1 145,
 oM 147 12,
 oO 148 (z6 11 138 140 142 144 146 147),
 oM 136 148,
 oE 149 136 0,
 oE 150 136 1,
 oE 151 136 2,
 oM 17 149,
 oM 18 150,
 oM 19 151])
 (.seq
 (.seq
 (.region [3, 13, 14, 15, 16, 17, 18, 19] [oM 152 14,
 oO 153 (.bin .neq (.t 152) (.c (.int .i64 0))),
 oM 154 153,
 oG 155 (.mv (.t 16)) 154 false,
 oG 156 (.bin .neq (.t 155) (.c (.int .i64 0))) 154 false,
 oO 157 (.pick (.t 154) (.c (.bool true)) (.t 156))])
 (.cond (.t 157)
 (.seq
 (.region [] [oO 6 (.mv (.c (.bool false)))])
 .ret)
 .skip))
 (.seq
 (.seq
 (.region [3, 13, 15, 17, 18, 19] [oA 158 8 3,
 oA 159 2 158,
 ol 160 1 159,
 oO 161 (.bin .eql (.t 160) (.c (.str ⟨#[80]⟩))),
 oM 162 161,
 oG 163 (.mv (.t 13)) 162 true,
 oG 164 (.len false (.t 163)) 162 true,
 oG 165 (.bin .gtr (.t 164) (.c (.int .i64 0))) 162 true,
 oO 166 (.pick (.t 162) (.t 165) (.c (.bool false)))])
 (.cond (.t 166)
 (.seq
 (.region [19] [oM 167 19,
 oO 168 (.bin .eql (.t 167) (.c (.int .i64 181))),
 oM 169 168,
 oG 170 (k0 10) 169 true,
 oO 171 (.pick (.t 169) (.t 170) (.c (.bool false))),
 oM 6 171])
 .ret)
 .skip))
 (.seq
 (.seq
 (.region [3, 13, 15, 17, 18, 19] [oM 172 19,
 oO 173 (.bin .neq (.t 172) (.c (.int .i64 0)))])
 (.cond (.t 173)
 (.seq
 (.region [] [oO 6 (.mv (.c (.bool false)))])
 .ret)
 .skip))
 (.seq
 (.region [3, 13, 15, 17, 18] [oA 175 0 3,
 oL 176 4 175,
 oA 177 4 3,
 oL 178 4 177,
 oA 179 8 3,
 oL 180 3 179,
 oM 181 17,
 oM 182 18,
 oO 183 (k5 16 176 178 180 181 182),
 oM 174 183,
 oE 184 174 0,
 oE 185 174 1,
 oM 20 184,
 oM 14 185])
 (.seq
 (.region [3, 13, 14, 15, 17, 18, 20] [oA 187 0 3,
 oL 188 4 187,
 oA 189 4 3,
 oL 190 4 189,
 oA 191 8 3,
 oL 192 3 191,
 oM 193 17,
 oM 194 18,
 oO 195 (z5 21 188 190 192 193 194),
 oM 186 195,
 oE 196 186 0,
 oE 197 186 1,
 oM 21 196,
 oM 16 197])
 (.seq
 (.seq
 (.region [3, 13, 14, 15, 16, 17, 20, 21] [oM 198 14,
 oO 199 (.bin .neq (.t 198) (.c (.int .i64 0))),
 oM 200 199,
 oG 201 (.mv (.t 16)) 200 false,
 oG 202 (.bin .neq (.t 201) (.c (.int .i64 0))) 200 false,
 oO 203 (.pick (.t 200) (.c (.bool true)) (.t 202)),
 oM 204 203,
 oG 205 (.mv (.t 20)) 204 false,
 oG 206 (.un .not (.t 205)) 204 false,
 oO 207 (.pick (.t 204) (.c (.bool true)) (.t 206))])
 (.cond (.t 207)
 (.seq
 (.region [] [oO 6 (.mv (.c (.bool false)))])
 .ret)
 .skip))
 (.seq
 (.seq
 (.region [3, 13, 15, 17, 21] [oA 208 8 3,
 oA 209 2 208,
 ol 210 1 209])
 (.block 0
 (.seq
 (.region [3, 13, 15, 17, 21, 210] [oO 212 (.bin .eql (.t 210) (.c (.str ⟨#[76]⟩))),
 oM 211 212])
 (.cond (.t 211)
 (.seq
 (.region [3, 13, 15, 17, 21] [oM 213 21,
 oO 214 (.len false (.t 213)),
 oM 215 15,
 oO 216 (.len false (.t 215)),
 oM 217 13,
 oO 218 (.len false (.t 217)),
 oB 219 .add 216 218,
 oB 220 .eql 214 219,
 oM 221 220,
 oG 222 (.mv (.t 17)) 221 true,
 oG 223 (.faddr 11 (.t 3)) 221 true,
 oG 224 (.load false 1 (.t 223)) 221 true,
 oG 225 (k2 13 222 224) 221 true,
 oO 226 (.pick (.t 221) (.t 225) (.c (.bool false))),
 oM 227 226,
 oG 228 (k0 10) 227 true,
 oO 229 (.pick (.t 227) (.t 228) (.c (.bool false))),
 oM 6 229])
 .ret)
 (.seq
 (.region [3, 17, 21, 210] [oO 231 (.bin .eql (.t 210) (.c (.str ⟨#[86]⟩))),
 oM 230 231])
 (.cond (.t 230)
 (.seq
 (.region [21] [oM 232 21,
 oO 233 (.len false (.t 232)),
 oO 234 (.bin .eql (.t 233) (.c (.int .i64 0))),
 oM 235 234,
 oG 236 (k0 10) 235 true,
 oO 237 (.pick (.t 235) (.t 236) (.c (.bool false))),
 oM 6 237])
 .ret)
 .skip))))))
 (.seq
 (.region [3, 17] [oM 238 17,
 oA 239 11 3,
 ol 240 1 239,
 oO 241 (k2 13 238 240),
 oM 242 241,
 oG 243 (k0 10) 242 true,
 oO 244 (.pick (.t 242) (.t 243) (.c (.bool false))),
 oM 6 244])
 .ret)))))))))))))))), false, false⟩
/-- progeny/progenylaw19.Small -/
def c9 : CFn := ⟨27, [.t 2],
 (.seq
 (.region [0] [oX 1 30 13 0,
 oO 2 (.mv (.c (.bool false)))])
 (.seq
 (.region [1] [oA 3 0 1,
 oL 4 4 3,
 oA 5 11 1,
 ol 6 1 5,
 oO 7 (k2 33 4 6),
 oM 8 7,
 oG 9 (.faddr 4 (.t 1)) 8 true,
 oG 10 (.load true 4 (.t 9)) 8 true,
 oG 11 (.faddr 12 (.t 1)) 8 true,
 oG 12 (.load false 1 (.t 11)) 8 true,
 oG 13 (k2 33 10 12) 8 true,
 oO 14 (.pick (.t 8) (.t 13) (.c (.bool false))),
 oM 15 14,
 oG 16 (.faddr 11 (.t 1)) 15 true,
 oG 17 (.load false 1 (.t 16)) 15 true,
 oG 18 (.len false (.t 17)) 15 true,
 oG 19 (.bin .leq (.t 18) (.c (.int .i64 40))) 15 true,
 oO 20 (.pick (.t 15) (.t 19) (.c (.bool false))),
 oM 21 20,
 oG 22 (.faddr 12 (.t 1)) 21 true,
 oG 23 (.load false 1 (.t 22)) 21 true,
 oG 24 (.len false (.t 23)) 21 true,
 oG 25 (.bin .leq (.t 24) (.c (.int .i64 40))) 21 true,
 oO 26 (.pick (.t 21) (.t 25) (.c (.bool false))),
 oM 2 26])
 .ret)), false, false⟩
/-- progeny/progenylaw19.First -/
def c10 : CFn := ⟨48, [.t 0],
 (.seq
 (.region [] [oO 0 (.mv (.c (.bool false)))])
 (.seq
 (.region [] [oO 7 (.call (.c (.fn 34 [])) [(.c (.str ⟨#[80]⟩))] false),
 oO 1 (.box 30 13 (.c (.agg [.str ⟨#[]⟩, .int .i64 0, .nils, .nils, .str ⟨#[]⟩, .int .i64 0, .nils, .nils, .int .i64 0, .int .i64 0, .str ⟨#[]⟩, .nils, .nils]))),
 oS 13 1 7])
 (.seq
 (.region [1] [oA 9 0 1,
 oL 10 4 9,
 oA 11 4 1,
 oL 12 4 11,
 oA 13 8 1,
 oL 14 3 13,
 oA 15 11 1,
 ol 16 1 15,
 oA 17 12 1,
 ol 18 1 17,
 oO 19 (.call (.c (.fn 19 [])) [(.t 10), (.t 12), (.t 14), (.t 16), (.t 18), (.c (.int .i64 1))] true),
 oM 8 19,
 oE 20 8 0,
 oE 21 8 1,
 oM 2 20,
 oM 3 21])
 (.seq
 (.region [1, 2, 3] [oA 23 0 1,
 oL 24 4 23,
 oA 25 4 1,
 oL 26 4 25,
 oA 27 8 1,
 oL 28 3 27,
 oA 29 11 1,
 ol 30 1 29,
 oA 31 12 1,
 ol 32 1 31,
 oO 33 (.call (.c (.fn 11 [])) [(.t 24), (.t 26), (.t 28), (.t 30), (.t 32), (.c (.int .i64 1))] true),
 oM 22 33,
 oE 34 22 0,
 oE 35 22 1,
 oE 36 22 2,
 oM 4 34,
 oM 5 35,
 oM 6 36])
 (.seq
 (.region [2, 3, 6] [oM 37 3,
 oO 38 (.bin .eql (.t 37) (.c (.int .i64 0))),
 oM 39 38,
 oG 40 (.mv (.t 6)) 39 true,
 oG 41 (.bin .eql (.t 40) (.c (.int .i64 181))) 39 true,
 oO 42 (.pick (.t 39) (.t 41) (.c (.bool false))),
 oM 43 42,
 oG 44 (.mv (.t 2)) 43 true,
 oG 45 (.bslice 3 1 [[.int .i64 0]] [(0, (.c (.int .i64 2)))]) 43 true,
 oG 46 (k2 24 44 45) 43 true,
 oO 47 (.pick (.t 43) (.t 46) (.c (.bool false))),
 oM 0 47])
 .ret))))), false, true⟩
/-- progeny/logic.Delete -/
def c11 : CFn := ⟨81, [.t 12, .t 13, .t 14],
 (.seq
 (.region [0, 1, 2, 3, 4, 5] [oX 6 25 4 0,
 oX 7 25 4 1,
 oX 8 27 3 2,
 oO 12 (.mv (.c (.nils))),
 oO 13 (.mv (.c (.nils))),
 oO 14 (.mv (.c (.int .i64 0)))])
 (.seq
 (.region [3, 4, 5, 6, 7, 8] [oL 23 4 6,
 oL 24 4 7,
 oL 25 3 8,
 oM 26 3,
 oM 27 4,
 oO 28 (k5 35 23 24 25 26 27),
 oM 22 28,
 oE 29 22 0,
 oE 30 22 1,
 oM 15 29,
 oM 16 30])
 (.seq
 (.seq
 (.region [3, 4, 5, 6, 7, 8, 15, 16] [oM 31 16,
 oO 32 (.bin .neq (.t 31) (.c (.int .i64 0)))])
 (.cond (.t 32)
 (.seq
 (.region [16] [oM 33 16,
 oO 12 (.mv (.c (.nils))),
 oO 13 (.mv (.c (.nils))),
 oM 14 33])
 .ret)
 .skip))
 (.seq
 (.region [3, 4, 5, 6, 7, 8, 15] [oL 35 4 7,
 oM 36 4,
 oM 37 5,
 oO 38 (z3 36 35 36 37),
 oM 34 38,
 oE 39 34 0,
 oE 40 34 1,
 oM 17 39,
 oM 16 40])
 (.seq
 (.seq
 (.region [3, 4, 5, 6, 8, 15, 16, 17] [oM 41 16,
 oO 42 (.bin .neq (.t 41) (.c (.int .i64 0)))])
 (.cond (.t 42)
 (.seq
 (.region [16] [oM 43 16,
 oO 12 (.mv (.c (.nils))),
 oO 13 (.mv (.c (.nils))),
 oM 14 43])
 .ret)
 .skip))
 (.seq
 (.region [3, 4, 5, 6, 8, 15, 17] [oM 44 3,
 oO 45 (z1 37 44),
 oO 18 (.box 28 1 (.c (.nils))),
 oS 1 18 45])
 (.seq
 (.seq
 (.region [4, 5, 6, 8, 15, 17, 18] [oM 46 4,
 oM 47 5,
 oI 48 2 46 47,
 oA 49 0 48,
 ol 50 1 49,
 oO 51 (.bin .neq (.t 50) (.c (.int .i64 0)))])
 (.cond (.t 51)
 (.seq
 (.region [17, 18] [ol 52 1 18,
 oM 53 17,
 oM 12 52,
 oM 13 53,
 oO 14 (.mv (.c (.int .i64 0)))])
 .ret)
 .skip))
 (.seq
 (.region [5, 6, 8, 15, 17, 18] [oM 54 15,
 oM 55 5,
 oO 56 (z2 38 54 55),
 oM 19 56])
 (.seq
 (.seq
 (.region [6, 8, 17, 18, 19] [oM 57 19,
 oO 58 (.len false (.t 57)),
 oO 59 (.bin .gtr (.t 58) (.c (.int .i64 0))),
 oM 60 59,
 oG 61 (.faddr 2 (.t 8)) 60 true,
 oG 62 (.load false 1 (.t 61)) 60 true,
 oG 63 (.bin .eql (.t 62) (.c (.str ⟨#[80]⟩))) 60 true,
 oO 64 (.pick (.t 60) (.t 63) (.c (.bool false)))])
 (.cond (.t 64)
 (.seq
 (.region [] [oO 12 (.mv (.c (.nils))),
 oO 13 (.mv (.c (.nils))),
 oO 14 (.mv (.c (.int .i64 181)))])
 .ret)
 .skip))
 (.seq
 (.seq
 (.region [6, 8, 17, 18, 19] [oA 65 2 8,
 ol 66 1 65,
 oO 67 (.bin .eql (.t 66) (.c (.str ⟨#[86]⟩)))])
 (.cond (.t 67)
 (.seq
 (.region [6, 17, 18, 19] [oM 68 19,
 oO 69 (k1 39 68)])
 (.block 0
 (.rfb 66 69 70 71 21
 (.block 1
 (.region [6, 18, 21] [oL 73 4 6,
 ol 74 1 18,
 oM 75 21,
 oO 76 (z3 36 73 74 75),
 oM 72 76,
 oE 77 72 0,
 oE 78 72 1,
 oS 1 18 77])))))
 .skip))
 (.seq
 (.region [17, 18] [ol 79 1 18,
 oM 80 17,
 oM 12 79,
 oM 13 80,
 oO 14 (.mv (.c (.int .i64 0)))])
 .ret))))))))))), false, false⟩
def c13_l0 : CC :=
 (.seq
 (.seq
 (.region [0, 1, 5] [oM 11 5,
 oM 12 0,
 oO 13 (.len false (.t 12)),
 oB 14 .lss 11 13])
 (.cond (.t 14)
 .skip
 (.exit 0)))
 (.seq
 (.block 1
 (.seq
 (.draw [0, 1, 5] [oM 17 0,
 oM 18 5,
 oF 19 (.iaddr 2 (.t 17) (.t 18)) [0, 1],
 oF 20 (.load true 2 (.t 19)) [0, 1, 2],
 oM 21 1,
 oM 22 5,
 oF 23 (.iaddr 2 (.t 21) (.t 22)) [4, 5],
 oF 24 (.load true 2 (.t 23)) [4, 5, 6],
 oF 25 (.eqs true [0, 2] (.t 20) (.t 24)) (u 8)])
 (.cond (.t 25)
 (.seq
 (.region [] [oO 4 (.mv (.c (.bool false)))])
 .ret)
 .skip)))
 (.region [0, 1, 5] [oM 15 5,
 oO 16 (.bin .add (.t 15) (.c (.int .i64 1))),
 oM 5 16])))
/-- progeny/progenyref13.Same -/
def c13 : CFn := ⟨26, [.t 4],
 (.seq
 (.region [0, 1] [oO 4 (.mv (.c (.bool false)))])
 (.seq
 (.seq
 (.region [0, 1] [oM 6 0,
 oO 7 (.len false (.t 6)),
 oM 8 1,
 oO 9 (.len false (.t 8)),
 oB 10 .neq 7 9])
 (.cond (.t 10)
 (.seq
 (.region [] [oO 4 (.mv (.c (.bool false)))])
 .ret)
 .skip))
 (.seq
 (.seq
 (.region [0, 1] [oO 5 (.mv (.c (.int .i64 0)))])
 (.block 0
 (.loop c13_l0)))
 (.seq
 (.region [] [oO 4 (.mv (.c (.bool true)))])
 .ret)))), false, false⟩
/-- progeny/logic.Valid -/
def c14 : CFn := ⟨20, [.t 6, .t 7],
 (.seq
 (.region [0, 1, 2] [oX 3 25 4 0,
 oX 4 25 4 1,
 oX 5 27 3 2,
 oO 6 (.mv (.c (.bool false))),
 oO 7 (.mv (.c (.int .i64 0)))])
 (.seq
 (.seq
 (.region [3, 4, 5] [oL 8 4 3,
 oO 9 (k1 42 8),
 oN 10 9,
 oM 11 10,
 oG 12 (.load true 4 (.t 4)) 11 false,
 oG 13 (k1 42 12) 11 false,
 oG 14 (.un .not (.t 13)) 11 false,
 oO 15 (.pick (.t 11) (.c (.bool true)) (.t 14))])
 (.cond (.t 15)
 (.seq
 (.region [] [oO 6 (.mv (.c (.bool false))),
 oO 7 (.mv (.c (.int .i64 100)))])
 .ret)
 .skip))
 (.seq
 (.region [3, 4, 5] [oL 16 4 3,
 oL 17 4 4,
 oL 18 3 5,
 oO 19 (k3 43 16 17 18),
 oM 6 19,
 oO 7 (.mv (.c (.int .i64 0)))])
 .ret))), false, false⟩
/-- progeny/logic.Agree -/
def c16 : CFn := ⟨28, [.t 10, .t 11],
 (.seq
 (.region [0, 1, 2, 3, 4] [oX 5 25 4 0,
 oX 6 25 4 1,
 oX 7 27 3 2,
 oO 10 (.mv (.c (.bool false))),
 oO 11 (.mv (.c (.int .i64 0)))])
 (.seq
 (.region [3, 4, 5, 6, 7] [oL 15 4 5,
 oL 16 4 6,
 oL 17 3 7,
 oM 18 3,
 oM 19 4,
 oO 20 (k5 46 15 16 17 18 19),
 oM 14 20,
 oE 21 14 0,
 oE 22 14 1,
 oM 12 21,
 oM 13 22])
 (.seq
 (.seq
 (.region [12, 13] [oM 23 13,
 oO 24 (.bin .neq (.t 23) (.c (.int .i64 0)))])
 (.cond (.t 24)
 (.seq
 (.region [13] [oM 25 13,
 oO 10 (.mv (.c (.bool false))),
 oM 11 25])
 .ret)
 .skip))
 (.seq
 (.region [12] [oM 26 12,
 oO 27 (k1 47 26),
 oM 10 27,
 oO 11 (.mv (.c (.int .i64 0)))])
 .ret)))), false, false⟩
/-- progeny/progenyref19.Asked -/
def c18 : CFn := ⟨36, [.t 10],
 (.seq
 (.region [0, 1, 2, 3, 4] [oX 5 25 4 0,
 oX 6 25 4 1,
 oX 7 27 3 2,
 oO 10 (.mv (.c (.int .i64 0)))])
 (.seq
 (.region [3, 4, 5, 6, 7] [oL 12 4 5,
 oL 13 4 6,
 oL 14 3 7,
 oM 15 3,
 oM 16 4,
 oO 17 (k5 48 12 13 14 15 16),
 oM 11 17])
 (.seq
 (.seq
 (.region [3, 4, 5, 6, 7, 11] [oM 18 11,
 oO 19 (.bin .eql (.t 18) (.c (.int .i64 0))),
 oM 20 19,
 oG 21 (.faddr 2 (.t 7)) 20 true,
 oG 22 (.load false 1 (.t 21)) 20 true,
 oG 23 (.bin .neq (.t 22) (.c (.str ⟨#[76]⟩))) 20 true,
 oO 24 (.pick (.t 20) (.t 23) (.c (.bool false))),
 oM 25 24,
 oG 26 (.load true 4 (.t 5)) 25 true,
 oG 27 (.load true 4 (.t 6)) 25 true,
 oG 28 (.load true 3 (.t 7)) 25 true,
 oG 29 (.mv (.t 3)) 25 true,
 oG 30 (.mv (.t 4)) 25 true,
 oG 31 (z5 49 26 27 28 29 30) 25 true,
 oG 32 (.len false (.t 31)) 25 true,
 oG 33 (.bin .gtr (.t 32) (.c (.int .i64 0))) 25 true,
 oO 34 (.pick (.t 25) (.t 33) (.c (.bool false)))])
 (.cond (.t 34)
 (.region [] [oO 11 (.mv (.c (.int .i64 120)))])
 .skip))
 (.seq
 (.region [11] [oM 35 11,
 oM 10 35])
 .ret)))), false, false⟩
/-- progeny/logic.Children -/
def c19 : CFn := ⟨32, [.t 12, .t 13],
 (.seq
 (.region [0, 1, 2, 3, 4, 5] [oX 6 25 4 0,
 oX 7 25 4 1,
 oX 8 27 3 2,
 oO 12 (.mv (.c (.nils))),
 oO 13 (.mv (.c (.int .i64 0)))])
 (.seq
 (.region [3, 4, 5, 6, 7, 8] [oL 17 4 6,
 oL 18 4 7,
 oL 19 3 8,
 oM 20 3,
 oM 21 4,
 oM 22 5,
 oO 23 (k6 50 17 18 19 20 21 22),
 oM 16 23,
 oE 24 16 0,
 oE 25 16 1,
 oM 14 24,
 oM 15 25])
 (.seq
 (.seq
 (.region [5, 14, 15] [oM 26 15,
 oO 27 (.bin .neq (.t 26) (.c (.int .i64 0)))])
 (.cond (.t 27)
 (.seq
 (.region [15] [oM 28 15,
 oO 12 (.mv (.c (.nils))),
 oM 13 28])
 .ret)
 .skip))
 (.seq
 (.region [5, 14] [oM 29 14,
 oM 30 5,
 oO 31 (z2 38 29 30),
 oM 12 31,
 oO 13 (.mv (.c (.int .i64 0)))])
 .ret)))), false, false⟩
/-- progeny/logic.Lost -/
def c21 : CFn := ⟨28, [.t 10, .t 11],
 (.seq
 (.region [0, 1, 2, 3, 4] [oX 5 25 4 0,
 oX 6 25 4 1,
 oX 7 27 3 2,
 oO 10 (.mv (.c (.nils))),
 oO 11 (.mv (.c (.int .i64 0)))])
 (.seq
 (.region [3, 4, 5, 6, 7] [oL 15 4 5,
 oL 16 4 6,
 oL 17 3 7,
 oM 18 3,
 oM 19 4,
 oO 20 (k5 35 15 16 17 18 19),
 oM 14 20,
 oE 21 14 0,
 oE 22 14 1,
 oM 12 21,
 oM 13 22])
 (.seq
 (.seq
 (.region [12, 13] [oM 23 13,
 oO 24 (.bin .neq (.t 23) (.c (.int .i64 0)))])
 (.cond (.t 24)
 (.seq
 (.region [13] [oM 25 13,
 oO 10 (.mv (.c (.nils))),
 oM 11 25])
 .ret)
 .skip))
 (.seq
 (.region [12] [oM 26 12,
 oO 27 (z1 53 26),
 oM 10 27,
 oO 11 (.mv (.c (.int .i64 0)))])
 .ret)))), false, false⟩
def c24_l0 : CC :=
 (.seq
 (.seq
 (.region [0, 1, 5] [oM 11 5,
 oM 12 0,
 oO 13 (.len false (.t 12)),
 oB 14 .lss 11 13])
 (.cond (.t 14)
 .skip
 (.exit 0)))
 (.seq
 (.block 1
 (.seq
 (.draw [0, 1, 5] [oM 17 0,
 oM 18 5,
 oF 19 (.iaddr 1 (.t 17) (.t 18)) [0, 1],
 oF 20 (.load false 1 (.t 19)) [0, 1, 2],
 oM 21 1,
 oM 22 5,
 oF 23 (.iaddr 1 (.t 21) (.t 22)) [4, 5],
 oF 24 (.load false 1 (.t 23)) [4, 5, 6],
 oF 25 (.bin .neq (.t 20) (.t 24)) (u 8)])
 (.cond (.t 25)
 (.seq
 (.region [] [oO 4 (.mv (.c (.bool false)))])
 .ret)
 .skip)))
 (.region [0, 1, 5] [oM 15 5,
 oO 16 (.bin .add (.t 15) (.c (.int .i64 1))),
 oM 5 16])))
/-- progeny/progenyref01.SameInts -/
def c24 : CFn := ⟨26, [.t 4],
 (.seq
 (.region [0, 1] [oO 4 (.mv (.c (.bool false)))])
 (.seq
 (.seq
 (.region [0, 1] [oM 6 0,
 oO 7 (.len false (.t 6)),
 oM 8 1,
 oO 9 (.len false (.t 8)),
 oB 10 .neq 7 9])
 (.cond (.t 10)
 (.seq
 (.region [] [oO 4 (.mv (.c (.bool false)))])
 .ret)
 .skip))
 (.seq
 (.seq
 (.region [0, 1] [oO 5 (.mv (.c (.int .i64 0)))])
 (.block 0
 (.loop c24_l0)))
 (.seq
 (.region [] [oO 4 (.mv (.c (.bool true)))])
 .ret)))), false, false⟩
/-- progeny/logic.Insert -/
def c32 : CFn := ⟨56, [.t 16, .t 17, .t 18],
 (.seq
 (.region [0, 1, 2, 3, 4, 5, 6, 7] [oX 8 25 4 0,
 oX 9 25 4 1,
 oX 10 27 3 2,
 oO 16 (.mv (.c (.nils))),
 oO 17 (.mv (.c (.int .i64 0))),
 oO 18 (.mv (.c (.int .i64 0)))])
 (.seq
 (.region [3, 4, 5, 6, 7, 8, 9, 10] [oL 24 4 8,
 oL 25 4 9,
 oL 26 3 10,
 oM 27 3,
 oM 28 4,
 oO 29 (k5 35 24 25 26 27 28),
 oM 23 29,
 oE 30 23 0,
 oE 31 23 1,
 oM 19 30,
 oM 20 31])
 (.seq
 (.seq
 (.region [3, 5, 6, 7, 8, 19, 20] [oM 32 20,
 oO 33 (.bin .neq (.t 32) (.c (.int .i64 0)))])
 (.cond (.t 33)
 (.seq
 (.region [20] [oM 34 20,
 oO 16 (.mv (.c (.nils))),
 oO 17 (.mv (.c (.int .i64 0))),
 oM 18 34])
 .ret)
 .skip))
 (.seq
 (.region [3, 5, 6, 7, 8, 19] [oL 36 4 8,
 oM 37 3,
 oM 38 5,
 oM 39 6,
 oM 40 7,
 oO 41 (z5 58 36 37 38 39 40),
 oM 35 41,
 oE 42 35 0,
 oE 43 35 1,
 oE 44 35 2,
 oM 21 42,
 oM 22 43,
 oM 20 44])
 (.seq
 (.seq
 (.region [6, 7, 19, 20, 21, 22] [oM 45 20,
 oO 46 (.bin .neq (.t 45) (.c (.int .i64 2))),
 oM 47 46,
 oG 48 (.mv (.t 19)) 47 true,
 oG 49 (.mv (.t 6)) 47 true,
 oG 50 (.mv (.t 7)) 47 true,
 oG 51 (k3 59 48 49 50) 47 true,
 oO 52 (.pick (.t 47) (.t 51) (.c (.bool false)))])
 (.cond (.t 52)
 (.seq
 (.region [] [oO 16 (.mv (.c (.nils))),
 oO 17 (.mv (.c (.int .i64 0))),
 oO 18 (.mv (.c (.int .i64 181)))])
 .ret)
 .skip))
 (.seq
 (.region [20, 21, 22] [oM 53 21,
 oM 54 22,
 oM 55 20,
 oM 16 53,
 oM 17 54,
 oM 18 55])
 .ret)))))), false, false⟩
def c33_l0 : CC :=
 (.seq
 (.seq
 (.region [1, 2, 5] [oM 7 5,
 oA 8 2 2,
 ol 9 1 8,
 oO 10 (.len false (.t 9)),
 oB 11 .lss 7 10])
 (.cond (.t 11)
 .skip
 (.exit 0)))
 (.seq
 (.block 1
 (.seq
 (.region [1, 2, 5] [oA 14 2 2,
 ol 15 1 14,
 oM 16 5,
 oI 17 8 15 16,
 oA 18 4 17,
 ol 19 1 18,
 oO 20 (.len false (.t 19)),
 oO 21 (.bin .gtr (.t 20) (.c (.int .i64 10)))])
 (.cond (.t 21)
 (.seq
 (.region [] [oO 4 (.mv (.c (.bool false)))])
 .ret)
 .skip)))
 (.region [1, 2, 5] [oM 12 5,
 oO 13 (.bin .add (.t 12) (.c (.int .i64 1))),
 oM 5 13])))
def c33_l1 : CC :=
 (.seq
 (.seq
 (.region [1, 2, 6] [oM 22 6,
 oM 23 1,
 oO 24 (.len false (.t 23)),
 oB 25 .lss 22 24])
 (.cond (.t 25)
 .skip
 (.exit 2)))
 (.seq
 (.block 3
 (.seq
 (.region [1, 2, 6] [oM 28 1,
 oM 29 6,
 oI 30 2 28 29,
 oA 31 1 30,
 ol 32 1 31,
 oO 33 (.len true (.t 32)),
 oO 34 (.bin .gtr (.t 33) (.c (.int .i64 100)))])
 (.cond (.t 34)
 (.seq
 (.region [] [oO 4 (.mv (.c (.bool false)))])
 .ret)
 .skip)))
 (.region [1, 2, 6] [oM 26 6,
 oO 27 (.bin .add (.t 26) (.c (.int .i64 1))),
 oM 6 27])))
/-- progeny/progenylaw13.Small -/
def c33 : CFn := ⟨50, [.t 4],
 (.seq
 (.region [0, 1] [oX 2 25 4 0,
 oO 4 (.mv (.c (.bool false)))])
 (.seq
 (.seq
 (.region [1, 2] [oO 5 (.mv (.c (.int .i64 0)))])
 (.block 0
 (.loop c33_l0)))
 (.seq
 (.seq
 (.region [1, 2] [oO 6 (.mv (.c (.int .i64 0)))])
 (.block 2
 (.loop c33_l1)))
 (.seq
 (.region [1, 2] [oA 35 2 2,
 ol 36 1 35,
 oO 37 (.len false (.t 36)),
 oO 38 (.bin .leq (.t 37) (.c (.int .i64 12))),
 oM 39 38,
 oG 40 (.faddr 3 (.t 2)) 39 true,
 oG 41 (.load false 1 (.t 40)) 39 true,
 oG 42 (.len false (.t 41)) 39 true,
 oG 43 (.bin .leq (.t 42) (.c (.int .i64 6))) 39 true,
 oO 44 (.pick (.t 39) (.t 43) (.c (.bool false))),
 oM 45 44,
 oG 46 (.mv (.t 1)) 45 true,
 oG 47 (.len false (.t 46)) 45 true,
 oG 48 (.bin .leq (.t 47) (.c (.int .i64 60))) 45 true,
 oO 49 (.pick (.t 45) (.t 48) (.c (.bool false))),
 oM 4 49])
 .ret)))), false, false⟩
/-- progeny/progenylaw19.shops -/
def c34 : CFn := ⟨21, [.cell 2 true 13],
 (.seq
 (.region [0] [oO 2 (.box 30 13 (.c (.agg [.str ⟨#[]⟩, .int .i64 0, .nils, .nils, .str ⟨#[]⟩, .int .i64 0, .nils, .nils, .int .i64 0, .int .i64 0, .str ⟨#[]⟩, .nils, .nils])))])
 (.seq
 (.region [0, 2] [oO 5 (.call (.c (.fn 60 [])) [] true),
 oO 6 (.call (.c (.fn 60 [])) [] true),
 oO 3 (.box 25 4 (.c (.agg [.str ⟨#[]⟩, .int .i64 0, .nils, .nils]))),
 oO 4 (.box 25 4 (.c (.agg [.str ⟨#[]⟩, .int .i64 0, .nils, .nils]))),
 oS 4 3 5,
 oS 4 4 6])
 (.seq
 (.region [0, 2, 3, 4] [oA 7 0 4,
 ⟨none, .store 1 (.t 7) (.c (.str ⟨#[80, 65, 82, 84, 83]⟩)), none, [], []⟩])
 (.seq
 (.region [0, 2, 3, 4] [oL 8 4 3,
 oL 9 4 4,
 oM 10 0,
 oO 11 (.build [.int .i64 0, .int .i64 0, .str ⟨#[]⟩] [(0, 1, (.c (.int .i64 1))), (1, 1, (.c (.int .i64 0))), (2, 1, (.t 10))]),
 oO 12 (.build [.int .i64 0, .str ⟨#[]⟩] [(0, 1, (.c (.int .i64 0))), (1, 1, (.c (.str ⟨#[49]⟩)))]),
 oO 13 (.build [.int .i64 0, .str ⟨#[]⟩] [(0, 1, (.c (.int .i64 1))), (1, 1, (.c (.str ⟨#[53]⟩)))]),
 oO 14 (.build [.int .i64 0, .str ⟨#[]⟩] [(0, 1, (.c (.int .i64 1))), (1, 1, (.c (.str ⟨#[55]⟩)))]),
 oO 15 (.bslice 44 2 [[.int .i64 0, .str ⟨#[]⟩], [.int .i64 0, .str ⟨#[]⟩], [.int .i64 0, .str ⟨#[]⟩]] [(0, (.t 12)), (1, (.t 13)), (2, (.t 14))]),
 oO 16 (.build [.int .i64 0, .str ⟨#[]⟩] [(0, 1, (.c (.int .i64 0))), (1, 1, (.c (.str ⟨#[53]⟩)))]),
 oO 17 (.build [.int .i64 0, .str ⟨#[]⟩] [(0, 1, (.c (.int .i64 0))), (1, 1, (.c (.str ⟨#[55]⟩)))]),
 oO 18 (.build [.int .i64 0, .str ⟨#[]⟩] [(0, 1, (.c (.int .i64 0))), (1, 1, (.c (.str ⟨#[56]⟩)))]),
 oO 19 (.bslice 44 2 [[.int .i64 0, .str ⟨#[]⟩], [.int .i64 0, .str ⟨#[]⟩], [.int .i64 0, .str ⟨#[]⟩]] [(0, (.t 16)), (1, (.t 17)), (2, (.t 18))]),
 oO 20 (.build [.str ⟨#[]⟩, .int .i64 0, .nils, .nils, .str ⟨#[]⟩, .int .i64 0, .nils, .nils, .int .i64 0, .int .i64 0, .str ⟨#[]⟩, .nils, .nils] [(0, 4, (.t 8)), (4, 4, (.t 9)), (8, 3, (.t 11)), (11, 1, (.t 15)), (12, 1, (.t 19))]),
 oS 13 2 20])
 .ret)))), false, false⟩
/-- progeny/logic.agreed -/
def c35 : CFn := ⟨32, [.t 10, .t 11],
 (.seq
 (.region [0, 1, 2, 3, 4] [oX 5 25 4 0,
 oX 6 25 4 1,
 oX 7 27 3 2,
 oO 10 (.mv (.c (.nilptr))),
 oO 11 (.mv (.c (.int .i64 0)))])
 (.seq
 (.region [3, 4, 5, 6, 7] [oL 15 4 5,
 oL 16 4 6,
 oL 17 3 7,
 oM 18 3,
 oM 19 4,
 oO 20 (k5 46 15 16 17 18 19),
 oM 14 20,
 oE 21 14 0,
 oE 22 14 1,
 oM 12 21,
 oM 13 22])
 (.seq
 (.block 0
 (.seq
 (.region [12, 13] [oM 24 13,
 oO 25 (.bin .neq (.t 24) (.c (.int .i64 0))),
 oM 23 25])
 (.cond (.t 23)
 (.seq
 (.region [13] [oM 26 13,
 oO 10 (.mv (.c (.nilptr))),
 oM 11 26])
 .ret)
 (.seq
 (.region [12] [oM 28 12,
 oO 29 (k1 47 28),
 oN 30 29,
 oM 27 30])
 (.cond (.t 27)
 (.seq
 (.region [] [oO 10 (.mv (.c (.nilptr))),
 oO 11 (.mv (.c (.int .i64 120)))])
 .ret)
 .skip)))))
 (.seq
 (.region [12] [oM 31 12,
 oM 10 31,
 oO 11 (.mv (.c (.int .i64 0)))])
 .ret)))), false, false⟩
/-- progeny/plain.Delete -/
def c36 : CFn := ⟨25, [.t 6, .t 7],
 (.seq
 (.region [0, 1, 2] [oX 3 25 4 0,
 oO 6 (.mv (.c (.nils))),
 oO 7 (.mv (.c (.int .i64 0)))])
 (.seq
 (.seq
 (.region [1, 2, 3] [oL 9 4 3,
 oM 10 1,
 oM 11 2,
 oO 12 (.bslice 3 1 [[.int .i64 0]] [(0, (.t 11))]),
 oO 13 (k3 61 9 10 12),
 oM 8 13])
 (.seq
 (.region [1, 2, 3, 8] [oM 14 8,
 oO 15 (.bin .neq (.t 14) (.c (.int .i64 0)))])
 (.cond (.t 15)
 (.seq
 (.region [8] [oM 16 8,
 oO 6 (.mv (.c (.nils))),
 oM 7 16])
 .ret)
 .skip)))
 (.seq
 (.draw [1, 2, 3] [oM 17 1,
 oF 18 (k1 37 17) [0],
 oM 19 2,
 oa 20 (.load true 4 (.t 3)) [] [1],
 oM 21 1,
 oM 22 2,
 oF 23 (k3 63 20 21 22) [0, 1, 3, 4, 5],
 oF 24 (k3 62 18 19 23) (u 7),
 oF 6 (.mv (.t 24)) (u 8),
 oF 7 (.mv (.c (.int .i64 0))) (u 9)])
 .ret))), false, false⟩
/-- slices.Clone[[]progeny/api.Item,progeny/api.Item] -/
def c37 : CFn := ⟨8, [.t 2],
 (.seq
 (.region [0] [oO 2 (.mv (.c (.nils)))])
 (.seq
 (.seq
 (.region [0] [oM 3 0,
 oO 4 (.eqn false 1 (.t 3) (.c (.nils)))])
 (.cond (.t 4)
 (.seq
 (.region [] [oO 2 (.mv (.c (.nils)))])
 .ret)
 .skip))
 (.seq
 (.region [0] [oO 5 (.bslice 44 2 [] []),
 oM 6 0,
 oO 7 (.app 44 2 24 false (.t 5) (.t 6)),
 oM 2 7])
 .ret))), true, false⟩
def c38_l0 : CC :=
 (.seq
 (.region [0, 5, 7, 29, 30] [oB 31 .lss 30 29])
 (.seq
 (.cond (.t 31)
 .skip
 (.exit 0))
 (.seq
 (.block 1
 (.seq
 (.region [0, 5, 7, 29, 30] [oM 32 30,
 oM 8 32])
 (.seq
 (.region [0, 5, 7, 8, 29, 30] [oM 33 0,
 oM 34 8,
 oO 35 (k2 51 33 34),
 oM 36 35,
 oG 37 (.mv (.t 0)) 36 true,
 oG 38 (.mv (.t 0)) 36 true,
 oG 39 (.nilck (.t 38)) 36 true,
 oG 40 (.faddr 11 (.t 39)) 36 true,
 oG 41 (.load false 1 (.t 40)) 36 true,
 oG 42 (.mv (.t 8)) 36 true,
 oG 43 (.iaddr 2 (.t 41) (.t 42)) 36 true,
 oG 44 (.faddr 1 (.t 43)) 36 true,
 oG 45 (.load false 1 (.t 44)) 36 true,
 oG 46 (k2 65 37 45) 36 true,
 oG 47 (.mv (.t 5)) 36 true,
 oG 48 (.bin .eql (.t 46) (.t 47)) 36 true,
 oO 49 (.pick (.t 36) (.t 48) (.c (.bool false)))])
 (.cond (.t 49)
 (.region [0, 5, 7, 8, 29, 30] [oM 50 7,
 oM 51 8,
 oO 52 (.bslice 3 1 [[.int .i64 0]] [(0, (.t 51))]),
 oO 53 (.app 3 1 8 false (.t 50) (.t 52)),
 oM 7 53])
 .skip))))
 (.region [0, 5, 7, 29, 30] [oO 54 (.bin .add (.t 30) (.c (.int .i64 1))),
 oM 30 54]))))
/-- (*progeny/logic.pair).children -/
def c38 : CFn := ⟨56, [.t 4],
 (.seq
 (.region [0, 1] [oO 4 (.mv (.c (.nils)))])
 (.seq
 (.draw [0, 1] [oM 10 0,
 oF 11 (.nilck (.t 10)) [0],
 oF 12 (.faddr 4 (.t 11)) [0, 1],
 oF 13 (.load true 4 (.t 12)) [0, 1, 2],
 oM 14 0,
 oF 15 (.nilck (.t 14)) [4],
 oF 16 (.faddr 12 (.t 15)) [4, 5],
 oF 17 (.load false 1 (.t 16)) [4, 5, 6],
 oM 18 1,
 oF 19 (.iaddr 2 (.t 17) (.t 18)) [4, 5, 6, 7, 8],
 oF 20 (.faddr 1 (.t 19)) [4, 5, 6, 7, 8, 9],
 oF 21 (.load false 1 (.t 20)) [4, 5, 6, 7, 8, 9, 10],
 oF 22 (.call (.c (.fn 64 [])) [(.t 13), (.c (.int .i64 0)), (.t 21)] false) (u 12),
 oF 9 (.mv (.t 22)) (u 13),
 oF 23 (.extract (.t 9) 0) (u 14),
 oF 24 (.extract (.t 9) 1) (u 14),
 oF 5 (.mv (.t 23)) (u 15),
 oF 6 (.mv (.t 24)) (u 17)])
 (.seq
 (.region [0, 5] [oO 7 (.mv (.c (.nils)))])
 (.seq
 (.seq
 (.region [0, 5, 7] [oM 25 0,
 oO 26 (.nilck (.t 25)),
 oA 27 11 26,
 ol 28 1 27,
 oO 29 (.len false (.t 28)),
 oO 30 (.mv (.c (.int .i64 0)))])
 (.block 0
 (.loop c38_l0)))
 (.seq
 (.region [7] [oM 55 7,
 oM 4 55])
 .ret))))), false, false⟩
/-- slices.Backward[[]int,int] -/
def c39 : CFn := ⟨4, [.t 2],
 (.seq
 (.region [0] [oX 1 42 1 0,
 oO 2 (.mv (.c (.nilfn)))])
 (.seq
 (.region [1] [oO 3 (.mkfn 66 [(.t 1)]),
 oM 2 3])
 .ret)), false, false⟩
/-- progeny/dbd.Valid -/
def c42 : CFn := ⟨28, [.t 2],
 (.seq
 (.region [0] [oX 1 25 4 0,
 oO 2 (.mv (.c (.bool false)))])
 (.seq
 (.region [1] [oA 3 0 1,
 ol 4 1 3,
 oO 5 (k1 69 4),
 oM 6 5,
 oG 7 (.faddr 1 (.t 1)) 6 true,
 oG 8 (.load false 1 (.t 7)) 6 true,
 oG 9 (.bin .geq (.t 8) (.c (.int .i64 1))) 6 true,
 oO 10 (.pick (.t 6) (.t 9) (.c (.bool false))),
 oM 11 10,
 oG 12 (.faddr 1 (.t 1)) 11 true,
 oG 13 (.load false 1 (.t 12)) 11 true,
 oG 14 (.bin .leq (.t 13) (.c (.int .i64 4))) 11 true,
 oO 15 (.pick (.t 11) (.t 14) (.c (.bool false))),
 oM 16 15,
 oG 17 (.faddr 2 (.t 1)) 16 true,
 oG 18 (.load false 1 (.t 17)) 16 true,
 oG 19 (k1 70 18) 16 true,
 oO 20 (.pick (.t 16) (.t 19) (.c (.bool false))),
 oM 21 20,
 oG 22 (.faddr 3 (.t 1)) 21 true,
 oG 23 (.load false 1 (.t 22)) 21 true,
 oG 24 (.faddr 2 (.t 1)) 21 true,
 oG 25 (.load false 1 (.t 24)) 21 true,
 oG 26 (k2 71 23 25) 21 true,
 oO 27 (.pick (.t 21) (.t 26) (.c (.bool false))),
 oM 2 27])
 .ret)), false, false⟩
/-- progeny/logic.valid -/
def c43 : CFn := ⟨0, [.t 0], .user p43, false, false⟩
def c44_l0 : CC :=
 (.seq
 (.seq
 (.region [1, 3, 4, 5] [oM 79 5,
 oM 80 3,
 oB 81 .lss 79 80])
 (.cond (.t 81)
 .skip
 (.exit 2)))
 (.seq
 (.block 3
 (.seq
 (.draw [1, 3, 4, 5] [oA 84 2 1,
 oF 85 (.load false 1 (.t 84)) [0],
 oM 86 5,
 oF 87 (.iaddr 8 (.t 85) (.t 86)) [0, 1, 2],
 oF 88 (.faddr 0 (.t 87)) (u 4),
 oF 89 (.load false 1 (.t 88)) (u 5),
 oA 90 0 4,
 oF 91 (.load false 1 (.t 90)) [6],
 oF 92 (.bin .eql (.t 89) (.t 91)) (u 8)])
 (.cond (.t 92)
 (.seq
 (.region [] [oO 2 (.mv (.c (.bool false)))])
 .ret)
 .skip)))
 (.region [1, 3, 4, 5] [oM 82 5,
 oO 83 (.bin .add (.t 82) (.c (.int .i64 1))),
 oM 5 83])))
def c44_l1 : CC :=
 (.seq
 (.seq
 (.region [1, 3] [oM 41 3,
 oA 42 2 1,
 ol 43 1 42,
 oO 44 (.len false (.t 43)),
 oB 45 .lss 41 44])
 (.cond (.t 45)
 .skip
 (.exit 0)))
 (.seq
 (.block 1
 (.seq
 (.region [1, 3] [oA 48 2 1,
 ol 49 1 48,
 oM 50 3,
 oI 51 8 49 50,
 oL 52 8 51,
 oO 4 (.box 87 8 (.c (.agg [.str ⟨#[]⟩, .int .i64 0, .int .i64 0, .int .i64 0, .nils, .int .i64 0, .bool false, .bool false]))),
 oS 8 4 52])
 (.seq
 (.seq
 (.region [1, 3, 4] [oA 53 0 4,
 ol 54 1 53,
 oO 55 (k1 72 54),
 oN 56 55,
 oM 57 56,
 oG 58 (.faddr 2 (.t 4)) 57 false,
 oG 59 (.load false 1 (.t 58)) 57 false,
 oG 60 (.bin .lss (.t 59) (.c (.int .i64 1))) 57 false,
 oO 61 (.pick (.t 57) (.c (.bool true)) (.t 60)),
 oM 62 61,
 oG 63 (.faddr 2 (.t 4)) 62 false,
 oG 64 (.load false 1 (.t 63)) 62 false,
 oG 65 (.faddr 3 (.t 4)) 62 false,
 oG 66 (.load false 1 (.t 65)) 62 false,
 oG 67 (.bin .gtr (.t 64) (.t 66)) 62 false,
 oO 68 (.pick (.t 62) (.c (.bool true)) (.t 67)),
 oM 69 68,
 oG 70 (.faddr 3 (.t 4)) 69 false,
 oG 71 (.load false 1 (.t 70)) 69 false,
 oG 72 (.bin .gtr (.t 71) (.c (.int .i64 40))) 69 false,
 oO 73 (.pick (.t 69) (.c (.bool true)) (.t 72)),
 oM 74 73,
 oG 75 (.load true 8 (.t 4)) 74 false,
 oG 76 (k1 73 75) 74 false,
 oG 77 (.un .not (.t 76)) 74 false,
 oO 78 (.pick (.t 74) (.c (.bool true)) (.t 77))])
 (.cond (.t 78)
 (.seq
 (.region [] [oO 2 (.mv (.c (.bool false)))])
 .ret)
 .skip))
 (.seq
 (.seq
 (.region [1, 3, 4] [oO 5 (.mv (.c (.int .i64 0)))])
 (.block 2
 (.loop c44_l0)))
 (.seq
 (.seq
 (.region [1, 3, 4] [oM 93 3,
 oO 94 (.bin .eql (.t 93) (.c (.int .i64 0)))])
 (.cond (.t 94)
 (.seq
 (.seq
 (.region [1, 3, 4] [oA 95 1 4,
 ol 96 1 95,
 oO 97 (.bin .neq (.t 96) (.c (.int .i64 (-1)))),
 oM 98 97,
 oG 99 (.faddr 5 (.t 4)) 98 false,
 oG 100 (.load false 1 (.t 99)) 98 false,
 oG 101 (.bin .lss (.t 100) (.c (.int .i64 0))) 98 false,
 oO 102 (.pick (.t 98) (.c (.bool true)) (.t 101)),
 oM 103 102,
 oG 104 (.faddr 6 (.t 4)) 103 false,
 oG 105 (.load false 1 (.t 104)) 103 false,
 oG 106 (.un .not (.t 105)) 103 false,
 oO 107 (.pick (.t 103) (.c (.bool true)) (.t 106)),
 oM 108 107,
 oG 109 (.faddr 4 (.t 4)) 108 false,
 oG 110 (.load false 1 (.t 109)) 108 false,
 oG 111 (.faddr 5 (.t 4)) 108 false,
 oG 112 (.load false 1 (.t 111)) 108 false,
 oG 113 (.iaddr 3 (.t 110) (.t 112)) 108 false,
 oG 114 (.faddr 2 (.t 113)) 108 false,
 oG 115 (.load false 1 (.t 114)) 108 false,
 oG 116 (.bin .gtr (.t 115) (.c (.int .i64 24))) 108 false,
 oO 117 (.pick (.t 108) (.c (.bool true)) (.t 116))])
 (.cond (.t 117)
 (.seq
 (.region [] [oO 2 (.mv (.c (.bool false)))])
 .ret)
 .skip))
 (.exit 1))
 .skip))
 (.seq
 (.region [1, 3, 4] [oA 118 1 4,
 ol 119 1 118,
 oO 120 (.bin .lss (.t 119) (.c (.int .i64 0))),
 oM 121 120,
 oG 122 (.faddr 1 (.t 4)) 121 false,
 oG 123 (.load false 1 (.t 122)) 121 false,
 oG 124 (.mv (.t 3)) 121 false,
 oG 125 (.bin .geq (.t 123) (.t 124)) 121 false,
 oO 126 (.pick (.t 121) (.c (.bool true)) (.t 125)),
 oM 127 126,
 oG 128 (.faddr 1 (.t 4)) 127 false,
 oG 129 (.load false 1 (.t 128)) 127 false,
 oG 130 (.mv (.t 3)) 127 false,
 oG 131 (.bin .sub (.t 130) (.c (.int .i64 1))) 127 false,
 oG 132 (.bin .neq (.t 129) (.t 131)) 127 false,
 oG 133 (.mv (.t 132)) 127 false,
 oG 134 (.load true 4 (.t 1)) 133 true,
 oG 135 (.faddr 1 (.t 4)) 133 true,
 oG 136 (.load false 1 (.t 135)) 133 true,
 oG 137 (.mv (.t 3)) 133 true,
 oG 138 (.bin .sub (.t 137) (.c (.int .i64 1))) 133 true,
 oG 139 (k3 74 134 136 138) 133 true,
 oG 140 (.un .not (.t 139)) 133 true,
 oG 141 (.pick (.t 133) (.t 140) (.c (.bool false))) 127 false,
 oO 142 (.pick (.t 127) (.c (.bool true)) (.t 141)),
 oM 143 142,
 oG 144 (.load true 4 (.t 1)) 143 false,
 oG 145 (.mv (.t 3)) 143 false,
 oG 146 (z2 75 144 145) 143 false,
 oG 147 (.len false (.t 146)) 143 false,
 oG 148 (.bin .gtr (.t 147) (.c (.int .i64 5))) 143 false,
 oO 149 (.pick (.t 143) (.c (.bool true)) (.t 148))])
 (.cond (.t 149)
 (.seq
 (.region [] [oO 2 (.mv (.c (.bool false)))])
 .ret)
 .skip)))))))
 (.region [1, 3] [oM 46 3,
 oO 47 (.bin .add (.t 46) (.c (.int .i64 1))),
 oM 3 47])))
def c44_l2 : CC :=
 (.seq
 (.seq
 (.region [1, 6, 7, 8] [oM 218 8,
 oM 219 6,
 oB 220 .lss 218 219])
 (.cond (.t 220)
 .skip
 (.exit 6)))
 (.seq
 (.block 7
 (.seq
 (.draw [1, 6, 7, 8] [oA 223 3 1,
 oF 224 (.load false 1 (.t 223)) [0],
 oM 225 8,
 oF 226 (.iaddr 4 (.t 224) (.t 225)) [0, 1, 2],
 oF 227 (.faddr 0 (.t 226)) (u 4),
 oF 228 (.load false 1 (.t 227)) (u 5),
 oA 229 0 7,
 oF 230 (.load false 1 (.t 229)) [6],
 oF 231 (.bin .eql (.t 228) (.t 230)) (u 8)])
 (.cond (.t 231)
 (.seq
 (.region [] [oO 2 (.mv (.c (.bool false)))])
 .ret)
 .skip)))
 (.region [1, 6, 7, 8] [oM 221 8,
 oO 222 (.bin .add (.t 221) (.c (.int .i64 1))),
 oM 8 222])))
def c44_l3 : CC :=
 (.seq
 (.seq
 (.region [1, 6] [oM 150 6,
 oA 151 3 1,
 ol 152 1 151,
 oO 153 (.len false (.t 152)),
 oB 154 .lss 150 153])
 (.cond (.t 154)
 .skip
 (.exit 4)))
 (.seq
 (.block 5
 (.seq
 (.region [1, 6] [oA 157 3 1,
 ol 158 1 157,
 oM 159 6,
 oI 160 4 158 159,
 oL 161 4 160,
 oO 7 (.box 106 4 (.c (.agg [.str ⟨#[]⟩, .int .i64 0, .int .i64 0, .str ⟨#[]⟩]))),
 oS 4 7 161])
 (.seq
 (.seq
 (.draw [1, 6, 7] [oA 162 0 7,
 oF 163 (.load false 1 (.t 162)) [0],
 oF 164 (k1 72 163) [0, 1],
 oF 165 (.un .not (.t 164)) [0, 1, 2],
 oF 166 (.mv (.t 165)) (u 4),
 ⟨(some 167), .faddr 1 (.t 7), some (166, false), (u 5), []⟩,
 ⟨(some 168), .load false 1 (.t 167), some (166, false), (u 6), []⟩,
 ⟨(some 169), .bin .lss (.t 168) (.c (.int .i64 0)), some (166, false), (u 7), []⟩,
 oF 170 (.pick (.t 166) (.c (.bool true)) (.t 169)) (u 8),
 oF 171 (.mv (.t 170)) (u 9),
 ⟨(some 172), .faddr 1 (.t 7), some (171, false), (u 10), []⟩,
 ⟨(some 173), .load false 1 (.t 172), some (171, false), (u 11), []⟩,
 ⟨(some 174), .faddr 2 (.t 1), some (171, false), (u 10), []⟩,
 ⟨(some 175), .load false 1 (.t 174), some (171, false), (u 10 ++ [12]), []⟩,
 ⟨(some 176), .len false (.t 175), some (171, false), (u 10 ++ [12, 13]), []⟩,
 ⟨(some 177), .bin .geq (.t 173) (.t 176), some (171, false), (u 15), []⟩,
 oF 178 (.pick (.t 171) (.c (.bool true)) (.t 177)) (u 16),
 oF 179 (.mv (.t 178)) (u 17),
 ⟨(some 180), .faddr 2 (.t 7), some (179, false), (u 18), []⟩,
 ⟨(some 181), .load false 1 (.t 180), some (179, false), (u 19), []⟩,
 ⟨(some 182), .bin .lss (.t 181) (.c (.int .i64 0)), some (179, false), (u 20), []⟩,
 oF 183 (.pick (.t 179) (.c (.bool true)) (.t 182)) (u 21),
 oF 184 (.mv (.t 183)) (u 22),
 ⟨(some 185), .faddr 2 (.t 7), some (184, false), (u 23), []⟩,
 ⟨(some 186), .load false 1 (.t 185), some (184, false), (u 24), []⟩,
 ⟨(some 187), .faddr 2 (.t 1), some (184, false), (u 23), []⟩,
 ⟨(some 188), .load false 1 (.t 187), some (184, false), (u 23 ++ [25]), []⟩,
 ⟨(some 189), .faddr 1 (.t 7), some (184, false), (u 23), []⟩,
 ⟨(some 190), .load false 1 (.t 189), some (184, false), (u 23 ++ [27]), []⟩,
 ⟨(some 191), .iaddr 8 (.t 188) (.t 190), some (184, false), (u 23 ++ [25, 26, 27, 28]), []⟩,
 ⟨(some 192), .faddr 4 (.t 191), some (184, false), (u 23 ++ [25, 26, 27, 28, 29]), []⟩,
 ⟨(some 193), .load false 1 (.t 192), some (184, false), (u 23 ++ [25, 26, 27, 28, 29, 30]), []⟩,
 ⟨(some 194), .len false (.t 193), some (184, false), (u 23 ++ [25, 26, 27, 28, 29, 30, 31]), []⟩,
 ⟨(some 195), .bin .geq (.t 186) (.t 194), some (184, false), (u 33), []⟩,
 oF 196 (.pick (.t 184) (.c (.bool true)) (.t 195)) (u 34),
 oF 197 (.mv (.t 196)) (u 35),
 ⟨(some 198), .faddr 2 (.t 1), some (197, false), (u 36), []⟩,
 ⟨(some 199), .load false 1 (.t 198), some (197, false), (u 37), []⟩,
 ⟨(some 200), .faddr 1 (.t 7), some (197, false), (u 36), []⟩,
 ⟨(some 201), .load false 1 (.t 200), some (197, false), (u 36 ++ [38]), []⟩,
 ⟨(some 202), .iaddr 8 (.t 199) (.t 201), some (197, false), (u 40), []⟩,
 ⟨(some 203), .faddr 4 (.t 202), some (197, false), (u 41), []⟩,
 ⟨(some 204), .load false 1 (.t 203), some (197, false), (u 42), []⟩,
 ⟨(some 205), .faddr 2 (.t 7), some (197, false), (u 36), []⟩,
 ⟨(some 206), .load false 1 (.t 205), some (197, false), (u 36 ++ [43]), []⟩,
 ⟨(some 207), .iaddr 3 (.t 204) (.t 206), some (197, false), (u 45), []⟩,
 ⟨(some 208), .faddr 2 (.t 207), some (197, false), (u 46), []⟩,
 ⟨(some 209), .load false 1 (.t 208), some (197, false), (u 47), []⟩,
 ⟨(some 210), .bin .gtr (.t 209) (.c (.int .i64 20)), some (197, false), (u 48), []⟩,
 oF 211 (.pick (.t 197) (.c (.bool true)) (.t 210)) (u 49),
 oF 212 (.mv (.t 211)) (u 50),
 ⟨(some 213), .faddr 3 (.t 7), some (212, false), (u 51), []⟩,
 ⟨(some 214), .load false 1 (.t 213), some (212, false), (u 52), []⟩,
 ⟨(some 215), .len true (.t 214), some (212, false), (u 53), []⟩,
 ⟨(some 216), .bin .gtr (.t 215) (.c (.int .i64 1)), some (212, false), (u 54), []⟩,
 oF 217 (.pick (.t 212) (.c (.bool true)) (.t 216)) (u 55)])
 (.cond (.t 217)
 (.seq
 (.region [] [oO 2 (.mv (.c (.bool false)))])
 .ret)
 .skip))
 (.seq
 (.region [1, 6, 7] [oO 8 (.mv (.c (.int .i64 0)))])
 (.block 6
 (.loop c44_l2))))))
 (.region [1, 6] [oM 155 6,
 oO 156 (.bin .add (.t 155) (.c (.int .i64 1))),
 oM 6 156])))
/-- progeny/progenyref11.Valid -/
def c44 : CFn := ⟨232, [.t 2],
 (.seq
 (.region [0] [oX 1 25 4 0,
 oO 2 (.mv (.c (.bool false)))])
 (.seq
 (.seq
 (.region [1] [oA 9 0 1,
 ol 10 1 9,
 oO 11 (k1 72 10),
 oN 12 11,
 oM 13 12,
 oG 14 (.faddr 1 (.t 1)) 13 false,
 oG 15 (.load false 1 (.t 14)) 13 false,
 oG 16 (.bin .lss (.t 15) (.c (.int .i64 1))) 13 false,
 oO 17 (.pick (.t 13) (.c (.bool true)) (.t 16)),
 oM 18 17,
 oG 19 (.faddr 1 (.t 1)) 18 false,
 oG 20 (.load false 1 (.t 19)) 18 false,
 oG 21 (.bin .gtr (.t 20) (.c (.int .i64 4))) 18 false,
 oO 22 (.pick (.t 18) (.c (.bool true)) (.t 21)),
 oM 23 22,
 oG 24 (.faddr 2 (.t 1)) 23 false,
 oG 25 (.load false 1 (.t 24)) 23 false,
 oG 26 (.len false (.t 25)) 23 false,
 oG 27 (.bin .lss (.t 26) (.c (.int .i64 1))) 23 false,
 oO 28 (.pick (.t 23) (.c (.bool true)) (.t 27)),
 oM 29 28,
 oG 30 (.faddr 2 (.t 1)) 29 false,
 oG 31 (.load false 1 (.t 30)) 29 false,
 oG 32 (.len false (.t 31)) 29 false,
 oG 33 (.bin .gtr (.t 32) (.c (.int .i64 8))) 29 false,
 oO 34 (.pick (.t 29) (.c (.bool true)) (.t 33)),
 oM 35 34,
 oG 36 (.faddr 3 (.t 1)) 35 false,
 oG 37 (.load false 1 (.t 36)) 35 false,
 oG 38 (.len false (.t 37)) 35 false,
 oG 39 (.bin .gtr (.t 38) (.c (.int .i64 3))) 35 false,
 oO 40 (.pick (.t 35) (.c (.bool true)) (.t 39))])
 (.cond (.t 40)
 (.seq
 (.region [] [oO 2 (.mv (.c (.bool false)))])
 .ret)
 .skip))
 (.seq
 (.seq
 (.region [1] [oO 3 (.mv (.c (.int .i64 0)))])
 (.block 0
 (.loop c44_l1)))
 (.seq
 (.seq
 (.region [1] [oO 6 (.mv (.c (.int .i64 0)))])
 (.block 4
 (.loop c44_l3)))
 (.seq
 (.region [] [oO 2 (.mv (.c (.bool true)))])
 .ret))))), false, false⟩
/-- progeny/progenyref19.isLink -/
def c45 : CFn := ⟨0, [.t 0], .user p43, false, false⟩
/-- progeny/logic.open -/
def c46 : CFn := ⟨57, [.t 10, .t 11],
 (.seq
 (.region [0, 1, 2, 3, 4] [oX 5 25 4 0,
 oX 6 25 4 1,
 oX 7 27 3 2,
 oO 10 (.mv (.c (.nilptr))),
 oO 11 (.mv (.c (.int .i64 0)))])
 (.seq
 (.region [3, 4, 5, 6, 7] [oL 19 4 5,
 oL 20 4 6,
 oL 21 3 7,
 oO 22 (k3 14 19 20 21),
 oM 18 22,
 oE 23 18 0,
 oE 24 18 1,
 oM 12 23,
 oM 13 24])
 (.seq
 (.block 0
 (.seq
 (.region [3, 4, 5, 6, 7, 12, 13] [oM 26 13,
 oO 27 (.bin .neq (.t 26) (.c (.int .i64 0))),
 oM 25 27])
 (.cond (.t 25)
 (.seq
 (.region [13] [oM 28 13,
 oO 10 (.mv (.c (.nilptr))),
 oM 11 28])
 .ret)
 (.seq
 (.region [3, 4, 5, 6, 7, 12] [oM 30 12,
 oN 31 30,
 oM 29 31])
 (.cond (.t 29)
 (.seq
 (.region [] [oO 10 (.mv (.c (.nilptr))),
 oO 11 (.mv (.c (.int .i64 180)))])
 .ret)
 .skip)))))
 (.seq
 (.region [3, 4, 5, 6, 7] [oL 33 4 5,
 oM 34 3,
 oO 35 (k2 76 33 34),
 oM 32 35,
 oE 36 32 0,
 oE 37 32 1,
 oM 14 36,
 oM 15 37])
 (.seq
 (.region [3, 4, 5, 6, 7, 14] [oL 39 4 6,
 oM 40 4,
 oO 41 (k2 76 39 40),
 oM 38 41,
 oE 42 38 0,
 oE 43 38 1,
 oM 16 42,
 oM 17 43])
 (.seq
 (.seq
 (.region [3, 4, 5, 6, 7, 14, 16] [oM 44 14,
 oN 45 44,
 oM 46 45,
 oG 47 (.mv (.t 16)) 46 false,
 oG 48 (.un .not (.t 47)) 46 false,
 oO 49 (.pick (.t 46) (.c (.bool true)) (.t 48))])
 (.cond (.t 49)
 (.seq
 (.region [] [oO 10 (.mv (.c (.nilptr))),
 oO 11 (.mv (.c (.int .i64 120)))])
 .ret)
 .skip))
 (.seq
 (.region [3, 4, 5, 6, 7] [oL 50 4 5,
 oL 51 4 6,
 oL 52 3 7,
 oM 53 3,
 oM 54 4,
 oO 55 (.build [.str ⟨#[]⟩, .int .i64 0, .nils, .nils, .str ⟨#[]⟩, .int .i64 0, .nils, .nils, .int .i64 0, .int .i64 0, .str ⟨#[]⟩, .nils, .nils] [(0, 4, (.t 50)), (4, 4, (.t 51)), (8, 3, (.t 52)), (11, 1, (.t 53)), (12, 1, (.t 54))]),
 oX 56 94 13 55,
 oM 10 56,
 oO 11 (.mv (.c (.int .i64 0)))])
 .ret))))))), false, false⟩
/-- (*progeny/logic.pair).agree -/
def c47 : CFn := ⟨15, [.t 2],
 (.seq
 (.region [0] [oO 2 (.mv (.c (.bool false)))])
 (.seq
 (.region [0] [oM 3 0,
 oO 4 (.nilck (.t 3)),
 oA 5 8 4,
 oA 6 2 5,
 ol 7 1 6,
 oO 8 (.bin .eql (.t 7) (.c (.str ⟨#[76]⟩))),
 oM 9 8,
 oG 10 (.mv (.t 0)) 9 false,
 oG 11 (z1 53 10) 9 false,
 oG 12 (.len false (.t 11)) 9 false,
 oG 13 (.bin .eql (.t 12) (.c (.int .i64 0))) 9 false,
 oO 14 (.pick (.t 9) (.c (.bool true)) (.t 13)),
 oM 2 14])
 .ret)), false, false⟩
/-- progeny/progenyref19.forests -/
def c48 : CFn := ⟨37, [.t 10],
 (.seq
 (.region [0, 1, 2, 3, 4] [oX 5 25 4 0,
 oX 6 25 4 1,
 oX 7 27 3 2,
 oO 10 (.mv (.c (.int .i64 0)))])
 (.seq
 (.block 0
 (.seq
 (.region [3, 4, 5, 6, 7] [oL 12 4 5,
 oO 13 (k1 44 12),
 oN 14 13,
 oM 15 14,
 oG 16 (.load true 4 (.t 6)) 15 false,
 oG 17 (k1 44 16) 15 false,
 oG 18 (.un .not (.t 17)) 15 false,
 oO 19 (.pick (.t 15) (.c (.bool true)) (.t 18)),
 oM 11 19])
 (.cond (.t 11)
 (.seq
 (.region [] [oO 10 (.mv (.c (.int .i64 100)))])
 .ret)
 (.seq
 (.region [3, 4, 5, 6, 7] [oL 21 4 5,
 oL 22 4 6,
 oL 23 3 7,
 oO 24 (k3 45 21 22 23),
 oN 25 24,
 oM 20 25])
 (.cond (.t 20)
 (.seq
 (.region [] [oO 10 (.mv (.c (.int .i64 180)))])
 .ret)
 (.seq
 (.region [3, 4, 5, 6] [oL 27 4 5,
 oM 28 3,
 oO 29 (.call (.c (.fn 67 [])) [(.t 27), (.t 28), (.c (.nils))] false),
 oO 30 (.bin .neq (.t 29) (.c (.int .i64 0))),
 oM 31 30,
 oG 32 (.load true 4 (.t 6)) 31 false,
 oG 33 (.mv (.t 4)) 31 false,
 oG 34 (.call (.c (.fn 67 [])) [(.t 32), (.t 33), (.c (.nils))] false) 31 false,
 oG 35 (.bin .neq (.t 34) (.c (.int .i64 0))) 31 false,
 oO 36 (.pick (.t 31) (.c (.bool true)) (.t 35)),
 oM 26 36])
 (.cond (.t 26)
 (.seq
 (.region [] [oO 10 (.mv (.c (.int .i64 120)))])
 .ret)
 .skip)))))))
 (.seq
 (.region [] [oO 10 (.mv (.c (.int .i64 0)))])
 .ret))), false, false⟩
def c49_l0 : CC :=
 (.seq
 (.seq
 (.region [3, 4, 5, 6, 7, 11, 12] [oM 13 12,
 oM 14 3,
 oO 15 (.len false (.t 14)),
 oB 16 .lss 13 15])
 (.cond (.t 16)
 .skip
 (.exit 0)))
 (.seq
 (.block 1
 (.seq
 (.draw [3, 4, 5, 6, 7, 11, 12] [oM 19 3,
 oM 20 12,
 oF 21 (.iaddr 2 (.t 19) (.t 20)) [0, 1],
 oF 22 (.faddr 0 (.t 21)) [0, 1, 2],
 oF 23 (.load false 1 (.t 22)) (u 4),
 oA 24 0 7,
 oF 25 (.load false 1 (.t 24)) [5],
 oF 26 (.bin .eql (.t 23) (.t 25)) (u 7),
 oF 27 (.mv (.t 26)) (u 8),
 ⟨(some 28), .load true 4 (.t 5), some (27, true), (u 9), []⟩,
 ⟨(some 29), .load true 4 (.t 6), some (27, true), (u 9), []⟩,
 ⟨(some 30), .load true 3 (.t 7), some (27, true), (u 9), []⟩,
 ⟨(some 31), .mv (.t 4), some (27, true), (u 9), []⟩,
 ⟨(some 32), .mv (.t 3), some (27, true), (u 9), []⟩,
 ⟨(some 33), .mv (.t 12), some (27, true), (u 9), []⟩,
 ⟨(some 34), .iaddr 2 (.t 32) (.t 33), some (27, true), (u 9 ++ [13, 14]), []⟩,
 ⟨(some 35), .faddr 1 (.t 34), some (27, true), (u 9 ++ [13, 14, 15]), []⟩,
 ⟨(some 36), .load false 1 (.t 35), some (27, true), (u 9 ++ [13, 14, 15, 16]), []⟩,
 ⟨(some 37), k5 54 28 29 30 31 36, some (27, true), (u 18), []⟩,
 ⟨(some 38), .bin .lss (.t 37) (.c (.int .i64 0)), some (27, true), (u 19), []⟩,
 oF 39 (.pick (.t 27) (.t 38) (.c (.bool false))) (u 20)])
 (.cond (.t 39)
 (.region [3, 4, 5, 6, 7, 11, 12] [oM 40 11,
 oM 41 12,
 oO 42 (.bslice 3 1 [[.int .i64 0]] [(0, (.t 41))]),
 oO 43 (.app 3 1 8 false (.t 40) (.t 42)),
 oM 11 43])
 .skip)))
 (.region [3, 4, 5, 6, 7, 11, 12] [oM 17 12,
 oO 18 (.bin .add (.t 17) (.c (.int .i64 1))),
 oM 12 18])))
/-- progeny/progenyref19.lost -/
def c49 : CFn := ⟨45, [.t 10],
 (.seq
 (.region [0, 1, 2, 3, 4] [oX 5 25 4 0,
 oX 6 25 4 1,
 oX 7 27 3 2,
 oO 10 (.mv (.c (.nils)))])
 (.seq
 (.region [3, 4, 5, 6, 7] [oO 11 (.mv (.c (.nils)))])
 (.seq
 (.seq
 (.region [3, 4, 5, 6, 7, 11] [oO 12 (.mv (.c (.int .i64 0)))])
 (.block 0
 (.loop c49_l0)))
 (.seq
 (.region [11] [oM 44 11,
 oM 10 44])
 .ret)))), false, false⟩
/-- progeny/logic.rooted -/
def c50 : CFn := ⟨47, [.t 12, .t 13],
 (.seq
 (.region [0, 1, 2, 3, 4, 5] [oX 6 25 4 0,
 oX 7 25 4 1,
 oX 8 27 3 2,
 oO 12 (.mv (.c (.nilptr))),
 oO 13 (.mv (.c (.int .i64 0)))])
 (.seq
 (.region [3, 4, 5, 6, 7, 8] [oL 17 4 6,
 oL 18 4 7,
 oL 19 3 8,
 oM 20 3,
 oM 21 4,
 oO 22 (k5 35 17 18 19 20 21),
 oM 16 22,
 oE 23 16 0,
 oE 24 16 1,
 oM 14 23,
 oM 15 24])
 (.seq
 (.block 0
 (.seq
 (.region [4, 5, 14, 15] [oM 26 15,
 oO 27 (.bin .neq (.t 26) (.c (.int .i64 0))),
 oM 25 27])
 (.cond (.t 25)
 (.seq
 (.region [15] [oM 28 15,
 oO 12 (.mv (.c (.nilptr))),
 oM 13 28])
 .ret)
 (.seq
 (.region [4, 5, 14] [oM 30 5,
 oO 31 (.bin .lss (.t 30) (.c (.int .i64 0))),
 oM 32 31,
 oG 33 (.mv (.t 5)) 32 false,
 oG 34 (.mv (.t 4)) 32 false,
 oG 35 (.len false (.t 34)) 32 false,
 oG 36 (.bin .geq (.t 33) (.t 35)) 32 false,
 oO 37 (.pick (.t 32) (.c (.bool true)) (.t 36)),
 oM 38 37,
 oG 39 (.mv (.t 4)) 38 false,
 oG 40 (.mv (.t 5)) 38 false,
 oG 41 (.iaddr 2 (.t 39) (.t 40)) 38 false,
 oG 42 (.faddr 0 (.t 41)) 38 false,
 oG 43 (.load false 1 (.t 42)) 38 false,
 oG 44 (.bin .neq (.t 43) (.c (.int .i64 0))) 38 false,
 oO 45 (.pick (.t 38) (.c (.bool true)) (.t 44)),
 oM 29 45])
 (.cond (.t 29)
 (.seq
 (.region [] [oO 12 (.mv (.c (.nilptr))),
 oO 13 (.mv (.c (.int .i64 2)))])
 .ret)
 .skip)))))
 (.seq
 (.region [14] [oM 46 14,
 oM 12 46,
 oO 13 (.mv (.c (.int .i64 0)))])
 .ret)))), false, false⟩
/-- (*progeny/logic.pair).isChild -/
def c51 : CFn := ⟨32, [.t 4],
 (.seq
 (.region [0, 1] [oO 4 (.mv (.c (.bool false)))])
 (.seq
 (.draw [0, 1] [oM 5 1,
 oF 6 (.bin .geq (.t 5) (.c (.int .i64 0))) [0],
 oF 7 (.mv (.t 6)) [0, 1],
 ⟨(some 8), .mv (.t 1), some (7, true), [0, 1, 2], []⟩,
 ⟨(some 9), .mv (.t 0), some (7, true), [0, 1, 2], []⟩,
 ⟨(some 10), .nilck (.t 9), some (7, true), [0, 1, 2, 4], []⟩,
 ⟨(some 11), .faddr 11 (.t 10), some (7, true), [0, 1, 2, 4, 5], []⟩,
 ⟨(some 12), .load false 1 (.t 11), some (7, true), [0, 1, 2, 4, 5, 6], []⟩,
 ⟨(some 13), .len false (.t 12), some (7, true), [0, 1, 2, 4, 5, 6, 7], []⟩,
 ⟨(some 14), .bin .lss (.t 8) (.t 13), some (7, true), (u 9), []⟩,
 oF 15 (.pick (.t 7) (.t 14) (.c (.bool false))) (u 10),
 oF 16 (.mv (.t 15)) (u 11),
 ⟨(some 17), .mv (.t 0), some (16, true), (u 12), []⟩,
 ⟨(some 18), .nilck (.t 17), some (16, true), (u 13), []⟩,
 ⟨(some 19), .faddr 11 (.t 18), some (16, true), (u 14), []⟩,
 ⟨(some 20), .load false 1 (.t 19), some (16, true), (u 15), []⟩,
 ⟨(some 21), .mv (.t 1), some (16, true), (u 12), []⟩,
 ⟨(some 22), .iaddr 2 (.t 20) (.t 21), some (16, true), (u 17), []⟩,
 ⟨(some 23), .faddr 0 (.t 22), some (16, true), (u 18), []⟩,
 ⟨(some 24), .load false 1 (.t 23), some (16, true), (u 19), []⟩,
 ⟨(some 25), .mv (.t 0), some (16, true), (u 12), []⟩,
 ⟨(some 26), .nilck (.t 25), some (16, true), (u 12 ++ [20]), []⟩,
 ⟨(some 27), .faddr 8 (.t 26), some (16, true), (u 12 ++ [20, 21]), []⟩,
 ⟨(some 28), .faddr 0 (.t 27), some (16, true), (u 12 ++ [20, 21, 22]), []⟩,
 ⟨(some 29), .load false 1 (.t 28), some (16, true), (u 12 ++ [20, 21, 22, 23]), []⟩,
 ⟨(some 30), .bin .eql (.t 24) (.t 29), some (16, true), (u 25), []⟩,
 oF 31 (.pick (.t 16) (.t 30) (.c (.bool false))) (u 26),
 oF 4 (.mv (.t 31)) (u 27)])
 .ret)), false, false⟩
/-- (*progeny/logic.pair).parent -/
def c52 : CFn := ⟨17, [.t 4],
 (.seq
 (.region [0, 1] [oO 4 (.mv (.c (.int .i64 0)))])
 (.seq
 (.region [0, 1] [oM 5 0,
 oM 6 0,
 oM 7 0,
 oO 8 (.nilck (.t 7)),
 oA 9 11 8,
 ol 10 1 9,
 oM 11 1,
 oI 12 2 10 11,
 oA 13 1 12,
 ol 14 1 13,
 oO 15 (k2 65 6 14),
 oO 16 (k2 77 5 15),
 oM 4 16])
 .ret)), false, false⟩
def c53_l0 : CC :=
 (.seq
 (.region [0, 3, 9, 10] [oB 11 .lss 10 9])
 (.seq
 (.cond (.t 11)
 .skip
 (.exit 0))
 (.seq
 (.block 1
 (.seq
 (.region [0, 3, 9, 10] [oM 12 10,
 oM 4 12])
 (.seq
 (.region [0, 3, 4, 9, 10] [oM 13 0,
 oM 14 4,
 oO 15 (k2 51 13 14),
 oM 16 15,
 oG 17 (.mv (.t 0)) 16 true,
 oG 18 (.mv (.t 4)) 16 true,
 oG 19 (k2 52 17 18) 16 true,
 oG 20 (.bin .lss (.t 19) (.c (.int .i64 0))) 16 true,
 oO 21 (.pick (.t 16) (.t 20) (.c (.bool false)))])
 (.cond (.t 21)
 (.region [0, 3, 4, 9, 10] [oM 22 3,
 oM 23 4,
 oO 24 (.bslice 3 1 [[.int .i64 0]] [(0, (.t 23))]),
 oO 25 (.app 3 1 8 false (.t 22) (.t 24)),
 oM 3 25])
 .skip))))
 (.region [0, 3, 9, 10] [oO 26 (.bin .add (.t 10) (.c (.int .i64 1))),
 oM 10 26]))))
/-- (*progeny/logic.pair).lost -/
def c53 : CFn := ⟨28, [.t 2],
 (.seq
 (.region [0] [oO 2 (.mv (.c (.nils)))])
 (.seq
 (.region [0] [oO 3 (.mv (.c (.nils)))])
 (.seq
 (.seq
 (.region [0, 3] [oM 5 0,
 oO 6 (.nilck (.t 5)),
 oA 7 11 6,
 ol 8 1 7,
 oO 9 (.len false (.t 8)),
 oO 10 (.mv (.c (.int .i64 0)))])
 (.block 0
 (.loop c53_l0)))
 (.seq
 (.region [3] [oM 27 3,
 oM 2 27])
 .ret)))), false, false⟩
def c54_l0 : CC :=
 (.seq
 (.seq
 (.region [3, 6, 11, 14] [oM 28 14,
 oM 29 3,
 oO 30 (.len false (.t 29)),
 oB 31 .lss 28 30])
 (.cond (.t 31)
 .skip
 (.exit 0)))
 (.seq
 (.block 1
 (.seq
 (.draw [3, 6, 11, 14] [oL 35 4 6,
 oM 36 3,
 oM 37 14,
 oF 38 (.iaddr 2 (.t 36) (.t 37)) [1, 2],
 oF 39 (.faddr 0 (.t 38)) [1, 2, 3],
 oF 40 (.load false 1 (.t 39)) [1, 2, 3, 4],
 oM 41 3,
 oM 42 14,
 oF 43 (.iaddr 2 (.t 41) (.t 42)) [6, 7],
 oF 44 (.faddr 1 (.t 43)) [6, 7, 8],
 oF 45 (.load false 1 (.t 44)) [6, 7, 8, 9],
 oF 46 (k3 79 35 40 45) (u 11),
 oF 34 (.mv (.t 46)) (u 12),
 oF 47 (.extract (.t 34) 0) (u 13),
 oF 48 (.extract (.t 34) 1) (u 13),
 oF 15 (.mv (.t 47)) (u 14),
 oF 16 (.mv (.t 48)) (u 16)])
 (.seq
 (.region [3, 6, 11, 14, 15] [oM 49 3,
 oM 50 14,
 oI 51 2 49 50,
 oA 52 0 51,
 ol 53 1 52,
 oO 54 (.bin .eql (.t 53) (.c (.int .i64 0))),
 oM 55 54,
 oG 56 (.mv (.t 15)) 55 true,
 oG 57 (.mv (.t 11)) 55 true,
 oG 58 (.bin .eql (.t 56) (.t 57)) 55 true,
 oO 59 (.pick (.t 55) (.t 58) (.c (.bool false)))])
 (.cond (.t 59)
 (.seq
 (.region [14] [oM 60 14,
 oM 10 60])
 .ret)
 .skip))))
 (.region [3, 6, 11, 14] [oM 32 14,
 oO 33 (.bin .add (.t 32) (.c (.int .i64 1))),
 oM 14 33])))
/-- progeny/progenyref19.above -/
def c54 : CFn := ⟨61, [.t 10],
 (.seq
 (.region [0, 1, 2, 3, 4] [oX 5 25 4 0,
 oX 6 25 4 1,
 oX 7 27 3 2,
 oO 10 (.mv (.c (.int .i64 0)))])
 (.seq
 (.region [3, 4, 5, 6, 7] [oL 18 4 5,
 oA 19 0 7,
 ol 20 1 19,
 oM 21 4,
 oA 22 1 7,
 ol 23 1 22,
 oO 24 (k4 78 18 20 21 23),
 oM 17 24,
 oE 25 17 0,
 oE 26 17 1,
 oE 27 17 2,
 oM 11 25,
 oM 12 26,
 oM 13 27])
 (.seq
 (.seq
 (.region [3, 6, 11] [oO 14 (.mv (.c (.int .i64 0)))])
 (.block 0
 (.loop c54_l0)))
 (.seq
 (.region [] [oO 10 (.mv (.c (.int .i64 (-1))))])
 .ret)))), false, false⟩
/-- progeny/plain.Insert -/
def c58 : CFn := ⟨41, [.t 10, .t 11, .t 12],
 (.seq
 (.region [0, 1, 2, 3, 4] [oX 5 25 4 0,
 oO 10 (.mv (.c (.nils))),
 oO 11 (.mv (.c (.int .i64 0))),
 oO 12 (.mv (.c (.int .i64 0)))])
 (.seq
 (.region [1, 2, 3, 4, 5] [oL 16 4 5,
 oM 17 1,
 oM 18 2,
 oM 19 3,
 oM 20 4,
 oO 21 (k5 83 16 17 18 19 20),
 oM 15 21,
 oE 22 15 0,
 oE 23 15 1,
 oM 13 22,
 oM 14 23])
 (.seq
 (.block 0
 (.seq
 (.region [1, 3, 4, 13, 14] [oM 25 14,
 oO 26 (.bin .neq (.t 25) (.c (.int .i64 0))),
 oM 24 26])
 (.cond (.t 24)
 (.seq
 (.region [14] [oM 27 14,
 oO 10 (.mv (.c (.nils))),
 oO 11 (.mv (.c (.int .i64 0))),
 oM 12 27])
 .ret)
 (.seq
 (.region [1, 3, 4, 13] [oM 29 1,
 oO 30 (.len false (.t 29)),
 oO 31 (.bin .geq (.t 30) (.c (.int .i64 200))),
 oM 28 31])
 (.cond (.t 28)
 (.seq
 (.region [] [oO 10 (.mv (.c (.nils))),
 oO 11 (.mv (.c (.int .i64 0))),
 oO 12 (.mv (.c (.int .i64 4)))])
 .ret)
 .skip)))))
 (.seq
 (.region [1, 3, 4, 13] [oM 32 1,
 oO 33 (k1 37 32),
 oM 34 13,
 oM 35 3,
 oM 36 4,
 oO 37 (.build [.int .i64 0, .str ⟨#[]⟩] [(0, 1, (.t 35)), (1, 1, (.t 36))]),
 oO 38 (.bslice 44 2 [[.int .i64 0, .str ⟨#[]⟩]] [(0, (.t 37))]),
 oO 39 (k3 84 33 34 38),
 oM 40 13,
 oM 10 39,
 oM 11 40,
 oO 12 (.mv (.c (.int .i64 0)))])
 .ret)))), false, false⟩
/-- (*progeny/logic.pair).forbids -/
def c59 : CFn := ⟨30, [.t 6],
 (.seq
 (.region [0, 1, 2] [oO 6 (.mv (.c (.bool false)))])
 (.seq
 (.region [0, 1, 2] [oM 7 1,
 oM 8 0,
 oO 9 (.nilck (.t 8)),
 oA 10 8 9,
 oA 11 0 10,
 ol 12 1 11,
 oB 13 .eql 7 12,
 oM 14 13,
 oG 15 (.mv (.t 0)) 14 true,
 oG 16 (.nilck (.t 15)) 14 true,
 oG 17 (.faddr 8 (.t 16)) 14 true,
 oG 18 (.faddr 2 (.t 17)) 14 true,
 oG 19 (.load false 1 (.t 18)) 14 true,
 oG 20 (.bin .neq (.t 19) (.c (.str ⟨#[76]⟩))) 14 true,
 oO 21 (.pick (.t 14) (.t 20) (.c (.bool false))),
 oM 22 21,
 oG 23 (.mv (.t 0)) 22 true,
 oG 24 (.mv (.t 0)) 22 true,
 oG 25 (.mv (.t 2)) 22 true,
 oG 26 (k2 65 24 25) 22 true,
 oG 27 (k2 77 23 26) 22 true,
 oG 28 (.bin .lss (.t 27) (.c (.int .i64 0))) 22 true,
 oO 29 (.pick (.t 22) (.t 28) (.c (.bool false))),
 oM 6 29])
 .ret)), false, false⟩
/-- progeny/progenylaw13.Shop -/
def c60 : CFn := ⟨11, [.cell 0 true 4],
 (.seq
 (.region [] [oO 0 (.box 25 4 (.c (.agg [.str ⟨#[]⟩, .int .i64 0, .nils, .nils])))])
 (.seq
 (.region [0] [oO 1 (.build [.str ⟨#[]⟩, .int .i64 0, .int .i64 0] [(0, 1, (.c (.str ⟨#[67, 85, 83, 84, 78, 79]⟩))), (2, 1, (.c (.int .i64 1)))]),
 oO 2 (.bslice 101 3 [[.str ⟨#[]⟩, .int .i64 0, .int .i64 0]] [(0, (.t 1))]),
 oO 3 (.build [.str ⟨#[]⟩, .int .i64 0, .int .i64 0, .int .i64 0, .nils, .int .i64 0, .bool false, .bool false] [(0, 1, (.c (.str ⟨#[67, 85, 83, 84]⟩))), (1, 1, (.c (.int .i64 (-1)))), (2, 1, (.c (.int .i64 1))), (3, 1, (.c (.int .i64 10))), (4, 1, (.t 2)), (6, 1, (.c (.bool true)))]),
 oO 4 (.build [.str ⟨#[]⟩, .int .i64 0, .int .i64 0] [(0, 1, (.c (.str ⟨#[79, 82, 68, 78, 79]⟩))), (2, 1, (.c (.int .i64 1)))]),
 oO 5 (.bslice 101 3 [[.str ⟨#[]⟩, .int .i64 0, .int .i64 0]] [(0, (.t 4))]),
 oO 6 (.build [.str ⟨#[]⟩, .int .i64 0, .int .i64 0, .int .i64 0, .nils, .int .i64 0, .bool false, .bool false] [(0, 1, (.c (.str ⟨#[79, 82, 68, 69, 82]⟩))), (1, 1, (.c (.int .i64 0))), (2, 1, (.c (.int .i64 1))), (3, 1, (.c (.int .i64 12))), (4, 1, (.t 5)), (6, 1, (.c (.bool true)))]),
 oO 7 (.build [.str ⟨#[]⟩, .int .i64 0, .int .i64 0, .int .i64 0, .nils, .int .i64 0, .bool false, .bool false] [(0, 1, (.c (.str ⟨#[73, 84, 69, 77]⟩))), (1, 1, (.c (.int .i64 1))), (2, 1, (.c (.int .i64 1))), (3, 1, (.c (.int .i64 8))), (5, 1, (.c (.int .i64 (-1)))), (7, 1, (.c (.bool true)))]),
 oO 8 (.build [.str ⟨#[]⟩, .int .i64 0, .int .i64 0, .int .i64 0, .nils, .int .i64 0, .bool false, .bool false] [(0, 1, (.c (.str ⟨#[80, 72, 79, 78, 69]⟩))), (1, 1, (.c (.int .i64 0))), (2, 1, (.c (.int .i64 1))), (3, 1, (.c (.int .i64 8))), (5, 1, (.c (.int .i64 (-1))))]),
 oO 9 (.bslice 87 8 [[.str ⟨#[]⟩, .int .i64 0, .int .i64 0, .int .i64 0, .nils, .int .i64 0, .bool false, .bool false], [.str ⟨#[]⟩, .int .i64 0, .int .i64 0, .int .i64 0, .nils, .int .i64 0, .bool false, .bool false], [.str ⟨#[]⟩, .int .i64 0, .int .i64 0, .int .i64 0, .nils, .int .i64 0, .bool false, .bool false], [.str ⟨#[]⟩, .int .i64 0, .int .i64 0, .int .i64 0, .nils, .int .i64 0, .bool false, .bool false]] [(0, (.t 3)), (1, (.t 6)), (2, (.t 7)), (3, (.t 8))]),
 oO 10 (.build [.str ⟨#[]⟩, .int .i64 0, .nils, .nils] [(0, 1, (.c (.str ⟨#[83, 72, 79, 80]⟩))), (1, 1, (.c (.int .i64 4))), (2, 1, (.t 9))]),
 oS 4 0 10])
 .ret)), false, false⟩
/-- progeny/plain.forest -/
def c61 : CFn := ⟨20, [.t 6],
 (.seq
 (.region [0, 1, 2] [oX 3 25 4 0,
 oX 4 28 1 1,
 oO 6 (.mv (.c (.int .i64 0)))])
 (.seq
 (.block 0
 (.seq
 (.region [2, 3, 4] [oL 8 4 3,
 oO 9 (k1 42 8),
 oN 10 9,
 oM 7 10])
 (.cond (.t 7)
 (.seq
 (.region [] [oO 6 (.mv (.c (.int .i64 100)))])
 .ret)
 (.seq
 (.region [2, 3, 4] [oL 12 4 3,
 ol 13 1 4,
 oO 14 (k2 85 12 13),
 oN 15 14,
 oM 11 15])
 (.cond (.t 11)
 (.seq
 (.region [] [oO 6 (.mv (.c (.int .i64 120)))])
 .ret)
 (.seq
 (.region [2, 4] [oM 17 2,
 oO 18 (.mkfn 87 [(.t 4)]),
 oO 19 (k2 86 17 18),
 oM 16 19])
 (.cond (.t 16)
 (.seq
 (.region [] [oO 6 (.mv (.c (.int .i64 2)))])
 .ret)
 .skip)))))))
 (.seq
 (.region [] [oO 6 (.mv (.c (.int .i64 0)))])
 .ret))), false, false⟩
/-- slices.Delete[[]progeny/api.Item,progeny/api.Item] -/
def c62 : CFn := ⟨33, [.t 6],
 (.seq
 (.region [0, 1, 2] [oO 6 (.mv (.c (.nils)))])
 (.seq
 (.region [0, 1, 2] [oM 8 0,
 oM 9 1,
 oM 10 2,
 oM 11 0,
 oO 12 (.len false (.t 11)),
 oO 13 (.slc 2 (.t 8) (some (.t 9)) (some (.t 10)) (some (.t 12)))])
 (.seq
 (.seq
 (.region [0, 1, 2] [oM 14 1,
 oM 15 2,
 oB 16 .eql 14 15])
 (.cond (.t 16)
 (.seq
 (.region [0] [oM 17 0,
 oM 6 17])
 .ret)
 .skip))
 (.seq
 (.region [0, 1, 2] [oM 18 0,
 oO 19 (.len false (.t 18)),
 oM 7 19])
 (.seq
 (.draw [0, 1, 2, 7] [oM 20 0,
 oM 21 1,
 oF 22 (.slc 2 (.t 20) none (some (.t 21)) none) [0, 1],
 oM 23 0,
 oM 24 2,
 oF 25 (.slc 2 (.t 23) (some (.t 24)) none none) [3, 4],
 oF 26 (.app 44 2 24 true (.t 22) (.t 25)) (u 6),
 oF 0 (.mv (.t 26)) (u 7)])
 (.seq
 (.region [0, 7] [oM 27 0,
 oM 28 0,
 oO 29 (.len false (.t 28)),
 oM 30 7,
 oO 31 (.slc 2 (.t 27) (some (.t 29)) (some (.t 30)) none),
 ⟨none, .clear 2 [.int .i64 0, .str ⟨#[]⟩] (.t 31), none, [], []⟩])
 (.seq
 (.region [0] [oM 32 0,
 oM 6 32])
 .ret))))))), false, false⟩
def c63_l0 : CC :=
 (.seq
 (.seq
 (.draw [1, 2, 3, 7] [oM 17 2,
 oM 18 1,
 oF 19 (.len false (.t 18)) [1],
 oF 20 (.bin .lss (.t 17) (.t 19)) [0, 1, 2],
 oF 21 (.mv (.t 20)) (u 4),
 ⟨(some 22), .load true 4 (.t 3), some (21, true), (u 5), []⟩,
 ⟨(some 23), .mv (.t 1), some (21, true), (u 5), []⟩,
 ⟨(some 24), .mv (.t 2), some (21, true), (u 5), []⟩,
 ⟨(some 25), .iaddr 2 (.t 23) (.t 24), some (21, true), (u 5 ++ [6, 7]), []⟩,
 ⟨(some 26), .faddr 0 (.t 25), some (21, true), (u 5 ++ [6, 7, 8]), []⟩,
 ⟨(some 27), .load false 1 (.t 26), some (21, true), (u 5 ++ [6, 7, 8, 9]), []⟩,
 ⟨(some 28), k2 88 22 27, some (21, true), (u 11), []⟩,
 ⟨(some 29), .mv (.t 7), some (21, true), (u 5), []⟩,
 ⟨(some 30), .bin .gtr (.t 28) (.t 29), some (21, true), (u 13), []⟩,
 oF 31 (.pick (.t 21) (.t 30) (.c (.bool false))) (u 14)])
 (.cond (.t 31)
 .skip
 (.exit 0)))
 (.seq
 (.block 1
 .skip)
 (.region [1, 2, 3, 7] [oM 32 2,
 oO 33 (.bin .add (.t 32) (.c (.int .i64 1))),
 oM 2 33])))
/-- progeny/plain.end -/
def c63 : CFn := ⟨35, [.t 6],
 (.seq
 (.region [0, 1, 2] [oX 3 25 4 0,
 oO 6 (.mv (.c (.int .i64 0)))])
 (.seq
 (.draw [1, 2, 3] [oL 8 4 3,
 oM 9 1,
 oM 10 2,
 oF 11 (.iaddr 2 (.t 9) (.t 10)) [1, 2],
 oF 12 (.faddr 0 (.t 11)) [1, 2, 3],
 oF 13 (.load false 1 (.t 12)) [1, 2, 3, 4],
 oF 14 (k2 88 8 13) (u 6),
 oF 7 (.mv (.t 14)) (u 7)])
 (.seq
 (.seq
 (.region [1, 2, 3, 7] [oM 15 2,
 oO 16 (.bin .add (.t 15) (.c (.int .i64 1))),
 oM 2 16])
 (.block 0
 (.loop c63_l0)))
 (.seq
 (.region [2] [oM 34 2,
 oM 6 34])
 .ret)))), false, false⟩
/-- progeny/dbd.KeyOf -/
def c64 : CFn := ⟨45, [.t 6, .t 7],
 (.seq
 (.region [0, 1, 2] [oX 3 25 4 0,
 oO 6 (.mv (.c (.str ⟨#[]⟩))),
 oO 7 (.mv (.c (.int .i64 0)))])
 (.seq
 (.seq
 (.region [1, 2, 3] [oL 12 4 3,
 oM 13 1,
 oO 14 (.bslice 3 1 [[.int .i64 0]] [(0, (.t 13))]),
 oO 15 (k2 89 12 14),
 oM 8 15])
 (.seq
 (.region [1, 2, 3, 8] [oM 16 8,
 oO 17 (.bin .neq (.t 16) (.c (.int .i64 0)))])
 (.cond (.t 17)
 (.seq
 (.region [8] [oM 18 8,
 oO 6 (.mv (.c (.str ⟨#[]⟩))),
 oM 7 18])
 .ret)
 .skip)))
 (.seq
 (.region [1, 2, 3] [oA 19 2 3,
 ol 20 1 19,
 oM 21 1,
 oI 22 8 20 21,
 oL 23 8 22,
 oO 9 (.box 87 8 (.c (.agg [.str ⟨#[]⟩, .int .i64 0, .int .i64 0, .int .i64 0, .nils, .int .i64 0, .bool false, .bool false]))),
 oS 8 9 23])
 (.seq
 (.block 0
 (.seq
 (.region [2, 9] [oL 25 8 9,
 oM 26 2,
 oO 27 (k2 90 25 26),
 oN 28 27,
 oM 24 28])
 (.cond (.t 24)
 (.seq
 (.region [] [oO 6 (.mv (.c (.str ⟨#[]⟩))),
 oO 7 (.mv (.c (.int .i64 2)))])
 .ret)
 (.seq
 (.region [2, 9] [oA 30 5 9,
 ol 31 1 30,
 oO 32 (.bin .lss (.t 31) (.c (.int .i64 0))),
 oM 29 32])
 (.cond (.t 29)
 (.seq
 (.region [] [oO 6 (.mv (.c (.str ⟨#[]⟩))),
 oO 7 (.mv (.c (.int .i64 0)))])
 .ret)
 .skip)))))
 (.seq
 (.region [2, 9] [oA 34 4 9,
 ol 35 1 34,
 oA 36 5 9,
 ol 37 1 36,
 oI 38 3 35 37,
 oL 39 3 38,
 oM 40 2,
 oO 41 (k2 91 39 40),
 oM 33 41,
 oE 42 33 0,
 oE 43 33 1,
 oM 10 42,
 oM 11 43])
 (.seq
 (.region [10] [oM 44 10,
 oM 6 44,
 oO 7 (.mv (.c (.int .i64 0)))])
 .ret)))))), false, false⟩
/-- (*progeny/logic.pair).key -/
def c65 : CFn := ⟨35, [.t 4],
 (.seq
 (.region [0, 1] [oO 4 (.mv (.c (.str ⟨#[]⟩)))])
 (.seq
 (.draw [0, 1] [oM 6 0,
 oF 7 (.nilck (.t 6)) [0],
 oF 8 (.faddr 0 (.t 7)) [0, 1],
 oF 9 (.faddr 2 (.t 8)) [0, 1, 2],
 oa 10 (.load false 1 (.t 9)) (u 4) [21],
 oM 11 0,
 oF 12 (.nilck (.t 11)) [5],
 oF 13 (.faddr 8 (.t 12)) [5, 6],
 oF 14 (.faddr 0 (.t 13)) [5, 6, 7],
 oa 15 (.load false 1 (.t 14)) [5, 6, 7, 8] [21],
 oF 16 (.iaddr 8 (.t 10) (.t 15)) (u 10),
 oF 17 (.faddr 4 (.t 16)) (u 11),
 oa 18 (.load false 1 (.t 17)) (u 12) [21],
 oM 19 0,
 oF 20 (.nilck (.t 19)) [13],
 oF 21 (.faddr 8 (.t 20)) [13, 14],
 oF 22 (.faddr 1 (.t 21)) [13, 14, 15],
 oa 23 (.load false 1 (.t 22)) [13, 14, 15, 16] [21],
 oF 24 (.iaddr 3 (.t 18) (.t 23)) (u 18),
 oa 25 (.load true 3 (.t 24)) (u 19) [21],
 oO 5 (.box 101 3 (.c (.agg [.str ⟨#[]⟩, .int .i64 0, .int .i64 0]))),
 ⟨none, .store 3 (.t 5) (.t 25), none, (u 21), []⟩])
 (.seq
 (.region [1, 5] [oM 26 1,
 oA 27 1 5,
 ol 28 1 27,
 oA 29 1 5,
 ol 30 1 29,
 oA 31 2 5,
 ol 32 1 31,
 oB 33 .add 30 32,
 oO 34 (.slcs (.t 26) (some (.t 28)) (some (.t 33))),
 oM 4 34])
 .ret))), false, false⟩
def c66_l0 : CC :=
 (.seq
 (.seq
 (.region [0, 1, 3] [oM 7 3,
 oO 8 (.bin .geq (.t 7) (.c (.int .i64 0)))])
 (.cond (.t 8)
 .skip
 (.exit 0)))
 (.seq
 (.block 1
 (.seq
 (.region [0, 1, 3] [oM 11 0,
 oM 12 3,
 ol 13 1 1,
 oM 14 3,
 oI 15 1 13 14,
 ol 16 1 15,
 oO 17 (.call (.t 11) [(.t 12), (.t 16)] false),
 oN 18 17])
 (.cond (.t 18)
 .ret
 .skip)))
 (.region [0, 1, 3] [oM 9 3,
 oO 10 (.bin .sub (.t 9) (.c (.int .i64 1))),
 oM 3 10])))
/-- slices.Backward[[]int,int]$1 -/
def c66 : CFn := ⟨19, [],
 (.seq
 (.region [0, 1] [ol 4 1 1,
 oO 5 (.len false (.t 4)),
 oO 6 (.bin .sub (.t 5) (.c (.int .i64 1))),
 oM 3 6])
 (.block 0
 (.loop c66_l0))), false, false⟩
def c67_l0 : CC :=
 (.seq
 (.seq
 (.region [1, 2, 7] [oM 17 7,
 oM 18 2,
 oO 19 (.len false (.t 18)),
 oB 20 .lss 17 19])
 (.cond (.t 20)
 .skip
 (.exit 1)))
 (.seq
 (.block 2
 (.seq
 (.region [1, 2, 7] [oM 23 2,
 oM 24 7,
 oI 25 1 23 24,
 ol 26 1 25,
 oO 27 (.bin .lss (.t 26) (.c (.int .i64 0))),
 oM 28 27,
 oG 29 (.mv (.t 2)) 28 false,
 oG 30 (.mv (.t 7)) 28 false,
 oG 31 (.iaddr 1 (.t 29) (.t 30)) 28 false,
 oG 32 (.load false 1 (.t 31)) 28 false,
 oG 33 (.mv (.t 1)) 28 false,
 oG 34 (.len false (.t 33)) 28 false,
 oG 35 (.bin .geq (.t 32) (.t 34)) 28 false,
 oO 36 (.pick (.t 28) (.c (.bool true)) (.t 35))])
 (.cond (.t 36)
 (.seq
 (.region [] [oO 6 (.mv (.c (.int .i64 2)))])
 .ret)
 .skip)))
 (.region [1, 2, 7] [oM 21 7,
 oO 22 (.bin .add (.t 21) (.c (.int .i64 1))),
 oM 7 22])))
/-- progeny/progenyref13.Asked -/
def c67 : CFn := ⟨37, [.t 6],
 (.seq
 (.region [0, 1, 2] [oX 3 25 4 0,
 oO 6 (.mv (.c (.int .i64 0)))])
 (.seq
 (.block 0
 (.seq
 (.region [1, 2, 3] [oL 9 4 3,
 oO 10 (k1 44 9),
 oN 11 10,
 oM 8 11])
 (.cond (.t 8)
 (.seq
 (.region [] [oO 6 (.mv (.c (.int .i64 100)))])
 .ret)
 (.seq
 (.region [1, 2, 3] [oL 13 4 3,
 oM 14 1,
 oO 15 (k2 92 13 14),
 oN 16 15,
 oM 12 16])
 (.cond (.t 12)
 (.seq
 (.region [] [oO 6 (.mv (.c (.int .i64 120)))])
 .ret)
 .skip)))))
 (.seq
 (.seq
 (.region [1, 2] [oO 7 (.mv (.c (.int .i64 0)))])
 (.block 1
 (.loop c67_l0)))
 (.seq
 (.region [] [oO 6 (.mv (.c (.int .i64 0)))])
 .ret)))), false, false⟩
def c69_l0 : CC :=
 (.seq
 (.region [0, 6, 7] [oB 8 .lss 7 6])
 (.seq
 (.cond (.t 8)
 .skip
 (.exit 0))
 (.seq
 (.block 1
 (.seq
 (.region [0, 6, 7] [oM 9 7,
 oM 3 9])
 (.seq
 (.region [0, 3, 6, 7] [oM 10 0,
 oM 11 3,
 oO 12 (.idx (.t 10) (.t 11)),
 oO 13 (.bin .geq (.t 12) (.c (.int .u8 65))),
 oM 14 13,
 oG 15 (.mv (.t 0)) 14 true,
 oG 16 (.mv (.t 3)) 14 true,
 oG 17 (.idx (.t 15) (.t 16)) 14 true,
 oG 18 (.bin .leq (.t 17) (.c (.int .u8 90))) 14 true,
 oO 19 (.pick (.t 14) (.t 18) (.c (.bool false))),
 oM 4 19])
 (.seq
 (.region [0, 3, 4, 6, 7] [oM 20 4,
 oN 21 20,
 oM 22 21,
 oG 23 (.mv (.t 3)) 22 true,
 oG 24 (.bin .eql (.t 23) (.c (.int .i64 0))) 22 true,
 oG 25 (.mv (.t 24)) 22 true,
 oG 26 (.mv (.t 0)) 25 false,
 oG 27 (.mv (.t 3)) 25 false,
 oG 28 (.idx (.t 26) (.t 27)) 25 false,
 oG 29 (.bin .lss (.t 28) (.c (.int .u8 48))) 25 false,
 oG 30 (.pick (.t 25) (.c (.bool true)) (.t 29)) 22 true,
 oG 31 (.mv (.t 30)) 22 true,
 oG 32 (.mv (.t 0)) 31 false,
 oG 33 (.mv (.t 3)) 31 false,
 oG 34 (.idx (.t 32) (.t 33)) 31 false,
 oG 35 (.bin .gtr (.t 34) (.c (.int .u8 57))) 31 false,
 oG 36 (.pick (.t 31) (.c (.bool true)) (.t 35)) 22 true,
 oO 37 (.pick (.t 22) (.t 36) (.c (.bool false)))])
 (.cond (.t 37)
 (.seq
 (.region [] [oO 2 (.mv (.c (.bool false)))])
 .ret)
 .skip)))))
 (.region [0, 6, 7] [oO 38 (.bin .add (.t 7) (.c (.int .i64 1))),
 oM 7 38]))))
/-- progeny/dbd.IsName -/
def c69 : CFn := ⟨47, [.t 2],
 (.seq
 (.region [0] [oO 2 (.mv (.c (.bool false)))])
 (.seq
 (.seq
 (.region [0] [oM 5 0,
 oO 6 (.len true (.t 5)),
 oO 7 (.mv (.c (.int .i64 0)))])
 (.block 0
 (.loop c69_l0)))
 (.seq
 (.region [0] [oM 39 0,
 oO 40 (.len true (.t 39)),
 oO 41 (.bin .geq (.t 40) (.c (.int .i64 1))),
 oM 42 41,
 oG 43 (.mv (.t 0)) 42 true,
 oG 44 (.len true (.t 43)) 42 true,
 oG 45 (.bin .leq (.t 44) (.c (.int .i64 8))) 42 true,
 oO 46 (.pick (.t 42) (.t 45) (.c (.bool false))),
 oM 2 46])
 .ret))), false, false⟩
def c70_l0 : CC :=
 (.seq
 (.region [0, 3, 15, 16, 17] [oB 18 .lss 17 16])
 (.seq
 (.cond (.t 18)
 .skip
 (.exit 0))
 (.seq
 (.block 1
 (.seq
 (.region [0, 3, 15, 16, 17] [oM 19 17,
 oI 20 8 15 17,
 oL 21 8 20,
 oO 5 (.box 87 8 (.c (.agg [.str ⟨#[]⟩, .int .i64 0, .int .i64 0, .int .i64 0, .nils, .int .i64 0, .bool false, .bool false]))),
 oM 4 19,
 oS 8 5 21])
 (.seq
 (.seq
 (.region [0, 3, 4, 5, 15, 16, 17] [oL 22 8 5,
 oO 23 (k1 94 22),
 oN 24 23,
 oM 25 24,
 oG 26 (.mv (.t 0)) 25 false,
 oG 27 (.mv (.t 4)) 25 false,
 oG 28 (.slc 8 (.t 26) none (some (.t 27)) none) 25 false,
 oG 29 (.mkfn 96 [(.t 5)]) 25 false,
 oG 30 (k2 95 28 29) 25 false,
 oO 31 (.pick (.t 25) (.c (.bool true)) (.t 30))])
 (.cond (.t 31)
 (.seq
 (.region [] [oO 2 (.mv (.c (.bool false)))])
 .ret)
 .skip))
 (.seq
 (.region [0, 3, 4, 5, 15, 16, 17] [oM 32 3,
 oA 33 1 5,
 ol 34 1 33,
 oO 35 (k2 81 32 34),
 oM 6 35])
 (.seq
 (.seq
 (.region [0, 3, 4, 5, 6, 15, 16, 17] [oM 36 4,
 oO 37 (.bin .eql (.t 36) (.c (.int .i64 0))),
 oM 38 37,
 oG 39 (.faddr 1 (.t 5)) 38 true,
 oG 40 (.load false 1 (.t 39)) 38 true,
 oG 41 (.bin .neq (.t 40) (.c (.int .i64 (-1)))) 38 true,
 oG 42 (.mv (.t 41)) 38 true,
 oG 43 (.faddr 5 (.t 5)) 42 false,
 oG 44 (.load false 1 (.t 43)) 42 false,
 oG 45 (.bin .lss (.t 44) (.c (.int .i64 0))) 42 false,
 oG 46 (.pick (.t 42) (.c (.bool true)) (.t 45)) 38 true,
 oG 47 (.mv (.t 46)) 38 true,
 oG 48 (.faddr 6 (.t 5)) 47 false,
 oG 49 (.load false 1 (.t 48)) 47 false,
 oG 50 (.un .not (.t 49)) 47 false,
 oG 51 (.pick (.t 47) (.c (.bool true)) (.t 50)) 38 true,
 oG 52 (.mv (.t 51)) 38 true,
 oG 53 (.faddr 4 (.t 5)) 52 false,
 oG 54 (.load false 1 (.t 53)) 52 false,
 oG 55 (.faddr 5 (.t 5)) 52 false,
 oG 56 (.load false 1 (.t 55)) 52 false,
 oG 57 (.iaddr 3 (.t 54) (.t 56)) 52 false,
 oG 58 (.faddr 2 (.t 57)) 52 false,
 oG 59 (.load false 1 (.t 58)) 52 false,
 oG 60 (.bin .gtr (.t 59) (.c (.int .i64 24))) 52 false,
 oG 61 (.pick (.t 52) (.c (.bool true)) (.t 60)) 38 true,
 oO 62 (.pick (.t 38) (.t 61) (.c (.bool false))),
 oM 63 62,
 oG 64 (.mv (.t 4)) 63 false,
 oG 65 (.bin .gtr (.t 64) (.c (.int .i64 0))) 63 false,
 oG 66 (.mv (.t 65)) 63 false,
 oG 67 (.mv (.t 6)) 66 true,
 oG 68 (.bin .lss (.t 67) (.c (.int .i64 0))) 66 true,
 oG 69 (.pick (.t 66) (.t 68) (.c (.bool false))) 63 false,
 oO 70 (.pick (.t 63) (.c (.bool true)) (.t 69))])
 (.cond (.t 70)
 (.seq
 (.region [] [oO 2 (.mv (.c (.bool false)))])
 .ret)
 .skip))
 (.seq
 (.region [0, 3, 4, 6, 15, 16, 17] [oM 71 3,
 oM 72 6,
 oO 73 (.bin .add (.t 72) (.c (.int .i64 1))),
 oO 74 (.slc 1 (.t 71) none (some (.t 73)) none),
 oM 75 4,
 oO 76 (.bslice 3 1 [[.int .i64 0]] [(0, (.t 75))]),
 oO 77 (.app 3 1 8 false (.t 74) (.t 76)),
 oM 3 77])
 (.seq
 (.region [0, 3, 15, 16, 17] [oM 78 3,
 oO 79 (.len false (.t 78)),
 oO 80 (.bin .gtr (.t 79) (.c (.int .i64 5)))])
 (.cond (.t 80)
 (.seq
 (.region [] [oO 2 (.mv (.c (.bool false)))])
 .ret)
 .skip))))))))
 (.region [0, 3, 15, 16, 17] [oO 81 (.bin .add (.t 17) (.c (.int .i64 1))),
 oM 17 81]))))
/-- progeny/dbd.areTypes -/
def c70 : CFn := ⟨82, [.t 2],
 (.seq
 (.region [0] [oO 2 (.mv (.c (.bool false)))])
 (.seq
 (.seq
 (.region [0] [oM 7 0,
 oO 8 (.len false (.t 7)),
 oO 9 (.bin .lss (.t 8) (.c (.int .i64 1))),
 oM 10 9,
 oG 11 (.mv (.t 0)) 10 false,
 oG 12 (.len false (.t 11)) 10 false,
 oG 13 (.bin .gtr (.t 12) (.c (.int .i64 8))) 10 false,
 oO 14 (.pick (.t 10) (.c (.bool true)) (.t 13))])
 (.cond (.t 14)
 (.seq
 (.region [] [oO 2 (.mv (.c (.bool false)))])
 .ret)
 .skip))
 (.seq
 (.region [0] [oO 3 (.mv (.c (.nils)))])
 (.seq
 (.seq
 (.region [0, 3] [oM 15 0,
 oO 16 (.len false (.t 15)),
 oO 17 (.mv (.c (.int .i64 0)))])
 (.block 0
 (.loop c70_l0)))
 (.seq
 (.region [] [oO 2 (.mv (.c (.bool true)))])
 .ret))))), false, false⟩
def c71_l0 : CC :=
 (.seq
 (.region [0, 1, 8, 9, 10] [oB 11 .lss 10 9])
 (.seq
 (.cond (.t 11)
 .skip
 (.exit 0))
 (.seq
 (.block 1
 (.seq
 (.region [0, 1, 8, 9, 10] [oM 12 10,
 oI 13 4 8 10,
 oL 14 4 13,
 oO 6 (.box 106 4 (.c (.agg [.str ⟨#[]⟩, .int .i64 0, .int .i64 0, .str ⟨#[]⟩]))),
 oM 5 12,
 oS 4 6 14])
 (.seq
 (.seq
 (.region [0, 1, 5, 6, 8, 9, 10] [oA 15 0 6,
 ol 16 1 15,
 oO 17 (k1 69 16),
 oN 18 17,
 oM 19 18,
 oG 20 (.faddr 1 (.t 6)) 19 false,
 oG 21 (.load false 1 (.t 20)) 19 false,
 oG 22 (.bin .lss (.t 21) (.c (.int .i64 0))) 19 false,
 oO 23 (.pick (.t 19) (.c (.bool true)) (.t 22)),
 oM 24 23,
 oG 25 (.faddr 1 (.t 6)) 24 false,
 oG 26 (.load false 1 (.t 25)) 24 false,
 oG 27 (.mv (.t 1)) 24 false,
 oG 28 (.len false (.t 27)) 24 false,
 oG 29 (.bin .geq (.t 26) (.t 28)) 24 false,
 oO 30 (.pick (.t 24) (.c (.bool true)) (.t 29)),
 oM 31 30,
 oG 32 (.faddr 3 (.t 6)) 31 false,
 oG 33 (.load false 1 (.t 32)) 31 false,
 oG 34 (.len true (.t 33)) 31 false,
 oG 35 (.bin .gtr (.t 34) (.c (.int .i64 1))) 31 false,
 oO 36 (.pick (.t 31) (.c (.bool true)) (.t 35)),
 oM 37 36,
 oG 38 (.mv (.t 0)) 37 false,
 oG 39 (.mv (.t 5)) 37 false,
 oG 40 (.slc 4 (.t 38) none (some (.t 39)) none) 37 false,
 oG 41 (.mkfn 98 [(.t 6)]) 37 false,
 oG 42 (k2 97 40 41) 37 false,
 oO 43 (.pick (.t 37) (.c (.bool true)) (.t 42))])
 (.cond (.t 43)
 (.seq
 (.region [] [oO 4 (.mv (.c (.bool false)))])
 .ret)
 .skip))
 (.seq
 (.region [0, 1, 6, 8, 9, 10] [oM 44 1,
 oA 45 1 6,
 ol 46 1 45,
 oI 47 8 44 46,
 oA 48 4 47,
 ol 49 1 48,
 oM 7 49])
 (.seq
 (.region [0, 1, 6, 7, 8, 9, 10] [oA 50 2 6,
 ol 51 1 50,
 oO 52 (.bin .lss (.t 51) (.c (.int .i64 0))),
 oM 53 52,
 oG 54 (.faddr 2 (.t 6)) 53 false,
 oG 55 (.load false 1 (.t 54)) 53 false,
 oG 56 (.mv (.t 7)) 53 false,
 oG 57 (.len false (.t 56)) 53 false,
 oG 58 (.bin .geq (.t 55) (.t 57)) 53 false,
 oO 59 (.pick (.t 53) (.c (.bool true)) (.t 58)),
 oM 60 59,
 oG 61 (.mv (.t 7)) 60 false,
 oG 62 (.faddr 2 (.t 6)) 60 false,
 oG 63 (.load false 1 (.t 62)) 60 false,
 oG 64 (.iaddr 3 (.t 61) (.t 63)) 60 false,
 oG 65 (.faddr 2 (.t 64)) 60 false,
 oG 66 (.load false 1 (.t 65)) 60 false,
 oG 67 (.bin .gtr (.t 66) (.c (.int .i64 20))) 60 false,
 oO 68 (.pick (.t 60) (.c (.bool true)) (.t 67))])
 (.cond (.t 68)
 (.seq
 (.region [] [oO 4 (.mv (.c (.bool false)))])
 .ret)
 .skip))))))
 (.region [0, 1, 8, 9, 10] [oO 69 (.bin .add (.t 10) (.c (.int .i64 1))),
 oM 10 69]))))
/-- progeny/dbd.areIndexes -/
def c71 : CFn := ⟨73, [.t 4],
 (.seq
 (.region [0, 1] [oO 4 (.mv (.c (.bool false)))])
 (.seq
 (.seq
 (.region [0, 1] [oM 8 0,
 oO 9 (.len false (.t 8)),
 oO 10 (.mv (.c (.int .i64 0)))])
 (.block 0
 (.loop c71_l0)))
 (.seq
 (.region [0] [oM 70 0,
 oO 71 (.len false (.t 70)),
 oO 72 (.bin .leq (.t 71) (.c (.int .i64 3))),
 oM 4 72])
 .ret))), false, false⟩
def c72_l0 : CC :=
 (.seq
 (.seq
 (.region [0, 3] [oM 5 3,
 oM 6 0,
 oO 7 (.len true (.t 6)),
 oB 8 .lss 5 7])
 (.cond (.t 8)
 .skip
 (.exit 0)))
 (.seq
 (.block 1
 (.seq
 (.region [0, 3] [oM 11 0,
 oM 12 3,
 oO 13 (.idx (.t 11) (.t 12)),
 oO 14 (.bin .geq (.t 13) (.c (.int .u8 65))),
 oM 15 14,
 oG 16 (.mv (.t 0)) 15 true,
 oG 17 (.mv (.t 3)) 15 true,
 oG 18 (.idx (.t 16) (.t 17)) 15 true,
 oG 19 (.bin .leq (.t 18) (.c (.int .u8 90))) 15 true,
 oO 20 (.pick (.t 15) (.t 19) (.c (.bool false))),
 oM 4 20])
 (.seq
 (.region [0, 3, 4] [oM 21 4,
 oN 22 21,
 oM 23 22,
 oG 24 (.mv (.t 3)) 23 true,
 oG 25 (.bin .eql (.t 24) (.c (.int .i64 0))) 23 true,
 oG 26 (.mv (.t 25)) 23 true,
 oG 27 (.mv (.t 0)) 26 false,
 oG 28 (.mv (.t 3)) 26 false,
 oG 29 (.idx (.t 27) (.t 28)) 26 false,
 oG 30 (.bin .lss (.t 29) (.c (.int .u8 48))) 26 false,
 oG 31 (.pick (.t 26) (.c (.bool true)) (.t 30)) 23 true,
 oG 32 (.mv (.t 31)) 23 true,
 oG 33 (.mv (.t 0)) 32 false,
 oG 34 (.mv (.t 3)) 32 false,
 oG 35 (.idx (.t 33) (.t 34)) 32 false,
 oG 36 (.bin .gtr (.t 35) (.c (.int .u8 57))) 32 false,
 oG 37 (.pick (.t 32) (.c (.bool true)) (.t 36)) 23 true,
 oO 38 (.pick (.t 23) (.t 37) (.c (.bool false)))])
 (.cond (.t 38)
 (.seq
 (.region [] [oO 2 (.mv (.c (.bool false)))])
 .ret)
 .skip))))
 (.region [0, 3] [oM 9 3,
 oO 10 (.bin .add (.t 9) (.c (.int .i64 1))),
 oM 3 10])))
/-- progeny/progenyref11.IsName -/
def c72 : CFn := ⟨47, [.t 2],
 (.seq
 (.region [0] [oO 2 (.mv (.c (.bool false)))])
 (.seq
 (.seq
 (.region [0] [oO 3 (.mv (.c (.int .i64 0)))])
 (.block 0
 (.loop c72_l0)))
 (.seq
 (.region [0] [oM 39 0,
 oO 40 (.len true (.t 39)),
 oO 41 (.bin .geq (.t 40) (.c (.int .i64 1))),
 oM 42 41,
 oG 43 (.mv (.t 0)) 42 true,
 oG 44 (.len true (.t 43)) 42 true,
 oG 45 (.bin .leq (.t 44) (.c (.int .i64 8))) 42 true,
 oO 46 (.pick (.t 42) (.t 45) (.c (.bool false))),
 oM 2 46])
 .ret))), false, false⟩
def c73_l0 : CC :=
 (.seq
 (.seq
 (.region [1, 3, 4, 5] [oM 49 5,
 oM 50 3,
 oB 51 .lss 49 50])
 (.cond (.t 51)
 .skip
 (.exit 2)))
 (.seq
 (.block 3
 (.seq
 (.draw [1, 3, 4, 5] [oA 54 4 1,
 oF 55 (.load false 1 (.t 54)) [0],
 oM 56 5,
 oF 57 (.iaddr 3 (.t 55) (.t 56)) [0, 1, 2],
 oF 58 (.faddr 0 (.t 57)) (u 4),
 oF 59 (.load false 1 (.t 58)) (u 5),
 oA 60 0 4,
 oF 61 (.load false 1 (.t 60)) [6],
 oF 62 (.bin .eql (.t 59) (.t 61)) (u 8)])
 (.cond (.t 62)
 (.seq
 (.region [] [oO 2 (.mv (.c (.bool false)))])
 .ret)
 .skip)))
 (.region [1, 3, 4, 5] [oM 52 5,
 oO 53 (.bin .add (.t 52) (.c (.int .i64 1))),
 oM 5 53])))
def c73_l1 : CC :=
 (.seq
 (.seq
 (.region [1, 3] [oM 6 3,
 oA 7 4 1,
 ol 8 1 7,
 oO 9 (.len false (.t 8)),
 oB 10 .lss 6 9])
 (.cond (.t 10)
 .skip
 (.exit 0)))
 (.seq
 (.block 1
 (.seq
 (.region [1, 3] [oA 13 4 1,
 ol 14 1 13,
 oM 15 3,
 oI 16 3 14 15,
 oL 17 3 16,
 oO 4 (.box 101 3 (.c (.agg [.str ⟨#[]⟩, .int .i64 0, .int .i64 0]))),
 oS 3 4 17])
 (.seq
 (.seq
 (.region [1, 3, 4] [oA 18 0 4,
 ol 19 1 18,
 oO 20 (k1 72 19),
 oN 21 20,
 oM 22 21,
 oG 23 (.faddr 1 (.t 4)) 22 false,
 oG 24 (.load false 1 (.t 23)) 22 false,
 oG 25 (.bin .lss (.t 24) (.c (.int .i64 0))) 22 false,
 oO 26 (.pick (.t 22) (.c (.bool true)) (.t 25)),
 oM 27 26,
 oG 28 (.faddr 1 (.t 4)) 27 false,
 oG 29 (.load false 1 (.t 28)) 27 false,
 oG 30 (.faddr 3 (.t 1)) 27 false,
 oG 31 (.load false 1 (.t 30)) 27 false,
 oG 32 (.bin .gtr (.t 29) (.t 31)) 27 false,
 oO 33 (.pick (.t 27) (.c (.bool true)) (.t 32)),
 oM 34 33,
 oG 35 (.faddr 2 (.t 4)) 34 false,
 oG 36 (.load false 1 (.t 35)) 34 false,
 oG 37 (.bin .lss (.t 36) (.c (.int .i64 1))) 34 false,
 oO 38 (.pick (.t 34) (.c (.bool true)) (.t 37)),
 oM 39 38,
 oG 40 (.faddr 2 (.t 4)) 39 false,
 oG 41 (.load false 1 (.t 40)) 39 false,
 oG 42 (.faddr 3 (.t 1)) 39 false,
 oG 43 (.load false 1 (.t 42)) 39 false,
 oG 44 (.faddr 1 (.t 4)) 39 false,
 oG 45 (.load false 1 (.t 44)) 39 false,
 oG 46 (.bin .sub (.t 43) (.t 45)) 39 false,
 oG 47 (.bin .gtr (.t 41) (.t 46)) 39 false,
 oO 48 (.pick (.t 39) (.c (.bool true)) (.t 47))])
 (.cond (.t 48)
 (.seq
 (.region [] [oO 2 (.mv (.c (.bool false)))])
 .ret)
 .skip))
 (.seq
 (.region [1, 3, 4] [oO 5 (.mv (.c (.int .i64 0)))])
 (.block 2
 (.loop c73_l0))))))
 (.region [1, 3] [oM 11 3,
 oO 12 (.bin .add (.t 11) (.c (.int .i64 1))),
 oM 3 12])))
/-- progeny/progenyref11.fields -/
def c73 : CFn := ⟨112, [.t 2],
 (.seq
 (.region [0] [oX 1 87 8 0,
 oO 2 (.mv (.c (.bool false)))])
 (.seq
 (.seq
 (.region [1] [oO 3 (.mv (.c (.int .i64 0)))])
 (.block 0
 (.loop c73_l1)))
 (.seq
 (.seq
 (.region [1] [oA 63 5 1,
 ol 64 1 63,
 oO 65 (.bin .lss (.t 64) (.c (.int .i64 (-1)))),
 oM 66 65,
 oG 67 (.faddr 5 (.t 1)) 66 false,
 oG 68 (.load false 1 (.t 67)) 66 false,
 oG 69 (.faddr 4 (.t 1)) 66 false,
 oG 70 (.load false 1 (.t 69)) 66 false,
 oG 71 (.len false (.t 70)) 66 false,
 oG 72 (.bin .geq (.t 68) (.t 71)) 66 false,
 oO 73 (.pick (.t 66) (.c (.bool true)) (.t 72)),
 oM 74 73,
 oG 75 (.faddr 5 (.t 1)) 74 false,
 oG 76 (.load false 1 (.t 75)) 74 false,
 oG 77 (.bin .lss (.t 76) (.c (.int .i64 0))) 74 false,
 oG 78 (.mv (.t 77)) 74 false,
 oG 79 (.faddr 6 (.t 1)) 78 true,
 oG 80 (.load false 1 (.t 79)) 78 true,
 oG 81 (.pick (.t 78) (.t 80) (.c (.bool false))) 74 false,
 oO 82 (.pick (.t 74) (.c (.bool true)) (.t 81))])
 (.cond (.t 82)
 (.seq
 (.region [] [oO 2 (.mv (.c (.bool false)))])
 .ret)
 .skip))
 (.seq
 (.draw [1] [oA 83 4 1,
 oF 84 (.load false 1 (.t 83)) [0],
 oF 85 (.len false (.t 84)) [0, 1],
 oF 86 (.bin .leq (.t 85) (.c (.int .i64 5))) [0, 1, 2],
 oF 87 (.mv (.t 86)) (u 4),
 ⟨(some 88), .faddr 5 (.t 1), some (87, true), (u 5), []⟩,
 ⟨(some 89), .load false 1 (.t 88), some (87, true), (u 6), []⟩,
 ⟨(some 90), .bin .lss (.t 89) (.c (.int .i64 0)), some (87, true), (u 7), []⟩,
 ⟨(some 91), .mv (.t 90), some (87, true), (u 8), []⟩,
 ⟨(some 92), .faddr 4 (.t 1), some (91, false), (u 9), []⟩,
 ⟨(some 93), .load false 1 (.t 92), some (91, false), (u 10), []⟩,
 ⟨(some 94), .faddr 5 (.t 1), some (91, false), (u 9), []⟩,
 ⟨(some 95), .load false 1 (.t 94), some (91, false), (u 9 ++ [11]), []⟩,
 ⟨(some 96), .iaddr 3 (.t 93) (.t 95), some (91, false), (u 13), []⟩,
 ⟨(some 97), .faddr 1 (.t 96), some (91, false), (u 14), []⟩,
 ⟨(some 98), .load false 1 (.t 97), some (91, false), (u 15), []⟩,
 ⟨(some 99), .faddr 4 (.t 1), some (91, false), (u 9), []⟩,
 ⟨(some 100), .load false 1 (.t 99), some (91, false), (u 9 ++ [16]), []⟩,
 ⟨(some 101), .faddr 5 (.t 1), some (91, false), (u 9), []⟩,
 ⟨(some 102), .load false 1 (.t 101), some (91, false), (u 9 ++ [18]), []⟩,
 ⟨(some 103), .iaddr 3 (.t 100) (.t 102), some (91, false), (u 9 ++ [16, 17, 18, 19]), []⟩,
 ⟨(some 104), .faddr 2 (.t 103), some (91, false), (u 9 ++ [16, 17, 18, 19, 20]), []⟩,
 ⟨(some 105), .load false 1 (.t 104), some (91, false), (u 9 ++ [16, 17, 18, 19, 20, 21]), []⟩,
 ⟨(some 106), .bin .add (.t 98) (.t 105), some (91, false), (u 23), []⟩,
 ⟨(some 107), .faddr 2 (.t 1), some (91, false), (u 9), []⟩,
 ⟨(some 108), .load false 1 (.t 107), some (91, false), (u 9 ++ [24]), []⟩,
 ⟨(some 109), .bin .leq (.t 106) (.t 108), some (91, false), (u 26), []⟩,
 ⟨(some 110), .pick (.t 91) (.c (.bool true)) (.t 109), some (87, true), (u 27), []⟩,
 oF 111 (.pick (.t 87) (.t 110) (.c (.bool false))) (u 28),
 oF 2 (.mv (.t 111)) (u 29)])
 .ret)))), false, false⟩
def c74_l0 : CC :=
 (.seq
 (.seq
 (.region [1, 2, 3] [oM 13 2,
 oO 14 (.bin .geq (.t 13) (.c (.int .i64 0)))])
 (.cond (.t 14)
 .skip
 (.exit 0)))
 (.seq
 (.block 1
 (.seq
 (.region [1, 2, 3] [oM 21 2,
 oM 22 1,
 oB 23 .eql 21 22])
 (.cond (.t 23)
 (.seq
 (.region [] [oO 6 (.mv (.c (.bool true)))])
 .ret)
 .skip)))
 (.region [1, 2, 3] [oA 15 2 3,
 ol 16 1 15,
 oM 17 2,
 oI 18 8 16 17,
 oA 19 1 18,
 ol 20 1 19,
 oM 2 20])))
/-- progeny/progenyref11.above -/
def c74 : CFn := ⟨24, [.t 6],
 (.seq
 (.region [0, 1, 2] [oX 3 25 4 0,
 oO 6 (.mv (.c (.bool false)))])
 (.seq
 (.seq
 (.region [1, 2, 3] [oA 7 2 3,
 ol 8 1 7,
 oM 9 2,
 oI 10 8 8 9,
 oA 11 1 10,
 ol 12 1 11,
 oM 2 12])
 (.block 0
 (.loop c74_l0)))
 (.seq
 (.region [] [oO 6 (.mv (.c (.bool false)))])
 .ret))), false, false⟩
def c75_l0 : CC :=
 (.seq
 (.seq
 (.region [1, 2, 5] [oM 6 1,
 oO 7 (.bin .geq (.t 6) (.c (.int .i64 0)))])
 (.cond (.t 7)
 .skip
 (.exit 0)))
 (.block 1
 (.seq
 (.region [1, 2, 5] [oM 8 1,
 oO 9 (.bslice 3 1 [[.int .i64 0]] [(0, (.t 8))]),
 oM 10 5,
 oO 11 (.app 3 1 8 false (.t 9) (.t 10)),
 oM 5 11])
 (.region [1, 2, 5] [oA 12 2 2,
 ol 13 1 12,
 oM 14 1,
 oI 15 8 13 14,
 oA 16 1 15,
 ol 17 1 16,
 oM 1 17]))))
/-- progeny/progenyref11.way -/
def c75 : CFn := ⟨19, [.t 4],
 (.seq
 (.region [0, 1] [oX 2 25 4 0,
 oO 4 (.mv (.c (.nils)))])
 (.seq
 (.region [1, 2] [oO 5 (.mv (.c (.nils)))])
 (.seq
 (.block 0
 (.loop c75_l0))
 (.seq
 (.region [5] [oM 18 5,
 oM 4 18])
 .ret)))), false, false⟩
/-- progeny/plain.Valid -/
def c76 : CFn := ⟨12, [.t 4, .t 5],
 (.seq
 (.region [0, 1] [oX 2 25 4 0,
 oO 4 (.mv (.c (.bool false))),
 oO 5 (.mv (.c (.int .i64 0)))])
 (.seq
 (.seq
 (.region [1, 2] [oL 6 4 2,
 oO 7 (k1 42 6),
 oN 8 7])
 (.cond (.t 8)
 (.seq
 (.region [] [oO 4 (.mv (.c (.bool false))),
 oO 5 (.mv (.c (.int .i64 100)))])
 .ret)
 .skip))
 (.seq
 (.region [1, 2] [oL 9 4 2,
 oM 10 1,
 oO 11 (k2 85 9 10),
 oM 4 11,
 oO 5 (.mv (.c (.int .i64 0)))])
 .ret))), false, false⟩
/-- (*progeny/logic.pair).root -/
def c77 : CFn := ⟨11, [.t 4],
 (.seq
 (.region [0, 1] [oX 2 61 1 0,
 oX 3 9 1 1,
 oO 4 (.mv (.c (.int .i64 0)))])
 (.seq
 (.region [2, 3] [ol 5 1 2,
 oO 6 (.nilck (.t 5)),
 oA 7 12 6,
 ol 8 1 7,
 oO 9 (.mkfn 100 [(.t 2), (.t 3)]),
 oO 10 (k2 99 8 9),
 oM 4 10])
 .ret)), false, false⟩
/-- progeny/progenyref11.Value -/
def c78 : CFn := ⟨69, [.t 8, .t 9, .t 10],
 (.seq
 (.region [0, 1, 2, 3] [oX 4 25 4 0,
 oO 8 (.mv (.c (.str ⟨#[]⟩))),
 oO 9 (.mv (.c (.bool false))),
 oO 10 (.mv (.c (.int .i64 0)))])
 (.seq
 (.region [1, 2, 3, 4] [oL 15 4 4,
 oM 16 1,
 oM 17 2,
 oO 18 (k3 101 15 16 17),
 oM 14 18,
 oE 19 14 0,
 oE 20 14 1,
 oM 11 19,
 oM 12 20])
 (.seq
 (.block 0
 (.seq
 (.region [1, 2, 3, 4, 11, 12] [oM 22 12,
 oO 23 (.bin .neq (.t 22) (.c (.int .i64 0))),
 oM 21 23])
 (.cond (.t 21)
 (.seq
 (.region [12] [oM 24 12,
 oO 8 (.mv (.c (.str ⟨#[]⟩))),
 oO 9 (.mv (.c (.bool false))),
 oM 10 24])
 .ret)
 (.seq
 (.region [1, 2, 3, 4, 11] [oM 26 11,
 oN 27 26,
 oM 28 27,
 oG 29 (.mv (.t 3)) 28 false,
 oG 30 (.bin .lss (.t 29) (.c (.int .i64 0))) 28 false,
 oO 31 (.pick (.t 28) (.c (.bool true)) (.t 30)),
 oM 32 31,
 oG 33 (.mv (.t 3)) 32 false,
 oG 34 (.faddr 2 (.t 4)) 32 false,
 oG 35 (.load false 1 (.t 34)) 32 false,
 oG 36 (.mv (.t 1)) 32 false,
 oG 37 (.iaddr 8 (.t 35) (.t 36)) 32 false,
 oG 38 (.faddr 4 (.t 37)) 32 false,
 oG 39 (.load false 1 (.t 38)) 32 false,
 oG 40 (.len false (.t 39)) 32 false,
 oG 41 (.bin .geq (.t 33) (.t 40)) 32 false,
 oO 42 (.pick (.t 32) (.c (.bool true)) (.t 41)),
 oM 25 42])
 (.cond (.t 25)
 (.seq
 (.region [] [oO 8 (.mv (.c (.str ⟨#[]⟩))),
 oO 9 (.mv (.c (.bool false))),
 oO 10 (.mv (.c (.int .i64 2)))])
 .ret)
 .skip)))))
 (.seq
 (.region [1, 2, 3, 4] [oA 43 2 4,
 ol 44 1 43,
 oM 45 1,
 oI 46 8 44 45,
 oA 47 4 46,
 ol 48 1 47,
 oM 49 3,
 oI 50 3 48 49,
 oL 51 3 50,
 oO 13 (.box 101 3 (.c (.agg [.str ⟨#[]⟩, .int .i64 0, .int .i64 0]))),
 oS 3 13 51])
 (.seq
 (.seq
 (.region [2, 13] [oA 52 1 13,
 ol 53 1 52,
 oA 54 2 13,
 ol 55 1 54,
 oB 56 .add 53 55,
 oM 57 2,
 oO 58 (.len true (.t 57)),
 oB 59 .gtr 56 58])
 (.cond (.t 59)
 (.seq
 (.region [] [oO 8 (.mv (.c (.str ⟨#[]⟩))),
 oO 9 (.mv (.c (.bool false))),
 oO 10 (.mv (.c (.int .i64 0)))])
 .ret)
 .skip))
 (.seq
 (.region [2, 13] [oM 60 2,
 oA 61 1 13,
 ol 62 1 61,
 oA 63 1 13,
 ol 64 1 63,
 oA 65 2 13,
 ol 66 1 65,
 oB 67 .add 64 66,
 oO 68 (.slcs (.t 60) (some (.t 62)) (some (.t 67))),
 oM 8 68,
 oO 9 (.mv (.c (.bool true))),
 oO 10 (.mv (.c (.int .i64 0)))])
 .ret)))))), false, false⟩
/-- progeny/progenyref11.KeyOf -/
def c79 : CFn := ⟨50, [.t 6, .t 7],
 (.seq
 (.region [0, 1, 2] [oX 3 25 4 0,
 oO 6 (.mv (.c (.str ⟨#[]⟩))),
 oO 7 (.mv (.c (.int .i64 0)))])
 (.seq
 (.region [1, 2, 3] [oL 14 4 3,
 oM 15 1,
 oM 16 2,
 oO 17 (k3 101 14 15 16),
 oM 13 17,
 oE 18 13 0,
 oE 19 13 1,
 oM 8 18,
 oM 9 19])
 (.seq
 (.block 0
 (.seq
 (.region [1, 2, 3, 8, 9] [oM 21 9,
 oO 22 (.bin .neq (.t 21) (.c (.int .i64 0))),
 oM 20 22])
 (.cond (.t 20)
 (.seq
 (.region [9] [oM 23 9,
 oO 6 (.mv (.c (.str ⟨#[]⟩))),
 oM 7 23])
 .ret)
 (.seq
 (.region [1, 2, 3, 8] [oM 25 8,
 oN 26 25,
 oM 24 26])
 (.cond (.t 24)
 (.seq
 (.region [] [oO 6 (.mv (.c (.str ⟨#[]⟩))),
 oO 7 (.mv (.c (.int .i64 2)))])
 .ret)
 (.seq
 (.region [1, 2, 3] [oA 28 2 3,
 ol 29 1 28,
 oM 30 1,
 oI 31 8 29 30,
 oA 32 5 31,
 ol 33 1 32,
 oO 34 (.bin .lss (.t 33) (.c (.int .i64 0))),
 oM 27 34])
 (.cond (.t 27)
 (.seq
 (.region [] [oO 6 (.mv (.c (.str ⟨#[]⟩))),
 oO 7 (.mv (.c (.int .i64 0)))])
 .ret)
 .skip)))))))
 (.seq
 (.draw [1, 2, 3] [oL 36 4 3,
 oM 37 1,
 oM 38 2,
 oA 39 2 3,
 oF 40 (.load false 1 (.t 39)) [3],
 oM 41 1,
 oF 42 (.iaddr 8 (.t 40) (.t 41)) [3, 4, 5],
 oF 43 (.faddr 5 (.t 42)) [3, 4, 5, 6],
 oF 44 (.load false 1 (.t 43)) [3, 4, 5, 6, 7],
 oF 45 (k4 78 36 37 38 44) (u 9),
 oF 35 (.mv (.t 45)) (u 10),
 oF 46 (.extract (.t 35) 0) (u 11),
 oF 47 (.extract (.t 35) 1) (u 11),
 oF 48 (.extract (.t 35) 2) (u 11),
 oF 10 (.mv (.t 46)) (u 12),
 oF 11 (.mv (.t 47)) (u 13 ++ [14]),
 oF 12 (.mv (.t 48)) (u 16)])
 (.seq
 (.region [10] [oM 49 10,
 oM 6 49,
 oO 7 (.mv (.c (.int .i64 0)))])
 .ret))))), false, false⟩
def c81_l0 : CC :=
 (.seq
 (.region [0, 1, 7, 8] [oB 9 .lss 8 7])
 (.seq
 (.cond (.t 9)
 .skip
 (.exit 0))
 (.seq
 (.block 1
 (.seq
 (.region [0, 1, 7, 8] [oM 10 8,
 oM 5 10])
 (.seq
 (.region [0, 1, 5, 7, 8] [oM 11 1,
 oM 12 0,
 oM 13 5,
 oI 14 1 12 13,
 ol 15 1 14,
 oB 16 .eql 11 15])
 (.cond (.t 16)
 (.seq
 (.region [5] [oM 17 5,
 oM 4 17])
 .ret)
 .skip))))
 (.region [0, 1, 7, 8] [oO 18 (.bin .add (.t 8) (.c (.int .i64 1))),
 oM 8 18]))))
/-- slices.Index[[]int,int] -/
def c81 : CFn := ⟨19, [.t 4],
 (.seq
 (.region [0, 1] [oO 4 (.mv (.c (.int .i64 0)))])
 (.seq
 (.seq
 (.region [0, 1] [oM 6 0,
 oO 7 (.len false (.t 6)),
 oO 8 (.mv (.c (.int .i64 0)))])
 (.block 0
 (.loop c81_l0)))
 (.seq
 (.region [] [oO 4 (.mv (.c (.int .i64 (-1))))])
 .ret))), false, false⟩
def c82_l0 : CC :=
 (.seq
 (.seq
 (.region [1, 7, 8] [oM 21 8,
 oO 22 (.bin .geq (.t 21) (.c (.int .i64 0))),
 oM 23 22,
 oG 24 (.mv (.t 7)) 23 true,
 oG 25 (.bin .geq (.t 24) (.c (.int .i64 0))) 23 true,
 oO 26 (.pick (.t 23) (.t 25) (.c (.bool false)))])
 (.cond (.t 26)
 .skip
 (.exit 0)))
 (.seq
 (.block 1
 (.seq
 (.region [1, 7, 8] [oM 29 1,
 oM 30 8,
 oI 31 2 29 30,
 oA 32 0 31,
 ol 33 1 32,
 oM 34 7,
 oB 35 .eql 33 34])
 (.cond (.t 35)
 (.seq
 (.region [8] [oM 36 8,
 oM 6 36])
 .ret)
 .skip)))
 (.region [1, 7, 8] [oM 27 8,
 oO 28 (.bin .sub (.t 27) (.c (.int .i64 1))),
 oM 8 28])))
/-- progeny/progenyref13.parent -/
def c82 : CFn := ⟨37, [.t 6],
 (.seq
 (.region [0, 1, 2] [oX 3 25 4 0,
 oO 6 (.mv (.c (.int .i64 0)))])
 (.seq
 (.draw [1, 2, 3] [oA 9 2 3,
 oF 10 (.load false 1 (.t 9)) [0],
 oM 11 1,
 oM 12 2,
 oF 13 (.iaddr 2 (.t 11) (.t 12)) [2, 3],
 oF 14 (.faddr 0 (.t 13)) [2, 3, 4],
 oF 15 (.load false 1 (.t 14)) [2, 3, 4, 5],
 oF 16 (.iaddr 8 (.t 10) (.t 15)) (u 7),
 oF 17 (.faddr 1 (.t 16)) (u 8),
 oF 18 (.load false 1 (.t 17)) (u 9),
 oF 7 (.mv (.t 18)) (u 10)])
 (.seq
 (.seq
 (.region [1, 2, 7] [oM 19 2,
 oO 20 (.bin .sub (.t 19) (.c (.int .i64 1))),
 oM 8 20])
 (.block 0
 (.loop c82_l0)))
 (.seq
 (.region [] [oO 6 (.mv (.c (.int .i64 (-1))))])
 .ret)))), false, false⟩
def c83_l0 : CC :=
 (.seq
 (.region [1, 3, 5, 13, 14, 15, 16, 83, 84, 85] [oB 86 .lss 85 84])
 (.seq
 (.cond (.t 86)
 .skip
 (.exit 1))
 (.seq
 (.block 2
 (.seq
 (.region [1, 3, 5, 13, 14, 15, 16, 83, 84, 85] [oI 87 1 83 85,
 ol 88 1 87,
 oM 18 88])
 (.seq
 (.region [1, 3, 5, 13, 14, 15, 16, 18, 83, 84, 85] [oM 89 1,
 oM 90 18,
 oI 91 2 89 90,
 oA 92 0 91,
 ol 93 1 92,
 oM 94 3,
 oB 95 .lss 93 94,
 oM 19 95])
 (.seq
 (.seq
 (.region [1, 3, 5, 13, 14, 15, 16, 18, 19, 83, 84, 85] [oM 96 1,
 oM 97 18,
 oI 98 2 96 97,
 oA 99 0 98,
 ol 100 1 99,
 oM 101 3,
 oB 102 .eql 100 101])
 (.cond (.t 102)
 (.seq
 (.draw [1, 3, 5, 13, 14, 15, 16, 18, 83, 84, 85] [oL 103 8 13,
 oM 104 1,
 oM 105 18,
 oF 106 (.iaddr 2 (.t 104) (.t 105)) [1, 2],
 oF 107 (.faddr 1 (.t 106)) [1, 2, 3],
 oF 108 (.load false 1 (.t 107)) [1, 2, 3, 4],
 oF 109 (k2 105 103 108) (u 6),
 oF 20 (.mv (.t 109)) (u 7)])
 (.seq
 (.seq
 (.region [1, 3, 5, 13, 14, 15, 16, 18, 20, 83, 84, 85] [oA 110 6 13,
 ol 111 1 110,
 oM 112 111,
 oG 113 (.mv (.t 20)) 112 true,
 oG 114 (.mv (.t 15)) 112 true,
 oG 115 (.bin .eql (.t 113) (.t 114)) 112 true,
 oO 116 (.pick (.t 112) (.t 115) (.c (.bool false)))])
 (.cond (.t 116)
 (.seq
 (.region [] [oO 10 (.mv (.c (.int .i64 0))),
 oO 11 (.mv (.c (.int .i64 90)))])
 .ret)
 .skip))
 (.region [1, 3, 5, 13, 14, 15, 16, 18, 20, 83, 84, 85] [oM 117 20,
 oM 118 15,
 oB 119 .lss 117 118,
 oM 120 119,
 oG 121 (.mv (.t 20)) 120 false,
 oG 122 (.mv (.t 15)) 120 false,
 oG 123 (.bin .eql (.t 121) (.t 122)) 120 false,
 oG 124 (.mv (.t 123)) 120 false,
 oG 125 (.faddr 7 (.t 13)) 124 true,
 oG 126 (.load false 1 (.t 125)) 124 true,
 oG 127 (.pick (.t 124) (.t 126) (.c (.bool false))) 120 false,
 oO 128 (.pick (.t 120) (.c (.bool true)) (.t 127)),
 oM 19 128])))
 .skip))
 (.seq
 (.region [1, 3, 5, 13, 14, 15, 16, 18, 19, 83, 84, 85] [oM 129 16,
 oM 130 129,
 oG 131 (.mv (.t 19)) 130 false,
 oG 132 (.un .not (.t 131)) 130 false,
 oO 133 (.pick (.t 130) (.c (.bool true)) (.t 132)),
 oM 16 133])
 (.seq
 (.region [1, 3, 5, 13, 14, 15, 16, 18, 83, 84, 85] [oM 134 16,
 oN 135 134])
 (.cond (.t 135)
 (.region [1, 3, 5, 13, 15, 16, 18, 83, 84, 85] [oL 136 4 5,
 oM 137 1,
 oM 138 18,
 oO 139 (k3 63 136 137 138),
 oM 14 139])
 .skip)))))))
 (.region [1, 3, 5, 13, 14, 15, 16, 83, 84, 85] [oO 140 (.bin .add (.t 85) (.c (.int .i64 1))),
 oM 85 140]))))
/-- progeny/plain.place -/
def c83 : CFn := ⟨142, [.t 10, .t 11],
 (.seq
 (.region [0, 1, 2, 3, 4] [oX 5 25 4 0,
 oO 10 (.mv (.c (.int .i64 0))),
 oO 11 (.mv (.c (.int .i64 0)))])
 (.seq
 (.region [1, 2, 3, 4, 5] [oL 21 4 5,
 oM 22 1,
 oO 23 (.call (.c (.fn 61 [])) [(.t 21), (.t 22), (.c (.nils))] false),
 oM 12 23])
 (.seq
 (.block 0
 (.seq
 (.region [1, 2, 3, 4, 5, 12] [oM 25 12,
 oO 26 (.bin .neq (.t 25) (.c (.int .i64 0))),
 oM 24 26])
 (.cond (.t 24)
 (.seq
 (.region [12] [oM 27 12,
 oO 10 (.mv (.c (.int .i64 0))),
 oM 11 27])
 .ret)
 (.seq
 (.region [1, 2, 3, 4, 5] [oM 29 2,
 oO 30 (.bin .lss (.t 29) (.c (.int .i64 (-1)))),
 oM 31 30,
 oG 32 (.mv (.t 2)) 31 false,
 oG 33 (.mv (.t 1)) 31 false,
 oG 34 (.len false (.t 33)) 31 false,
 oG 35 (.bin .geq (.t 32) (.t 34)) 31 false,
 oO 36 (.pick (.t 31) (.c (.bool true)) (.t 35)),
 oM 37 36,
 oG 38 (.load true 4 (.t 5)) 37 false,
 oG 39 (.mv (.t 3)) 37 false,
 oG 40 (.mv (.t 4)) 37 false,
 oG 41 (.build [.int .i64 0, .str ⟨#[]⟩] [(0, 1, (.t 39)), (1, 1, (.t 40))]) 37 false,
 oG 42 (k2 104 38 41) 37 false,
 oG 43 (.un .not (.t 42)) 37 false,
 oO 44 (.pick (.t 37) (.c (.bool true)) (.t 43)),
 oM 28 44])
 (.cond (.t 28)
 (.seq
 (.region [] [oO 10 (.mv (.c (.int .i64 0))),
 oO 11 (.mv (.c (.int .i64 2)))])
 .ret)
 (.seq
 (.draw [1, 2, 3, 4, 5] [oM 46 2,
 oF 47 (.bin .lss (.t 46) (.c (.int .i64 0))) [0],
 oF 48 (.mv (.t 47)) [0, 1],
 ⟨(some 49), .mv (.t 3), some (48, true), [0, 1, 2], []⟩,
 ⟨(some 50), .bin .neq (.t 49) (.c (.int .i64 0)), some (48, true), (u 4), []⟩,
 oF 51 (.pick (.t 48) (.t 50) (.c (.bool false))) (u 5),
 oF 52 (.mv (.t 51)) (u 6),
 ⟨(some 53), .mv (.t 2), some (52, false), (u 7), []⟩,
 ⟨(some 54), .bin .geq (.t 53) (.c (.int .i64 0)), some (52, false), (u 8), []⟩,
 ⟨(some 55), .mv (.t 54), some (52, false), (u 9), []⟩,
 ⟨(some 56), .faddr 2 (.t 5), some (55, true), (u 10), []⟩,
 ⟨(some 57), .load false 1 (.t 56), some (55, true), (u 11), []⟩,
 ⟨(some 58), .mv (.t 3), some (55, true), (u 10), []⟩,
 ⟨(some 59), .iaddr 8 (.t 57) (.t 58), some (55, true), (u 13), []⟩,
 ⟨(some 60), .faddr 1 (.t 59), some (55, true), (u 14), []⟩,
 ⟨(some 61), .load false 1 (.t 60), some (55, true), (u 15), []⟩,
 ⟨(some 62), .mv (.t 1), some (55, true), (u 10), []⟩,
 ⟨(some 63), .mv (.t 2), some (55, true), (u 10), []⟩,
 ⟨(some 64), .iaddr 2 (.t 62) (.t 63), some (55, true), (u 10 ++ [16, 17]), []⟩,
 ⟨(some 65), .faddr 0 (.t 64), some (55, true), (u 10 ++ [16, 17, 18]), []⟩,
 ⟨(some 66), .load false 1 (.t 65), some (55, true), (u 10 ++ [16, 17, 18, 19]), []⟩,
 ⟨(some 67), .bin .neq (.t 61) (.t 66), some (55, true), (u 21), []⟩,
 ⟨(some 68), .pick (.t 55) (.t 67) (.c (.bool false)), some (52, false), (u 22), []⟩,
 oF 69 (.pick (.t 52) (.c (.bool true)) (.t 68)) (u 23),
 oF 45 (.mv (.t 69)) (u 24)])
 (.cond (.t 45)
 (.seq
 (.region [] [oO 10 (.mv (.c (.int .i64 0))),
 oO 11 (.mv (.c (.int .i64 2)))])
 .ret)
 .skip)))))))
 (.seq
 (.region [1, 2, 3, 4, 5] [oA 70 2 5,
 ol 71 1 70,
 oM 72 3,
 oI 73 8 71 72,
 oL 74 8 73,
 oO 13 (.box 87 8 (.c (.agg [.str ⟨#[]⟩, .int .i64 0, .int .i64 0, .int .i64 0, .nils, .int .i64 0, .bool false, .bool false]))),
 oS 8 13 74])
 (.seq
 (.region [1, 2, 3, 4, 5, 13] [oM 75 2,
 oO 76 (.bin .add (.t 75) (.c (.int .i64 1))),
 oM 14 76])
 (.seq
 (.region [1, 2, 3, 4, 5, 13, 14] [oL 77 8 13,
 oM 78 4,
 oO 79 (k2 105 77 78),
 oM 15 79])
 (.seq
 (.region [1, 2, 3, 5, 13, 14, 15] [oO 16 (.mv (.c (.bool false)))])
 (.seq
 (.seq
 (.region [1, 2, 3, 5, 13, 14, 15, 16] [oL 80 4 5,
 oM 81 1,
 oM 82 2,
 oO 83 (z3 106 80 81 82),
 oO 84 (.len false (.t 83)),
 oO 85 (.mv (.c (.int .i64 0)))])
 (.block 1
 (.loop c83_l0)))
 (.seq
 (.region [14] [oM 141 14,
 oM 10 141,
 oO 11 (.mv (.c (.int .i64 0)))])
 .ret))))))))), false, false⟩
/-- slices.Insert[[]progeny/api.Item,progeny/api.Item] -/
def c84 : CFn := ⟨0, [.t 0], .user (pIns 2 44 24), false, false⟩
def c85_l0 : CC :=
 (.seq
 (.region [2, 3, 5, 6, 16, 17, 18] [oB 19 .lss 18 17])
 (.seq
 (.cond (.t 19)
 .skip
 (.exit 0))
 (.seq
 (.block 1
 (.seq
 (.region [2, 3, 5, 6, 16, 17, 18] [oM 20 18,
 oI 21 2 16 18,
 oL 22 2 21,
 oO 8 (.box 44 2 (.c (.agg [.int .i64 0, .str ⟨#[]⟩]))),
 oM 7 20,
 oS 2 8 22])
 (.seq
 (.seq
 (.region [2, 3, 5, 6, 7, 8, 16, 17, 18] [oL 23 4 2,
 oL 24 2 8,
 oO 25 (k2 104 23 24),
 oN 26 25])
 (.cond (.t 26)
 (.seq
 (.region [] [oO 4 (.mv (.c (.bool false)))])
 .ret)
 .skip))
 (.seq
 (.region [2, 3, 5, 6, 7, 8, 16, 17, 18] [oA 27 2 2,
 ol 28 1 27,
 oA 29 0 8,
 ol 30 1 29,
 oI 31 8 28 30,
 oA 32 1 31,
 ol 33 1 32,
 oO 9 (.box 3 1 (.c (.int .i64 0))),
 oS 1 9 33])
 (.seq
 (.region [2, 3, 5, 6, 7, 8, 9, 16, 17, 18] [oO 10 (.mv (.c (.int .i64 0)))])
 (.seq
 (.seq
 (.region [2, 3, 5, 6, 7, 8, 9, 10, 16, 17, 18] [ol 34 1 9,
 oO 35 (.bin .geq (.t 34) (.c (.int .i64 0)))])
 (.cond (.t 35)
 (.seq
 (.region [2, 3, 5, 6, 7, 8, 9, 16, 17, 18] [oM 36 5,
 oO 37 (.mkfn 110 [(.t 3), (.t 9)]),
 oO 38 (k2 109 36 37),
 oO 39 (.bin .add (.c (.int .i64 1)) (.t 38)),
 oM 10 39])
 (.seq
 (.region [2, 3, 5, 6, 7, 8, 10, 16, 17, 18] [oM 40 10,
 oO 41 (.bin .eql (.t 40) (.c (.int .i64 0)))])
 (.cond (.t 41)
 (.seq
 (.region [] [oO 4 (.mv (.c (.bool false)))])
 .ret)
 .skip)))
 .skip))
 (.seq
 (.seq
 (.region [2, 3, 5, 6, 7, 8, 10, 16, 17, 18] [oM 42 6,
 oM 43 10,
 oI 44 1 42 43,
 ol 45 1 44,
 oM 11 45])
 (.seq
 (.draw [2, 3, 5, 6, 7, 8, 10, 11, 16, 17, 18] [oM 46 11,
 oF 47 (.bin .geq (.t 46) (.c (.int .i64 0))) [0],
 oF 48 (.mv (.t 47)) [0, 1],
 ⟨(some 49), .load false 1 (.t 3), some (48, true), [0, 1, 2], []⟩,
 ⟨(some 50), .mv (.t 11), some (48, true), [0, 1, 2], []⟩,
 ⟨(some 51), .iaddr 2 (.t 49) (.t 50), some (48, true), (u 5), []⟩,
 ⟨(some 52), .faddr 0 (.t 51), some (48, true), (u 6), []⟩,
 ⟨(some 53), .load false 1 (.t 52), some (48, true), (u 7), []⟩,
 ⟨(some 54), .faddr 0 (.t 8), some (48, true), [0, 1, 2], []⟩,
 ⟨(some 55), .load false 1 (.t 54), some (48, true), [0, 1, 2, 8], []⟩,
 ⟨(some 56), .bin .gtr (.t 53) (.t 55), some (48, true), (u 10), []⟩,
 ⟨(some 57), .mv (.t 56), some (48, true), (u 11), []⟩,
 ⟨(some 58), .load false 1 (.t 3), some (57, false), (u 12), []⟩,
 ⟨(some 59), .mv (.t 11), some (57, false), (u 12), []⟩,
 ⟨(some 60), .iaddr 2 (.t 58) (.t 59), some (57, false), (u 14), []⟩,
 ⟨(some 61), .faddr 0 (.t 60), some (57, false), (u 15), []⟩,
 ⟨(some 62), .load false 1 (.t 61), some (57, false), (u 16), []⟩,
 ⟨(some 63), .faddr 0 (.t 8), some (57, false), (u 12), []⟩,
 ⟨(some 64), .load false 1 (.t 63), some (57, false), (u 12 ++ [17]), []⟩,
 ⟨(some 65), .bin .eql (.t 62) (.t 64), some (57, false), (u 19), []⟩,
 ⟨(some 66), .mv (.t 65), some (57, false), (u 20), []⟩,
 ⟨(some 67), .faddr 2 (.t 2), some (66, true), (u 21), []⟩,
 ⟨(some 68), .load false 1 (.t 67), some (66, true), (u 22), []⟩,
 ⟨(some 69), .faddr 0 (.t 8), some (66, true), (u 21), []⟩,
 ⟨(some 70), .load false 1 (.t 69), some (66, true), (u 21 ++ [23]), []⟩,
 ⟨(some 71), .iaddr 8 (.t 68) (.t 70), some (66, true), (u 25), []⟩,
 ⟨(some 72), .load true 8 (.t 71), some (66, true), (u 26), []⟩,
 ⟨(some 73), .load false 1 (.t 3), some (66, true), (u 21), []⟩,
 ⟨(some 74), .mv (.t 11), some (66, true), (u 21), []⟩,
 ⟨(some 75), .iaddr 2 (.t 73) (.t 74), some (66, true), (u 21 ++ [27, 28]), []⟩,
 ⟨(some 76), .faddr 1 (.t 75), some (66, true), (u 21 ++ [27, 28, 29]), []⟩,
 ⟨(some 77), .load false 1 (.t 76), some (66, true), (u 21 ++ [27, 28, 29, 30]), []⟩,
 ⟨(some 78), .faddr 1 (.t 8), some (66, true), (u 21), []⟩,
 ⟨(some 79), .load false 1 (.t 78), some (66, true), (u 21 ++ [32]), []⟩,
 ⟨(some 80), k3 111 72 77 79, some (66, true), (u 34), []⟩,
 ⟨(some 81), .un .not (.t 80), some (66, true), (u 35), []⟩,
 ⟨(some 82), .pick (.t 66) (.t 81) (.c (.bool false)), some (57, false), (u 36), []⟩,
 ⟨(some 83), .pick (.t 57) (.c (.bool true)) (.t 82), some (48, true), (u 37), []⟩,
 oF 84 (.pick (.t 48) (.t 83) (.c (.bool false))) (u 38)])
 (.cond (.t 84)
 (.seq
 (.region [] [oO 4 (.mv (.c (.bool false)))])
 .ret)
 .skip)))
 (.draw [2, 3, 5, 6, 7, 10, 16, 17, 18] [oM 85 5,
 oM 86 10,
 oF 87 (.slc 1 (.t 85) none (some (.t 86)) none) [0, 1],
 oM 88 7,
 oF 89 (.flst 3 1 [[.int .i64 0]] [(0, (.t 88))]) [3],
 oF 90 (.app 3 1 8 false (.t 87) (.t 89)) (u 5),
 oM 91 6,
 oM 92 10,
 oa 93 (.slc 1 (.t 91) none (some (.t 92)) none) [6, 7] [5],
 oM 94 7,
 oF 95 (.flst 3 1 [[.int .i64 0], [.int .i64 0]] [(0, (.t 94)), (1, (.c (.int .i64 (-1))))]) [9],
 oF 96 (.app 3 1 8 false (.t 93) (.t 95)) (u 11),
 oF 5 (.mv (.t 90)) (u 12),
 oF 6 (.mv (.t 96)) (u 13)]))))))))
 (.region [2, 3, 5, 6, 16, 17, 18] [oO 97 (.bin .add (.t 18) (.c (.int .i64 1))),
 oM 18 97]))))
/-- progeny/plain.valid -/
def c85 : CFn := ⟨98, [.t 4],
 (.seq
 (.region [0, 1] [oX 2 25 4 0,
 oX 3 28 1 1,
 oO 4 (.mv (.c (.bool false)))])
 (.seq
 (.seq
 (.region [2, 3] [ol 12 1 3,
 oO 13 (.len false (.t 12)),
 oO 14 (.bin .gtr (.t 13) (.c (.int .i64 200)))])
 (.cond (.t 14)
 (.seq
 (.region [] [oO 4 (.mv (.c (.bool false)))])
 .ret)
 .skip))
 (.seq
 (.region [2, 3] [oO 5 (.mv (.c (.nils)))])
 (.seq
 (.region [2, 3, 5] [oO 15 (.bslice 3 1 [[.int .i64 0]] [(0, (.c (.int .i64 (-1))))]),
 oM 6 15])
 (.seq
 (.seq
 (.region [2, 3, 5, 6] [ol 16 1 3,
 oO 17 (.len false (.t 16)),
 oO 18 (.mv (.c (.int .i64 0)))])
 (.block 0
 (.loop c85_l0)))
 (.seq
 (.region [] [oO 4 (.mv (.c (.bool true)))])
 .ret)))))), false, false⟩
/-- slices.ContainsFunc[[]int,int] -/
def c86 : CFn := ⟨9, [.t 4],
 (.seq
 (.region [0, 1] [oO 4 (.mv (.c (.bool false)))])
 (.seq
 (.region [0, 1] [oM 5 0,
 oM 6 1,
 oO 7 (k2 109 5 6),
 oO 8 (.bin .geq (.t 7) (.c (.int .i64 0))),
 oM 4 8])
 .ret)), false, false⟩
/-- progeny/plain.forest$1 -/
def c87 : CFn := ⟨12, [.t 3],
 (.seq
 (.region [0, 1] [oO 3 (.mv (.c (.bool false)))])
 (.seq
 (.region [0, 1] [oM 4 0,
 oO 5 (.bin .lss (.t 4) (.c (.int .i64 0))),
 oM 6 5,
 oG 7 (.mv (.t 0)) 6 false,
 oG 8 (.load false 1 (.t 1)) 6 false,
 oG 9 (.len false (.t 8)) 6 false,
 oG 10 (.bin .geq (.t 7) (.t 9)) 6 false,
 oO 11 (.pick (.t 6) (.c (.bool true)) (.t 10)),
 oM 3 11])
 .ret)), false, false⟩
def c88_l0 : CC :=
 (.seq
 (.seq
 (.region [1, 2, 5] [oM 6 1,
 oO 7 (.bin .geq (.t 6) (.c (.int .i64 0)))])
 (.cond (.t 7)
 .skip
 (.exit 0)))
 (.seq
 (.block 1
 (.region [1, 2, 5] [oM 14 5,
 oO 15 (.bin .add (.t 14) (.c (.int .i64 1))),
 oM 5 15]))
 (.region [1, 2, 5] [oA 8 2 2,
 ol 9 1 8,
 oM 10 1,
 oI 11 8 9 10,
 oA 12 1 11,
 ol 13 1 12,
 oM 1 13])))
/-- progeny/plain.depth -/
def c88 : CFn := ⟨17, [.t 4],
 (.seq
 (.region [0, 1] [oX 2 25 4 0,
 oO 4 (.mv (.c (.int .i64 0)))])
 (.seq
 (.region [1, 2] [oO 5 (.mv (.c (.int .i64 0)))])
 (.seq
 (.block 0
 (.loop c88_l0))
 (.seq
 (.region [5] [oM 16 5,
 oM 4 16])
 .ret)))), false, false⟩
/-- progeny/dbd.asked -/
def c89 : CFn := ⟨13, [.t 4],
 (.seq
 (.region [0, 1] [oX 2 25 4 0,
 oO 4 (.mv (.c (.int .i64 0)))])
 (.seq
 (.block 0
 (.seq
 (.region [1, 2] [oL 6 4 2,
 oO 7 (k1 42 6),
 oN 8 7,
 oM 5 8])
 (.cond (.t 5)
 (.seq
 (.region [] [oO 4 (.mv (.c (.int .i64 100)))])
 .ret)
 (.seq
 (.region [1, 2] [oM 10 1,
 oO 11 (.mkfn 112 [(.t 2)]),
 oO 12 (k2 86 10 11),
 oM 9 12])
 (.cond (.t 9)
 (.seq
 (.region [] [oO 4 (.mv (.c (.int .i64 2)))])
 .ret)
 .skip)))))
 (.seq
 (.region [] [oO 4 (.mv (.c (.int .i64 0)))])
 .ret))), false, false⟩
/-- progeny/dbd.fits -/
def c90 : CFn := ⟨17, [.t 4],
 (.seq
 (.region [0, 1] [oX 2 87 8 0,
 oO 4 (.mv (.c (.bool false)))])
 (.seq
 (.region [1, 2] [oM 5 1,
 oO 6 (.len true (.t 5)),
 oA 7 2 2,
 ol 8 1 7,
 oB 9 .geq 6 8,
 oM 10 9,
 oG 11 (.mv (.t 1)) 10 true,
 oG 12 (.len true (.t 11)) 10 true,
 oG 13 (.faddr 3 (.t 2)) 10 true,
 oG 14 (.load false 1 (.t 13)) 10 true,
 oG 15 (.bin .leq (.t 12) (.t 14)) 10 true,
 oO 16 (.pick (.t 10) (.t 15) (.c (.bool false))),
 oM 4 16])
 .ret)), false, false⟩
/-- progeny/dbd.value -/
def c91 : CFn := ⟨23, [.t 4, .t 5],
 (.seq
 (.region [0, 1] [oX 2 101 3 0,
 oO 4 (.mv (.c (.str ⟨#[]⟩))),
 oO 5 (.mv (.c (.bool false)))])
 (.seq
 (.seq
 (.region [1, 2] [oA 6 1 2,
 ol 7 1 6,
 oA 8 2 2,
 ol 9 1 8,
 oB 10 .add 7 9,
 oM 11 1,
 oO 12 (.len true (.t 11)),
 oB 13 .gtr 10 12])
 (.cond (.t 13)
 (.seq
 (.region [] [oO 4 (.mv (.c (.str ⟨#[]⟩))),
 oO 5 (.mv (.c (.bool false)))])
 .ret)
 .skip))
 (.seq
 (.region [1, 2] [oM 14 1,
 oA 15 1 2,
 ol 16 1 15,
 oA 17 1 2,
 ol 18 1 17,
 oA 19 2 2,
 ol 20 1 19,
 oB 21 .add 18 20,
 oO 22 (.slcs (.t 14) (some (.t 16)) (some (.t 21))),
 oM 4 22,
 oO 5 (.mv (.c (.bool true)))])
 .ret))), false, false⟩
def c92_l0 : CC :=
 (.seq
 (.seq
 (.region [1, 2, 5] [oM 14 5,
 oM 15 1,
 oO 16 (.len false (.t 15)),
 oB 17 .lss 14 16])
 (.cond (.t 17)
 .skip
 (.exit 0)))
 (.seq
 (.block 1
 (.seq
 (.draw [1, 2, 5] [oM 20 1,
 oM 21 5,
 oF 22 (.iaddr 2 (.t 20) (.t 21)) [0, 1],
 oF 23 (.faddr 0 (.t 22)) [0, 1, 2],
 oF 24 (.load false 1 (.t 23)) (u 4),
 oF 25 (.bin .lss (.t 24) (.c (.int .i64 0))) (u 5),
 oF 26 (.mv (.t 25)) (u 6),
 ⟨(some 27), .mv (.t 1), some (26, false), (u 7), []⟩,
 ⟨(some 28), .mv (.t 5), some (26, false), (u 7), []⟩,
 ⟨(some 29), .iaddr 2 (.t 27) (.t 28), some (26, false), (u 9), []⟩,
 ⟨(some 30), .faddr 0 (.t 29), some (26, false), (u 10), []⟩,
 ⟨(some 31), .load false 1 (.t 30), some (26, false), (u 11), []⟩,
 ⟨(some 32), .faddr 2 (.t 2), some (26, false), (u 7), []⟩,
 ⟨(some 33), .load false 1 (.t 32), some (26, false), (u 7 ++ [12]), []⟩,
 ⟨(some 34), .len false (.t 33), some (26, false), (u 7 ++ [12, 13]), []⟩,
 ⟨(some 35), .bin .geq (.t 31) (.t 34), some (26, false), (u 15), []⟩,
 oF 36 (.pick (.t 26) (.c (.bool true)) (.t 35)) (u 16),
 oF 37 (.mv (.t 36)) (u 17),
 ⟨(some 38), .mv (.t 1), some (37, false), (u 18), []⟩,
 ⟨(some 39), .mv (.t 5), some (37, false), (u 18), []⟩,
 ⟨(some 40), .iaddr 2 (.t 38) (.t 39), some (37, false), (u 20), []⟩,
 ⟨(some 41), .faddr 1 (.t 40), some (37, false), (u 21), []⟩,
 ⟨(some 42), .load false 1 (.t 41), some (37, false), (u 22), []⟩,
 ⟨(some 43), .len true (.t 42), some (37, false), (u 23), []⟩,
 ⟨(some 44), .faddr 2 (.t 2), some (37, false), (u 18), []⟩,
 ⟨(some 45), .load false 1 (.t 44), some (37, false), (u 18 ++ [24]), []⟩,
 ⟨(some 46), .mv (.t 1), some (37, false), (u 18), []⟩,
 ⟨(some 47), .mv (.t 5), some (37, false), (u 18), []⟩,
 ⟨(some 48), .iaddr 2 (.t 46) (.t 47), some (37, false), (u 18 ++ [26, 27]), []⟩,
 ⟨(some 49), .faddr 0 (.t 48), some (37, false), (u 18 ++ [26, 27, 28]), []⟩,
 ⟨(some 50), .load false 1 (.t 49), some (37, false), (u 18 ++ [26, 27, 28, 29]), []⟩,
 ⟨(some 51), .iaddr 8 (.t 45) (.t 50), some (37, false), (u 18 ++ [24, 25, 26, 27, 28, 29, 30]), []⟩,
 ⟨(some 52), .faddr 2 (.t 51), some (37, false), (u 18 ++ [24, 25, 26, 27, 28, 29, 30, 31]), []⟩,
 ⟨(some 53), .load false 1 (.t 52), some (37, false), (u 18 ++ [24, 25, 26, 27, 28, 29, 30, 31, 32]), []⟩,
 ⟨(some 54), .bin .lss (.t 43) (.t 53), some (37, false), (u 34), []⟩,
 oF 55 (.pick (.t 37) (.c (.bool true)) (.t 54)) (u 35),
 oF 56 (.mv (.t 55)) (u 36),
 ⟨(some 57), .mv (.t 1), some (56, false), (u 37), []⟩,
 ⟨(some 58), .mv (.t 5), some (56, false), (u 37), []⟩,
 ⟨(some 59), .iaddr 2 (.t 57) (.t 58), some (56, false), (u 39), []⟩,
 ⟨(some 60), .faddr 1 (.t 59), some (56, false), (u 40), []⟩,
 ⟨(some 61), .load false 1 (.t 60), some (56, false), (u 41), []⟩,
 ⟨(some 62), .len true (.t 61), some (56, false), (u 42), []⟩,
 ⟨(some 63), .faddr 2 (.t 2), some (56, false), (u 37), []⟩,
 ⟨(some 64), .load false 1 (.t 63), some (56, false), (u 37 ++ [43]), []⟩,
 ⟨(some 65), .mv (.t 1), some (56, false), (u 37), []⟩,
 ⟨(some 66), .mv (.t 5), some (56, false), (u 37), []⟩,
 ⟨(some 67), .iaddr 2 (.t 65) (.t 66), some (56, false), (u 37 ++ [45, 46]), []⟩,
 ⟨(some 68), .faddr 0 (.t 67), some (56, false), (u 37 ++ [45, 46, 47]), []⟩,
 ⟨(some 69), .load false 1 (.t 68), some (56, false), (u 37 ++ [45, 46, 47, 48]), []⟩,
 ⟨(some 70), .iaddr 8 (.t 64) (.t 69), some (56, false), (u 37 ++ [43, 44, 45, 46, 47, 48, 49]), []⟩,
 ⟨(some 71), .faddr 3 (.t 70), some (56, false), (u 37 ++ [43, 44, 45, 46, 47, 48, 49, 50]), []⟩,
 ⟨(some 72), .load false 1 (.t 71), some (56, false), (u 37 ++ [43, 44, 45, 46, 47, 48, 49, 50, 51]), []⟩,
 ⟨(some 73), .bin .gtr (.t 62) (.t 72), some (56, false), (u 53), []⟩,
 oF 74 (.pick (.t 56) (.c (.bool true)) (.t 73)) (u 54)])
 (.cond (.t 74)
 (.seq
 (.region [] [oO 4 (.mv (.c (.bool false)))])
 .ret)
 .skip)))
 (.region [1, 2, 5] [oM 18 5,
 oO 19 (.bin .add (.t 18) (.c (.int .i64 1))),
 oM 5 19])))
def c92_l1 : CC :=
 (.seq
 (.seq
 (.region [1, 2, 6, 7, 8] [oM 97 8,
 oM 98 7,
 oB 99 .gtr 97 98,
 oM 100 99,
 oG 101 (.load true 4 (.t 2)) 100 true,
 oG 102 (.mv (.t 1)) 100 true,
 oG 103 (.mv (.t 8)) 100 true,
 oG 104 (k3 82 101 102 103) 100 true,
 oG 105 (.mv (.t 7)) 100 true,
 oG 106 (.bin .neq (.t 104) (.t 105)) 100 true,
 oO 107 (.pick (.t 100) (.t 106) (.c (.bool false)))])
 (.cond (.t 107)
 .skip
 (.exit 4)))
 (.block 5
 (.region [1, 2, 6, 7, 8] [oL 108 4 2,
 oM 109 1,
 oM 110 8,
 oO 111 (k3 82 108 109 110),
 oM 8 111])))
def c92_l2 : CC :=
 (.seq
 (.seq
 (.region [1, 2, 6] [oM 75 6,
 oM 76 1,
 oO 77 (.len false (.t 76)),
 oB 78 .lss 75 77])
 (.cond (.t 78)
 .skip
 (.exit 2)))
 (.seq
 (.block 3
 (.seq
 (.region [1, 2, 6] [oL 81 4 2,
 oM 82 1,
 oM 83 6,
 oO 84 (k3 82 81 82 83),
 oM 7 84])
 (.seq
 (.seq
 (.region [1, 2, 6, 7] [oM 85 7,
 oO 86 (.bin .lss (.t 85) (.c (.int .i64 0))),
 oM 87 86,
 oG 88 (.mv (.t 1)) 87 true,
 oG 89 (.mv (.t 6)) 87 true,
 oG 90 (.iaddr 2 (.t 88) (.t 89)) 87 true,
 oG 91 (.faddr 0 (.t 90)) 87 true,
 oG 92 (.load false 1 (.t 91)) 87 true,
 oG 93 (.bin .neq (.t 92) (.c (.int .i64 0))) 87 true,
 oO 94 (.pick (.t 87) (.t 93) (.c (.bool false)))])
 (.cond (.t 94)
 (.seq
 (.region [] [oO 4 (.mv (.c (.bool false)))])
 .ret)
 .skip))
 (.seq
 (.region [1, 2, 6, 7] [oM 95 6,
 oO 96 (.bin .sub (.t 95) (.c (.int .i64 1))),
 oM 8 96])
 (.seq
 (.block 4
 (.loop c92_l1))
 (.seq
 (.seq
 (.region [1, 2, 6, 7, 8] [oM 112 8,
 oM 113 7,
 oB 114 .lss 112 113])
 (.cond (.t 114)
 (.seq
 (.region [] [oO 4 (.mv (.c (.bool false)))])
 .ret)
 .skip))
 (.seq
 (.seq
 (.region [1, 2, 6, 7, 8] [oM 115 8,
 oM 116 7,
 oB 117 .eql 115 116])
 (.cond (.t 117)
 (.exit 3)
 .skip))
 (.seq
 (.seq
 (.draw [1, 2, 6, 8] [oM 118 1,
 oM 119 8,
 oF 120 (.iaddr 2 (.t 118) (.t 119)) [0, 1],
 oF 121 (.faddr 0 (.t 120)) [0, 1, 2],
 oF 122 (.load false 1 (.t 121)) (u 4),
 oM 123 1,
 oM 124 6,
 oF 125 (.iaddr 2 (.t 123) (.t 124)) [5, 6],
 oF 126 (.faddr 0 (.t 125)) [5, 6, 7],
 oF 127 (.load false 1 (.t 126)) [5, 6, 7, 8],
 oF 128 (.bin .gtr (.t 122) (.t 127)) (u 10)])
 (.cond (.t 128)
 (.seq
 (.region [] [oO 4 (.mv (.c (.bool false)))])
 .ret)
 .skip))
 (.seq
 (.draw [1, 2, 6, 8] [oM 129 1,
 oM 130 8,
 oF 131 (.iaddr 2 (.t 129) (.t 130)) [0, 1],
 oF 132 (.faddr 0 (.t 131)) [0, 1, 2],
 oF 133 (.load false 1 (.t 132)) (u 4),
 oM 134 1,
 oM 135 6,
 oF 136 (.iaddr 2 (.t 134) (.t 135)) [5, 6],
 oF 137 (.faddr 0 (.t 136)) [5, 6, 7],
 oF 138 (.load false 1 (.t 137)) [5, 6, 7, 8],
 oF 139 (.bin .eql (.t 133) (.t 138)) (u 10),
 oF 140 (.mv (.t 139)) (u 11),
 ⟨(some 141), .faddr 2 (.t 2), some (140, true), (u 12), []⟩,
 ⟨(some 142), .load false 1 (.t 141), some (140, true), (u 13), []⟩,
 ⟨(some 143), .mv (.t 1), some (140, true), (u 12), []⟩,
 ⟨(some 144), .mv (.t 6), some (140, true), (u 12), []⟩,
 ⟨(some 145), .iaddr 2 (.t 143) (.t 144), some (140, true), (u 12 ++ [14, 15]), []⟩,
 ⟨(some 146), .faddr 0 (.t 145), some (140, true), (u 12 ++ [14, 15, 16]), []⟩,
 ⟨(some 147), .load false 1 (.t 146), some (140, true), (u 12 ++ [14, 15, 16, 17]), []⟩,
 ⟨(some 148), .iaddr 8 (.t 142) (.t 147), some (140, true), (u 19), []⟩,
 ⟨(some 149), .faddr 5 (.t 148), some (140, true), (u 20), []⟩,
 ⟨(some 150), .load false 1 (.t 149), some (140, true), (u 21), []⟩,
 ⟨(some 151), .bin .geq (.t 150) (.c (.int .i64 0)), some (140, true), (u 22), []⟩,
 oF 152 (.pick (.t 140) (.t 151) (.c (.bool false))) (u 23)])
 (.cond (.t 152)
 (.seq
 (.draw [1, 2, 6, 8] [oL 153 4 2,
 oM 154 1,
 oM 155 8,
 oF 156 (.iaddr 2 (.t 154) (.t 155)) [1, 2],
 oF 157 (.load true 2 (.t 156)) [1, 2, 3],
 oF 158 (k2 113 153 157) (u 5),
 oa 159 (.load true 4 (.t 2)) [] [5],
 oM 160 1,
 oM 161 6,
 oF 162 (.iaddr 2 (.t 160) (.t 161)) [7, 8],
 oa 163 (.load true 2 (.t 162)) [7, 8, 9] [5],
 oF 164 (k2 113 159 163) (u 11),
 oF 9 (.mv (.t 158)) (u 12),
 oF 10 (.mv (.t 164)) (u 13)])
 (.seq
 (.draw [1, 2, 6, 9, 10] [oM 165 9,
 oM 166 10,
 oF 167 (.bin .gtr (.t 165) (.t 166)) [0, 1],
 oF 168 (.mv (.t 167)) [0, 1, 2],
 ⟨(some 169), .mv (.t 9), some (168, false), (u 4), []⟩,
 ⟨(some 170), .mv (.t 10), some (168, false), (u 4), []⟩,
 ⟨(some 171), .bin .eql (.t 169) (.t 170), some (168, false), (u 6), []⟩,
 ⟨(some 172), .mv (.t 171), some (168, false), (u 7), []⟩,
 ⟨(some 173), .faddr 2 (.t 2), some (172, true), (u 8), []⟩,
 ⟨(some 174), .load false 1 (.t 173), some (172, true), (u 9), []⟩,
 ⟨(some 175), .mv (.t 1), some (172, true), (u 8), []⟩,
 ⟨(some 176), .mv (.t 6), some (172, true), (u 8), []⟩,
 ⟨(some 177), .iaddr 2 (.t 175) (.t 176), some (172, true), (u 8 ++ [10, 11]), []⟩,
 ⟨(some 178), .faddr 0 (.t 177), some (172, true), (u 8 ++ [10, 11, 12]), []⟩,
 ⟨(some 179), .load false 1 (.t 178), some (172, true), (u 8 ++ [10, 11, 12, 13]), []⟩,
 ⟨(some 180), .iaddr 8 (.t 174) (.t 179), some (172, true), (u 15), []⟩,
 ⟨(some 181), .faddr 6 (.t 180), some (172, true), (u 16), []⟩,
 ⟨(some 182), .load false 1 (.t 181), some (172, true), (u 17), []⟩,
 ⟨(some 183), .pick (.t 172) (.t 182) (.c (.bool false)), some (168, false), (u 18), []⟩,
 oF 184 (.pick (.t 168) (.c (.bool true)) (.t 183)) (u 19)])
 (.cond (.t 184)
 (.seq
 (.region [] [oO 4 (.mv (.c (.bool false)))])
 .ret)
 .skip)))
 .skip))))))))))
 (.region [1, 2, 6] [oM 79 6,
 oO 80 (.bin .add (.t 79) (.c (.int .i64 1))),
 oM 6 80])))
/-- progeny/progenyref13.right -/
def c92 : CFn := ⟨185, [.t 4],
 (.seq
 (.region [0, 1] [oX 2 25 4 0,
 oO 4 (.mv (.c (.bool false)))])
 (.seq
 (.seq
 (.region [1, 2] [oM 11 1,
 oO 12 (.len false (.t 11)),
 oO 13 (.bin .gtr (.t 12) (.c (.int .i64 200)))])
 (.cond (.t 13)
 (.seq
 (.region [] [oO 4 (.mv (.c (.bool false)))])
 .ret)
 .skip))
 (.seq
 (.seq
 (.region [1, 2] [oO 5 (.mv (.c (.int .i64 0)))])
 (.block 0
 (.loop c92_l0)))
 (.seq
 (.seq
 (.region [1, 2] [oO 6 (.mv (.c (.int .i64 0)))])
 (.block 2
 (.loop c92_l2)))
 (.seq
 (.region [] [oO 4 (.mv (.c (.bool true)))])
 .ret))))), false, false⟩
/-- progeny/dbd.isType -/
def c94 : CFn := ⟨70, [.t 2],
 (.seq
 (.region [0] [oX 1 87 8 0,
 oO 2 (.mv (.c (.bool false)))])
 (.seq
 (.block 0
 (.seq
 (.region [1] [oA 4 0 1,
 ol 5 1 4,
 oO 6 (k1 69 5),
 oN 7 6,
 oM 8 7,
 oG 9 (.faddr 2 (.t 1)) 8 false,
 oG 10 (.load false 1 (.t 9)) 8 false,
 oG 11 (.bin .lss (.t 10) (.c (.int .i64 1))) 8 false,
 oO 12 (.pick (.t 8) (.c (.bool true)) (.t 11)),
 oM 13 12,
 oG 14 (.faddr 2 (.t 1)) 13 false,
 oG 15 (.load false 1 (.t 14)) 13 false,
 oG 16 (.faddr 3 (.t 1)) 13 false,
 oG 17 (.load false 1 (.t 16)) 13 false,
 oG 18 (.bin .gtr (.t 15) (.t 17)) 13 false,
 oO 19 (.pick (.t 13) (.c (.bool true)) (.t 18)),
 oM 20 19,
 oG 21 (.faddr 3 (.t 1)) 20 false,
 oG 22 (.load false 1 (.t 21)) 20 false,
 oG 23 (.bin .gtr (.t 22) (.c (.int .i64 40))) 20 false,
 oO 24 (.pick (.t 20) (.c (.bool true)) (.t 23)),
 oM 25 24,
 oG 26 (.faddr 4 (.t 1)) 25 false,
 oG 27 (.load false 1 (.t 26)) 25 false,
 oG 28 (.faddr 3 (.t 1)) 25 false,
 oG 29 (.load false 1 (.t 28)) 25 false,
 oG 30 (k2 114 27 29) 25 false,
 oG 31 (.un .not (.t 30)) 25 false,
 oO 32 (.pick (.t 25) (.c (.bool true)) (.t 31)),
 oM 3 32])
 (.cond (.t 3)
 (.seq
 (.region [] [oO 2 (.mv (.c (.bool false)))])
 .ret)
 (.seq
 (.region [1] [oA 34 5 1,
 ol 35 1 34,
 oO 36 (.bin .eql (.t 35) (.c (.int .i64 (-1)))),
 oM 33 36])
 (.cond (.t 33)
 (.seq
 (.region [1] [oA 37 6 1,
 ol 38 1 37,
 oN 39 38,
 oM 2 39])
 .ret)
 (.seq
 (.region [1] [oA 41 5 1,
 ol 42 1 41,
 oO 43 (.bin .lss (.t 42) (.c (.int .i64 0))),
 oM 44 43,
 oG 45 (.faddr 5 (.t 1)) 44 false,
 oG 46 (.load false 1 (.t 45)) 44 false,
 oG 47 (.faddr 4 (.t 1)) 44 false,
 oG 48 (.load false 1 (.t 47)) 44 false,
 oG 49 (.len false (.t 48)) 44 false,
 oG 50 (.bin .geq (.t 46) (.t 49)) 44 false,
 oO 51 (.pick (.t 44) (.c (.bool true)) (.t 50)),
 oM 40 51])
 (.cond (.t 40)
 (.seq
 (.region [] [oO 2 (.mv (.c (.bool false)))])
 .ret)
 .skip)))))))
 (.seq
 (.draw [1] [oA 52 4 1,
 oF 53 (.load false 1 (.t 52)) [0],
 oA 54 5 1,
 oF 55 (.load false 1 (.t 54)) [2],
 oF 56 (.iaddr 3 (.t 53) (.t 55)) (u 4),
 oF 57 (.faddr 1 (.t 56)) (u 5),
 oF 58 (.load false 1 (.t 57)) (u 6),
 oA 59 4 1,
 oF 60 (.load false 1 (.t 59)) [7],
 oA 61 5 1,
 oF 62 (.load false 1 (.t 61)) [9],
 oF 63 (.iaddr 3 (.t 60) (.t 62)) [7, 8, 9, 10],
 oF 64 (.faddr 2 (.t 63)) [7, 8, 9, 10, 11],
 oF 65 (.load false 1 (.t 64)) [7, 8, 9, 10, 11, 12],
 oF 66 (.bin .add (.t 58) (.t 65)) (u 14),
 oA 67 2 1,
 oF 68 (.load false 1 (.t 67)) [15],
 oF 69 (.bin .leq (.t 66) (.t 68)) (u 17),
 oF 2 (.mv (.t 69)) (u 18)])
 .ret))), false, false⟩
/-- slices.ContainsFunc[[]progeny/api.Type,progeny/api.Type] -/
def c95 : CFn := ⟨9, [.t 4],
 (.seq
 (.region [0, 1] [oO 4 (.mv (.c (.bool false)))])
 (.seq
 (.region [0, 1] [oM 5 0,
 oM 6 1,
 oO 7 (k2 115 5 6),
 oO 8 (.bin .geq (.t 7) (.c (.int .i64 0))),
 oM 4 8])
 .ret)), false, false⟩
/-- progeny/dbd.areTypes$1 -/
def c96 : CFn := ⟨9, [.t 3],
 (.seq
 (.region [0, 1] [oX 2 87 8 0,
 oO 3 (.mv (.c (.bool false)))])
 (.seq
 (.region [1, 2] [oA 4 0 2,
 ol 5 1 4,
 oA 6 0 1,
 ol 7 1 6,
 oB 8 .eql 5 7,
 oM 3 8])
 .ret)), false, false⟩
/-- slices.ContainsFunc[[]progeny/api.Search,progeny/api.Search] -/
def c97 : CFn := ⟨9, [.t 4],
 (.seq
 (.region [0, 1] [oO 4 (.mv (.c (.bool false)))])
 (.seq
 (.region [0, 1] [oM 5 0,
 oM 6 1,
 oO 7 (k2 116 5 6),
 oO 8 (.bin .geq (.t 7) (.c (.int .i64 0))),
 oM 4 8])
 .ret)), false, false⟩
/-- progeny/dbd.areIndexes$1 -/
def c98 : CFn := ⟨9, [.t 3],
 (.seq
 (.region [0, 1] [oX 2 106 4 0,
 oO 3 (.mv (.c (.bool false)))])
 (.seq
 (.region [1, 2] [oA 4 0 2,
 ol 5 1 4,
 oA 6 0 1,
 ol 7 1 6,
 oB 8 .eql 5 7,
 oM 3 8])
 .ret)), false, false⟩
def c99_l0 : CC :=
 (.seq
 (.region [0, 1, 7, 8] [oB 9 .lss 8 7])
 (.seq
 (.cond (.t 9)
 .skip
 (.exit 0))
 (.seq
 (.block 1
 (.seq
 (.region [0, 1, 7, 8] [oM 10 8,
 oM 5 10])
 (.seq
 (.region [0, 1, 5, 7, 8] [oM 11 1,
 oM 12 0,
 oM 13 5,
 oI 14 2 12 13,
 oL 15 2 14,
 oO 16 (.call (.t 11) [(.t 15)] false)])
 (.cond (.t 16)
 (.seq
 (.region [5] [oM 17 5,
 oM 4 17])
 .ret)
 .skip))))
 (.region [0, 1, 7, 8] [oO 18 (.bin .add (.t 8) (.c (.int .i64 1))),
 oM 8 18]))))
/-- slices.IndexFunc[[]progeny/api.Item,progeny/api.Item] -/
def c99 : CFn := ⟨19, [.t 4],
 (.seq
 (.region [0, 1] [oO 4 (.mv (.c (.int .i64 0)))])
 (.seq
 (.seq
 (.region [0, 1] [oM 6 0,
 oO 7 (.len false (.t 6)),
 oO 8 (.mv (.c (.int .i64 0)))])
 (.block 0
 (.loop c99_l0)))
 (.seq
 (.region [] [oO 4 (.mv (.c (.int .i64 (-1))))])
 .ret))), false, false⟩
/-- (*progeny/logic.pair).root$1 -/
def c100 : CFn := ⟨23, [.t 4],
 (.seq
 (.region [0, 1, 2] [oX 3 44 2 0,
 oO 4 (.mv (.c (.bool false)))])
 (.seq
 (.seq
 (.region [1, 2, 3] [oA 7 0 3,
 ol 8 1 7,
 oO 9 (.bin .neq (.t 8) (.c (.int .i64 0)))])
 (.cond (.t 9)
 (.seq
 (.region [] [oO 4 (.mv (.c (.bool false)))])
 .ret)
 .skip))
 (.seq
 (.draw [1, 2, 3] [ol 11 1 1,
 oF 12 (.nilck (.t 11)) [0],
 oF 13 (.faddr 4 (.t 12)) [0, 1],
 oF 14 (.load true 4 (.t 13)) [0, 1, 2],
 oA 15 1 3,
 oF 16 (.load false 1 (.t 15)) [4],
 oF 17 (.call (.c (.fn 64 [])) [(.t 14), (.c (.int .i64 0)), (.t 16)] false) (u 6),
 oF 10 (.mv (.t 17)) (u 7),
 oF 18 (.extract (.t 10) 0) (u 8),
 oF 19 (.extract (.t 10) 1) (u 8),
 oF 5 (.mv (.t 18)) (u 9),
 oF 6 (.mv (.t 19)) (u 11)])
 (.seq
 (.region [2, 5] [oM 20 5,
 ol 21 1 2,
 oB 22 .eql 20 21,
 oM 4 22])
 .ret)))), false, false⟩
/-- progeny/progenyref11.Fits -/
def c101 : CFn := ⟨36, [.t 6, .t 7],
 (.seq
 (.region [0, 1, 2] [oX 3 25 4 0,
 oO 6 (.mv (.c (.bool false))),
 oO 7 (.mv (.c (.int .i64 0)))])
 (.seq
 (.seq
 (.region [1, 2, 3] [oL 9 4 3,
 oM 10 1,
 oO 11 (.bslice 3 1 [[.int .i64 0]] [(0, (.t 10))]),
 oO 12 (k2 117 9 11),
 oM 8 12])
 (.seq
 (.region [1, 2, 3, 8] [oM 13 8,
 oO 14 (.bin .neq (.t 13) (.c (.int .i64 0)))])
 (.cond (.t 14)
 (.seq
 (.region [8] [oM 15 8,
 oO 6 (.mv (.c (.bool false))),
 oM 7 15])
 .ret)
 .skip)))
 (.seq
 (.region [1, 2, 3] [oM 16 2,
 oO 17 (.len true (.t 16)),
 oA 18 2 3,
 ol 19 1 18,
 oM 20 1,
 oI 21 8 19 20,
 oA 22 2 21,
 ol 23 1 22,
 oB 24 .geq 17 23,
 oM 25 24,
 oG 26 (.mv (.t 2)) 25 true,
 oG 27 (.len true (.t 26)) 25 true,
 oG 28 (.faddr 2 (.t 3)) 25 true,
 oG 29 (.load false 1 (.t 28)) 25 true,
 oG 30 (.mv (.t 1)) 25 true,
 oG 31 (.iaddr 8 (.t 29) (.t 30)) 25 true,
 oG 32 (.faddr 3 (.t 31)) 25 true,
 oG 33 (.load false 1 (.t 32)) 25 true,
 oG 34 (.bin .leq (.t 27) (.t 33)) 25 true,
 oO 35 (.pick (.t 25) (.t 34) (.c (.bool false))),
 oM 6 35,
 oO 7 (.mv (.c (.int .i64 0)))])
 .ret))), false, false⟩
/-- progeny/plain.fits -/
def c104 : CFn := ⟨42, [.t 4],
 (.seq
 (.region [0, 1] [oX 2 25 4 0,
 oX 3 44 2 1,
 oO 4 (.mv (.c (.bool false)))])
 (.seq
 (.draw [2, 3] [oA 5 0 3,
 oF 6 (.load false 1 (.t 5)) [0],
 oF 7 (.bin .geq (.t 6) (.c (.int .i64 0))) [0, 1],
 oF 8 (.mv (.t 7)) [0, 1, 2],
 ⟨(some 9), .faddr 0 (.t 3), some (8, true), (u 4), []⟩,
 ⟨(some 10), .load false 1 (.t 9), some (8, true), (u 5), []⟩,
 ⟨(some 11), .faddr 2 (.t 2), some (8, true), (u 4), []⟩,
 ⟨(some 12), .load false 1 (.t 11), some (8, true), (u 4 ++ [6]), []⟩,
 ⟨(some 13), .len false (.t 12), some (8, true), (u 4 ++ [6, 7]), []⟩,
 ⟨(some 14), .bin .lss (.t 10) (.t 13), some (8, true), (u 9), []⟩,
 oF 15 (.pick (.t 8) (.t 14) (.c (.bool false))) (u 10),
 oF 16 (.mv (.t 15)) (u 11),
 ⟨(some 17), .faddr 1 (.t 3), some (16, true), (u 12), []⟩,
 ⟨(some 18), .load false 1 (.t 17), some (16, true), (u 13), []⟩,
 ⟨(some 19), .len true (.t 18), some (16, true), (u 14), []⟩,
 ⟨(some 20), .faddr 2 (.t 2), some (16, true), (u 12), []⟩,
 ⟨(some 21), .load false 1 (.t 20), some (16, true), (u 12 ++ [15]), []⟩,
 ⟨(some 22), .faddr 0 (.t 3), some (16, true), (u 12), []⟩,
 ⟨(some 23), .load false 1 (.t 22), some (16, true), (u 12 ++ [17]), []⟩,
 ⟨(some 24), .iaddr 8 (.t 21) (.t 23), some (16, true), (u 12 ++ [15, 16, 17, 18]), []⟩,
 ⟨(some 25), .faddr 2 (.t 24), some (16, true), (u 12 ++ [15, 16, 17, 18, 19]), []⟩,
 ⟨(some 26), .load false 1 (.t 25), some (16, true), (u 12 ++ [15, 16, 17, 18, 19, 20]), []⟩,
 ⟨(some 27), .bin .geq (.t 19) (.t 26), some (16, true), (u 22), []⟩,
 oF 28 (.pick (.t 16) (.t 27) (.c (.bool false))) (u 23),
 oF 29 (.mv (.t 28)) (u 24),
 ⟨(some 30), .faddr 1 (.t 3), some (29, true), (u 25), []⟩,
 ⟨(some 31), .load false 1 (.t 30), some (29, true), (u 26), []⟩,
 ⟨(some 32), .len true (.t 31), some (29, true), (u 27), []⟩,
 ⟨(some 33), .faddr 2 (.t 2), some (29, true), (u 25), []⟩,
 ⟨(some 34), .load false 1 (.t 33), some (29, true), (u 25 ++ [28]), []⟩,
 ⟨(some 35), .faddr 0 (.t 3), some (29, true), (u 25), []⟩,
 ⟨(some 36), .load false 1 (.t 35), some (29, true), (u 25 ++ [30]), []⟩,
 ⟨(some 37), .iaddr 8 (.t 34) (.t 36), some (29, true), (u 25 ++ [28, 29, 30, 31]), []⟩,
 ⟨(some 38), .faddr 3 (.t 37), some (29, true), (u 25 ++ [28, 29, 30, 31, 32]), []⟩,
 ⟨(some 39), .load false 1 (.t 38), some (29, true), (u 25 ++ [28, 29, 30, 31, 32, 33]), []⟩,
 ⟨(some 40), .bin .leq (.t 32) (.t 39), some (29, true), (u 35), []⟩,
 oF 41 (.pick (.t 29) (.t 40) (.c (.bool false))) (u 36),
 oF 4 (.mv (.t 41)) (u 37)])
 .ret)), false, false⟩
/-- progeny/plain.key -/
def c105 : CFn := ⟨24, [.t 4],
 (.seq
 (.region [0, 1] [oX 2 87 8 0,
 oO 4 (.mv (.c (.str ⟨#[]⟩)))])
 (.seq
 (.seq
 (.region [1, 2] [oA 6 5 2,
 ol 7 1 6,
 oO 8 (.bin .lss (.t 7) (.c (.int .i64 0)))])
 (.cond (.t 8)
 (.seq
 (.region [] [oO 4 (.mv (.c (.str ⟨#[]⟩)))])
 .ret)
 .skip))
 (.seq
 (.region [1, 2] [oA 9 4 2,
 ol 10 1 9,
 oA 11 5 2,
 ol 12 1 11,
 oI 13 3 10 12,
 oL 14 3 13,
 oO 5 (.box 101 3 (.c (.agg [.str ⟨#[]⟩, .int .i64 0, .int .i64 0]))),
 oS 3 5 14])
 (.seq
 (.region [1, 5] [oM 15 1,
 oA 16 1 5,
 ol 17 1 16,
 oA 18 1 5,
 ol 19 1 18,
 oA 20 2 5,
 ol 21 1 20,
 oB 22 .add 19 21,
 oO 23 (.slcs (.t 15) (some (.t 17)) (some (.t 22))),
 oM 4 23])
 .ret)))), false, false⟩
def c106_l0 : CC :=
 (.seq
 (.seq
 (.region [1, 3, 8, 9, 10] [oM 22 10,
 oM 23 8,
 oB 24 .lss 22 23])
 (.cond (.t 24)
 .skip
 (.exit 0)))
 (.seq
 (.block 1
 (.region [1, 3, 8, 9, 10] [oM 29 9,
 oM 30 10,
 oO 31 (.bslice 3 1 [[.int .i64 0]] [(0, (.t 30))]),
 oO 32 (.app 3 1 8 false (.t 29) (.t 31)),
 oM 9 32]))
 (.region [1, 3, 8, 9, 10] [oL 25 4 3,
 oM 26 1,
 oM 27 10,
 oO 28 (k3 63 25 26 27),
 oM 10 28])))
/-- progeny/plain.children -/
def c106 : CFn := ⟨34, [.t 6],
 (.seq
 (.region [0, 1, 2] [oX 3 25 4 0,
 oO 6 (.mv (.c (.nils)))])
 (.seq
 (.region [1, 2, 3] [oM 11 1,
 oO 12 (.len false (.t 11)),
 oO 7 (.mv (.c (.int .i64 0))),
 oM 8 12])
 (.seq
 (.seq
 (.region [1, 2, 3, 7, 8] [oM 13 2,
 oO 14 (.bin .geq (.t 13) (.c (.int .i64 0)))])
 (.cond (.t 14)
 (.region [1, 2, 3] [oM 15 2,
 oO 16 (.bin .add (.t 15) (.c (.int .i64 1))),
 oL 17 4 3,
 oM 18 1,
 oM 19 2,
 oO 20 (k3 63 17 18 19),
 oM 7 16,
 oM 8 20])
 .skip))
 (.seq
 (.region [1, 3, 7, 8] [oO 9 (.mv (.c (.nils)))])
 (.seq
 (.seq
 (.region [1, 3, 7, 8, 9] [oM 21 7,
 oM 10 21])
 (.block 0
 (.loop c106_l0)))
 (.seq
 (.region [9] [oM 33 9,
 oM 6 33])
 .ret)))))), false, false⟩
def c109_l0 : CC :=
 (.seq
 (.region [0, 1, 7, 8] [oB 9 .lss 8 7])
 (.seq
 (.cond (.t 9)
 .skip
 (.exit 0))
 (.seq
 (.block 1
 (.seq
 (.region [0, 1, 7, 8] [oM 10 8,
 oM 5 10])
 (.seq
 (.region [0, 1, 5, 7, 8] [oM 11 1,
 oM 12 0,
 oM 13 5,
 oI 14 1 12 13,
 ol 15 1 14,
 oO 16 (.call (.t 11) [(.t 15)] false)])
 (.cond (.t 16)
 (.seq
 (.region [5] [oM 17 5,
 oM 4 17])
 .ret)
 .skip))))
 (.region [0, 1, 7, 8] [oO 18 (.bin .add (.t 8) (.c (.int .i64 1))),
 oM 8 18]))))
/-- slices.IndexFunc[[]int,int] -/
def c109 : CFn := ⟨19, [.t 4],
 (.seq
 (.region [0, 1] [oO 4 (.mv (.c (.int .i64 0)))])
 (.seq
 (.seq
 (.region [0, 1] [oM 6 0,
 oO 7 (.len false (.t 6)),
 oO 8 (.mv (.c (.int .i64 0)))])
 (.block 0
 (.loop c109_l0)))
 (.seq
 (.region [] [oO 4 (.mv (.c (.int .i64 (-1))))])
 .ret))), false, false⟩
/-- progeny/plain.valid$1 -/
def c110 : CFn := ⟨12, [.t 4],
 (.seq
 (.region [0, 1, 2] [oO 4 (.mv (.c (.bool false)))])
 (.seq
 (.draw [0, 1, 2] [ol 5 1 1,
 oM 6 0,
 oF 7 (.iaddr 2 (.t 5) (.t 6)) [0, 1],
 oF 8 (.faddr 0 (.t 7)) [0, 1, 2],
 oF 9 (.load false 1 (.t 8)) (u 4),
 ol 10 1 2,
 oF 11 (.bin .eql (.t 9) (.t 10)) (u 6),
 oF 4 (.mv (.t 11)) (u 7)])
 .ret)), false, false⟩
/-- progeny/plain.inOrder -/
def c111 : CFn := ⟨31, [.t 6],
 (.seq
 (.region [0, 1, 2] [oX 3 87 8 0,
 oO 6 (.mv (.c (.bool false)))])
 (.seq
 (.seq
 (.region [1, 2, 3] [oA 9 5 3,
 ol 10 1 9,
 oO 11 (.bin .lss (.t 10) (.c (.int .i64 0)))])
 (.cond (.t 11)
 (.seq
 (.region [] [oO 6 (.mv (.c (.bool true)))])
 .ret)
 .skip))
 (.seq
 (.draw [1, 2, 3] [oL 12 8 3,
 oM 13 1,
 oF 14 (k2 105 12 13) [0, 1],
 oa 15 (.load true 8 (.t 3)) [] [2],
 oM 16 2,
 oF 17 (k2 105 15 16) (u 5),
 oF 7 (.mv (.t 14)) (u 6),
 oF 8 (.mv (.t 17)) (u 7)])
 (.seq
 (.region [3, 7, 8] [oM 18 7,
 oM 19 8,
 oB 20 .lss 18 19,
 oM 21 20,
 oG 22 (.mv (.t 7)) 21 false,
 oG 23 (.mv (.t 8)) 21 false,
 oG 24 (.bin .eql (.t 22) (.t 23)) 21 false,
 oG 25 (.mv (.t 24)) 21 false,
 oG 26 (.faddr 6 (.t 3)) 25 true,
 oG 27 (.load false 1 (.t 26)) 25 true,
 oG 28 (.un .not (.t 27)) 25 true,
 oG 29 (.pick (.t 25) (.t 28) (.c (.bool false))) 21 false,
 oO 30 (.pick (.t 21) (.c (.bool true)) (.t 29)),
 oM 6 30])
 .ret)))), false, false⟩
/-- progeny/dbd.asked$1 -/
def c112 : CFn := ⟨13, [.t 3],
 (.seq
 (.region [0, 1] [oO 3 (.mv (.c (.bool false)))])
 (.seq
 (.region [0, 1] [oM 4 0,
 oO 5 (.bin .lss (.t 4) (.c (.int .i64 0))),
 oM 6 5,
 oG 7 (.mv (.t 0)) 6 false,
 oG 8 (.faddr 2 (.t 1)) 6 false,
 oG 9 (.load false 1 (.t 8)) 6 false,
 oG 10 (.len false (.t 9)) 6 false,
 oG 11 (.bin .geq (.t 7) (.t 10)) 6 false,
 oO 12 (.pick (.t 6) (.c (.bool true)) (.t 11)),
 oM 3 12])
 .ret)), false, false⟩
/-- progeny/progenyref13.key -/
def c113 : CFn := ⟨40, [.t 4],
 (.seq
 (.region [0, 1] [oX 2 25 4 0,
 oX 3 44 2 1,
 oO 4 (.mv (.c (.str ⟨#[]⟩)))])
 (.seq
 (.region [2, 3] [oA 6 2 2,
 ol 7 1 6,
 oA 8 0 3,
 ol 9 1 8,
 oI 10 8 7 9,
 oL 11 8 10,
 oO 5 (.box 87 8 (.c (.agg [.str ⟨#[]⟩, .int .i64 0, .int .i64 0, .int .i64 0, .nils, .int .i64 0, .bool false, .bool false]))),
 oS 8 5 11])
 (.seq
 (.seq
 (.region [3, 5] [oA 12 5 5,
 ol 13 1 12,
 oO 14 (.bin .lss (.t 13) (.c (.int .i64 0)))])
 (.cond (.t 14)
 (.seq
 (.region [] [oO 4 (.mv (.c (.str ⟨#[]⟩)))])
 .ret)
 .skip))
 (.seq
 (.draw [3, 5] [oA 15 1 3,
 oF 16 (.load false 1 (.t 15)) [0],
 oA 17 4 5,
 oF 18 (.load false 1 (.t 17)) [2],
 oA 19 5 5,
 oF 20 (.load false 1 (.t 19)) [4],
 oF 21 (.iaddr 3 (.t 18) (.t 20)) [2, 3, 4, 5],
 oF 22 (.faddr 1 (.t 21)) [2, 3, 4, 5, 6],
 oF 23 (.load false 1 (.t 22)) [2, 3, 4, 5, 6, 7],
 oA 24 4 5,
 oF 25 (.load false 1 (.t 24)) [9],
 oA 26 5 5,
 oF 27 (.load false 1 (.t 26)) [11],
 oF 28 (.iaddr 3 (.t 25) (.t 27)) [9, 10, 11, 12],
 oF 29 (.faddr 1 (.t 28)) [9, 10, 11, 12, 13],
 oF 30 (.load false 1 (.t 29)) [9, 10, 11, 12, 13, 14],
 oA 31 4 5,
 oF 32 (.load false 1 (.t 31)) [16],
 oA 33 5 5,
 oF 34 (.load false 1 (.t 33)) [18],
 oF 35 (.iaddr 3 (.t 32) (.t 34)) [16, 17, 18, 19],
 oF 36 (.faddr 2 (.t 35)) [16, 17, 18, 19, 20],
 oF 37 (.load false 1 (.t 36)) [16, 17, 18, 19, 20, 21],
 oF 38 (.bin .add (.t 30) (.t 37)) [9, 10, 11, 12, 13, 14, 15, 16, 17, 18, 19, 20, 21, 22],
 oF 39 (.slcs (.t 16) (some (.t 23)) (some (.t 38))) (u 24),
 oF 4 (.mv (.t 39)) (u 25)])
 .ret)))), false, false⟩
def c114_l0 : CC :=
 (.seq
 (.region [0, 1, 7, 8, 9] [oB 10 .lss 9 8])
 (.seq
 (.cond (.t 10)
 .skip
 (.exit 0))
 (.seq
 (.block 1
 (.seq
 (.region [0, 1, 7, 8, 9] [oM 11 9,
 oI 12 3 7 9,
 oL 13 3 12,
 oO 6 (.box 101 3 (.c (.agg [.str ⟨#[]⟩, .int .i64 0, .int .i64 0]))),
 oM 5 11,
 oS 3 6 13])
 (.seq
 (.seq
 (.region [0, 1, 5, 6, 7, 8, 9] [oA 14 0 6,
 ol 15 1 14,
 oO 16 (k1 69 15),
 oN 17 16,
 oM 18 17,
 oG 19 (.faddr 1 (.t 6)) 18 false,
 oG 20 (.load false 1 (.t 19)) 18 false,
 oG 21 (.bin .lss (.t 20) (.c (.int .i64 0))) 18 false,
 oO 22 (.pick (.t 18) (.c (.bool true)) (.t 21)),
 oM 23 22,
 oG 24 (.faddr 1 (.t 6)) 23 false,
 oG 25 (.load false 1 (.t 24)) 23 false,
 oG 26 (.mv (.t 1)) 23 false,
 oG 27 (.bin .geq (.t 25) (.t 26)) 23 false,
 oO 28 (.pick (.t 23) (.c (.bool true)) (.t 27)),
 oM 29 28,
 oG 30 (.faddr 2 (.t 6)) 29 false,
 oG 31 (.load false 1 (.t 30)) 29 false,
 oG 32 (.bin .lss (.t 31) (.c (.int .i64 1))) 29 false,
 oO 33 (.pick (.t 29) (.c (.bool true)) (.t 32)),
 oM 34 33,
 oG 35 (.faddr 2 (.t 6)) 34 false,
 oG 36 (.load false 1 (.t 35)) 34 false,
 oG 37 (.mv (.t 1)) 34 false,
 oG 38 (.faddr 1 (.t 6)) 34 false,
 oG 39 (.load false 1 (.t 38)) 34 false,
 oG 40 (.bin .sub (.t 37) (.t 39)) 34 false,
 oG 41 (.bin .gtr (.t 36) (.t 40)) 34 false,
 oO 42 (.pick (.t 34) (.c (.bool true)) (.t 41))])
 (.cond (.t 42)
 (.seq
 (.region [] [oO 4 (.mv (.c (.bool false)))])
 .ret)
 .skip))
 (.seq
 (.region [0, 1, 5, 6, 7, 8, 9] [oM 43 0,
 oM 44 5,
 oO 45 (.slc 3 (.t 43) none (some (.t 44)) none),
 oO 46 (.mkfn 120 [(.t 6)]),
 oO 47 (k2 119 45 46)])
 (.cond (.t 47)
 (.seq
 (.region [] [oO 4 (.mv (.c (.bool false)))])
 .ret)
 .skip)))))
 (.region [0, 1, 7, 8, 9] [oO 48 (.bin .add (.t 9) (.c (.int .i64 1))),
 oM 9 48]))))
/-- progeny/dbd.areFields -/
def c114 : CFn := ⟨52, [.t 4],
 (.seq
 (.region [0, 1] [oO 4 (.mv (.c (.bool false)))])
 (.seq
 (.seq
 (.region [0, 1] [oM 7 0,
 oO 8 (.len false (.t 7)),
 oO 9 (.mv (.c (.int .i64 0)))])
 (.block 0
 (.loop c114_l0)))
 (.seq
 (.region [0] [oM 49 0,
 oO 50 (.len false (.t 49)),
 oO 51 (.bin .leq (.t 50) (.c (.int .i64 5))),
 oM 4 51])
 .ret))), false, false⟩
def c115_l0 : CC :=
 (.seq
 (.region [0, 1, 7, 8] [oB 9 .lss 8 7])
 (.seq
 (.cond (.t 9)
 .skip
 (.exit 0))
 (.seq
 (.block 1
 (.seq
 (.region [0, 1, 7, 8] [oM 10 8,
 oM 5 10])
 (.seq
 (.region [0, 1, 5, 7, 8] [oM 11 1,
 oM 12 0,
 oM 13 5,
 oI 14 8 12 13,
 oL 15 8 14,
 oO 16 (.call (.t 11) [(.t 15)] false)])
 (.cond (.t 16)
 (.seq
 (.region [5] [oM 17 5,
 oM 4 17])
 .ret)
 .skip))))
 (.region [0, 1, 7, 8] [oO 18 (.bin .add (.t 8) (.c (.int .i64 1))),
 oM 8 18]))))
/-- slices.IndexFunc[[]progeny/api.Type,progeny/api.Type] -/
def c115 : CFn := ⟨19, [.t 4],
 (.seq
 (.region [0, 1] [oO 4 (.mv (.c (.int .i64 0)))])
 (.seq
 (.seq
 (.region [0, 1] [oM 6 0,
 oO 7 (.len false (.t 6)),
 oO 8 (.mv (.c (.int .i64 0)))])
 (.block 0
 (.loop c115_l0)))
 (.seq
 (.region [] [oO 4 (.mv (.c (.int .i64 (-1))))])
 .ret))), false, false⟩
def c116_l0 : CC :=
 (.seq
 (.region [0, 1, 7, 8] [oB 9 .lss 8 7])
 (.seq
 (.cond (.t 9)
 .skip
 (.exit 0))
 (.seq
 (.block 1
 (.seq
 (.region [0, 1, 7, 8] [oM 10 8,
 oM 5 10])
 (.seq
 (.region [0, 1, 5, 7, 8] [oM 11 1,
 oM 12 0,
 oM 13 5,
 oI 14 4 12 13,
 oL 15 4 14,
 oO 16 (.call (.t 11) [(.t 15)] false)])
 (.cond (.t 16)
 (.seq
 (.region [5] [oM 17 5,
 oM 4 17])
 .ret)
 .skip))))
 (.region [0, 1, 7, 8] [oO 18 (.bin .add (.t 8) (.c (.int .i64 1))),
 oM 8 18]))))
/-- slices.IndexFunc[[]progeny/api.Search,progeny/api.Search] -/
def c116 : CFn := ⟨19, [.t 4],
 (.seq
 (.region [0, 1] [oO 4 (.mv (.c (.int .i64 0)))])
 (.seq
 (.seq
 (.region [0, 1] [oM 6 0,
 oO 7 (.len false (.t 6)),
 oO 8 (.mv (.c (.int .i64 0)))])
 (.block 0
 (.loop c116_l0)))
 (.seq
 (.region [] [oO 4 (.mv (.c (.int .i64 (-1))))])
 .ret))), false, false⟩
def c117_l0 : CC :=
 (.seq
 (.seq
 (.region [1, 2, 5] [oM 9 5,
 oM 10 1,
 oO 11 (.len false (.t 10)),
 oB 12 .lss 9 11])
 (.cond (.t 12)
 .skip
 (.exit 0)))
 (.seq
 (.block 1
 (.seq
 (.draw [1, 2, 5] [oL 15 4 2,
 oM 16 1,
 oM 17 5,
 oF 18 (.iaddr 1 (.t 16) (.t 17)) [1, 2],
 oF 19 (.load false 1 (.t 18)) [1, 2, 3],
 oF 20 (k2 121 15 19) (u 5),
 oF 21 (.un .not (.t 20)) (u 6)])
 (.cond (.t 21)
 (.seq
 (.region [] [oO 4 (.mv (.c (.int .i64 2)))])
 .ret)
 .skip)))
 (.region [1, 2, 5] [oM 13 5,
 oO 14 (.bin .add (.t 13) (.c (.int .i64 1))),
 oM 5 14])))
/-- progeny/progenyref11.asked -/
def c117 : CFn := ⟨22, [.t 4],
 (.seq
 (.region [0, 1] [oX 2 25 4 0,
 oO 4 (.mv (.c (.int .i64 0)))])
 (.seq
 (.seq
 (.region [1, 2] [oL 6 4 2,
 oO 7 (k1 44 6),
 oN 8 7])
 (.cond (.t 8)
 (.seq
 (.region [] [oO 4 (.mv (.c (.int .i64 100)))])
 .ret)
 .skip))
 (.seq
 (.seq
 (.region [1, 2] [oO 5 (.mv (.c (.int .i64 0)))])
 (.block 0
 (.loop c117_l0)))
 (.seq
 (.region [] [oO 4 (.mv (.c (.int .i64 0)))])
 .ret)))), false, false⟩
/-- slices.ContainsFunc[[]progeny/api.Field,progeny/api.Field] -/
def c119 : CFn := ⟨9, [.t 4],
 (.seq
 (.region [0, 1] [oO 4 (.mv (.c (.bool false)))])
 (.seq
 (.region [0, 1] [oM 5 0,
 oM 6 1,
 oO 7 (k2 123 5 6),
 oO 8 (.bin .geq (.t 7) (.c (.int .i64 0))),
 oM 4 8])
 .ret)), false, false⟩
/-- progeny/dbd.areFields$1 -/
def c120 : CFn := ⟨9, [.t 3],
 (.seq
 (.region [0, 1] [oX 2 101 3 0,
 oO 3 (.mv (.c (.bool false)))])
 (.seq
 (.region [1, 2] [oA 4 0 2,
 ol 5 1 4,
 oA 6 0 1,
 ol 7 1 6,
 oB 8 .eql 5 7,
 oM 3 8])
 .ret)), false, false⟩
/-- progeny/progenyref11.isType -/
def c121 : CFn := ⟨14, [.t 4],
 (.seq
 (.region [0, 1] [oX 2 25 4 0,
 oO 4 (.mv (.c (.bool false)))])
 (.seq
 (.region [1, 2] [oM 5 1,
 oO 6 (.bin .geq (.t 5) (.c (.int .i64 0))),
 oM 7 6,
 oG 8 (.mv (.t 1)) 7 true,
 oG 9 (.faddr 2 (.t 2)) 7 true,
 oG 10 (.load false 1 (.t 9)) 7 true,
 oG 11 (.len false (.t 10)) 7 true,
 oG 12 (.bin .lss (.t 8) (.t 11)) 7 true,
 oO 13 (.pick (.t 7) (.t 12) (.c (.bool false))),
 oM 4 13])
 .ret)), false, false⟩
def c123_l0 : CC :=
 (.seq
 (.region [0, 1, 7, 8] [oB 9 .lss 8 7])
 (.seq
 (.cond (.t 9)
 .skip
 (.exit 0))
 (.seq
 (.block 1
 (.seq
 (.region [0, 1, 7, 8] [oM 10 8,
 oM 5 10])
 (.seq
 (.region [0, 1, 5, 7, 8] [oM 11 1,
 oM 12 0,
 oM 13 5,
 oI 14 3 12 13,
 oL 15 3 14,
 oO 16 (.call (.t 11) [(.t 15)] false)])
 (.cond (.t 16)
 (.seq
 (.region [5] [oM 17 5,
 oM 4 17])
 .ret)
 .skip))))
 (.region [0, 1, 7, 8] [oO 18 (.bin .add (.t 8) (.c (.int .i64 1))),
 oM 8 18]))))
/-- slices.IndexFunc[[]progeny/api.Field,progeny/api.Field] -/
def c123 : CFn := ⟨19, [.t 4],
 (.seq
 (.region [0, 1] [oO 4 (.mv (.c (.int .i64 0)))])
 (.seq
 (.seq
 (.region [0, 1] [oM 6 0,
 oO 7 (.len false (.t 6)),
 oO 8 (.mv (.c (.int .i64 0)))])
 (.block 0
 (.loop c123_l0)))
 (.seq
 (.region [] [oO 4 (.mv (.c (.int .i64 (-1))))])
 .ret))), false, false⟩

def ctab : List (Nat × CFn) := [(8, c8), (9, c9), (10, c10), (13, c13), (14, c14), (16, c16), (18, c18), (19, c19), (21, c21), (24, c24), (32, c32), (33, c33), (34, c34), (35, c35), (36, c36), (37, c37), (38, c38), (39, c39), (42, c42), (44, c44), (46, c46), (47, c47), (48, c48), (49, c49), (50, c50), (51, c51), (52, c52), (53, c53), (54, c54), (58, c58), (59, c59), (60, c60), (61, c61), (62, c62), (63, c63), (64, c64), (65, c65), (66, c66), (67, c67), (69, c69), (70, c70), (71, c71), (72, c72), (73, c73), (74, c74), (75, c75), (76, c76), (77, c77), (78, c78), (79, c79), (81, c81), (82, c82), (83, c83), (85, c85), (86, c86), (87, c87), (88, c88), (89, c89), (90, c90), (91, c91), (92, c92), (94, c94), (95, c95), (96, c96), (97, c97), (98, c98), (99, c99), (100, c100), (101, c101), (104, c104), (105, c105), (106, c106), (109, c109), (110, c110), (111, c111), (112, c112), (113, c113), (114, c114), (115, c115), (116, c116), (117, c117), (119, c119), (120, c120), (121, c121), (123, c123)]
def utab : List (Nat × CFn) := [(11, c11), (43, c43), (45, c45), (84, c84)]
def cprog (f : Nat) : Option CFn := ((ctab ++ utab).find? fun p => p.1 == f).map (·.2)
theorem ok_all : ctab.all (fun p => okFn Go.Proofs.Try.prog p.1 p.2) = true := by kernel_rfl
theorem cprog_ok {f : Nat} {c : CFn} (h : cprog f = some c) : okFn Go.Proofs.Try.prog f c = true ∨ (f, c) ∈ utab := by
  unfold cprog at h
  cases hf : (ctab ++ utab).find? fun p => p.1 == f with
  | none => rw [hf] at h; cases h
  | some p =>
    rw [hf] at h
    simp only [Option.map_some, Option.some.injEq] at h
    have h1 := List.mem_of_find?_eq_some hf
    have h2 := List.find?_some hf
    simp only [beq_iff_eq] at h2
    rcases List.mem_append.1 h1 with h1 | h1
    · have h3 := List.all_eq_true.1 ok_all p h1
      rw [← h, ← h2]; exact .inl h3
    · rw [← h, ← h2]; exact .inr h1
theorem at8 : cprog 8 = some c8 := rfl
theorem at9 : cprog 9 = some c9 := rfl
theorem at10 : cprog 10 = some c10 := rfl
theorem at11 : cprog 11 = some c11 := rfl
theorem at13 : cprog 13 = some c13 := rfl
theorem at14 : cprog 14 = some c14 := rfl
theorem at16 : cprog 16 = some c16 := rfl
theorem at18 : cprog 18 = some c18 := rfl
theorem at19 : cprog 19 = some c19 := rfl
theorem at21 : cprog 21 = some c21 := rfl
theorem at24 : cprog 24 = some c24 := rfl
theorem at32 : cprog 32 = some c32 := rfl
theorem at33 : cprog 33 = some c33 := rfl
theorem at34 : cprog 34 = some c34 := rfl
theorem at35 : cprog 35 = some c35 := rfl
theorem at36 : cprog 36 = some c36 := rfl
theorem at37 : cprog 37 = some c37 := rfl
theorem at38 : cprog 38 = some c38 := rfl
theorem at39 : cprog 39 = some c39 := rfl
theorem at42 : cprog 42 = some c42 := rfl
theorem at43 : cprog 43 = some c43 := rfl
theorem at44 : cprog 44 = some c44 := rfl
theorem at45 : cprog 45 = some c45 := rfl
theorem at46 : cprog 46 = some c46 := rfl
theorem at47 : cprog 47 = some c47 := rfl
theorem at48 : cprog 48 = some c48 := rfl
theorem at49 : cprog 49 = some c49 := rfl
theorem at50 : cprog 50 = some c50 := rfl
theorem at51 : cprog 51 = some c51 := rfl
theorem at52 : cprog 52 = some c52 := rfl
theorem at53 : cprog 53 = some c53 := rfl
theorem at54 : cprog 54 = some c54 := rfl
theorem at58 : cprog 58 = some c58 := rfl
theorem at59 : cprog 59 = some c59 := rfl
theorem at60 : cprog 60 = some c60 := rfl
theorem at61 : cprog 61 = some c61 := rfl
theorem at62 : cprog 62 = some c62 := rfl
theorem at63 : cprog 63 = some c63 := rfl
theorem at64 : cprog 64 = some c64 := rfl
theorem at65 : cprog 65 = some c65 := rfl
theorem at66 : cprog 66 = some c66 := rfl
theorem at67 : cprog 67 = some c67 := rfl
theorem at69 : cprog 69 = some c69 := rfl
theorem at70 : cprog 70 = some c70 := rfl
theorem at71 : cprog 71 = some c71 := rfl
theorem at72 : cprog 72 = some c72 := rfl
theorem at73 : cprog 73 = some c73 := rfl
theorem at74 : cprog 74 = some c74 := rfl
theorem at75 : cprog 75 = some c75 := rfl
theorem at76 : cprog 76 = some c76 := rfl
theorem at77 : cprog 77 = some c77 := rfl
theorem at78 : cprog 78 = some c78 := rfl
theorem at79 : cprog 79 = some c79 := rfl
theorem at81 : cprog 81 = some c81 := rfl
theorem at82 : cprog 82 = some c82 := rfl
theorem at83 : cprog 83 = some c83 := rfl
theorem at84 : cprog 84 = some c84 := rfl
theorem at85 : cprog 85 = some c85 := rfl
theorem at86 : cprog 86 = some c86 := rfl
theorem at87 : cprog 87 = some c87 := rfl
theorem at88 : cprog 88 = some c88 := rfl
theorem at89 : cprog 89 = some c89 := rfl
theorem at90 : cprog 90 = some c90 := rfl
theorem at91 : cprog 91 = some c91 := rfl
theorem at92 : cprog 92 = some c92 := rfl
theorem at94 : cprog 94 = some c94 := rfl
theorem at95 : cprog 95 = some c95 := rfl
theorem at96 : cprog 96 = some c96 := rfl
theorem at97 : cprog 97 = some c97 := rfl
theorem at98 : cprog 98 = some c98 := rfl
theorem at99 : cprog 99 = some c99 := rfl
theorem at100 : cprog 100 = some c100 := rfl
theorem at101 : cprog 101 = some c101 := rfl
theorem at104 : cprog 104 = some c104 := rfl
theorem at105 : cprog 105 = some c105 := rfl
theorem at106 : cprog 106 = some c106 := rfl
theorem at109 : cprog 109 = some c109 := rfl
theorem at110 : cprog 110 = some c110 := rfl
theorem at111 : cprog 111 = some c111 := rfl
theorem at112 : cprog 112 = some c112 := rfl
theorem at113 : cprog 113 = some c113 := rfl
theorem at114 : cprog 114 = some c114 := rfl
theorem at115 : cprog 115 = some c115 := rfl
theorem at116 : cprog 116 = some c116 := rfl
theorem at117 : cprog 117 = some c117 := rfl
theorem at119 : cprog 119 = some c119 := rfl
theorem at120 : cprog 120 = some c120 := rfl
theorem at121 : cprog 121 = some c121 := rfl
theorem at123 : cprog 123 = some c123 := rfl
end Go.Proofs.Ytbchmbddcdionaa.Code
