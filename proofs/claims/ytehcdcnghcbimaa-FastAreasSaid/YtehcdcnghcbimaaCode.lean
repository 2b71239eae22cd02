/- The compact code of the functions, printed by a program of ours (gen.py); the kernel checks it against the program's own form. -/
import Derived.Test.YtehcdcnghcbimaaEvN
import Derived.Test.YtehcdcnghcbimaaProg
import Derived.KernelRfl
namespace Go.Proofs.Ytehcdcnghcbimaa.Code
open Go.Proofs.Ytehcdcnghcbimaa.Ev

/-- progeny/progenylaw23.FastSyncs -/
def c3 : CFn := ⟨81, [.t 4],
 (.seq
  (.region [0, 1] [⟨(some 2), .box 24 2 (.t 0), none, [], []⟩,
    ⟨(some 4), .mv (.c (.bool false)), none, [], []⟩])
  (.seq
   (.seq
    (.region [1, 2] [⟨(some 13), .load true 2 (.t 2), none, [], []⟩,
      ⟨(some 14), .call (.c (.fn 10 [])) [(.t 13)] false, none, [], []⟩,
      ⟨(some 15), .un .not (.t 14), none, [], []⟩,
      ⟨(some 16), .mv (.t 15), none, [], []⟩,
      ⟨(some 17), .mv (.t 1), some (16, false), [], []⟩,
      ⟨(some 18), .len false (.t 17), some (16, false), [], []⟩,
      ⟨(some 19), .bin .gtr (.t 18) (.c (.int .i64 40)), some (16, false), [], []⟩,
      ⟨(some 20), .pick (.t 16) (.c (.bool true)) (.t 19), none, [], []⟩])
    (.cond (.t 20)
     (.seq
      (.region [] [⟨(some 21), .call (.c (.fn 11 [])) [] false, none, [], []⟩,
        ⟨(some 4), .mv (.t 21), none, [], []⟩])
      .ret)
     .skip))
   (.seq
    (.region [1, 2] [⟨(some 23), .load true 2 (.t 2), none, [], []⟩,
      ⟨(some 24), .mv (.t 1), none, [], []⟩,
      ⟨(some 25), .call (.c (.fn 12 [])) [(.t 23), (.t 24)] false, none, [], []⟩,
      ⟨(some 22), .mv (.t 25), none, [], []⟩,
      ⟨(some 26), .extract (.t 22) 0, none, [], []⟩,
      ⟨(some 27), .extract (.t 22) 1, none, [], []⟩,
      ⟨(some 5), .mv (.t 26), none, [], []⟩,
      ⟨(some 6), .mv (.t 27), none, [], []⟩])
    (.seq
     (.region [1, 2, 5, 6] [⟨(some 29), .load true 2 (.t 2), none, [], []⟩,
       ⟨(some 30), .mv (.t 1), none, [], []⟩,
       ⟨(some 31), .call (.c (.fn 13 [])) [(.t 29), (.t 30)] false, none, [], []⟩,
       ⟨(some 28), .mv (.t 31), none, [], []⟩,
       ⟨(some 32), .extract (.t 28) 0, none, [], []⟩,
       ⟨(some 33), .extract (.t 28) 1, none, [], []⟩,
       ⟨(some 7), .mv (.t 32), none, [], []⟩,
       ⟨(some 8), .mv (.t 33), none, [], []⟩])
     (.seq
      (.region [1, 2, 5, 6, 7, 8] [⟨(some 35), .load true 2 (.t 2), none, [], []⟩,
        ⟨(some 36), .mv (.t 1), none, [], []⟩,
        ⟨(some 37), .call (.c (.fn 14 [])) [(.t 35), (.t 36)] true, none, [], []⟩,
        ⟨(some 34), .mv (.t 37), none, [], []⟩,
        ⟨(some 38), .extract (.t 34) 0, none, [], []⟩,
        ⟨(some 39), .extract (.t 34) 1, none, [], []⟩,
        ⟨(some 9), .box 24 2 (.c (.agg [.int .i64 0, .nils])), none, [], []⟩,
        ⟨none, .store 2 (.t 9) (.t 38), none, [], []⟩,
        ⟨(some 10), .mv (.t 39), none, [], []⟩])
      (.seq
       (.region [1, 2, 5, 6, 7, 8, 9, 10] [⟨(some 41), .load true 2 (.t 2), none, [], []⟩,
         ⟨(some 42), .mv (.t 1), none, [], []⟩,
         ⟨(some 43), .call (.c (.fn 15 [])) [(.t 41), (.t 42)] true, none, [], []⟩,
         ⟨(some 40), .mv (.t 43), none, [], []⟩,
         ⟨(some 44), .extract (.t 40) 0, none, [], []⟩,
         ⟨(some 45), .extract (.t 40) 1, none, [], []⟩,
         ⟨(some 11), .box 24 2 (.c (.agg [.int .i64 0, .nils])), none, [], []⟩,
         ⟨none, .store 2 (.t 11) (.t 44), none, [], []⟩,
         ⟨(some 12), .mv (.t 45), none, [], []⟩])
       (.seq
        (.draw [1, 2, 5, 6, 7, 8, 9, 10, 11, 12] [⟨(some 46), .load true 2 (.t 2), none, [], []⟩,
          ⟨(some 47), .call (.c (.fn 16 [])) [(.t 46)] false, none, [0], []⟩,
          ⟨(some 48), .load true 2 (.t 2), none, [], [1]⟩,
          ⟨(some 49), .call (.c (.fn 17 [])) [(.t 48)] false, none, [0, 1, 2], []⟩,
          ⟨(some 50), .eqb false (.t 47) (.t 49), none, [0, 1, 2, 3], []⟩,
          ⟨(some 51), .mv (.t 50), none, [0, 1, 2, 3, 4], []⟩,
          ⟨(some 52), .mv (.t 1), some (51, true), [0, 1, 2, 3, 4, 5], []⟩,
          ⟨(some 53), .call (.c (.fn 18 [])) [(.t 52)] false, some (51, true), [0, 1, 2, 3, 4, 5, 6], []⟩,
          ⟨(some 54), .mv (.t 1), some (51, true), [0, 1, 2, 3, 4, 5], []⟩,
          ⟨(some 55), .call (.c (.fn 19 [])) [(.t 54)] false, some (51, true), [0, 1, 2, 3, 4, 5, 6, 7, 8], []⟩,
          ⟨(some 56), .eqb false (.t 53) (.t 55), some (51, true), [0, 1, 2, 3, 4, 5, 6, 7, 8, 9], []⟩,
          ⟨(some 57), .pick (.t 51) (.t 56) (.c (.bool false)), none, [0, 1, 2, 3, 4, 5, 6, 7, 8, 9, 10], []⟩,
          ⟨(some 58), .mv (.t 57), none, [0, 1, 2, 3, 4, 5, 6, 7, 8, 9, 10, 11], []⟩,
          ⟨(some 59), .mv (.t 5), some (58, true), [0, 1, 2, 3, 4, 5, 6, 7, 8, 9, 10, 11, 12], []⟩,
          ⟨(some 60), .mv (.t 7), some (58, true), [0, 1, 2, 3, 4, 5, 6, 7, 8, 9, 10, 11, 12], []⟩,
          ⟨(some 61), .bin .eql (.t 59) (.t 60), some (58, true), [0, 1, 2, 3, 4, 5, 6, 7, 8, 9, 10, 11, 12, 13, 14], []⟩,
          ⟨(some 62), .pick (.t 58) (.t 61) (.c (.bool false)), none, [0, 1, 2, 3, 4, 5, 6, 7, 8, 9, 10, 11, 12, 13, 14, 15], []⟩,
          ⟨(some 63), .mv (.t 62), none, [0, 1, 2, 3, 4, 5, 6, 7, 8, 9, 10, 11, 12, 13, 14, 15, 16], []⟩,
          ⟨(some 64), .mv (.t 6), some (63, true), [0, 1, 2, 3, 4, 5, 6, 7, 8, 9, 10, 11, 12, 13, 14, 15, 16, 17], []⟩,
          ⟨(some 65), .mv (.t 8), some (63, true), [0, 1, 2, 3, 4, 5, 6, 7, 8, 9, 10, 11, 12, 13, 14, 15, 16, 17], []⟩,
          ⟨(some 66), .bin .eql (.t 64) (.t 65), some (63, true), [0, 1, 2, 3, 4, 5, 6, 7, 8, 9, 10, 11, 12, 13, 14, 15, 16, 17, 18, 19], []⟩,
          ⟨(some 67), .pick (.t 63) (.t 66) (.c (.bool false)), none, [0, 1, 2, 3, 4, 5, 6, 7, 8, 9, 10, 11, 12, 13, 14, 15, 16, 17, 18, 19, 20], []⟩,
          ⟨(some 68), .mv (.t 67), none, [0, 1, 2, 3, 4, 5, 6, 7, 8, 9, 10, 11, 12, 13, 14, 15, 16, 17, 18, 19, 20, 21], []⟩,
          ⟨(some 69), .load true 2 (.t 9), some (68, true), [0, 1, 2, 3, 4, 5, 6, 7, 8, 9, 10, 11, 12, 13, 14, 15, 16, 17, 18, 19, 20, 21, 22], []⟩,
          ⟨(some 70), .load true 2 (.t 11), some (68, true), [0, 1, 2, 3, 4, 5, 6, 7, 8, 9, 10, 11, 12, 13, 14, 15, 16, 17, 18, 19, 20, 21, 22], []⟩,
          ⟨(some 71), .call (.c (.fn 20 [])) [(.t 69), (.t 70)] false, some (68, true), [0, 1, 2, 3, 4, 5, 6, 7, 8, 9, 10, 11, 12, 13, 14, 15, 16, 17, 18, 19, 20, 21, 22, 23, 24], []⟩,
          ⟨(some 72), .pick (.t 68) (.t 71) (.c (.bool false)), none, [0, 1, 2, 3, 4, 5, 6, 7, 8, 9, 10, 11, 12, 13, 14, 15, 16, 17, 18, 19, 20, 21, 22, 23, 24, 25], []⟩,
          ⟨(some 73), .mv (.t 72), none, [0, 1, 2, 3, 4, 5, 6, 7, 8, 9, 10, 11, 12, 13, 14, 15, 16, 17, 18, 19, 20, 21, 22, 23, 24, 25, 26], []⟩,
          ⟨(some 74), .mv (.t 10), some (73, true), [0, 1, 2, 3, 4, 5, 6, 7, 8, 9, 10, 11, 12, 13, 14, 15, 16, 17, 18, 19, 20, 21, 22, 23, 24, 25, 26, 27], []⟩,
          ⟨(some 75), .mv (.t 12), some (73, true), [0, 1, 2, 3, 4, 5, 6, 7, 8, 9, 10, 11, 12, 13, 14, 15, 16, 17, 18, 19, 20, 21, 22, 23, 24, 25, 26, 27], []⟩,
          ⟨(some 76), .bin .eql (.t 74) (.t 75), some (73, true), [0, 1, 2, 3, 4, 5, 6, 7, 8, 9, 10, 11, 12, 13, 14, 15, 16, 17, 18, 19, 20, 21, 22, 23, 24, 25, 26, 27, 28, 29], []⟩,
          ⟨(some 77), .pick (.t 73) (.t 76) (.c (.bool false)), none, [0, 1, 2, 3, 4, 5, 6, 7, 8, 9, 10, 11, 12, 13, 14, 15, 16, 17, 18, 19, 20, 21, 22, 23, 24, 25, 26, 27, 28, 29, 30], []⟩,
          ⟨(some 78), .mv (.t 77), none, [0, 1, 2, 3, 4, 5, 6, 7, 8, 9, 10, 11, 12, 13, 14, 15, 16, 17, 18, 19, 20, 21, 22, 23, 24, 25, 26, 27, 28, 29, 30, 31], []⟩,
          ⟨(some 79), .call (.c (.fn 11 [])) [] false, some (78, true), [0, 1, 2, 3, 4, 5, 6, 7, 8, 9, 10, 11, 12, 13, 14, 15, 16, 17, 18, 19, 20, 21, 22, 23, 24, 25, 26, 27, 28, 29, 30, 31, 32], []⟩,
          ⟨(some 80), .pick (.t 78) (.t 79) (.c (.bool false)), none, [0, 1, 2, 3, 4, 5, 6, 7, 8, 9, 10, 11, 12, 13, 14, 15, 16, 17, 18, 19, 20, 21, 22, 23, 24, 25, 26, 27, 28, 29, 30, 31, 32, 33], []⟩,
          ⟨(some 4), .mv (.t 80), none, [0, 1, 2, 3, 4, 5, 6, 7, 8, 9, 10, 11, 12, 13, 14, 15, 16, 17, 18, 19, 20, 21, 22, 23, 24, 25, 26, 27, 28, 29, 30, 31, 32, 33, 34], []⟩])
        .ret))))))), false, false⟩
/-- progeny/progenylaw23.FastCalls -/
def c4 : CFn := ⟨45, [.t 6],
 (.seq
  (.region [0, 1, 2] [⟨(some 3), .box 24 2 (.t 0), none, [], []⟩,
    ⟨(some 5), .box 37 4 (.t 2), none, [], []⟩,
    ⟨(some 6), .mv (.c (.bool false)), none, [], []⟩])
  (.seq
   (.seq
    (.region [1, 3, 5] [⟨(some 11), .load true 2 (.t 3), none, [], []⟩,
      ⟨(some 12), .call (.c (.fn 10 [])) [(.t 11)] false, none, [], []⟩,
      ⟨(some 13), .un .not (.t 12), none, [], []⟩,
      ⟨(some 14), .mv (.t 13), none, [], []⟩,
      ⟨(some 15), .mv (.t 1), some (14, false), [], []⟩,
      ⟨(some 16), .len false (.t 15), some (14, false), [], []⟩,
      ⟨(some 17), .bin .gtr (.t 16) (.c (.int .i64 40)), some (14, false), [], []⟩,
      ⟨(some 18), .pick (.t 14) (.c (.bool true)) (.t 17), none, [], []⟩])
    (.cond (.t 18)
     (.seq
      (.region [] [⟨(some 19), .call (.c (.fn 11 [])) [] false, none, [], []⟩,
        ⟨(some 6), .mv (.t 19), none, [], []⟩])
      .ret)
     .skip))
   (.seq
    (.region [1, 3, 5] [⟨(some 21), .load true 2 (.t 3), none, [], []⟩,
      ⟨(some 22), .mv (.t 1), none, [], []⟩,
      ⟨(some 23), .load true 4 (.t 5), none, [], []⟩,
      ⟨(some 24), .call (.c (.fn 21 [])) [(.t 21), (.t 22), (.t 23)] false, none, [], []⟩,
      ⟨(some 20), .mv (.t 24), none, [], []⟩,
      ⟨(some 25), .extract (.t 20) 0, none, [], []⟩,
      ⟨(some 26), .extract (.t 20) 1, none, [], []⟩,
      ⟨(some 7), .mv (.t 25), none, [], []⟩,
      ⟨(some 8), .mv (.t 26), none, [], []⟩])
    (.seq
     (.region [1, 3, 5, 7, 8] [⟨(some 28), .load true 2 (.t 3), none, [], []⟩,
       ⟨(some 29), .mv (.t 1), none, [], []⟩,
       ⟨(some 30), .load true 4 (.t 5), none, [], []⟩,
       ⟨(some 31), .call (.c (.fn 22 [])) [(.t 28), (.t 29), (.t 30)] false, none, [], []⟩,
       ⟨(some 27), .mv (.t 31), none, [], []⟩,
       ⟨(some 32), .extract (.t 27) 0, none, [], []⟩,
       ⟨(some 33), .extract (.t 27) 1, none, [], []⟩,
       ⟨(some 9), .mv (.t 32), none, [], []⟩,
       ⟨(some 10), .mv (.t 33), none, [], []⟩])
     (.seq
      (.region [7, 8, 9, 10] [⟨(some 34), .mv (.t 7), none, [], []⟩,
        ⟨(some 35), .mv (.t 9), none, [], []⟩,
        ⟨(some 36), .bin .eql (.t 34) (.t 35), none, [], []⟩,
        ⟨(some 37), .mv (.t 36), none, [], []⟩,
        ⟨(some 38), .mv (.t 8), some (37, true), [], []⟩,
        ⟨(some 39), .mv (.t 10), some (37, true), [], []⟩,
        ⟨(some 40), .bin .eql (.t 38) (.t 39), some (37, true), [], []⟩,
        ⟨(some 41), .pick (.t 37) (.t 40) (.c (.bool false)), none, [], []⟩,
        ⟨(some 42), .mv (.t 41), none, [], []⟩,
        ⟨(some 43), .call (.c (.fn 11 [])) [] false, some (42, true), [], []⟩,
        ⟨(some 44), .pick (.t 42) (.t 43) (.c (.bool false)), none, [], []⟩,
        ⟨(some 6), .mv (.t 44), none, [], []⟩])
      .ret))))), false, false⟩
def c5_l0 : CC :=
 (.seq
  (.seq
   (.region [1, 2, 3, 7, 8] [⟨(some 35), .mv (.t 8), none, [], []⟩,
     ⟨(some 36), .mv (.t 2), none, [], []⟩,
     ⟨(some 37), .len false (.t 36), none, [], []⟩,
     ⟨(some 38), .bin .lss (.t 35) (.t 37), none, [], []⟩])
   (.cond (.t 38)
    .skip
    (.exit 2)))
  (.seq
   (.block 3
    (.seq
     (.draw [1, 2, 3, 7, 8] [⟨(some 41), .mv (.t 1), none, [], []⟩,
       ⟨(some 42), .mv (.t 7), none, [], []⟩,
       ⟨(some 43), .iaddr 4 (.t 41) (.t 42), none, [0, 1], []⟩,
       ⟨(some 44), .faddr 0 (.t 43), none, [0, 1, 2], []⟩,
       ⟨(some 45), .load false 1 (.t 44), none, [0, 1, 2, 3], []⟩,
       ⟨(some 46), .mv (.t 2), none, [], []⟩,
       ⟨(some 47), .mv (.t 8), none, [], []⟩,
       ⟨(some 48), .iaddr 4 (.t 46) (.t 47), none, [5, 6], []⟩,
       ⟨(some 49), .faddr 0 (.t 48), none, [5, 6, 7], []⟩,
       ⟨(some 50), .load false 1 (.t 49), none, [5, 6, 7, 8], []⟩,
       ⟨(some 51), .bin .eql (.t 45) (.t 50), none, [0, 1, 2, 3, 4, 5, 6, 7, 8, 9], []⟩])
     (.cond (.t 51)
      (.seq
       (.region [] [⟨(some 52), .call (.c (.fn 11 [])) [] false, none, [], []⟩,
         ⟨(some 6), .mv (.t 52), none, [], []⟩])
       .ret)
      .skip)))
   (.region [1, 2, 3, 7, 8] [⟨(some 39), .mv (.t 8), none, [], []⟩,
     ⟨(some 40), .bin .add (.t 39) (.c (.int .i64 1)), none, [], []⟩,
     ⟨(some 8), .mv (.t 40), none, [], []⟩])))
def c5_l1 : CC :=
 (.seq
  (.seq
   (.region [1, 2, 3, 7] [⟨(some 29), .mv (.t 7), none, [], []⟩,
     ⟨(some 30), .mv (.t 1), none, [], []⟩,
     ⟨(some 31), .len false (.t 30), none, [], []⟩,
     ⟨(some 32), .bin .lss (.t 29) (.t 31), none, [], []⟩])
   (.cond (.t 32)
    .skip
    (.exit 0)))
  (.seq
   (.block 1
    (.seq
     (.region [1, 2, 3, 7] [⟨(some 8), .mv (.c (.int .i64 0)), none, [], []⟩])
     (.block 2
      (.loop c5_l0))))
   (.region [1, 2, 3, 7] [⟨(some 33), .mv (.t 7), none, [], []⟩,
     ⟨(some 34), .bin .add (.t 33) (.c (.int .i64 1)), none, [], []⟩,
     ⟨(some 7), .mv (.t 34), none, [], []⟩])))
/-- progeny/progenylaw23.FastApart -/
def c5 : CFn := ⟨113, [.t 6],
 (.seq
  (.region [0, 1, 2] [⟨(some 3), .box 24 2 (.t 0), none, [], []⟩,
    ⟨(some 6), .mv (.c (.bool false)), none, [], []⟩])
  (.seq
   (.seq
    (.region [1, 2, 3] [⟨(some 15), .load true 2 (.t 3), none, [], []⟩,
      ⟨(some 16), .call (.c (.fn 17 [])) [(.t 15)] false, none, [], []⟩,
      ⟨(some 17), .un .not (.t 16), none, [], []⟩,
      ⟨(some 18), .mv (.t 17), none, [], []⟩,
      ⟨(some 19), .mv (.t 1), some (18, false), [], []⟩,
      ⟨(some 20), .call (.c (.fn 19 [])) [(.t 19)] false, some (18, false), [], []⟩,
      ⟨(some 21), .un .not (.t 20), some (18, false), [], []⟩,
      ⟨(some 22), .pick (.t 18) (.c (.bool true)) (.t 21), none, [], []⟩,
      ⟨(some 23), .mv (.t 22), none, [], []⟩,
      ⟨(some 24), .mv (.t 2), some (23, false), [], []⟩,
      ⟨(some 25), .call (.c (.fn 19 [])) [(.t 24)] false, some (23, false), [], []⟩,
      ⟨(some 26), .un .not (.t 25), some (23, false), [], []⟩,
      ⟨(some 27), .pick (.t 23) (.c (.bool true)) (.t 26), none, [], []⟩])
    (.cond (.t 27)
     (.seq
      (.region [] [⟨(some 28), .call (.c (.fn 11 [])) [] false, none, [], []⟩,
        ⟨(some 6), .mv (.t 28), none, [], []⟩])
      .ret)
     .skip))
   (.seq
    (.seq
     (.region [1, 2, 3] [⟨(some 7), .mv (.c (.int .i64 0)), none, [], []⟩])
     (.block 0
      (.loop c5_l1)))
    (.seq
     (.region [1, 2, 3] [⟨(some 54), .load true 2 (.t 3), none, [], []⟩,
       ⟨(some 55), .mv (.t 1), none, [], []⟩,
       ⟨(some 56), .mv (.t 2), none, [], []⟩,
       ⟨(some 57), .bslice 25 1 [[.nils], [.nils]] [(0, (.t 55)), (1, (.t 56))], none, [], []⟩,
       ⟨(some 58), .call (.c (.fn 23 [])) [(.t 54), (.t 57)] true, none, [], []⟩,
       ⟨(some 53), .mv (.t 58), none, [], []⟩,
       ⟨(some 59), .extract (.t 53) 0, none, [], []⟩,
       ⟨(some 60), .extract (.t 53) 1, none, [], []⟩,
       ⟨(some 61), .extract (.t 53) 2, none, [], []⟩,
       ⟨(some 9), .box 24 2 (.c (.agg [.int .i64 0, .nils])), none, [], []⟩,
       ⟨none, .store 2 (.t 9) (.t 59), none, [], []⟩,
       ⟨(some 10), .mv (.t 60), none, [], []⟩,
       ⟨(some 11), .mv (.t 61), none, [], []⟩])
     (.seq
      (.region [1, 2, 3, 9, 10, 11] [⟨(some 63), .load true 2 (.t 3), none, [], []⟩,
        ⟨(some 64), .mv (.t 2), none, [], []⟩,
        ⟨(some 65), .mv (.t 1), none, [], []⟩,
        ⟨(some 66), .bslice 25 1 [[.nils], [.nils]] [(0, (.t 64)), (1, (.t 65))], none, [], []⟩,
        ⟨(some 67), .call (.c (.fn 23 [])) [(.t 63), (.t 66)] true, none, [], []⟩,
        ⟨(some 62), .mv (.t 67), none, [], []⟩,
        ⟨(some 68), .extract (.t 62) 0, none, [], []⟩,
        ⟨(some 69), .extract (.t 62) 1, none, [], []⟩,
        ⟨(some 70), .extract (.t 62) 2, none, [], []⟩,
        ⟨(some 12), .box 24 2 (.c (.agg [.int .i64 0, .nils])), none, [], []⟩,
        ⟨none, .store 2 (.t 12) (.t 68), none, [], []⟩,
        ⟨(some 13), .mv (.t 69), none, [], []⟩,
        ⟨(some 14), .mv (.t 70), none, [], []⟩])
      (.seq
       (.draw [9, 10, 11, 12, 13, 14] [⟨(some 71), .mv (.t 11), none, [], []⟩,
         ⟨(some 72), .bin .eql (.t 71) (.c (.int .i64 0)), none, [0], []⟩,
         ⟨(some 73), .mv (.t 72), none, [0, 1], []⟩,
         ⟨(some 74), .mv (.t 14), some (73, true), [0, 1, 2], []⟩,
         ⟨(some 75), .bin .eql (.t 74) (.c (.int .i64 0)), some (73, true), [0, 1, 2, 3], []⟩,
         ⟨(some 76), .pick (.t 73) (.t 75) (.c (.bool false)), none, [0, 1, 2, 3, 4], []⟩,
         ⟨(some 77), .mv (.t 76), none, [0, 1, 2, 3, 4, 5], []⟩,
         ⟨(some 78), .mv (.t 10), some (77, true), [0, 1, 2, 3, 4, 5, 6], []⟩,
         ⟨(some 79), .len false (.t 78), some (77, true), [0, 1, 2, 3, 4, 5, 6, 7], []⟩,
         ⟨(some 80), .bin .eql (.t 79) (.c (.int .i64 2)), some (77, true), [0, 1, 2, 3, 4, 5, 6, 7, 8], []⟩,
         ⟨(some 81), .pick (.t 77) (.t 80) (.c (.bool false)), none, [0, 1, 2, 3, 4, 5, 6, 7, 8, 9], []⟩,
         ⟨(some 82), .mv (.t 81), none, [0, 1, 2, 3, 4, 5, 6, 7, 8, 9, 10], []⟩,
         ⟨(some 83), .mv (.t 13), some (82, true), [0, 1, 2, 3, 4, 5, 6, 7, 8, 9, 10, 11], []⟩,
         ⟨(some 84), .len false (.t 83), some (82, true), [0, 1, 2, 3, 4, 5, 6, 7, 8, 9, 10, 11, 12], []⟩,
         ⟨(some 85), .bin .eql (.t 84) (.c (.int .i64 2)), some (82, true), [0, 1, 2, 3, 4, 5, 6, 7, 8, 9, 10, 11, 12, 13], []⟩,
         ⟨(some 86), .pick (.t 82) (.t 85) (.c (.bool false)), none, [0, 1, 2, 3, 4, 5, 6, 7, 8, 9, 10, 11, 12, 13, 14], []⟩,
         ⟨(some 87), .mv (.t 86), none, [0, 1, 2, 3, 4, 5, 6, 7, 8, 9, 10, 11, 12, 13, 14, 15], []⟩,
         ⟨(some 88), .mv (.t 10), some (87, true), [0, 1, 2, 3, 4, 5, 6, 7, 8, 9, 10, 11, 12, 13, 14, 15, 16], []⟩,
         ⟨(some 89), .iaddr 1 (.t 88) (.c (.int .i64 0)), some (87, true), [0, 1, 2, 3, 4, 5, 6, 7, 8, 9, 10, 11, 12, 13, 14, 15, 16, 17], []⟩,
         ⟨(some 90), .load false 1 (.t 89), some (87, true), [0, 1, 2, 3, 4, 5, 6, 7, 8, 9, 10, 11, 12, 13, 14, 15, 16, 17, 18], []⟩,
         ⟨(some 91), .mv (.t 13), some (87, true), [0, 1, 2, 3, 4, 5, 6, 7, 8, 9, 10, 11, 12, 13, 14, 15, 16], []⟩,
         ⟨(some 92), .iaddr 1 (.t 91) (.c (.int .i64 1)), some (87, true), [0, 1, 2, 3, 4, 5, 6, 7, 8, 9, 10, 11, 12, 13, 14, 15, 16, 20], []⟩,
         ⟨(some 93), .load false 1 (.t 92), some (87, true), [0, 1, 2, 3, 4, 5, 6, 7, 8, 9, 10, 11, 12, 13, 14, 15, 16, 20, 21], []⟩,
         ⟨(some 94), .eqb false (.t 90) (.t 93), some (87, true), [0, 1, 2, 3, 4, 5, 6, 7, 8, 9, 10, 11, 12, 13, 14, 15, 16, 17, 18, 19, 20, 21, 22], []⟩,
         ⟨(some 95), .pick (.t 87) (.t 94) (.c (.bool false)), none, [0, 1, 2, 3, 4, 5, 6, 7, 8, 9, 10, 11, 12, 13, 14, 15, 16, 17, 18, 19, 20, 21, 22, 23], []⟩,
         ⟨(some 96), .mv (.t 95), none, [0, 1, 2, 3, 4, 5, 6, 7, 8, 9, 10, 11, 12, 13, 14, 15, 16, 17, 18, 19, 20, 21, 22, 23, 24], []⟩,
         ⟨(some 97), .mv (.t 10), some (96, true), [0, 1, 2, 3, 4, 5, 6, 7, 8, 9, 10, 11, 12, 13, 14, 15, 16, 17, 18, 19, 20, 21, 22, 23, 24, 25], []⟩,
         ⟨(some 98), .iaddr 1 (.t 97) (.c (.int .i64 1)), some (96, true), [0, 1, 2, 3, 4, 5, 6, 7, 8, 9, 10, 11, 12, 13, 14, 15, 16, 17, 18, 19, 20, 21, 22, 23, 24, 25, 26], []⟩,
         ⟨(some 99), .load false 1 (.t 98), some (96, true), [0, 1, 2, 3, 4, 5, 6, 7, 8, 9, 10, 11, 12, 13, 14, 15, 16, 17, 18, 19, 20, 21, 22, 23, 24, 25, 26, 27], []⟩,
         ⟨(some 100), .mv (.t 13), some (96, true), [0, 1, 2, 3, 4, 5, 6, 7, 8, 9, 10, 11, 12, 13, 14, 15, 16, 17, 18, 19, 20, 21, 22, 23, 24, 25], []⟩,
         ⟨(some 101), .iaddr 1 (.t 100) (.c (.int .i64 0)), some (96, true), [0, 1, 2, 3, 4, 5, 6, 7, 8, 9, 10, 11, 12, 13, 14, 15, 16, 17, 18, 19, 20, 21, 22, 23, 24, 25, 29], []⟩,
         ⟨(some 102), .load false 1 (.t 101), some (96, true), [0, 1, 2, 3, 4, 5, 6, 7, 8, 9, 10, 11, 12, 13, 14, 15, 16, 17, 18, 19, 20, 21, 22, 23, 24, 25, 29, 30], []⟩,
         ⟨(some 103), .eqb false (.t 99) (.t 102), some (96, true), [0, 1, 2, 3, 4, 5, 6, 7, 8, 9, 10, 11, 12, 13, 14, 15, 16, 17, 18, 19, 20, 21, 22, 23, 24, 25, 26, 27, 28, 29, 30, 31], []⟩,
         ⟨(some 104), .pick (.t 96) (.t 103) (.c (.bool false)), none, [0, 1, 2, 3, 4, 5, 6, 7, 8, 9, 10, 11, 12, 13, 14, 15, 16, 17, 18, 19, 20, 21, 22, 23, 24, 25, 26, 27, 28, 29, 30, 31, 32], []⟩,
         ⟨(some 105), .mv (.t 104), none, [0, 1, 2, 3, 4, 5, 6, 7, 8, 9, 10, 11, 12, 13, 14, 15, 16, 17, 18, 19, 20, 21, 22, 23, 24, 25, 26, 27, 28, 29, 30, 31, 32, 33], []⟩,
         ⟨(some 106), .load true 2 (.t 9), some (105, true), [0, 1, 2, 3, 4, 5, 6, 7, 8, 9, 10, 11, 12, 13, 14, 15, 16, 17, 18, 19, 20, 21, 22, 23, 24, 25, 26, 27, 28, 29, 30, 31, 32, 33, 34], []⟩,
         ⟨(some 107), .load true 2 (.t 12), some (105, true), [0, 1, 2, 3, 4, 5, 6, 7, 8, 9, 10, 11, 12, 13, 14, 15, 16, 17, 18, 19, 20, 21, 22, 23, 24, 25, 26, 27, 28, 29, 30, 31, 32, 33, 34], []⟩,
         ⟨(some 108), .call (.c (.fn 20 [])) [(.t 106), (.t 107)] false, some (105, true), [0, 1, 2, 3, 4, 5, 6, 7, 8, 9, 10, 11, 12, 13, 14, 15, 16, 17, 18, 19, 20, 21, 22, 23, 24, 25, 26, 27, 28, 29, 30, 31, 32, 33, 34, 35, 36], []⟩,
         ⟨(some 109), .pick (.t 105) (.t 108) (.c (.bool false)), none, [0, 1, 2, 3, 4, 5, 6, 7, 8, 9, 10, 11, 12, 13, 14, 15, 16, 17, 18, 19, 20, 21, 22, 23, 24, 25, 26, 27, 28, 29, 30, 31, 32, 33, 34, 35, 36, 37], []⟩,
         ⟨(some 110), .mv (.t 109), none, [0, 1, 2, 3, 4, 5, 6, 7, 8, 9, 10, 11, 12, 13, 14, 15, 16, 17, 18, 19, 20, 21, 22, 23, 24, 25, 26, 27, 28, 29, 30, 31, 32, 33, 34, 35, 36, 37, 38], []⟩,
         ⟨(some 111), .call (.c (.fn 11 [])) [] false, some (110, true), [0, 1, 2, 3, 4, 5, 6, 7, 8, 9, 10, 11, 12, 13, 14, 15, 16, 17, 18, 19, 20, 21, 22, 23, 24, 25, 26, 27, 28, 29, 30, 31, 32, 33, 34, 35, 36, 37, 38, 39], []⟩,
         ⟨(some 112), .pick (.t 110) (.t 111) (.c (.bool false)), none, [0, 1, 2, 3, 4, 5, 6, 7, 8, 9, 10, 11, 12, 13, 14, 15, 16, 17, 18, 19, 20, 21, 22, 23, 24, 25, 26, 27, 28, 29, 30, 31, 32, 33, 34, 35, 36, 37, 38, 39, 40], []⟩,
         ⟨(some 6), .mv (.t 112), none, [0, 1, 2, 3, 4, 5, 6, 7, 8, 9, 10, 11, 12, 13, 14, 15, 16, 17, 18, 19, 20, 21, 22, 23, 24, 25, 26, 27, 28, 29, 30, 31, 32, 33, 34, 35, 36, 37, 38, 39, 40, 41], []⟩])
       .ret)))))), false, false⟩
def c6_l0 : CC :=
 (.seq
  (.seq
   (.region [1, 2, 3, 7] [⟨(some 18), .mv (.t 7), none, [], []⟩,
     ⟨(some 19), .mv (.t 1), none, [], []⟩,
     ⟨(some 20), .len false (.t 19), none, [], []⟩,
     ⟨(some 21), .bin .lss (.t 18) (.t 20), none, [], []⟩])
   (.cond (.t 21)
    .skip
    (.exit 0)))
  (.seq
   (.block 1
    (.seq
     (.region [1, 2, 3, 7] [⟨(some 24), .mv (.t 1), none, [], []⟩,
       ⟨(some 25), .mv (.t 7), none, [], []⟩,
       ⟨(some 26), .iaddr 1 (.t 24) (.t 25), none, [], []⟩,
       ⟨(some 27), .load false 1 (.t 26), none, [], []⟩,
       ⟨(some 28), .len false (.t 27), none, [], []⟩,
       ⟨(some 29), .bin .gtr (.t 28) (.c (.int .i64 40)), none, [], []⟩])
     (.cond (.t 29)
      (.seq
       (.region [] [⟨(some 30), .call (.c (.fn 11 [])) [] false, none, [], []⟩,
         ⟨(some 6), .mv (.t 30), none, [], []⟩])
       .ret)
      .skip)))
   (.region [1, 2, 3, 7] [⟨(some 22), .mv (.t 7), none, [], []⟩,
     ⟨(some 23), .bin .add (.t 22) (.c (.int .i64 1)), none, [], []⟩,
     ⟨(some 7), .mv (.t 23), none, [], []⟩])))
/-- progeny/progenylaw23.FastOrders -/
def c6 : CFn := ⟨92, [.t 6],
 (.seq
  (.region [0, 1, 2] [⟨(some 3), .box 24 2 (.t 0), none, [], []⟩,
    ⟨(some 6), .mv (.c (.bool false)), none, [], []⟩])
  (.seq
   (.seq
    (.region [1, 2, 3] [⟨(some 7), .mv (.c (.int .i64 0)), none, [], []⟩])
    (.block 0
     (.loop c6_l0)))
   (.seq
    (.seq
     (.region [1, 2, 3] [⟨(some 31), .load true 2 (.t 3), none, [], []⟩,
       ⟨(some 32), .call (.c (.fn 10 [])) [(.t 31)] false, none, [], []⟩,
       ⟨(some 33), .un .not (.t 32), none, [], []⟩,
       ⟨(some 34), .mv (.t 33), none, [], []⟩,
       ⟨(some 35), .mv (.t 1), some (34, false), [], []⟩,
       ⟨(some 36), .len false (.t 35), some (34, false), [], []⟩,
       ⟨(some 37), .bin .gtr (.t 36) (.c (.int .i64 30)), some (34, false), [], []⟩,
       ⟨(some 38), .pick (.t 34) (.c (.bool true)) (.t 37), none, [], []⟩])
     (.cond (.t 38)
      (.seq
       (.region [] [⟨(some 39), .call (.c (.fn 11 [])) [] false, none, [], []⟩,
         ⟨(some 6), .mv (.t 39), none, [], []⟩])
       .ret)
      .skip))
    (.seq
     (.region [1, 2, 3] [⟨(some 41), .load true 2 (.t 3), none, [], []⟩,
       ⟨(some 42), .mv (.t 1), none, [], []⟩,
       ⟨(some 43), .call (.c (.fn 23 [])) [(.t 41), (.t 42)] true, none, [], []⟩,
       ⟨(some 40), .mv (.t 43), none, [], []⟩,
       ⟨(some 44), .extract (.t 40) 0, none, [], []⟩,
       ⟨(some 45), .extract (.t 40) 1, none, [], []⟩,
       ⟨(some 46), .extract (.t 40) 2, none, [], []⟩,
       ⟨(some 8), .box 24 2 (.c (.agg [.int .i64 0, .nils])), none, [], []⟩,
       ⟨none, .store 2 (.t 8) (.t 44), none, [], []⟩,
       ⟨(some 9), .mv (.t 45), none, [], []⟩,
       ⟨(some 10), .mv (.t 46), none, [], []⟩])
     (.seq
      (.region [1, 2, 3, 8, 9, 10] [⟨(some 48), .load true 2 (.t 3), none, [], []⟩,
        ⟨(some 49), .mv (.t 1), none, [], []⟩,
        ⟨(some 50), .call (.c (.fn 24 [])) [(.t 48), (.t 49)] true, none, [], []⟩,
        ⟨(some 47), .mv (.t 50), none, [], []⟩,
        ⟨(some 51), .extract (.t 47) 0, none, [], []⟩,
        ⟨(some 52), .extract (.t 47) 1, none, [], []⟩,
        ⟨(some 53), .extract (.t 47) 2, none, [], []⟩,
        ⟨(some 11), .box 24 2 (.c (.agg [.int .i64 0, .nils])), none, [], []⟩,
        ⟨none, .store 2 (.t 11) (.t 51), none, [], []⟩,
        ⟨(some 12), .mv (.t 52), none, [], []⟩,
        ⟨(some 13), .mv (.t 53), none, [], []⟩])
      (.seq
       (.region [2, 3, 8, 9, 10, 11, 12, 13] [⟨(some 55), .load true 2 (.t 3), none, [], []⟩,
         ⟨(some 56), .mv (.t 2), none, [], []⟩,
         ⟨(some 57), .call (.c (.fn 25 [])) [(.t 55), (.t 56)] false, none, [], []⟩,
         ⟨(some 54), .mv (.t 57), none, [], []⟩,
         ⟨(some 58), .extract (.t 54) 0, none, [], []⟩,
         ⟨(some 59), .extract (.t 54) 1, none, [], []⟩,
         ⟨(some 14), .mv (.t 58), none, [], []⟩,
         ⟨(some 15), .mv (.t 59), none, [], []⟩])
       (.seq
        (.region [2, 3, 8, 9, 10, 11, 12, 13, 14, 15] [⟨(some 61), .load true 2 (.t 3), none, [], []⟩,
          ⟨(some 62), .mv (.t 2), none, [], []⟩,
          ⟨(some 63), .call (.c (.fn 26 [])) [(.t 61), (.t 62)] false, none, [], []⟩,
          ⟨(some 60), .mv (.t 63), none, [], []⟩,
          ⟨(some 64), .extract (.t 60) 0, none, [], []⟩,
          ⟨(some 65), .extract (.t 60) 1, none, [], []⟩,
          ⟨(some 16), .mv (.t 64), none, [], []⟩,
          ⟨(some 17), .mv (.t 65), none, [], []⟩])
        (.seq
         (.region [8, 9, 10, 11, 12, 13, 14, 15, 16, 17] [⟨(some 66), .load true 2 (.t 8), none, [], []⟩,
           ⟨(some 67), .load true 2 (.t 11), none, [], []⟩,
           ⟨(some 68), .call (.c (.fn 20 [])) [(.t 66), (.t 67)] false, none, [], []⟩,
           ⟨(some 69), .mv (.t 68), none, [], []⟩,
           ⟨(some 70), .mv (.t 9), some (69, true), [], []⟩,
           ⟨(some 71), .mv (.t 12), some (69, true), [], []⟩,
           ⟨(some 72), .call (.c (.fn 27 [])) [(.t 70), (.t 71)] false, some (69, true), [], []⟩,
           ⟨(some 73), .pick (.t 69) (.t 72) (.c (.bool false)), none, [], []⟩,
           ⟨(some 74), .mv (.t 73), none, [], []⟩,
           ⟨(some 75), .mv (.t 10), some (74, true), [], []⟩,
           ⟨(some 76), .mv (.t 13), some (74, true), [], []⟩,
           ⟨(some 77), .bin .eql (.t 75) (.t 76), some (74, true), [], []⟩,
           ⟨(some 78), .pick (.t 74) (.t 77) (.c (.bool false)), none, [], []⟩,
           ⟨(some 79), .mv (.t 78), none, [], []⟩,
           ⟨(some 80), .mv (.t 14), some (79, true), [], []⟩,
           ⟨(some 81), .mv (.t 16), some (79, true), [], []⟩,
           ⟨(some 82), .bin .eql (.t 80) (.t 81), some (79, true), [], []⟩,
           ⟨(some 83), .pick (.t 79) (.t 82) (.c (.bool false)), none, [], []⟩,
           ⟨(some 84), .mv (.t 83), none, [], []⟩,
           ⟨(some 85), .mv (.t 15), some (84, true), [], []⟩,
           ⟨(some 86), .mv (.t 17), some (84, true), [], []⟩,
           ⟨(some 87), .bin .eql (.t 85) (.t 86), some (84, true), [], []⟩,
           ⟨(some 88), .pick (.t 84) (.t 87) (.c (.bool false)), none, [], []⟩,
           ⟨(some 89), .mv (.t 88), none, [], []⟩,
           ⟨(some 90), .call (.c (.fn 11 [])) [] false, some (89, true), [], []⟩,
           ⟨(some 91), .pick (.t 89) (.t 90) (.c (.bool false)), none, [], []⟩,
           ⟨(some 6), .mv (.t 91), none, [], []⟩])
         .ret)))))))), false, false⟩
def c7_l0 : CC :=
 (.seq
  (.seq
   (.region [2, 8, 9, 10, 12] [⟨(some 63), .mv (.t 12), none, [], []⟩,
     ⟨(some 64), .mv (.t 8), none, [], []⟩,
     ⟨(some 65), .len false (.t 64), none, [], []⟩,
     ⟨(some 66), .bin .lss (.t 63) (.t 65), none, [], []⟩])
   (.cond (.t 66)
    .skip
    (.exit 0)))
  (.seq
   (.block 1
    (.seq
     (.draw [2, 8, 9, 10, 12] [⟨(some 69), .mv (.t 8), none, [], []⟩,
       ⟨(some 70), .mv (.t 12), none, [], []⟩,
       ⟨(some 71), .iaddr 4 (.t 69) (.t 70), none, [0, 1], []⟩,
       ⟨(some 72), .load true 4 (.t 71), none, [0, 1, 2], []⟩,
       ⟨(some 73), .mv (.t 10), none, [], []⟩,
       ⟨(some 74), .mv (.t 12), none, [], []⟩,
       ⟨(some 75), .iaddr 4 (.t 73) (.t 74), none, [4, 5], []⟩,
       ⟨(some 76), .load true 4 (.t 75), none, [4, 5, 6], []⟩,
       ⟨(some 77), .eqs true [2, 0, 2, 0] (.t 72) (.t 76), none, [0, 1, 2, 3, 4, 5, 6, 7], []⟩])
     (.cond (.t 77)
      (.seq
       (.region [] [⟨(some 4), .mv (.c (.bool false)), none, [], []⟩])
       .ret)
      .skip)))
   (.region [2, 8, 9, 10, 12] [⟨(some 67), .mv (.t 12), none, [], []⟩,
     ⟨(some 68), .bin .add (.t 67) (.c (.int .i64 1)), none, [], []⟩,
     ⟨(some 12), .mv (.t 68), none, [], []⟩])))
def c7_l1 : CC :=
 (.seq
  (.seq
   (.region [2, 13, 15] [⟨(some 113), .mv (.t 15), none, [], []⟩,
     ⟨(some 114), .faddr 0 (.t 2), none, [], []⟩,
     ⟨(some 115), .load false 1 (.t 114), none, [], []⟩,
     ⟨(some 116), .bin .lss (.t 113) (.t 115), none, [], []⟩])
   (.cond (.t 116)
    .skip
    (.exit 2)))
  (.seq
   (.block 3
    (.seq
     (.region [2, 13, 15] [⟨(some 120), .load true 2 (.t 2), none, [], []⟩,
       ⟨(some 121), .mv (.t 15), none, [], []⟩,
       ⟨(some 122), .call (.c (.fn 25 [])) [(.t 120), (.t 121)] false, none, [], []⟩,
       ⟨(some 119), .mv (.t 122), none, [], []⟩,
       ⟨(some 123), .extract (.t 119) 0, none, [], []⟩,
       ⟨(some 124), .extract (.t 119) 1, none, [], []⟩,
       ⟨(some 16), .mv (.t 123), none, [], []⟩,
       ⟨(some 17), .mv (.t 124), none, [], []⟩])
     (.seq
      (.region [2, 13, 15, 16, 17] [⟨(some 126), .load true 2 (.t 13), none, [], []⟩,
        ⟨(some 127), .mv (.t 15), none, [], []⟩,
        ⟨(some 128), .call (.c (.fn 25 [])) [(.t 126), (.t 127)] false, none, [], []⟩,
        ⟨(some 125), .mv (.t 128), none, [], []⟩,
        ⟨(some 129), .extract (.t 125) 0, none, [], []⟩,
        ⟨(some 130), .extract (.t 125) 1, none, [], []⟩,
        ⟨(some 18), .mv (.t 129), none, [], []⟩,
        ⟨(some 19), .mv (.t 130), none, [], []⟩])
      (.seq
       (.region [2, 13, 15, 16, 17, 18, 19] [⟨(some 131), .mv (.t 17), none, [], []⟩,
         ⟨(some 132), .bin .neq (.t 131) (.c (.int .i64 0)), none, [], []⟩,
         ⟨(some 133), .mv (.t 132), none, [], []⟩,
         ⟨(some 134), .mv (.t 19), some (133, false), [], []⟩,
         ⟨(some 135), .bin .neq (.t 134) (.c (.int .i64 0)), some (133, false), [], []⟩,
         ⟨(some 136), .pick (.t 133) (.c (.bool true)) (.t 135), none, [], []⟩,
         ⟨(some 137), .mv (.t 136), none, [], []⟩,
         ⟨(some 138), .mv (.t 16), some (137, false), [], []⟩,
         ⟨(some 139), .mv (.t 18), some (137, false), [], []⟩,
         ⟨(some 140), .bin .neq (.t 138) (.t 139), some (137, false), [], []⟩,
         ⟨(some 141), .pick (.t 137) (.c (.bool true)) (.t 140), none, [], []⟩])
       (.cond (.t 141)
        (.seq
         (.region [] [⟨(some 4), .mv (.c (.bool false)), none, [], []⟩])
         .ret)
        .skip)))))
   (.region [2, 13, 15] [⟨(some 117), .mv (.t 15), none, [], []⟩,
     ⟨(some 118), .bin .add (.t 117) (.c (.int .i64 1)), none, [], []⟩,
     ⟨(some 15), .mv (.t 118), none, [], []⟩])))
/-- progeny/progenylaw23.FastMoves -/
def c7 : CFn := ⟨143, [.t 4],
 (.seq
  (.region [0, 1] [⟨(some 2), .box 24 2 (.t 0), none, [], []⟩,
    ⟨(some 3), .box 50 4 (.t 1), none, [], []⟩,
    ⟨(some 4), .mv (.c (.bool false)), none, [], []⟩])
  (.seq
   (.draw [2, 3] [⟨(some 20), .faddr 0 (.t 3), none, [], []⟩,
     ⟨(some 21), .load false 1 (.t 20), none, [0], [10]⟩,
     ⟨(some 22), .faddr 1 (.t 3), none, [], []⟩,
     ⟨(some 23), .load false 1 (.t 22), none, [2], [10]⟩,
     ⟨(some 24), .faddr 2 (.t 3), none, [], []⟩,
     ⟨(some 25), .load false 1 (.t 24), none, [4], [10]⟩,
     ⟨(some 26), .faddr 3 (.t 3), none, [], []⟩,
     ⟨(some 27), .load false 1 (.t 26), none, [6], [10]⟩,
     ⟨(some 28), .build [.int .i64 0, .int .i64 0] [(0, 1, (.t 25)), (1, 1, (.t 27))], none, [4, 5, 6, 7], []⟩,
     ⟨(some 7), .box 51 2 (.c (.agg [.int .i64 0, .int .i64 0])), none, [], []⟩,
     ⟨(some 5), .mv (.t 21), none, [0, 1, 9], []⟩,
     ⟨(some 6), .mv (.t 23), none, [0, 1, 2, 3, 9, 10], []⟩,
     ⟨none, .store 2 (.t 7) (.t 28), none, [0, 1, 2, 3, 4, 5, 6, 7, 8, 9, 10, 11], []⟩])
   (.seq
    (.seq
     (.region [2, 5, 6, 7] [⟨(some 29), .load true 2 (.t 2), none, [], []⟩,
       ⟨(some 30), .call (.c (.fn 10 [])) [(.t 29)] false, none, [], []⟩,
       ⟨(some 31), .un .not (.t 30), none, [], []⟩])
     (.cond (.t 31)
      (.seq
       (.region [] [⟨(some 32), .call (.c (.fn 11 [])) [] false, none, [], []⟩,
         ⟨(some 4), .mv (.t 32), none, [], []⟩])
       .ret)
      .skip))
    (.seq
     (.region [2, 5, 6, 7] [⟨(some 34), .mv (.t 5), none, [], []⟩,
       ⟨(some 35), .mv (.t 6), none, [], []⟩,
       ⟨(some 36), .iaddrA 1 2 (.t 7) (.c (.int .i64 0)), none, [], []⟩,
       ⟨(some 37), .load false 1 (.t 36), none, [], []⟩,
       ⟨(some 38), .iaddrA 1 2 (.t 7) (.c (.int .i64 1)), none, [], []⟩,
       ⟨(some 39), .load false 1 (.t 38), none, [], []⟩,
       ⟨(some 40), .call (.c (.fn 28 [])) [(.t 34), (.t 35), (.t 37), (.t 39)] true, none, [], []⟩,
       ⟨(some 33), .mv (.t 40), none, [], []⟩,
       ⟨(some 41), .extract (.t 33) 0, none, [], []⟩,
       ⟨(some 42), .extract (.t 33) 1, none, [], []⟩,
       ⟨(some 8), .mv (.t 41), none, [], []⟩,
       ⟨(some 9), .mv (.t 42), none, [], []⟩])
     (.seq
      (.region [2, 5, 6, 7, 8, 9] [⟨(some 44), .mv (.t 5), none, [], []⟩,
        ⟨(some 45), .mv (.t 6), none, [], []⟩,
        ⟨(some 46), .iaddrA 1 2 (.t 7) (.c (.int .i64 0)), none, [], []⟩,
        ⟨(some 47), .load false 1 (.t 46), none, [], []⟩,
        ⟨(some 48), .iaddrA 1 2 (.t 7) (.c (.int .i64 1)), none, [], []⟩,
        ⟨(some 49), .load false 1 (.t 48), none, [], []⟩,
        ⟨(some 50), .call (.c (.fn 29 [])) [(.t 44), (.t 45), (.t 47), (.t 49)] true, none, [], []⟩,
        ⟨(some 43), .mv (.t 50), none, [], []⟩,
        ⟨(some 51), .extract (.t 43) 0, none, [], []⟩,
        ⟨(some 52), .extract (.t 43) 1, none, [], []⟩,
        ⟨(some 10), .mv (.t 51), none, [], []⟩,
        ⟨(some 11), .mv (.t 52), none, [], []⟩])
      (.seq
       (.seq
        (.region [2, 8, 9, 10, 11] [⟨(some 53), .mv (.t 8), none, [], []⟩,
          ⟨(some 54), .len false (.t 53), none, [], []⟩,
          ⟨(some 55), .mv (.t 10), none, [], []⟩,
          ⟨(some 56), .len false (.t 55), none, [], []⟩,
          ⟨(some 57), .bin .neq (.t 54) (.t 56), none, [], []⟩,
          ⟨(some 58), .mv (.t 57), none, [], []⟩,
          ⟨(some 59), .mv (.t 9), some (58, false), [], []⟩,
          ⟨(some 60), .mv (.t 11), some (58, false), [], []⟩,
          ⟨(some 61), .bin .neq (.t 59) (.t 60), some (58, false), [], []⟩,
          ⟨(some 62), .pick (.t 58) (.c (.bool true)) (.t 61), none, [], []⟩])
        (.cond (.t 62)
         (.seq
          (.region [] [⟨(some 4), .mv (.c (.bool false)), none, [], []⟩])
          .ret)
         .skip))
       (.seq
        (.seq
         (.region [2, 8, 9, 10] [⟨(some 12), .mv (.c (.int .i64 0)), none, [], []⟩])
         (.block 0
          (.loop c7_l0)))
        (.seq
         (.seq
          (.region [2, 8, 9] [⟨(some 78), .mv (.t 9), none, [], []⟩,
            ⟨(some 79), .bin .neq (.t 78) (.c (.int .i64 0)), none, [], []⟩,
            ⟨(some 80), .mv (.t 79), none, [], []⟩,
            ⟨(some 81), .load true 2 (.t 2), some (80, false), [], []⟩,
            ⟨(some 82), .call (.c (.fn 17 [])) [(.t 81)] false, some (80, false), [], []⟩,
            ⟨(some 83), .un .not (.t 82), some (80, false), [], []⟩,
            ⟨(some 84), .pick (.t 80) (.c (.bool true)) (.t 83), none, [], []⟩])
          (.cond (.t 84)
           (.seq
            (.region [] [⟨(some 85), .call (.c (.fn 11 [])) [] false, none, [], []⟩,
              ⟨(some 4), .mv (.t 85), none, [], []⟩])
            .ret)
           .skip))
         (.seq
          (.region [2, 8] [⟨(some 87), .load true 2 (.t 2), none, [], []⟩,
            ⟨(some 88), .mv (.t 8), none, [], []⟩,
            ⟨(some 89), .bslice 25 1 [[.nils]] [(0, (.t 88))], none, [], []⟩,
            ⟨(some 90), .call (.c (.fn 23 [])) [(.t 87), (.t 89)] true, none, [], []⟩,
            ⟨(some 86), .mv (.t 90), none, [], []⟩,
            ⟨(some 91), .extract (.t 86) 0, none, [], []⟩,
            ⟨(some 92), .extract (.t 86) 1, none, [], []⟩,
            ⟨(some 93), .extract (.t 86) 2, none, [], []⟩,
            ⟨(some 13), .box 24 2 (.c (.agg [.int .i64 0, .nils])), none, [], []⟩,
            ⟨none, .store 2 (.t 13) (.t 91), none, [], []⟩,
            ⟨(some 14), .mv (.t 92), none, [], []⟩,
            ⟨(some 9), .mv (.t 93), none, [], []⟩])
          (.seq
           (.seq
            (.region [2, 9, 13, 14] [⟨(some 94), .mv (.t 9), none, [], []⟩,
              ⟨(some 95), .bin .neq (.t 94) (.c (.int .i64 0)), none, [], []⟩,
              ⟨(some 96), .mv (.t 95), none, [], []⟩,
              ⟨(some 97), .mv (.t 14), some (96, false), [], []⟩,
              ⟨(some 98), .len false (.t 97), some (96, false), [], []⟩,
              ⟨(some 99), .bin .neq (.t 98) (.c (.int .i64 1)), some (96, false), [], []⟩,
              ⟨(some 100), .pick (.t 96) (.c (.bool true)) (.t 99), none, [], []⟩,
              ⟨(some 101), .mv (.t 100), none, [], []⟩,
              ⟨(some 102), .mv (.t 14), some (101, false), [], []⟩,
              ⟨(some 103), .iaddr 1 (.t 102) (.c (.int .i64 0)), some (101, false), [], []⟩,
              ⟨(some 104), .load false 1 (.t 103), some (101, false), [], []⟩,
              ⟨(some 105), .un .not (.t 104), some (101, false), [], []⟩,
              ⟨(some 106), .mv (.t 105), some (101, false), [], []⟩,
              ⟨(some 107), .load true 2 (.t 13), some (106, true), [], []⟩,
              ⟨(some 108), .load true 2 (.t 2), some (106, true), [], []⟩,
              ⟨(some 109), .call (.c (.fn 20 [])) [(.t 107), (.t 108)] false, some (106, true), [], []⟩,
              ⟨(some 110), .un .not (.t 109), some (106, true), [], []⟩,
              ⟨(some 111), .pick (.t 106) (.t 110) (.c (.bool false)), some (101, false), [], []⟩,
              ⟨(some 112), .pick (.t 101) (.c (.bool true)) (.t 111), none, [], []⟩])
            (.cond (.t 112)
             (.seq
              (.region [] [⟨(some 4), .mv (.c (.bool false)), none, [], []⟩])
              .ret)
             .skip))
           (.seq
            (.seq
             (.region [2, 13] [⟨(some 15), .mv (.c (.int .i64 0)), none, [], []⟩])
             (.block 2
              (.loop c7_l1)))
            (.seq
             (.region [] [⟨(some 142), .call (.c (.fn 11 [])) [] false, none, [], []⟩,
               ⟨(some 4), .mv (.t 142), none, [], []⟩])
             .ret)))))))))))), false, false⟩
def c8_l0 : CC :=
 (.seq
  (.seq
   (.region [0, 1, 2, 7, 9, 11] [⟨(some 70), .mv (.t 11), none, [], []⟩,
     ⟨(some 71), .mv (.t 2), none, [], []⟩,
     ⟨(some 72), .len false (.t 71), none, [], []⟩,
     ⟨(some 73), .bin .lss (.t 70) (.t 72), none, [], []⟩])
   (.cond (.t 73)
    .skip
    (.exit 0)))
  (.seq
   (.block 1
    (.seq
     (.region [0, 1, 2, 7, 9, 11] [⟨(some 76), .mv (.t 2), none, [], []⟩,
       ⟨(some 77), .mv (.t 11), none, [], []⟩,
       ⟨(some 78), .iaddr 4 (.t 76) (.t 77), none, [], []⟩,
       ⟨(some 79), .load true 4 (.t 78), none, [], []⟩,
       ⟨(some 12), .box 63 4 (.c (.agg [.int .u8 0, .int .i64 0, .int .i64 0, .str ⟨#[]⟩])), none, [], []⟩,
       ⟨none, .store 4 (.t 12) (.t 79), none, [], []⟩])
     (.seq
      (.region [0, 1, 2, 7, 9, 11, 12] [⟨(some 13), .mv (.c (.bool false)), none, [], []⟩])
      (.seq
       (.seq
        (.region [0, 1, 2, 7, 9, 11, 12] [⟨(some 80), .faddr 0 (.t 12), none, [], []⟩,
          ⟨(some 81), .load false 1 (.t 80), none, [], []⟩,
          ⟨(some 82), .bin .rem (.t 81) (.c (.int .u8 5)), none, [], []⟩])
        (.block 2
         (.seq
          (.region [0, 1, 2, 7, 9, 11, 12, 82] [⟨(some 106), .bin .eql (.t 82) (.c (.int .u8 0)), none, [], []⟩,
            ⟨(some 105), .mv (.t 106), none, [], []⟩])
          (.cond (.t 105)
           (.seq
            (.region [0, 1, 2, 7, 9, 11, 12] [⟨(some 108), .mv (.t 7), none, [], []⟩,
              ⟨(some 109), .faddr 2 (.t 12), none, [], []⟩,
              ⟨(some 110), .load false 1 (.t 109), none, [], []⟩,
              ⟨(some 111), .call (.c (.fn 32 [])) [(.t 108), (.t 110)] false, none, [], []⟩,
              ⟨(some 107), .mv (.t 111), none, [], []⟩,
              ⟨(some 112), .extract (.t 107) 0, none, [], []⟩,
              ⟨(some 113), .extract (.t 107) 1, none, [], []⟩,
              ⟨(some 14), .mv (.t 112), none, [], []⟩,
              ⟨(some 15), .mv (.t 113), none, [], []⟩])
            (.seq
             (.region [0, 1, 2, 7, 9, 11, 12, 14, 15] [⟨(some 115), .mv (.t 9), none, [], []⟩,
               ⟨(some 116), .faddr 2 (.t 12), none, [], []⟩,
               ⟨(some 117), .load false 1 (.t 116), none, [], []⟩,
               ⟨(some 118), .call (.c (.fn 33 [])) [(.t 115), (.t 117)] false, none, [], []⟩,
               ⟨(some 114), .mv (.t 118), none, [], []⟩,
               ⟨(some 119), .extract (.t 114) 0, none, [], []⟩,
               ⟨(some 120), .extract (.t 114) 1, none, [], []⟩,
               ⟨(some 16), .mv (.t 119), none, [], []⟩,
               ⟨(some 17), .mv (.t 120), none, [], []⟩])
             (.region [0, 1, 2, 7, 9, 11, 14, 15, 16, 17] [⟨(some 121), .mv (.t 14), none, [], []⟩,
               ⟨(some 122), .mv (.t 16), none, [], []⟩,
               ⟨(some 123), .bin .eql (.t 121) (.t 122), none, [], []⟩,
               ⟨(some 124), .mv (.t 123), none, [], []⟩,
               ⟨(some 125), .mv (.t 15), some (124, true), [], []⟩,
               ⟨(some 126), .mv (.t 17), some (124, true), [], []⟩,
               ⟨(some 127), .bin .eql (.t 125) (.t 126), some (124, true), [], []⟩,
               ⟨(some 128), .pick (.t 124) (.t 127) (.c (.bool false)), none, [], []⟩,
               ⟨(some 13), .mv (.t 128), none, [], []⟩])))
           (.seq
            (.region [0, 1, 2, 7, 9, 11, 12, 82] [⟨(some 130), .bin .eql (.t 82) (.c (.int .u8 1)), none, [], []⟩,
              ⟨(some 129), .mv (.t 130), none, [], []⟩])
            (.cond (.t 129)
             (.draw [0, 1, 2, 7, 9, 11, 12] [⟨(some 131), .mv (.t 7), none, [], []⟩,
               ⟨(some 132), .faddr 2 (.t 12), none, [], []⟩,
               ⟨(some 133), .load false 1 (.t 132), none, [1], []⟩,
               ⟨(some 134), .faddr 3 (.t 12), none, [], []⟩,
               ⟨(some 135), .load false 1 (.t 134), none, [3], []⟩,
               ⟨(some 136), .call (.c (.fn 34 [])) [(.t 131), (.t 133), (.t 135)] false, none, [0, 1, 2, 3, 4], []⟩,
               ⟨(some 137), .mv (.t 9), none, [], []⟩,
               ⟨(some 138), .faddr 2 (.t 12), none, [], []⟩,
               ⟨(some 139), .load false 1 (.t 138), none, [7], [5]⟩,
               ⟨(some 140), .faddr 3 (.t 12), none, [], []⟩,
               ⟨(some 141), .load false 1 (.t 140), none, [9], [5]⟩,
               ⟨(some 142), .call (.c (.fn 35 [])) [(.t 137), (.t 139), (.t 141)] false, none, [0, 1, 2, 3, 4, 5, 6, 7, 8, 9, 10], []⟩,
               ⟨(some 143), .bin .eql (.t 136) (.t 142), none, [0, 1, 2, 3, 4, 5, 6, 7, 8, 9, 10, 11], []⟩,
               ⟨(some 13), .mv (.t 143), none, [0, 1, 2, 3, 4, 5, 6, 7, 8, 9, 10, 11, 12], []⟩])
             (.seq
              (.region [0, 1, 2, 7, 9, 11, 12, 82] [⟨(some 145), .bin .eql (.t 82) (.c (.int .u8 2)), none, [], []⟩,
                ⟨(some 144), .mv (.t 145), none, [], []⟩])
              (.cond (.t 144)
               (.draw [0, 1, 2, 7, 9, 11, 12] [⟨(some 146), .mv (.t 7), none, [], []⟩,
                 ⟨(some 147), .faddr 1 (.t 12), none, [], []⟩,
                 ⟨(some 148), .load false 1 (.t 147), none, [1], []⟩,
                 ⟨(some 149), .faddr 2 (.t 12), none, [], []⟩,
                 ⟨(some 150), .load false 1 (.t 149), none, [3], []⟩,
                 ⟨(some 151), .call (.c (.fn 36 [])) [(.t 146), (.t 148), (.t 150)] false, none, [0, 1, 2, 3, 4], []⟩,
                 ⟨(some 152), .mv (.t 9), none, [], []⟩,
                 ⟨(some 153), .faddr 1 (.t 12), none, [], []⟩,
                 ⟨(some 154), .load false 1 (.t 153), none, [7], [5]⟩,
                 ⟨(some 155), .faddr 2 (.t 12), none, [], []⟩,
                 ⟨(some 156), .load false 1 (.t 155), none, [9], [5]⟩,
                 ⟨(some 157), .call (.c (.fn 37 [])) [(.t 152), (.t 154), (.t 156)] false, none, [0, 1, 2, 3, 4, 5, 6, 7, 8, 9, 10], []⟩,
                 ⟨(some 158), .bin .eql (.t 151) (.t 157), none, [0, 1, 2, 3, 4, 5, 6, 7, 8, 9, 10, 11], []⟩,
                 ⟨(some 13), .mv (.t 158), none, [0, 1, 2, 3, 4, 5, 6, 7, 8, 9, 10, 11, 12], []⟩])
               (.seq
                (.region [0, 1, 2, 7, 9, 11, 12, 82] [⟨(some 160), .bin .eql (.t 82) (.c (.int .u8 3)), none, [], []⟩,
                  ⟨(some 159), .mv (.t 160), none, [], []⟩])
                (.cond (.t 159)
                 (.seq
                  (.region [0, 1, 2, 7, 9, 11, 12] [⟨(some 162), .mv (.t 7), none, [], []⟩,
                    ⟨(some 163), .faddr 1 (.t 12), none, [], []⟩,
                    ⟨(some 164), .load false 1 (.t 163), none, [], []⟩,
                    ⟨(some 165), .call (.c (.fn 38 [])) [(.t 162), (.t 164)] false, none, [], []⟩,
                    ⟨(some 161), .mv (.t 165), none, [], []⟩,
                    ⟨(some 166), .extract (.t 161) 0, none, [], []⟩,
                    ⟨(some 167), .extract (.t 161) 1, none, [], []⟩,
                    ⟨(some 18), .mv (.t 166), none, [], []⟩,
                    ⟨(some 19), .mv (.t 167), none, [], []⟩])
                  (.seq
                   (.region [0, 1, 2, 7, 9, 11, 12, 18, 19] [⟨(some 169), .mv (.t 9), none, [], []⟩,
                     ⟨(some 170), .faddr 1 (.t 12), none, [], []⟩,
                     ⟨(some 171), .load false 1 (.t 170), none, [], []⟩,
                     ⟨(some 172), .call (.c (.fn 39 [])) [(.t 169), (.t 171)] false, none, [], []⟩,
                     ⟨(some 168), .mv (.t 172), none, [], []⟩,
                     ⟨(some 173), .extract (.t 168) 0, none, [], []⟩,
                     ⟨(some 174), .extract (.t 168) 1, none, [], []⟩,
                     ⟨(some 20), .mv (.t 173), none, [], []⟩,
                     ⟨(some 21), .mv (.t 174), none, [], []⟩])
                   (.region [0, 1, 2, 7, 9, 11, 18, 19, 20, 21] [⟨(some 175), .mv (.t 18), none, [], []⟩,
                     ⟨(some 176), .mv (.t 20), none, [], []⟩,
                     ⟨(some 177), .bin .eql (.t 175) (.t 176), none, [], []⟩,
                     ⟨(some 178), .mv (.t 177), none, [], []⟩,
                     ⟨(some 179), .mv (.t 19), some (178, true), [], []⟩,
                     ⟨(some 180), .mv (.t 21), some (178, true), [], []⟩,
                     ⟨(some 181), .bin .eql (.t 179) (.t 180), some (178, true), [], []⟩,
                     ⟨(some 182), .pick (.t 178) (.t 181) (.c (.bool false)), none, [], []⟩,
                     ⟨(some 13), .mv (.t 182), none, [], []⟩])))
                 (.seq
                  (.region [0, 1, 2, 7, 9, 11, 12] [⟨(some 84), .mv (.t 7), none, [], []⟩,
                    ⟨(some 85), .faddr 2 (.t 12), none, [], []⟩,
                    ⟨(some 86), .load false 1 (.t 85), none, [], []⟩,
                    ⟨(some 87), .call (.c (.fn 40 [])) [(.t 84), (.t 86)] false, none, [], []⟩,
                    ⟨(some 83), .mv (.t 87), none, [], []⟩,
                    ⟨(some 88), .extract (.t 83) 0, none, [], []⟩,
                    ⟨(some 89), .extract (.t 83) 1, none, [], []⟩,
                    ⟨(some 22), .mv (.t 88), none, [], []⟩,
                    ⟨(some 23), .mv (.t 89), none, [], []⟩])
                  (.seq
                   (.region [0, 1, 2, 7, 9, 11, 12, 22, 23] [⟨(some 91), .mv (.t 9), none, [], []⟩,
                     ⟨(some 92), .faddr 2 (.t 12), none, [], []⟩,
                     ⟨(some 93), .load false 1 (.t 92), none, [], []⟩,
                     ⟨(some 94), .call (.c (.fn 41 [])) [(.t 91), (.t 93)] false, none, [], []⟩,
                     ⟨(some 90), .mv (.t 94), none, [], []⟩,
                     ⟨(some 95), .extract (.t 90) 0, none, [], []⟩,
                     ⟨(some 96), .extract (.t 90) 1, none, [], []⟩,
                     ⟨(some 24), .mv (.t 95), none, [], []⟩,
                     ⟨(some 25), .mv (.t 96), none, [], []⟩])
                   (.region [0, 1, 2, 7, 9, 11, 22, 23, 24, 25] [⟨(some 97), .mv (.t 22), none, [], []⟩,
                     ⟨(some 98), .mv (.t 24), none, [], []⟩,
                     ⟨(some 99), .bin .eql (.t 97) (.t 98), none, [], []⟩,
                     ⟨(some 100), .mv (.t 99), none, [], []⟩,
                     ⟨(some 101), .mv (.t 23), some (100, true), [], []⟩,
                     ⟨(some 102), .mv (.t 25), some (100, true), [], []⟩,
                     ⟨(some 103), .bin .eql (.t 101) (.t 102), some (100, true), [], []⟩,
                     ⟨(some 104), .pick (.t 100) (.t 103) (.c (.bool false)), none, [], []⟩,
                     ⟨(some 13), .mv (.t 104), none, [], []⟩])))))))))))))
       (.seq
        (.region [0, 1, 2, 7, 9, 11, 13] [⟨(some 183), .mv (.t 13), none, [], []⟩,
          ⟨(some 184), .un .not (.t 183), none, [], []⟩])
        (.cond (.t 184)
         (.seq
          (.region [] [⟨(some 6), .mv (.c (.bool false)), none, [], []⟩])
          .ret)
         .skip))))))
   (.region [0, 1, 2, 7, 9, 11] [⟨(some 74), .mv (.t 11), none, [], []⟩,
     ⟨(some 75), .bin .add (.t 74) (.c (.int .i64 1)), none, [], []⟩,
     ⟨(some 11), .mv (.t 75), none, [], []⟩])))
def c8_l1 : CC :=
 (.seq
  (.seq
   (.region [0, 1, 7, 9, 26] [⟨(some 189), .mv (.t 26), none, [], []⟩,
     ⟨(some 190), .mv (.t 1), none, [], []⟩,
     ⟨(some 191), .bin .lss (.t 189) (.t 190), none, [], []⟩])
   (.cond (.t 191)
    .skip
    (.exit 3)))
  (.seq
   (.block 4
    (.seq
     (.region [0, 1, 7, 9, 26] [⟨(some 195), .mv (.t 7), none, [], []⟩,
       ⟨(some 196), .mv (.t 26), none, [], []⟩,
       ⟨(some 197), .call (.c (.fn 32 [])) [(.t 195), (.t 196)] false, none, [], []⟩,
       ⟨(some 194), .mv (.t 197), none, [], []⟩,
       ⟨(some 198), .extract (.t 194) 0, none, [], []⟩,
       ⟨(some 199), .extract (.t 194) 1, none, [], []⟩,
       ⟨(some 27), .mv (.t 198), none, [], []⟩,
       ⟨(some 28), .mv (.t 199), none, [], []⟩])
     (.seq
      (.region [0, 1, 7, 9, 26, 27, 28] [⟨(some 201), .mv (.t 9), none, [], []⟩,
        ⟨(some 202), .mv (.t 26), none, [], []⟩,
        ⟨(some 203), .call (.c (.fn 33 [])) [(.t 201), (.t 202)] false, none, [], []⟩,
        ⟨(some 200), .mv (.t 203), none, [], []⟩,
        ⟨(some 204), .extract (.t 200) 0, none, [], []⟩,
        ⟨(some 205), .extract (.t 200) 1, none, [], []⟩,
        ⟨(some 29), .mv (.t 204), none, [], []⟩,
        ⟨(some 30), .mv (.t 205), none, [], []⟩])
      (.seq
       (.region [0, 1, 7, 9, 26, 27, 28, 29, 30] [⟨(some 206), .mv (.t 27), none, [], []⟩,
         ⟨(some 207), .mv (.t 29), none, [], []⟩,
         ⟨(some 208), .bin .neq (.t 206) (.t 207), none, [], []⟩,
         ⟨(some 209), .mv (.t 208), none, [], []⟩,
         ⟨(some 210), .mv (.t 28), some (209, false), [], []⟩,
         ⟨(some 211), .mv (.t 30), some (209, false), [], []⟩,
         ⟨(some 212), .bin .neq (.t 210) (.t 211), some (209, false), [], []⟩,
         ⟨(some 213), .pick (.t 209) (.c (.bool true)) (.t 212), none, [], []⟩])
       (.cond (.t 213)
        (.seq
         (.region [] [⟨(some 6), .mv (.c (.bool false)), none, [], []⟩])
         .ret)
        .skip)))))
   (.region [0, 1, 7, 9, 26] [⟨(some 192), .mv (.t 26), none, [], []⟩,
     ⟨(some 193), .bin .add (.t 192) (.c (.int .i64 1)), none, [], []⟩,
     ⟨(some 26), .mv (.t 193), none, [], []⟩])))
def c8_l2 : CC :=
 (.seq
  (.seq
   (.region [0, 1, 7, 9, 31] [⟨(some 214), .mv (.t 31), none, [], []⟩,
     ⟨(some 215), .mv (.t 0), none, [], []⟩,
     ⟨(some 216), .bin .lss (.t 214) (.t 215), none, [], []⟩])
   (.cond (.t 216)
    .skip
    (.exit 5)))
  (.seq
   (.block 6
    (.seq
     (.region [0, 1, 7, 9, 31] [⟨(some 220), .mv (.t 7), none, [], []⟩,
       ⟨(some 221), .mv (.t 31), none, [], []⟩,
       ⟨(some 222), .call (.c (.fn 38 [])) [(.t 220), (.t 221)] false, none, [], []⟩,
       ⟨(some 219), .mv (.t 222), none, [], []⟩,
       ⟨(some 223), .extract (.t 219) 0, none, [], []⟩,
       ⟨(some 224), .extract (.t 219) 1, none, [], []⟩,
       ⟨(some 32), .mv (.t 223), none, [], []⟩,
       ⟨(some 33), .mv (.t 224), none, [], []⟩])
     (.seq
      (.region [0, 1, 7, 9, 31, 33] [⟨(some 226), .mv (.t 9), none, [], []⟩,
        ⟨(some 227), .mv (.t 31), none, [], []⟩,
        ⟨(some 228), .call (.c (.fn 39 [])) [(.t 226), (.t 227)] false, none, [], []⟩,
        ⟨(some 225), .mv (.t 228), none, [], []⟩,
        ⟨(some 229), .extract (.t 225) 0, none, [], []⟩,
        ⟨(some 230), .extract (.t 225) 1, none, [], []⟩,
        ⟨(some 34), .mv (.t 229), none, [], []⟩,
        ⟨(some 35), .mv (.t 230), none, [], []⟩])
      (.seq
       (.region [0, 1, 7, 9, 31, 33, 35] [⟨(some 231), .mv (.t 33), none, [], []⟩,
         ⟨(some 232), .mv (.t 35), none, [], []⟩,
         ⟨(some 233), .bin .neq (.t 231) (.t 232), none, [], []⟩])
       (.cond (.t 233)
        (.seq
         (.region [] [⟨(some 6), .mv (.c (.bool false)), none, [], []⟩])
         .ret)
        .skip)))))
   (.region [0, 1, 7, 9, 31] [⟨(some 217), .mv (.t 31), none, [], []⟩,
     ⟨(some 218), .bin .add (.t 217) (.c (.int .i64 1)), none, [], []⟩,
     ⟨(some 31), .mv (.t 218), none, [], []⟩])))
def c8_l3 : CC :=
 (.seq
  (.seq
   (.region [1, 7, 9, 36] [⟨(some 234), .mv (.t 36), none, [], []⟩,
     ⟨(some 235), .mv (.t 1), none, [], []⟩,
     ⟨(some 236), .bin .lss (.t 234) (.t 235), none, [], []⟩])
   (.cond (.t 236)
    .skip
    (.exit 7)))
  (.seq
   (.block 8
    (.seq
     (.region [1, 7, 9, 36] [⟨(some 240), .mv (.t 7), none, [], []⟩,
       ⟨(some 241), .mv (.t 36), none, [], []⟩,
       ⟨(some 242), .call (.c (.fn 40 [])) [(.t 240), (.t 241)] false, none, [], []⟩,
       ⟨(some 239), .mv (.t 242), none, [], []⟩,
       ⟨(some 243), .extract (.t 239) 0, none, [], []⟩,
       ⟨(some 244), .extract (.t 239) 1, none, [], []⟩,
       ⟨(some 37), .mv (.t 243), none, [], []⟩,
       ⟨(some 38), .mv (.t 244), none, [], []⟩])
     (.seq
      (.region [1, 7, 9, 36, 37, 38] [⟨(some 246), .mv (.t 9), none, [], []⟩,
        ⟨(some 247), .mv (.t 36), none, [], []⟩,
        ⟨(some 248), .call (.c (.fn 41 [])) [(.t 246), (.t 247)] false, none, [], []⟩,
        ⟨(some 245), .mv (.t 248), none, [], []⟩,
        ⟨(some 249), .extract (.t 245) 0, none, [], []⟩,
        ⟨(some 250), .extract (.t 245) 1, none, [], []⟩,
        ⟨(some 39), .mv (.t 249), none, [], []⟩,
        ⟨(some 40), .mv (.t 250), none, [], []⟩])
      (.seq
       (.region [1, 7, 9, 36, 37, 38, 39, 40] [⟨(some 251), .mv (.t 37), none, [], []⟩,
         ⟨(some 252), .mv (.t 39), none, [], []⟩,
         ⟨(some 253), .bin .neq (.t 251) (.t 252), none, [], []⟩,
         ⟨(some 254), .mv (.t 253), none, [], []⟩,
         ⟨(some 255), .mv (.t 38), some (254, false), [], []⟩,
         ⟨(some 256), .mv (.t 40), some (254, false), [], []⟩,
         ⟨(some 257), .bin .neq (.t 255) (.t 256), some (254, false), [], []⟩,
         ⟨(some 258), .pick (.t 254) (.c (.bool true)) (.t 257), none, [], []⟩])
       (.cond (.t 258)
        (.seq
         (.region [] [⟨(some 6), .mv (.c (.bool false)), none, [], []⟩])
         .ret)
        .skip)))))
   (.region [1, 7, 9, 36] [⟨(some 237), .mv (.t 36), none, [], []⟩,
     ⟨(some 238), .bin .add (.t 237) (.c (.int .i64 1)), none, [], []⟩,
     ⟨(some 36), .mv (.t 238), none, [], []⟩])))
/-- progeny/progenylaw23.FastAreas -/
def c8 : CFn := ⟨260, [.t 6],
 (.seq
  (.region [0, 1, 2] [⟨(some 6), .mv (.c (.bool false)), none, [], []⟩])
  (.seq
   (.seq
    (.region [0, 1, 2] [⟨(some 41), .mv (.t 2), none, [], []⟩,
      ⟨(some 42), .len false (.t 41), none, [], []⟩,
      ⟨(some 43), .bin .gtr (.t 42) (.c (.int .i64 40)), none, [], []⟩])
    (.cond (.t 43)
     (.seq
      (.region [] [⟨(some 44), .call (.c (.fn 11 [])) [] false, none, [], []⟩,
        ⟨(some 6), .mv (.t 44), none, [], []⟩])
      .ret)
     .skip))
   (.seq
    (.region [0, 1, 2] [⟨(some 46), .mv (.t 0), none, [], []⟩,
      ⟨(some 47), .mv (.t 1), none, [], []⟩,
      ⟨(some 48), .call (.c (.fn 30 [])) [(.t 46), (.t 47)] false, none, [], []⟩,
      ⟨(some 45), .mv (.t 48), none, [], []⟩,
      ⟨(some 49), .extract (.t 45) 0, none, [], []⟩,
      ⟨(some 50), .extract (.t 45) 1, none, [], []⟩,
      ⟨(some 7), .mv (.t 49), none, [], []⟩,
      ⟨(some 8), .mv (.t 50), none, [], []⟩])
    (.seq
     (.region [0, 1, 2, 7, 8] [⟨(some 52), .mv (.t 0), none, [], []⟩,
       ⟨(some 53), .mv (.t 1), none, [], []⟩,
       ⟨(some 54), .call (.c (.fn 31 [])) [(.t 52), (.t 53)] false, none, [], []⟩,
       ⟨(some 51), .mv (.t 54), none, [], []⟩,
       ⟨(some 55), .extract (.t 51) 0, none, [], []⟩,
       ⟨(some 56), .extract (.t 51) 1, none, [], []⟩,
       ⟨(some 9), .mv (.t 55), none, [], []⟩,
       ⟨(some 10), .mv (.t 56), none, [], []⟩])
     (.seq
      (.seq
       (.region [0, 1, 2, 7, 8, 9, 10] [⟨(some 57), .mv (.t 8), none, [], []⟩,
         ⟨(some 58), .mv (.t 10), none, [], []⟩,
         ⟨(some 59), .bin .neq (.t 57) (.t 58), none, [], []⟩,
         ⟨(some 60), .mv (.t 59), none, [], []⟩,
         ⟨(some 61), .mv (.t 7), some (60, false), [], []⟩,
         ⟨(some 62), .eqn false 0 (.t 61) (.c (.nilptr)), some (60, false), [], []⟩,
         ⟨(some 63), .mv (.t 8), some (60, false), [], []⟩,
         ⟨(some 64), .bin .neq (.t 63) (.c (.int .i64 0)), some (60, false), [], []⟩,
         ⟨(some 65), .eqb true (.t 62) (.t 64), some (60, false), [], []⟩,
         ⟨(some 66), .pick (.t 60) (.c (.bool true)) (.t 65), none, [], []⟩])
       (.cond (.t 66)
        (.seq
         (.region [] [⟨(some 6), .mv (.c (.bool false)), none, [], []⟩])
         .ret)
        .skip))
      (.seq
       (.seq
        (.region [0, 1, 2, 7, 8, 9] [⟨(some 67), .mv (.t 8), none, [], []⟩,
          ⟨(some 68), .bin .neq (.t 67) (.c (.int .i64 0)), none, [], []⟩])
        (.cond (.t 68)
         (.seq
          (.region [] [⟨(some 69), .call (.c (.fn 11 [])) [] false, none, [], []⟩,
            ⟨(some 6), .mv (.t 69), none, [], []⟩])
          .ret)
         .skip))
       (.seq
        (.seq
         (.region [0, 1, 2, 7, 9] [⟨(some 11), .mv (.c (.int .i64 0)), none, [], []⟩])
         (.block 0
          (.loop c8_l0)))
        (.seq
         (.seq
          (.region [0, 1, 7, 9] [⟨(some 185), .mv (.t 7), none, [], []⟩,
            ⟨(some 186), .mv (.t 7), none, [], []⟩,
            ⟨(some 187), .call (.c (.fn 42 [])) [(.t 185), (.t 186)] false, none, [], []⟩,
            ⟨(some 188), .un .not (.t 187), none, [], []⟩])
          (.cond (.t 188)
           (.seq
            (.region [] [⟨(some 6), .mv (.c (.bool false)), none, [], []⟩])
            .ret)
           .skip))
         (.seq
          (.seq
           (.region [0, 1, 7, 9] [⟨(some 26), .mv (.c (.int .i64 0)), none, [], []⟩])
           (.block 3
            (.loop c8_l1)))
          (.seq
           (.seq
            (.region [0, 1, 7, 9] [⟨(some 31), .mv (.c (.int .i64 0)), none, [], []⟩])
            (.block 5
             (.loop c8_l2)))
           (.seq
            (.seq
             (.region [1, 7, 9] [⟨(some 36), .mv (.c (.int .i64 0)), none, [], []⟩])
             (.block 7
              (.loop c8_l3)))
            (.seq
             (.region [] [⟨(some 259), .call (.c (.fn 11 [])) [] false, none, [], []⟩,
               ⟨(some 6), .mv (.t 259), none, [], []⟩])
             .ret)))))))))))), false, false⟩
/-- progeny/progenylaw23.FastNobody -/
def c9 : CFn := ⟨98, [.t 4],
 (.seq
  (.region [0, 1] [⟨(some 2), .box 63 4 (.t 0), none, [], []⟩,
    ⟨(some 4), .mv (.c (.bool false)), none, [], []⟩])
  (.seq
   (.region [1, 2] [⟨(some 5), .mv (.c (.nilptr)), none, [], []⟩])
   (.seq
    (.seq
     (.region [1, 2, 5] [⟨(some 14), .mv (.t 1), none, [], []⟩])
     (.cond (.t 14)
      (.region [2] [⟨(some 15), .build [.nils] [], none, [], []⟩,
        ⟨(some 16), .box 72 1 (.t 15), none, [], []⟩,
        ⟨(some 5), .mv (.t 16), none, [], []⟩])
      .skip))
    (.seq
     (.region [2, 5] [⟨(some 18), .call (.c (.fn 30 [])) [(.c (.int .i64 2)), (.c (.int .i64 1))] false, none, [], []⟩,
       ⟨(some 17), .mv (.t 18), none, [], []⟩,
       ⟨(some 19), .extract (.t 17) 0, none, [], []⟩,
       ⟨(some 20), .extract (.t 17) 1, none, [], []⟩,
       ⟨(some 6), .mv (.t 19), none, [], []⟩,
       ⟨(some 7), .mv (.t 20), none, [], []⟩])
     (.seq
      (.region [2, 5, 6, 7] [⟨(some 22), .mv (.t 5), none, [], []⟩,
        ⟨(some 23), .faddr 2 (.t 2), none, [], []⟩,
        ⟨(some 24), .load false 1 (.t 23), none, [], []⟩,
        ⟨(some 25), .call (.c (.fn 32 [])) [(.t 22), (.t 24)] false, none, [], []⟩,
        ⟨(some 21), .mv (.t 25), none, [], []⟩,
        ⟨(some 26), .extract (.t 21) 0, none, [], []⟩,
        ⟨(some 27), .extract (.t 21) 1, none, [], []⟩,
        ⟨(some 8), .mv (.t 26), none, [], []⟩,
        ⟨(some 9), .mv (.t 27), none, [], []⟩])
      (.seq
       (.region [2, 5, 6, 7, 9] [⟨(some 29), .mv (.t 5), none, [], []⟩,
         ⟨(some 30), .faddr 1 (.t 2), none, [], []⟩,
         ⟨(some 31), .load false 1 (.t 30), none, [], []⟩,
         ⟨(some 32), .call (.c (.fn 38 [])) [(.t 29), (.t 31)] false, none, [], []⟩,
         ⟨(some 28), .mv (.t 32), none, [], []⟩,
         ⟨(some 33), .extract (.t 28) 0, none, [], []⟩,
         ⟨(some 34), .extract (.t 28) 1, none, [], []⟩,
         ⟨(some 10), .mv (.t 33), none, [], []⟩,
         ⟨(some 11), .mv (.t 34), none, [], []⟩])
       (.seq
        (.region [2, 5, 6, 7, 9, 11] [⟨(some 36), .mv (.t 5), none, [], []⟩,
          ⟨(some 37), .faddr 2 (.t 2), none, [], []⟩,
          ⟨(some 38), .load false 1 (.t 37), none, [], []⟩,
          ⟨(some 39), .call (.c (.fn 40 [])) [(.t 36), (.t 38)] false, none, [], []⟩,
          ⟨(some 35), .mv (.t 39), none, [], []⟩,
          ⟨(some 40), .extract (.t 35) 0, none, [], []⟩,
          ⟨(some 41), .extract (.t 35) 1, none, [], []⟩,
          ⟨(some 12), .mv (.t 40), none, [], []⟩,
          ⟨(some 13), .mv (.t 41), none, [], []⟩])
        (.seq
         (.region [2, 5, 6, 7, 9, 11, 13] [⟨(some 42), .mv (.t 7), none, [], []⟩,
           ⟨(some 43), .bin .eql (.t 42) (.c (.int .i64 0)), none, [], []⟩,
           ⟨(some 44), .mv (.t 43), none, [], []⟩,
           ⟨(some 45), .mv (.t 9), some (44, true), [], []⟩,
           ⟨(some 46), .bin .eql (.t 45) (.c (.int .i64 6)), some (44, true), [], []⟩,
           ⟨(some 47), .pick (.t 44) (.t 46) (.c (.bool false)), none, [], []⟩,
           ⟨(some 48), .mv (.t 47), none, [], []⟩,
           ⟨(some 49), .mv (.t 11), some (48, true), [], []⟩,
           ⟨(some 50), .bin .eql (.t 49) (.c (.int .i64 6)), some (48, true), [], []⟩,
           ⟨(some 51), .pick (.t 48) (.t 50) (.c (.bool false)), none, [], []⟩,
           ⟨(some 52), .mv (.t 51), none, [], []⟩,
           ⟨(some 53), .mv (.t 13), some (52, true), [], []⟩,
           ⟨(some 54), .bin .eql (.t 53) (.c (.int .i64 6)), some (52, true), [], []⟩,
           ⟨(some 55), .pick (.t 52) (.t 54) (.c (.bool false)), none, [], []⟩,
           ⟨(some 56), .mv (.t 55), none, [], []⟩,
           ⟨(some 57), .mv (.t 5), some (56, true), [], []⟩,
           ⟨(some 58), .faddr 2 (.t 2), some (56, true), [], []⟩,
           ⟨(some 59), .load false 1 (.t 58), some (56, true), [], []⟩,
           ⟨(some 60), .faddr 3 (.t 2), some (56, true), [], []⟩,
           ⟨(some 61), .load false 1 (.t 60), some (56, true), [], []⟩,
           ⟨(some 62), .call (.c (.fn 34 [])) [(.t 57), (.t 59), (.t 61)] false, some (56, true), [], []⟩,
           ⟨(some 63), .bin .eql (.t 62) (.c (.int .i64 6)), some (56, true), [], []⟩,
           ⟨(some 64), .pick (.t 56) (.t 63) (.c (.bool false)), none, [], []⟩,
           ⟨(some 65), .mv (.t 64), none, [], []⟩,
           ⟨(some 66), .mv (.t 5), some (65, true), [], []⟩,
           ⟨(some 67), .faddr 1 (.t 2), some (65, true), [], []⟩,
           ⟨(some 68), .load false 1 (.t 67), some (65, true), [], []⟩,
           ⟨(some 69), .faddr 2 (.t 2), some (65, true), [], []⟩,
           ⟨(some 70), .load false 1 (.t 69), some (65, true), [], []⟩,
           ⟨(some 71), .call (.c (.fn 36 [])) [(.t 66), (.t 68), (.t 70)] false, some (65, true), [], []⟩,
           ⟨(some 72), .bin .eql (.t 71) (.c (.int .i64 6)), some (65, true), [], []⟩,
           ⟨(some 73), .pick (.t 65) (.t 72) (.c (.bool false)), none, [], []⟩,
           ⟨(some 74), .mv (.t 73), none, [], []⟩,
           ⟨(some 75), .mv (.t 5), some (74, true), [], []⟩,
           ⟨(some 76), .mv (.t 5), some (74, true), [], []⟩,
           ⟨(some 77), .call (.c (.fn 42 [])) [(.t 75), (.t 76)] false, some (74, true), [], []⟩,
           ⟨(some 78), .pick (.t 74) (.t 77) (.c (.bool false)), none, [], []⟩,
           ⟨(some 79), .mv (.t 78), none, [], []⟩,
           ⟨(some 80), .mv (.t 5), some (79, true), [], []⟩,
           ⟨(some 81), .call (.c (.fn 42 [])) [(.t 80), (.c (.nilptr))] false, some (79, true), [], []⟩,
           ⟨(some 82), .pick (.t 79) (.t 81) (.c (.bool false)), none, [], []⟩,
           ⟨(some 83), .mv (.t 82), none, [], []⟩,
           ⟨(some 84), .mv (.t 5), some (83, true), [], []⟩,
           ⟨(some 85), .mv (.t 6), some (83, true), [], []⟩,
           ⟨(some 86), .call (.c (.fn 42 [])) [(.t 84), (.t 85)] false, some (83, true), [], []⟩,
           ⟨(some 87), .un .not (.t 86), some (83, true), [], []⟩,
           ⟨(some 88), .pick (.t 83) (.t 87) (.c (.bool false)), none, [], []⟩,
           ⟨(some 89), .mv (.t 88), none, [], []⟩,
           ⟨(some 90), .mv (.t 6), some (89, true), [], []⟩,
           ⟨(some 91), .mv (.t 5), some (89, true), [], []⟩,
           ⟨(some 92), .call (.c (.fn 42 [])) [(.t 90), (.t 91)] false, some (89, true), [], []⟩,
           ⟨(some 93), .un .not (.t 92), some (89, true), [], []⟩,
           ⟨(some 94), .pick (.t 89) (.t 93) (.c (.bool false)), none, [], []⟩,
           ⟨(some 95), .mv (.t 94), none, [], []⟩,
           ⟨(some 96), .call (.c (.fn 11 [])) [] false, some (95, true), [], []⟩,
           ⟨(some 97), .pick (.t 95) (.t 96) (.c (.bool false)), none, [], []⟩,
           ⟨(some 4), .mv (.t 97), none, [], []⟩])
         .ret)))))))), false, false⟩
def c10_l0 : CC :=
 (.seq
  (.seq
   (.region [1, 3] [⟨(some 4), .mv (.t 3), none, [], []⟩,
     ⟨(some 5), .faddr 1 (.t 1), none, [], []⟩,
     ⟨(some 6), .load false 1 (.t 5), none, [], []⟩,
     ⟨(some 7), .len false (.t 6), none, [], []⟩,
     ⟨(some 8), .bin .lss (.t 4) (.t 7), none, [], []⟩])
   (.cond (.t 8)
    .skip
    (.exit 0)))
  (.seq
   (.block 1
    (.seq
     (.region [1, 3] [⟨(some 11), .faddr 1 (.t 1), none, [], []⟩,
       ⟨(some 12), .load false 1 (.t 11), none, [], []⟩,
       ⟨(some 13), .mv (.t 3), none, [], []⟩,
       ⟨(some 14), .iaddr 2 (.t 12) (.t 13), none, [], []⟩,
       ⟨(some 15), .faddr 1 (.t 14), none, [], []⟩,
       ⟨(some 16), .load false 1 (.t 15), none, [], []⟩,
       ⟨(some 17), .len false (.t 16), none, [], []⟩,
       ⟨(some 18), .bin .gtr (.t 17) (.c (.int .i64 10)), none, [], []⟩])
     (.cond (.t 18)
      (.seq
       (.region [] [⟨(some 2), .mv (.c (.bool false)), none, [], []⟩])
       .ret)
      .skip)))
   (.region [1, 3] [⟨(some 9), .mv (.t 3), none, [], []⟩,
     ⟨(some 10), .bin .add (.t 9) (.c (.int .i64 1)), none, [], []⟩,
     ⟨(some 3), .mv (.t 10), none, [], []⟩])))
/-- progeny/progenylaw23.Small -/
def c10 : CFn := ⟨23, [.t 2],
 (.seq
  (.region [0] [⟨(some 1), .box 24 2 (.t 0), none, [], []⟩,
    ⟨(some 2), .mv (.c (.bool false)), none, [], []⟩])
  (.seq
   (.seq
    (.region [1] [⟨(some 3), .mv (.c (.int .i64 0)), none, [], []⟩])
    (.block 0
     (.loop c10_l0)))
   (.seq
    (.region [1] [⟨(some 19), .faddr 1 (.t 1), none, [], []⟩,
      ⟨(some 20), .load false 1 (.t 19), none, [], []⟩,
      ⟨(some 21), .len false (.t 20), none, [], []⟩,
      ⟨(some 22), .bin .leq (.t 21) (.c (.int .i64 30)), none, [], []⟩,
      ⟨(some 2), .mv (.t 22), none, [], []⟩])
    .ret))), false, false⟩
/-- progeny/progenylaw23.First -/
def c11 : CFn := ⟨66, [.t 0],
 (.seq
  (.region [] [⟨(some 0), .mv (.c (.bool false)), none, [], []⟩])
  (.seq
   (.region [] [⟨(some 8), .bslice 3 1 [[.int .i64 0]] [(0, (.c (.int .i64 5)))], none, [], []⟩,
     ⟨(some 9), .build [.str ⟨#[]⟩, .nils] [(0, 1, (.c (.str ⟨#[65]⟩))), (1, 1, (.t 8))], none, [], []⟩,
     ⟨(some 10), .bslice 3 1 [[.int .i64 0]] [(0, (.c (.int .i64 0)))], none, [], []⟩,
     ⟨(some 11), .build [.str ⟨#[]⟩, .nils] [(0, 1, (.c (.str ⟨#[66]⟩))), (1, 1, (.t 10))], none, [], []⟩,
     ⟨(some 12), .bslice 76 2 [[.str ⟨#[]⟩, .nils], [.str ⟨#[]⟩, .nils]] [(0, (.t 9)), (1, (.t 11))], none, [], []⟩,
     ⟨(some 13), .build [.int .i64 0, .nils] [(0, 1, (.c (.int .i64 1))), (1, 1, (.t 12))], none, [], []⟩,
     ⟨(some 1), .box 24 2 (.c (.agg [.int .i64 0, .nils])), none, [], []⟩,
     ⟨none, .store 2 (.t 1) (.t 13), none, [], []⟩])
   (.seq
    (.region [1] [⟨(some 15), .call (.c (.fn 28 [])) [(.c (.str ⟨#[65]⟩)), (.c (.str ⟨#[66]⟩)), (.c (.int .i64 0)), (.c (.int .i64 3))] true, none, [], []⟩,
      ⟨(some 14), .mv (.t 15), none, [], []⟩,
      ⟨(some 16), .extract (.t 14) 0, none, [], []⟩,
      ⟨(some 17), .extract (.t 14) 1, none, [], []⟩,
      ⟨(some 2), .mv (.t 16), none, [], []⟩,
      ⟨(some 3), .mv (.t 17), none, [], []⟩])
    (.seq
     (.region [1, 2, 3] [⟨(some 19), .load true 2 (.t 1), none, [], []⟩,
       ⟨(some 20), .mv (.t 2), none, [], []⟩,
       ⟨(some 21), .call (.c (.fn 14 [])) [(.t 19), (.t 20)] true, none, [], []⟩,
       ⟨(some 18), .mv (.t 21), none, [], []⟩,
       ⟨(some 22), .extract (.t 18) 0, none, [], []⟩,
       ⟨(some 23), .extract (.t 18) 1, none, [], []⟩,
       ⟨(some 4), .box 24 2 (.c (.agg [.int .i64 0, .nils])), none, [], []⟩,
       ⟨none, .store 2 (.t 4) (.t 22), none, [], []⟩,
       ⟨(some 5), .mv (.t 23), none, [], []⟩])
     (.seq
      (.region [2, 3, 4, 5] [⟨(some 25), .load true 2 (.t 4), none, [], []⟩,
        ⟨(some 26), .mv (.t 2), none, [], []⟩,
        ⟨(some 27), .call (.c (.fn 14 [])) [(.t 25), (.t 26)] true, none, [], []⟩,
        ⟨(some 24), .mv (.t 27), none, [], []⟩,
        ⟨(some 28), .extract (.t 24) 0, none, [], []⟩,
        ⟨(some 29), .extract (.t 24) 1, none, [], []⟩,
        ⟨(some 6), .box 24 2 (.c (.agg [.int .i64 0, .nils])), none, [], []⟩,
        ⟨none, .store 2 (.t 6) (.t 28), none, [], []⟩,
        ⟨(some 7), .mv (.t 29), none, [], []⟩])
      (.seq
       (.region [3, 4, 5, 7] [⟨(some 30), .mv (.t 3), none, [], []⟩,
         ⟨(some 31), .bin .eql (.t 30) (.c (.int .i64 0)), none, [], []⟩,
         ⟨(some 32), .mv (.t 31), none, [], []⟩,
         ⟨(some 33), .mv (.t 5), some (32, true), [], []⟩,
         ⟨(some 34), .bin .eql (.t 33) (.c (.int .i64 0)), some (32, true), [], []⟩,
         ⟨(some 35), .pick (.t 32) (.t 34) (.c (.bool false)), none, [], []⟩,
         ⟨(some 36), .mv (.t 35), none, [], []⟩,
         ⟨(some 37), .mv (.t 7), some (36, true), [], []⟩,
         ⟨(some 38), .bin .eql (.t 37) (.c (.int .i64 212)), some (36, true), [], []⟩,
         ⟨(some 39), .pick (.t 36) (.t 38) (.c (.bool false)), none, [], []⟩,
         ⟨(some 40), .mv (.t 39), none, [], []⟩,
         ⟨(some 41), .faddr 1 (.t 4), some (40, true), [], []⟩,
         ⟨(some 42), .load false 1 (.t 41), some (40, true), [], []⟩,
         ⟨(some 43), .len false (.t 42), some (40, true), [], []⟩,
         ⟨(some 44), .bin .eql (.t 43) (.c (.int .i64 2)), some (40, true), [], []⟩,
         ⟨(some 45), .pick (.t 40) (.t 44) (.c (.bool false)), none, [], []⟩,
         ⟨(some 46), .mv (.t 45), none, [], []⟩,
         ⟨(some 47), .faddr 1 (.t 4), some (46, true), [], []⟩,
         ⟨(some 48), .load false 1 (.t 47), some (46, true), [], []⟩,
         ⟨(some 49), .iaddr 2 (.t 48) (.c (.int .i64 0)), some (46, true), [], []⟩,
         ⟨(some 50), .faddr 1 (.t 49), some (46, true), [], []⟩,
         ⟨(some 51), .load false 1 (.t 50), some (46, true), [], []⟩,
         ⟨(some 52), .iaddr 1 (.t 51) (.c (.int .i64 0)), some (46, true), [], []⟩,
         ⟨(some 53), .load false 1 (.t 52), some (46, true), [], []⟩,
         ⟨(some 54), .bin .eql (.t 53) (.c (.int .i64 2)), some (46, true), [], []⟩,
         ⟨(some 55), .pick (.t 46) (.t 54) (.c (.bool false)), none, [], []⟩,
         ⟨(some 56), .mv (.t 55), none, [], []⟩,
         ⟨(some 57), .faddr 1 (.t 4), some (56, true), [], []⟩,
         ⟨(some 58), .load false 1 (.t 57), some (56, true), [], []⟩,
         ⟨(some 59), .iaddr 2 (.t 58) (.c (.int .i64 1)), some (56, true), [], []⟩,
         ⟨(some 60), .faddr 1 (.t 59), some (56, true), [], []⟩,
         ⟨(some 61), .load false 1 (.t 60), some (56, true), [], []⟩,
         ⟨(some 62), .iaddr 1 (.t 61) (.c (.int .i64 0)), some (56, true), [], []⟩,
         ⟨(some 63), .load false 1 (.t 62), some (56, true), [], []⟩,
         ⟨(some 64), .bin .eql (.t 63) (.c (.int .i64 3)), some (56, true), [], []⟩,
         ⟨(some 65), .pick (.t 56) (.t 64) (.c (.bool false)), none, [], []⟩,
         ⟨(some 0), .mv (.t 65), none, [], []⟩])
       .ret)))))), false, true⟩
/-- progeny/fast.Stands -/
def c12 : CFn := ⟨23, [.t 4, .t 5],
 (.seq
  (.region [0, 1] [⟨(some 2), .box 24 2 (.t 0), none, [], []⟩,
    ⟨(some 4), .mv (.c (.int .i64 0)), none, [], []⟩,
    ⟨(some 5), .mv (.c (.int .i64 0)), none, [], []⟩])
  (.seq
   (.seq
    (.region [1, 2] [⟨(some 9), .load true 2 (.t 2), none, [], []⟩,
      ⟨(some 10), .mv (.t 1), none, [], []⟩,
      ⟨(some 11), .bslice 25 1 [[.nils]] [(0, (.t 10))], none, [], []⟩,
      ⟨(some 12), .call (.c (.fn 43 [])) [(.t 9), (.t 11)] false, none, [], []⟩,
      ⟨(some 6), .mv (.t 12), none, [], []⟩])
    (.seq
     (.region [1, 2, 6] [⟨(some 13), .mv (.t 6), none, [], []⟩,
       ⟨(some 14), .bin .neq (.t 13) (.c (.int .i64 0)), none, [], []⟩])
     (.cond (.t 14)
      (.seq
       (.region [6] [⟨(some 15), .mv (.t 6), none, [], []⟩,
         ⟨(some 4), .mv (.c (.int .i64 0)), none, [], []⟩,
         ⟨(some 5), .mv (.t 15), none, [], []⟩])
       .ret)
      .skip)))
   (.seq
    (.region [1, 2] [⟨(some 17), .load true 2 (.t 2), none, [], []⟩,
      ⟨(some 18), .mv (.t 1), none, [], []⟩,
      ⟨(some 19), .call (.c (.fn 44 [])) [(.t 17), (.t 18)] false, none, [], []⟩,
      ⟨(some 16), .mv (.t 19), none, [], []⟩,
      ⟨(some 20), .extract (.t 16) 0, none, [], []⟩,
      ⟨(some 21), .extract (.t 16) 1, none, [], []⟩,
      ⟨(some 7), .box 24 2 (.c (.agg [.int .i64 0, .nils])), none, [], []⟩,
      ⟨none, .store 2 (.t 7) (.t 20), none, [], []⟩,
      ⟨(some 8), .mv (.t 21), none, [], []⟩])
    (.seq
     (.region [8] [⟨(some 22), .mv (.t 8), none, [], []⟩,
       ⟨(some 4), .mv (.t 22), none, [], []⟩,
       ⟨(some 5), .mv (.c (.int .i64 0)), none, [], []⟩])
     .ret)))), false, false⟩
/-- progeny/progenyref23.Stands -/
def c13 : CFn := ⟨22, [.t 4, .t 5],
 (.seq
  (.region [0, 1] [⟨(some 2), .box 24 2 (.t 0), none, [], []⟩,
    ⟨(some 4), .mv (.c (.int .i64 0)), none, [], []⟩,
    ⟨(some 5), .mv (.c (.int .i64 0)), none, [], []⟩])
  (.seq
   (.seq
    (.region [1, 2] [⟨(some 9), .load true 2 (.t 2), none, [], []⟩,
      ⟨(some 10), .mv (.t 1), none, [], []⟩,
      ⟨(some 11), .call (.c (.fn 45 [])) [(.t 9), (.t 10)] false, none, [], []⟩,
      ⟨(some 6), .mv (.t 11), none, [], []⟩])
    (.seq
     (.region [1, 2, 6] [⟨(some 12), .mv (.t 6), none, [], []⟩,
       ⟨(some 13), .bin .neq (.t 12) (.c (.int .i64 0)), none, [], []⟩])
     (.cond (.t 13)
      (.seq
       (.region [6] [⟨(some 14), .mv (.t 6), none, [], []⟩,
         ⟨(some 4), .mv (.c (.int .i64 0)), none, [], []⟩,
         ⟨(some 5), .mv (.t 14), none, [], []⟩])
       .ret)
      .skip)))
   (.seq
    (.region [1, 2] [⟨(some 16), .load true 2 (.t 2), none, [], []⟩,
      ⟨(some 17), .mv (.t 1), none, [], []⟩,
      ⟨(some 18), .call (.c (.fn 46 [])) [(.t 16), (.t 17)] false, none, [], []⟩,
      ⟨(some 15), .mv (.t 18), none, [], []⟩,
      ⟨(some 19), .extract (.t 15) 0, none, [], []⟩,
      ⟨(some 20), .extract (.t 15) 1, none, [], []⟩,
      ⟨(some 7), .box 24 2 (.c (.agg [.int .i64 0, .nils])), none, [], []⟩,
      ⟨none, .store 2 (.t 7) (.t 19), none, [], []⟩,
      ⟨(some 8), .mv (.t 20), none, [], []⟩])
    (.seq
     (.region [8] [⟨(some 21), .mv (.t 8), none, [], []⟩,
       ⟨(some 4), .mv (.t 21), none, [], []⟩,
       ⟨(some 5), .mv (.c (.int .i64 0)), none, [], []⟩])
     .ret)))), false, false⟩
/-- progeny/fast.Sync -/
def c14 : CFn := ⟨27, [.cell 4 true 2, .t 5],
 (.seq
  (.region [0, 1] [⟨(some 2), .box 24 2 (.t 0), none, [], []⟩,
    ⟨(some 4), .box 24 2 (.c (.agg [.int .i64 0, .nils])), none, [], []⟩,
    ⟨(some 5), .mv (.c (.int .i64 0)), none, [], []⟩])
  (.seq
   (.seq
    (.region [1, 2, 4] [⟨(some 9), .load true 2 (.t 2), none, [], []⟩,
      ⟨(some 10), .mv (.t 1), none, [], []⟩,
      ⟨(some 11), .bslice 25 1 [[.nils]] [(0, (.t 10))], none, [], []⟩,
      ⟨(some 12), .call (.c (.fn 43 [])) [(.t 9), (.t 11)] false, none, [], []⟩,
      ⟨(some 6), .mv (.t 12), none, [], []⟩])
    (.seq
     (.region [1, 2, 4, 6] [⟨(some 13), .mv (.t 6), none, [], []⟩,
       ⟨(some 14), .bin .neq (.t 13) (.c (.int .i64 0)), none, [], []⟩])
     (.cond (.t 14)
      (.seq
       (.region [4, 6] [⟨(some 15), .build [.int .i64 0, .nils] [], none, [], []⟩,
         ⟨(some 16), .mv (.t 6), none, [], []⟩,
         ⟨none, .store 2 (.t 4) (.t 15), none, [], []⟩,
         ⟨(some 5), .mv (.t 16), none, [], []⟩])
       .ret)
      .skip)))
   (.seq
    (.region [1, 2, 4] [⟨(some 18), .load true 2 (.t 2), none, [], []⟩,
      ⟨(some 19), .mv (.t 1), none, [], []⟩,
      ⟨(some 20), .call (.c (.fn 44 [])) [(.t 18), (.t 19)] false, none, [], []⟩,
      ⟨(some 17), .mv (.t 20), none, [], []⟩,
      ⟨(some 21), .extract (.t 17) 0, none, [], []⟩,
      ⟨(some 22), .extract (.t 17) 1, none, [], []⟩,
      ⟨(some 7), .box 24 2 (.c (.agg [.int .i64 0, .nils])), none, [], []⟩,
      ⟨none, .store 2 (.t 7) (.t 21), none, [], []⟩,
      ⟨(some 8), .mv (.t 22), none, [], []⟩])
    (.seq
     (.seq
      (.region [4, 7, 8] [⟨(some 23), .mv (.t 8), none, [], []⟩,
        ⟨(some 24), .bin .geq (.t 23) (.c (.int .i64 0)), none, [], []⟩])
      (.cond (.t 24)
       (.seq
        (.region [4] [⟨(some 25), .build [.int .i64 0, .nils] [], none, [], []⟩,
          ⟨none, .store 2 (.t 4) (.t 25), none, [], []⟩,
          ⟨(some 5), .mv (.c (.int .i64 212)), none, [], []⟩])
        .ret)
       .skip))
     (.seq
      (.region [4, 7] [⟨(some 26), .load true 2 (.t 7), none, [], []⟩,
        ⟨none, .store 2 (.t 4) (.t 26), none, [], []⟩,
        ⟨(some 5), .mv (.c (.int .i64 0)), none, [], []⟩])
      .ret))))), false, false⟩
/-- progeny/progenyref23.Sync -/
def c15 : CFn := ⟨26, [.cell 4 true 2, .t 5],
 (.seq
  (.region [0, 1] [⟨(some 2), .box 24 2 (.t 0), none, [], []⟩,
    ⟨(some 4), .box 24 2 (.c (.agg [.int .i64 0, .nils])), none, [], []⟩,
    ⟨(some 5), .mv (.c (.int .i64 0)), none, [], []⟩])
  (.seq
   (.seq
    (.region [1, 2, 4] [⟨(some 9), .load true 2 (.t 2), none, [], []⟩,
      ⟨(some 10), .mv (.t 1), none, [], []⟩,
      ⟨(some 11), .call (.c (.fn 45 [])) [(.t 9), (.t 10)] false, none, [], []⟩,
      ⟨(some 6), .mv (.t 11), none, [], []⟩])
    (.seq
     (.region [1, 2, 4, 6] [⟨(some 12), .mv (.t 6), none, [], []⟩,
       ⟨(some 13), .bin .neq (.t 12) (.c (.int .i64 0)), none, [], []⟩])
     (.cond (.t 13)
      (.seq
       (.region [4, 6] [⟨(some 14), .build [.int .i64 0, .nils] [], none, [], []⟩,
         ⟨(some 15), .mv (.t 6), none, [], []⟩,
         ⟨none, .store 2 (.t 4) (.t 14), none, [], []⟩,
         ⟨(some 5), .mv (.t 15), none, [], []⟩])
       .ret)
      .skip)))
   (.seq
    (.region [1, 2, 4] [⟨(some 17), .load true 2 (.t 2), none, [], []⟩,
      ⟨(some 18), .mv (.t 1), none, [], []⟩,
      ⟨(some 19), .call (.c (.fn 46 [])) [(.t 17), (.t 18)] false, none, [], []⟩,
      ⟨(some 16), .mv (.t 19), none, [], []⟩,
      ⟨(some 20), .extract (.t 16) 0, none, [], []⟩,
      ⟨(some 21), .extract (.t 16) 1, none, [], []⟩,
      ⟨(some 7), .box 24 2 (.c (.agg [.int .i64 0, .nils])), none, [], []⟩,
      ⟨none, .store 2 (.t 7) (.t 20), none, [], []⟩,
      ⟨(some 8), .mv (.t 21), none, [], []⟩])
    (.seq
     (.seq
      (.region [4, 7, 8] [⟨(some 22), .mv (.t 8), none, [], []⟩,
        ⟨(some 23), .bin .geq (.t 22) (.c (.int .i64 0)), none, [], []⟩])
      (.cond (.t 23)
       (.seq
        (.region [4] [⟨(some 24), .build [.int .i64 0, .nils] [], none, [], []⟩,
          ⟨none, .store 2 (.t 4) (.t 24), none, [], []⟩,
          ⟨(some 5), .mv (.c (.int .i64 212)), none, [], []⟩])
        .ret)
       .skip))
     (.seq
      (.region [4, 7] [⟨(some 25), .load true 2 (.t 7), none, [], []⟩,
        ⟨none, .store 2 (.t 4) (.t 25), none, [], []⟩,
        ⟨(some 5), .mv (.c (.int .i64 0)), none, [], []⟩])
      .ret))))), false, false⟩
def c16_l0 : CC :=
 (.seq
  (.region [1, 20, 21, 22] [⟨(some 23), .bin .lss (.t 22) (.t 21), none, [], []⟩])
  (.seq
   (.cond (.t 23)
    .skip
    (.exit 0))
   (.seq
    (.block 1
     (.seq
      (.region [1, 20, 21, 22] [⟨(some 24), .mv (.t 22), none, [], []⟩,
        ⟨(some 25), .iaddr 2 (.t 20) (.t 22), none, [], []⟩,
        ⟨(some 26), .load true 2 (.t 25), none, [], []⟩,
        ⟨(some 4), .box 76 2 (.c (.agg [.str ⟨#[]⟩, .nils])), none, [], []⟩,
        ⟨(some 3), .mv (.t 24), none, [], []⟩,
        ⟨none, .store 2 (.t 4) (.t 26), none, [], []⟩])
      (.seq
       (.draw [1, 3, 4, 20, 21, 22] [⟨(some 27), .faddr 0 (.t 4), none, [], []⟩,
         ⟨(some 28), .load false 1 (.t 27), none, [0], []⟩,
         ⟨(some 29), .call (.c (.fn 47 [])) [(.t 28)] false, none, [0, 1], []⟩,
         ⟨(some 30), .un .not (.t 29), none, [0, 1, 2], []⟩,
         ⟨(some 31), .mv (.t 30), none, [0, 1, 2, 3], []⟩,
         ⟨(some 32), .mv (.t 3), some (31, false), [0, 1, 2, 3, 4], []⟩,
         ⟨(some 33), .bin .gtr (.t 32) (.c (.int .i64 0)), some (31, false), [0, 1, 2, 3, 4, 5], []⟩,
         ⟨(some 34), .mv (.t 33), some (31, false), [0, 1, 2, 3, 4, 5, 6], []⟩,
         ⟨(some 35), .faddr 0 (.t 4), some (34, true), [0, 1, 2, 3, 4, 5, 6, 7], []⟩,
         ⟨(some 36), .load false 1 (.t 35), some (34, true), [0, 1, 2, 3, 4, 5, 6, 7, 8], []⟩,
         ⟨(some 37), .faddr 1 (.t 1), some (34, true), [0, 1, 2, 3, 4, 5, 6, 7], []⟩,
         ⟨(some 38), .load false 1 (.t 37), some (34, true), [0, 1, 2, 3, 4, 5, 6, 7, 10], []⟩,
         ⟨(some 39), .mv (.t 3), some (34, true), [0, 1, 2, 3, 4, 5, 6, 7], []⟩,
         ⟨(some 40), .bin .sub (.t 39) (.c (.int .i64 1)), some (34, true), [0, 1, 2, 3, 4, 5, 6, 7, 12], []⟩,
         ⟨(some 41), .iaddr 2 (.t 38) (.t 40), some (34, true), [0, 1, 2, 3, 4, 5, 6, 7, 10, 11, 12, 13], []⟩,
         ⟨(some 42), .faddr 0 (.t 41), some (34, true), [0, 1, 2, 3, 4, 5, 6, 7, 10, 11, 12, 13, 14], []⟩,
         ⟨(some 43), .load false 1 (.t 42), some (34, true), [0, 1, 2, 3, 4, 5, 6, 7, 10, 11, 12, 13, 14, 15], []⟩,
         ⟨(some 44), .bin .leq (.t 36) (.t 43), some (34, true), [0, 1, 2, 3, 4, 5, 6, 7, 8, 9, 10, 11, 12, 13, 14, 15, 16], []⟩,
         ⟨(some 45), .pick (.t 34) (.t 44) (.c (.bool false)), some (31, false), [0, 1, 2, 3, 4, 5, 6, 7, 8, 9, 10, 11, 12, 13, 14, 15, 16, 17], []⟩,
         ⟨(some 46), .pick (.t 31) (.c (.bool true)) (.t 45), none, [0, 1, 2, 3, 4, 5, 6, 7, 8, 9, 10, 11, 12, 13, 14, 15, 16, 17, 18], []⟩,
         ⟨(some 47), .mv (.t 46), none, [0, 1, 2, 3, 4, 5, 6, 7, 8, 9, 10, 11, 12, 13, 14, 15, 16, 17, 18, 19], []⟩,
         ⟨(some 48), .faddr 1 (.t 4), some (47, false), [0, 1, 2, 3, 4, 5, 6, 7, 8, 9, 10, 11, 12, 13, 14, 15, 16, 17, 18, 19, 20], []⟩,
         ⟨(some 49), .load false 1 (.t 48), some (47, false), [0, 1, 2, 3, 4, 5, 6, 7, 8, 9, 10, 11, 12, 13, 14, 15, 16, 17, 18, 19, 20, 21], []⟩,
         ⟨(some 50), .len false (.t 49), some (47, false), [0, 1, 2, 3, 4, 5, 6, 7, 8, 9, 10, 11, 12, 13, 14, 15, 16, 17, 18, 19, 20, 21, 22], []⟩,
         ⟨(some 51), .faddr 0 (.t 1), some (47, false), [0, 1, 2, 3, 4, 5, 6, 7, 8, 9, 10, 11, 12, 13, 14, 15, 16, 17, 18, 19, 20], []⟩,
         ⟨(some 52), .load false 1 (.t 51), some (47, false), [0, 1, 2, 3, 4, 5, 6, 7, 8, 9, 10, 11, 12, 13, 14, 15, 16, 17, 18, 19, 20, 24], []⟩,
         ⟨(some 53), .bin .neq (.t 50) (.t 52), some (47, false), [0, 1, 2, 3, 4, 5, 6, 7, 8, 9, 10, 11, 12, 13, 14, 15, 16, 17, 18, 19, 20, 21, 22, 23, 24, 25], []⟩,
         ⟨(some 54), .pick (.t 47) (.c (.bool true)) (.t 53), none, [0, 1, 2, 3, 4, 5, 6, 7, 8, 9, 10, 11, 12, 13, 14, 15, 16, 17, 18, 19, 20, 21, 22, 23, 24, 25, 26], []⟩,
         ⟨(some 55), .mv (.t 54), none, [0, 1, 2, 3, 4, 5, 6, 7, 8, 9, 10, 11, 12, 13, 14, 15, 16, 17, 18, 19, 20, 21, 22, 23, 24, 25, 26, 27], []⟩,
         ⟨(some 56), .faddr 1 (.t 4), some (55, false), [0, 1, 2, 3, 4, 5, 6, 7, 8, 9, 10, 11, 12, 13, 14, 15, 16, 17, 18, 19, 20, 21, 22, 23, 24, 25, 26, 27, 28], []⟩,
         ⟨(some 57), .load false 1 (.t 56), some (55, false), [0, 1, 2, 3, 4, 5, 6, 7, 8, 9, 10, 11, 12, 13, 14, 15, 16, 17, 18, 19, 20, 21, 22, 23, 24, 25, 26, 27, 28, 29], []⟩,
         ⟨(some 58), .call (.c (.fn 48 [])) [(.t 57), (.c (.fn 49 []))] false, some (55, false), [0, 1, 2, 3, 4, 5, 6, 7, 8, 9, 10, 11, 12, 13, 14, 15, 16, 17, 18, 19, 20, 21, 22, 23, 24, 25, 26, 27, 28, 29, 30], []⟩,
         ⟨(some 59), .pick (.t 55) (.c (.bool true)) (.t 58), none, [0, 1, 2, 3, 4, 5, 6, 7, 8, 9, 10, 11, 12, 13, 14, 15, 16, 17, 18, 19, 20, 21, 22, 23, 24, 25, 26, 27, 28, 29, 30, 31], []⟩])
       (.cond (.t 59)
        (.seq
         (.region [] [⟨(some 2), .mv (.c (.bool false)), none, [], []⟩])
         .ret)
        .skip))))
    (.region [1, 20, 21, 22] [⟨(some 60), .bin .add (.t 22) (.c (.int .i64 1)), none, [], []⟩,
      ⟨(some 22), .mv (.t 60), none, [], []⟩]))))
/-- progeny/fast.Valid -/
def c16 : CFn := ⟨61, [.t 2],
 (.seq
  (.region [0] [⟨(some 1), .box 24 2 (.t 0), none, [], []⟩,
    ⟨(some 2), .mv (.c (.bool false)), none, [], []⟩])
  (.seq
   (.seq
    (.region [1] [⟨(some 5), .faddr 0 (.t 1), none, [], []⟩,
      ⟨(some 6), .load false 1 (.t 5), none, [], []⟩,
      ⟨(some 7), .bin .lss (.t 6) (.c (.int .i64 1)), none, [], []⟩,
      ⟨(some 8), .mv (.t 7), none, [], []⟩,
      ⟨(some 9), .faddr 0 (.t 1), some (8, false), [], []⟩,
      ⟨(some 10), .load false 1 (.t 9), some (8, false), [], []⟩,
      ⟨(some 11), .bin .gtr (.t 10) (.c (.int .i64 4)), some (8, false), [], []⟩,
      ⟨(some 12), .pick (.t 8) (.c (.bool true)) (.t 11), none, [], []⟩,
      ⟨(some 13), .mv (.t 12), none, [], []⟩,
      ⟨(some 14), .faddr 1 (.t 1), some (13, false), [], []⟩,
      ⟨(some 15), .load false 1 (.t 14), some (13, false), [], []⟩,
      ⟨(some 16), .len false (.t 15), some (13, false), [], []⟩,
      ⟨(some 17), .bin .gtr (.t 16) (.c (.int .i64 20)), some (13, false), [], []⟩,
      ⟨(some 18), .pick (.t 13) (.c (.bool true)) (.t 17), none, [], []⟩])
    (.cond (.t 18)
     (.seq
      (.region [] [⟨(some 2), .mv (.c (.bool false)), none, [], []⟩])
      .ret)
     .skip))
   (.seq
    (.seq
     (.region [1] [⟨(some 19), .faddr 1 (.t 1), none, [], []⟩,
       ⟨(some 20), .load false 1 (.t 19), none, [], []⟩,
       ⟨(some 21), .len false (.t 20), none, [], []⟩,
       ⟨(some 22), .mv (.c (.int .i64 0)), none, [], []⟩])
     (.block 0
      (.loop c16_l0)))
    (.seq
     (.region [] [⟨(some 2), .mv (.c (.bool true)), none, [], []⟩])
     .ret)))), false, false⟩
def c17_l0 : CC :=
 (.seq
  (.seq
   (.region [1, 3, 4, 5] [⟨(some 52), .mv (.t 5), none, [], []⟩,
     ⟨(some 53), .faddr 1 (.t 4), none, [], []⟩,
     ⟨(some 54), .load false 1 (.t 53), none, [], []⟩,
     ⟨(some 55), .len false (.t 54), none, [], []⟩,
     ⟨(some 56), .bin .lss (.t 52) (.t 55), none, [], []⟩])
   (.cond (.t 56)
    .skip
    (.exit 2)))
  (.seq
   (.block 3
    (.seq
     (.region [1, 3, 4, 5] [⟨(some 59), .faddr 1 (.t 4), none, [], []⟩,
       ⟨(some 60), .load false 1 (.t 59), none, [], []⟩,
       ⟨(some 61), .mv (.t 5), none, [], []⟩,
       ⟨(some 62), .iaddr 1 (.t 60) (.t 61), none, [], []⟩,
       ⟨(some 63), .load false 1 (.t 62), none, [], []⟩,
       ⟨(some 64), .call (.c (.fn 51 [])) [(.t 63)] false, none, [], []⟩,
       ⟨(some 65), .un .not (.t 64), none, [], []⟩])
     (.cond (.t 65)
      (.seq
       (.region [] [⟨(some 2), .mv (.c (.bool false)), none, [], []⟩])
       .ret)
      .skip)))
   (.region [1, 3, 4, 5] [⟨(some 57), .mv (.t 5), none, [], []⟩,
     ⟨(some 58), .bin .add (.t 57) (.c (.int .i64 1)), none, [], []⟩,
     ⟨(some 5), .mv (.t 58), none, [], []⟩])))
def c17_l1 : CC :=
 (.seq
  (.seq
   (.region [1, 3] [⟨(some 6), .mv (.t 3), none, [], []⟩,
     ⟨(some 7), .faddr 1 (.t 1), none, [], []⟩,
     ⟨(some 8), .load false 1 (.t 7), none, [], []⟩,
     ⟨(some 9), .len false (.t 8), none, [], []⟩,
     ⟨(some 10), .bin .lss (.t 6) (.t 9), none, [], []⟩])
   (.cond (.t 10)
    .skip
    (.exit 0)))
  (.seq
   (.block 1
    (.seq
     (.region [1, 3] [⟨(some 13), .faddr 1 (.t 1), none, [], []⟩,
       ⟨(some 14), .load false 1 (.t 13), none, [], []⟩,
       ⟨(some 15), .mv (.t 3), none, [], []⟩,
       ⟨(some 16), .iaddr 2 (.t 14) (.t 15), none, [], []⟩,
       ⟨(some 17), .load true 2 (.t 16), none, [], []⟩,
       ⟨(some 4), .box 76 2 (.c (.agg [.str ⟨#[]⟩, .nils])), none, [], []⟩,
       ⟨none, .store 2 (.t 4) (.t 17), none, [], []⟩])
     (.seq
      (.seq
       (.draw [1, 3, 4] [⟨(some 18), .faddr 0 (.t 4), none, [], []⟩,
         ⟨(some 19), .load false 1 (.t 18), none, [0], []⟩,
         ⟨(some 20), .len true (.t 19), none, [0, 1], []⟩,
         ⟨(some 21), .bin .lss (.t 20) (.c (.int .i64 1)), none, [0, 1, 2], []⟩,
         ⟨(some 22), .mv (.t 21), none, [0, 1, 2, 3], []⟩,
         ⟨(some 23), .faddr 0 (.t 4), some (22, false), [0, 1, 2, 3, 4], []⟩,
         ⟨(some 24), .load false 1 (.t 23), some (22, false), [0, 1, 2, 3, 4, 5], []⟩,
         ⟨(some 25), .len true (.t 24), some (22, false), [0, 1, 2, 3, 4, 5, 6], []⟩,
         ⟨(some 26), .bin .gtr (.t 25) (.c (.int .i64 8)), some (22, false), [0, 1, 2, 3, 4, 5, 6, 7], []⟩,
         ⟨(some 27), .pick (.t 22) (.c (.bool true)) (.t 26), none, [0, 1, 2, 3, 4, 5, 6, 7, 8], []⟩,
         ⟨(some 28), .mv (.t 27), none, [0, 1, 2, 3, 4, 5, 6, 7, 8, 9], []⟩,
         ⟨(some 29), .faddr 1 (.t 4), some (28, false), [0, 1, 2, 3, 4, 5, 6, 7, 8, 9, 10], []⟩,
         ⟨(some 30), .load false 1 (.t 29), some (28, false), [0, 1, 2, 3, 4, 5, 6, 7, 8, 9, 10, 11], []⟩,
         ⟨(some 31), .len false (.t 30), some (28, false), [0, 1, 2, 3, 4, 5, 6, 7, 8, 9, 10, 11, 12], []⟩,
         ⟨(some 32), .faddr 0 (.t 1), some (28, false), [0, 1, 2, 3, 4, 5, 6, 7, 8, 9, 10], []⟩,
         ⟨(some 33), .load false 1 (.t 32), some (28, false), [0, 1, 2, 3, 4, 5, 6, 7, 8, 9, 10, 14], []⟩,
         ⟨(some 34), .bin .neq (.t 31) (.t 33), some (28, false), [0, 1, 2, 3, 4, 5, 6, 7, 8, 9, 10, 11, 12, 13, 14, 15], []⟩,
         ⟨(some 35), .pick (.t 28) (.c (.bool true)) (.t 34), none, [0, 1, 2, 3, 4, 5, 6, 7, 8, 9, 10, 11, 12, 13, 14, 15, 16], []⟩,
         ⟨(some 36), .mv (.t 35), none, [0, 1, 2, 3, 4, 5, 6, 7, 8, 9, 10, 11, 12, 13, 14, 15, 16, 17], []⟩,
         ⟨(some 37), .mv (.t 3), some (36, false), [0, 1, 2, 3, 4, 5, 6, 7, 8, 9, 10, 11, 12, 13, 14, 15, 16, 17, 18], []⟩,
         ⟨(some 38), .bin .gtr (.t 37) (.c (.int .i64 0)), some (36, false), [0, 1, 2, 3, 4, 5, 6, 7, 8, 9, 10, 11, 12, 13, 14, 15, 16, 17, 18, 19], []⟩,
         ⟨(some 39), .mv (.t 38), some (36, false), [0, 1, 2, 3, 4, 5, 6, 7, 8, 9, 10, 11, 12, 13, 14, 15, 16, 17, 18, 19, 20], []⟩,
         ⟨(some 40), .faddr 1 (.t 1), some (39, true), [0, 1, 2, 3, 4, 5, 6, 7, 8, 9, 10, 11, 12, 13, 14, 15, 16, 17, 18, 19, 20, 21], []⟩,
         ⟨(some 41), .load false 1 (.t 40), some (39, true), [0, 1, 2, 3, 4, 5, 6, 7, 8, 9, 10, 11, 12, 13, 14, 15, 16, 17, 18, 19, 20, 21, 22], []⟩,
         ⟨(some 42), .mv (.t 3), some (39, true), [0, 1, 2, 3, 4, 5, 6, 7, 8, 9, 10, 11, 12, 13, 14, 15, 16, 17, 18, 19, 20, 21], []⟩,
         ⟨(some 43), .bin .sub (.t 42) (.c (.int .i64 1)), some (39, true), [0, 1, 2, 3, 4, 5, 6, 7, 8, 9, 10, 11, 12, 13, 14, 15, 16, 17, 18, 19, 20, 21, 24], []⟩,
         ⟨(some 44), .iaddr 2 (.t 41) (.t 43), some (39, true), [0, 1, 2, 3, 4, 5, 6, 7, 8, 9, 10, 11, 12, 13, 14, 15, 16, 17, 18, 19, 20, 21, 22, 23, 24, 25], []⟩,
         ⟨(some 45), .faddr 0 (.t 44), some (39, true), [0, 1, 2, 3, 4, 5, 6, 7, 8, 9, 10, 11, 12, 13, 14, 15, 16, 17, 18, 19, 20, 21, 22, 23, 24, 25, 26], []⟩,
         ⟨(some 46), .load false 1 (.t 45), some (39, true), [0, 1, 2, 3, 4, 5, 6, 7, 8, 9, 10, 11, 12, 13, 14, 15, 16, 17, 18, 19, 20, 21, 22, 23, 24, 25, 26, 27], []⟩,
         ⟨(some 47), .faddr 0 (.t 4), some (39, true), [0, 1, 2, 3, 4, 5, 6, 7, 8, 9, 10, 11, 12, 13, 14, 15, 16, 17, 18, 19, 20, 21], []⟩,
         ⟨(some 48), .load false 1 (.t 47), some (39, true), [0, 1, 2, 3, 4, 5, 6, 7, 8, 9, 10, 11, 12, 13, 14, 15, 16, 17, 18, 19, 20, 21, 29], []⟩,
         ⟨(some 49), .bin .geq (.t 46) (.t 48), some (39, true), [0, 1, 2, 3, 4, 5, 6, 7, 8, 9, 10, 11, 12, 13, 14, 15, 16, 17, 18, 19, 20, 21, 22, 23, 24, 25, 26, 27, 28, 29, 30], []⟩,
         ⟨(some 50), .pick (.t 39) (.t 49) (.c (.bool false)), some (36, false), [0, 1, 2, 3, 4, 5, 6, 7, 8, 9, 10, 11, 12, 13, 14, 15, 16, 17, 18, 19, 20, 21, 22, 23, 24, 25, 26, 27, 28, 29, 30, 31], []⟩,
         ⟨(some 51), .pick (.t 36) (.c (.bool true)) (.t 50), none, [0, 1, 2, 3, 4, 5, 6, 7, 8, 9, 10, 11, 12, 13, 14, 15, 16, 17, 18, 19, 20, 21, 22, 23, 24, 25, 26, 27, 28, 29, 30, 31, 32], []⟩])
       (.cond (.t 51)
        (.seq
         (.region [] [⟨(some 2), .mv (.c (.bool false)), none, [], []⟩])
         .ret)
        .skip))
      (.seq
       (.region [1, 3, 4] [⟨(some 5), .mv (.c (.int .i64 0)), none, [], []⟩])
       (.block 2
        (.loop c17_l0))))))
   (.region [1, 3] [⟨(some 11), .mv (.t 3), none, [], []⟩,
     ⟨(some 12), .bin .add (.t 11) (.c (.int .i64 1)), none, [], []⟩,
     ⟨(some 3), .mv (.t 12), none, [], []⟩])))
/-- progeny/progenyref23.Valid -/
def c17 : CFn := ⟨80, [.t 2],
 (.seq
  (.region [0] [⟨(some 1), .box 24 2 (.t 0), none, [], []⟩,
    ⟨(some 2), .mv (.c (.bool false)), none, [], []⟩])
  (.seq
   (.seq
    (.region [1] [⟨(some 3), .mv (.c (.int .i64 0)), none, [], []⟩])
    (.block 0
     (.loop c17_l1)))
   (.seq
    (.region [1] [⟨(some 66), .faddr 0 (.t 1), none, [], []⟩,
      ⟨(some 67), .load false 1 (.t 66), none, [], []⟩,
      ⟨(some 68), .bin .geq (.t 67) (.c (.int .i64 1)), none, [], []⟩,
      ⟨(some 69), .mv (.t 68), none, [], []⟩,
      ⟨(some 70), .faddr 0 (.t 1), some (69, true), [], []⟩,
      ⟨(some 71), .load false 1 (.t 70), some (69, true), [], []⟩,
      ⟨(some 72), .bin .leq (.t 71) (.c (.int .i64 4)), some (69, true), [], []⟩,
      ⟨(some 73), .pick (.t 69) (.t 72) (.c (.bool false)), none, [], []⟩,
      ⟨(some 74), .mv (.t 73), none, [], []⟩,
      ⟨(some 75), .faddr 1 (.t 1), some (74, true), [], []⟩,
      ⟨(some 76), .load false 1 (.t 75), some (74, true), [], []⟩,
      ⟨(some 77), .len false (.t 76), some (74, true), [], []⟩,
      ⟨(some 78), .bin .leq (.t 77) (.c (.int .i64 20)), some (74, true), [], []⟩,
      ⟨(some 79), .pick (.t 74) (.t 78) (.c (.bool false)), none, [], []⟩,
      ⟨(some 2), .mv (.t 79), none, [], []⟩])
    .ret))), false, false⟩
/-- progeny/fast.IsUnit -/
def c18 : CFn := ⟨11, [.t 2],
 (.seq
  (.region [0] [⟨(some 2), .mv (.c (.bool false)), none, [], []⟩])
  (.seq
   (.region [0] [⟨(some 3), .mv (.t 0), none, [], []⟩,
     ⟨(some 4), .len false (.t 3), none, [], []⟩,
     ⟨(some 5), .bin .leq (.t 4) (.c (.int .i64 30)), none, [], []⟩,
     ⟨(some 6), .mv (.t 5), none, [], []⟩,
     ⟨(some 7), .mv (.t 0), some (6, true), [], []⟩,
     ⟨(some 8), .call (.c (.fn 52 [])) [(.t 7), (.c (.fn 53 []))] false, some (6, true), [], []⟩,
     ⟨(some 9), .un .not (.t 8), some (6, true), [], []⟩,
     ⟨(some 10), .pick (.t 6) (.t 9) (.c (.bool false)), none, [], []⟩,
     ⟨(some 2), .mv (.t 10), none, [], []⟩])
   .ret)), false, false⟩
def c19_l0 : CC :=
 (.seq
  (.seq
   (.region [0, 3] [⟨(some 4), .mv (.t 3), none, [], []⟩,
     ⟨(some 5), .mv (.t 0), none, [], []⟩,
     ⟨(some 6), .len false (.t 5), none, [], []⟩,
     ⟨(some 7), .bin .lss (.t 4) (.t 6), none, [], []⟩])
   (.cond (.t 7)
    .skip
    (.exit 0)))
  (.seq
   (.block 1
    (.seq
     (.region [0, 3] [⟨(some 10), .mv (.t 0), none, [], []⟩,
       ⟨(some 11), .mv (.t 3), none, [], []⟩,
       ⟨(some 12), .iaddr 4 (.t 10) (.t 11), none, [], []⟩,
       ⟨(some 13), .faddr 2 (.t 12), none, [], []⟩,
       ⟨(some 14), .load false 1 (.t 13), none, [], []⟩,
       ⟨(some 15), .call (.c (.fn 55 [])) [(.t 14)] false, none, [], []⟩,
       ⟨(some 16), .un .not (.t 15), none, [], []⟩,
       ⟨(some 17), .mv (.t 16), none, [], []⟩,
       ⟨(some 18), .mv (.t 0), some (17, false), [], []⟩,
       ⟨(some 19), .mv (.t 3), some (17, false), [], []⟩,
       ⟨(some 20), .iaddr 4 (.t 18) (.t 19), some (17, false), [], []⟩,
       ⟨(some 21), .faddr 3 (.t 20), some (17, false), [], []⟩,
       ⟨(some 22), .load false 1 (.t 21), some (17, false), [], []⟩,
       ⟨(some 23), .call (.c (.fn 51 [])) [(.t 22)] false, some (17, false), [], []⟩,
       ⟨(some 24), .un .not (.t 23), some (17, false), [], []⟩,
       ⟨(some 25), .pick (.t 17) (.c (.bool true)) (.t 24), none, [], []⟩])
     (.cond (.t 25)
      (.seq
       (.region [] [⟨(some 2), .mv (.c (.bool false)), none, [], []⟩])
       .ret)
      .skip)))
   (.region [0, 3] [⟨(some 8), .mv (.t 3), none, [], []⟩,
     ⟨(some 9), .bin .add (.t 8) (.c (.int .i64 1)), none, [], []⟩,
     ⟨(some 3), .mv (.t 9), none, [], []⟩])))
/-- progeny/progenyref23.IsUnit -/
def c19 : CFn := ⟨29, [.t 2],
 (.seq
  (.region [0] [⟨(some 2), .mv (.c (.bool false)), none, [], []⟩])
  (.seq
   (.seq
    (.region [0] [⟨(some 3), .mv (.c (.int .i64 0)), none, [], []⟩])
    (.block 0
     (.loop c19_l0)))
   (.seq
    (.region [0] [⟨(some 26), .mv (.t 0), none, [], []⟩,
      ⟨(some 27), .len false (.t 26), none, [], []⟩,
      ⟨(some 28), .bin .leq (.t 27) (.c (.int .i64 30)), none, [], []⟩,
      ⟨(some 2), .mv (.t 28), none, [], []⟩])
    .ret))), false, false⟩
def c20_l0 : CC :=
 (.seq
  (.seq
   (.region [2, 3, 5, 6] [⟨(some 58), .mv (.t 6), none, [], []⟩,
     ⟨(some 59), .faddr 1 (.t 2), none, [], []⟩,
     ⟨(some 60), .load false 1 (.t 59), none, [], []⟩,
     ⟨(some 61), .mv (.t 5), none, [], []⟩,
     ⟨(some 62), .iaddr 2 (.t 60) (.t 61), none, [], []⟩,
     ⟨(some 63), .faddr 1 (.t 62), none, [], []⟩,
     ⟨(some 64), .load false 1 (.t 63), none, [], []⟩,
     ⟨(some 65), .len false (.t 64), none, [], []⟩,
     ⟨(some 66), .bin .lss (.t 58) (.t 65), none, [], []⟩])
   (.cond (.t 66)
    .skip
    (.exit 2)))
  (.seq
   (.block 3
    (.seq
     (.draw [2, 3, 5, 6] [⟨(some 69), .faddr 1 (.t 2), none, [], []⟩,
       ⟨(some 70), .load false 1 (.t 69), none, [0], []⟩,
       ⟨(some 71), .mv (.t 5), none, [], []⟩,
       ⟨(some 72), .iaddr 2 (.t 70) (.t 71), none, [0, 1, 2], []⟩,
       ⟨(some 73), .faddr 1 (.t 72), none, [0, 1, 2, 3], []⟩,
       ⟨(some 74), .load false 1 (.t 73), none, [0, 1, 2, 3, 4], []⟩,
       ⟨(some 75), .mv (.t 6), none, [], []⟩,
       ⟨(some 76), .iaddr 1 (.t 74) (.t 75), none, [0, 1, 2, 3, 4, 5, 6], []⟩,
       ⟨(some 77), .load false 1 (.t 76), none, [0, 1, 2, 3, 4, 5, 6, 7], []⟩,
       ⟨(some 78), .faddr 1 (.t 3), none, [], []⟩,
       ⟨(some 79), .load false 1 (.t 78), none, [9], []⟩,
       ⟨(some 80), .mv (.t 5), none, [], []⟩,
       ⟨(some 81), .iaddr 2 (.t 79) (.t 80), none, [9, 10, 11], []⟩,
       ⟨(some 82), .faddr 1 (.t 81), none, [9, 10, 11, 12], []⟩,
       ⟨(some 83), .load false 1 (.t 82), none, [9, 10, 11, 12, 13], []⟩,
       ⟨(some 84), .mv (.t 6), none, [], []⟩,
       ⟨(some 85), .iaddr 1 (.t 83) (.t 84), none, [9, 10, 11, 12, 13, 14, 15], []⟩,
       ⟨(some 86), .load false 1 (.t 85), none, [9, 10, 11, 12, 13, 14, 15, 16], []⟩,
       ⟨(some 87), .bin .neq (.t 77) (.t 86), none, [0, 1, 2, 3, 4, 5, 6, 7, 8, 9, 10, 11, 12, 13, 14, 15, 16, 17], []⟩])
     (.cond (.t 87)
      (.seq
       (.region [] [⟨(some 4), .mv (.c (.bool false)), none, [], []⟩])
       .ret)
      .skip)))
   (.region [2, 3, 5, 6] [⟨(some 67), .mv (.t 6), none, [], []⟩,
     ⟨(some 68), .bin .add (.t 67) (.c (.int .i64 1)), none, [], []⟩,
     ⟨(some 6), .mv (.t 68), none, [], []⟩])))
def c20_l1 : CC :=
 (.seq
  (.seq
   (.region [2, 3, 5] [⟨(some 21), .mv (.t 5), none, [], []⟩,
     ⟨(some 22), .faddr 1 (.t 2), none, [], []⟩,
     ⟨(some 23), .load false 1 (.t 22), none, [], []⟩,
     ⟨(some 24), .len false (.t 23), none, [], []⟩,
     ⟨(some 25), .bin .lss (.t 21) (.t 24), none, [], []⟩])
   (.cond (.t 25)
    .skip
    (.exit 0)))
  (.seq
   (.block 1
    (.seq
     (.seq
      (.draw [2, 3, 5] [⟨(some 28), .faddr 1 (.t 2), none, [], []⟩,
        ⟨(some 29), .load false 1 (.t 28), none, [0], []⟩,
        ⟨(some 30), .mv (.t 5), none, [], []⟩,
        ⟨(some 31), .iaddr 2 (.t 29) (.t 30), none, [0, 1, 2], []⟩,
        ⟨(some 32), .faddr 0 (.t 31), none, [0, 1, 2, 3], []⟩,
        ⟨(some 33), .load false 1 (.t 32), none, [0, 1, 2, 3, 4], []⟩,
        ⟨(some 34), .faddr 1 (.t 3), none, [], []⟩,
        ⟨(some 35), .load false 1 (.t 34), none, [6], []⟩,
        ⟨(some 36), .mv (.t 5), none, [], []⟩,
        ⟨(some 37), .iaddr 2 (.t 35) (.t 36), none, [6, 7, 8], []⟩,
        ⟨(some 38), .faddr 0 (.t 37), none, [6, 7, 8, 9], []⟩,
        ⟨(some 39), .load false 1 (.t 38), none, [6, 7, 8, 9, 10], []⟩,
        ⟨(some 40), .bin .neq (.t 33) (.t 39), none, [0, 1, 2, 3, 4, 5, 6, 7, 8, 9, 10, 11], []⟩,
        ⟨(some 41), .mv (.t 40), none, [0, 1, 2, 3, 4, 5, 6, 7, 8, 9, 10, 11, 12], []⟩,
        ⟨(some 42), .faddr 1 (.t 2), some (41, false), [0, 1, 2, 3, 4, 5, 6, 7, 8, 9, 10, 11, 12, 13], []⟩,
        ⟨(some 43), .load false 1 (.t 42), some (41, false), [0, 1, 2, 3, 4, 5, 6, 7, 8, 9, 10, 11, 12, 13, 14], []⟩,
        ⟨(some 44), .mv (.t 5), some (41, false), [0, 1, 2, 3, 4, 5, 6, 7, 8, 9, 10, 11, 12, 13], []⟩,
        ⟨(some 45), .iaddr 2 (.t 43) (.t 44), some (41, false), [0, 1, 2, 3, 4, 5, 6, 7, 8, 9, 10, 11, 12, 13, 14, 15, 16], []⟩,
        ⟨(some 46), .faddr 1 (.t 45), some (41, false), [0, 1, 2, 3, 4, 5, 6, 7, 8, 9, 10, 11, 12, 13, 14, 15, 16, 17], []⟩,
        ⟨(some 47), .load false 1 (.t 46), some (41, false), [0, 1, 2, 3, 4, 5, 6, 7, 8, 9, 10, 11, 12, 13, 14, 15, 16, 17, 18], []⟩,
        ⟨(some 48), .len false (.t 47), some (41, false), [0, 1, 2, 3, 4, 5, 6, 7, 8, 9, 10, 11, 12, 13, 14, 15, 16, 17, 18, 19], []⟩,
        ⟨(some 49), .faddr 1 (.t 3), some (41, false), [0, 1, 2, 3, 4, 5, 6, 7, 8, 9, 10, 11, 12, 13], []⟩,
        ⟨(some 50), .load false 1 (.t 49), some (41, false), [0, 1, 2, 3, 4, 5, 6, 7, 8, 9, 10, 11, 12, 13, 21], []⟩,
        ⟨(some 51), .mv (.t 5), some (41, false), [0, 1, 2, 3, 4, 5, 6, 7, 8, 9, 10, 11, 12, 13], []⟩,
        ⟨(some 52), .iaddr 2 (.t 50) (.t 51), some (41, false), [0, 1, 2, 3, 4, 5, 6, 7, 8, 9, 10, 11, 12, 13, 21, 22, 23], []⟩,
        ⟨(some 53), .faddr 1 (.t 52), some (41, false), [0, 1, 2, 3, 4, 5, 6, 7, 8, 9, 10, 11, 12, 13, 21, 22, 23, 24], []⟩,
        ⟨(some 54), .load false 1 (.t 53), some (41, false), [0, 1, 2, 3, 4, 5, 6, 7, 8, 9, 10, 11, 12, 13, 21, 22, 23, 24, 25], []⟩,
        ⟨(some 55), .len false (.t 54), some (41, false), [0, 1, 2, 3, 4, 5, 6, 7, 8, 9, 10, 11, 12, 13, 21, 22, 23, 24, 25, 26], []⟩,
        ⟨(some 56), .bin .neq (.t 48) (.t 55), some (41, false), [0, 1, 2, 3, 4, 5, 6, 7, 8, 9, 10, 11, 12, 13, 14, 15, 16, 17, 18, 19, 20, 21, 22, 23, 24, 25, 26, 27], []⟩,
        ⟨(some 57), .pick (.t 41) (.c (.bool true)) (.t 56), none, [0, 1, 2, 3, 4, 5, 6, 7, 8, 9, 10, 11, 12, 13, 14, 15, 16, 17, 18, 19, 20, 21, 22, 23, 24, 25, 26, 27, 28], []⟩])
      (.cond (.t 57)
       (.seq
        (.region [] [⟨(some 4), .mv (.c (.bool false)), none, [], []⟩])
        .ret)
       .skip))
     (.seq
      (.region [2, 3, 5] [⟨(some 6), .mv (.c (.int .i64 0)), none, [], []⟩])
      (.block 2
       (.loop c20_l0)))))
   (.region [2, 3, 5] [⟨(some 26), .mv (.t 5), none, [], []⟩,
     ⟨(some 27), .bin .add (.t 26) (.c (.int .i64 1)), none, [], []⟩,
     ⟨(some 5), .mv (.t 27), none, [], []⟩])))
/-- progeny/progenyref23.SameTables -/
def c20 : CFn := ⟨88, [.t 4],
 (.seq
  (.region [0, 1] [⟨(some 2), .box 24 2 (.t 0), none, [], []⟩,
    ⟨(some 3), .box 24 2 (.t 1), none, [], []⟩,
    ⟨(some 4), .mv (.c (.bool false)), none, [], []⟩])
  (.seq
   (.seq
    (.region [2, 3] [⟨(some 7), .faddr 0 (.t 2), none, [], []⟩,
      ⟨(some 8), .load false 1 (.t 7), none, [], []⟩,
      ⟨(some 9), .faddr 0 (.t 3), none, [], []⟩,
      ⟨(some 10), .load false 1 (.t 9), none, [], []⟩,
      ⟨(some 11), .bin .neq (.t 8) (.t 10), none, [], []⟩,
      ⟨(some 12), .mv (.t 11), none, [], []⟩,
      ⟨(some 13), .faddr 1 (.t 2), some (12, false), [], []⟩,
      ⟨(some 14), .load false 1 (.t 13), some (12, false), [], []⟩,
      ⟨(some 15), .len false (.t 14), some (12, false), [], []⟩,
      ⟨(some 16), .faddr 1 (.t 3), some (12, false), [], []⟩,
      ⟨(some 17), .load false 1 (.t 16), some (12, false), [], []⟩,
      ⟨(some 18), .len false (.t 17), some (12, false), [], []⟩,
      ⟨(some 19), .bin .neq (.t 15) (.t 18), some (12, false), [], []⟩,
      ⟨(some 20), .pick (.t 12) (.c (.bool true)) (.t 19), none, [], []⟩])
    (.cond (.t 20)
     (.seq
      (.region [] [⟨(some 4), .mv (.c (.bool false)), none, [], []⟩])
      .ret)
     .skip))
   (.seq
    (.seq
     (.region [2, 3] [⟨(some 5), .mv (.c (.int .i64 0)), none, [], []⟩])
     (.block 0
      (.loop c20_l1)))
    (.seq
     (.region [] [⟨(some 4), .mv (.c (.bool true)), none, [], []⟩])
     .ret)))), false, false⟩
/-- progeny/fast.Call -/
def c21 : CFn := ⟨29, [.t 6, .t 7],
 (.seq
  (.region [0, 1, 2] [⟨(some 3), .box 24 2 (.t 0), none, [], []⟩,
    ⟨(some 5), .box 37 4 (.t 2), none, [], []⟩,
    ⟨(some 6), .mv (.c (.str ⟨#[]⟩)), none, [], []⟩,
    ⟨(some 7), .mv (.c (.int .i64 0)), none, [], []⟩])
  (.seq
   (.seq
    (.region [1, 3, 5] [⟨(some 11), .load true 2 (.t 3), none, [], []⟩,
      ⟨(some 12), .mv (.t 1), none, [], []⟩,
      ⟨(some 13), .bslice 25 1 [[.nils]] [(0, (.t 12))], none, [], []⟩,
      ⟨(some 14), .call (.c (.fn 43 [])) [(.t 11), (.t 13)] false, none, [], []⟩,
      ⟨(some 8), .mv (.t 14), none, [], []⟩])
    (.seq
     (.region [1, 3, 5, 8] [⟨(some 15), .mv (.t 8), none, [], []⟩,
       ⟨(some 16), .bin .neq (.t 15) (.c (.int .i64 0)), none, [], []⟩])
     (.cond (.t 16)
      (.seq
       (.region [8] [⟨(some 17), .mv (.t 8), none, [], []⟩,
         ⟨(some 6), .mv (.c (.str ⟨#[]⟩)), none, [], []⟩,
         ⟨(some 7), .mv (.t 17), none, [], []⟩])
       .ret)
      .skip)))
   (.seq
    (.region [1, 3, 5] [⟨(some 19), .load true 2 (.t 3), none, [], []⟩,
      ⟨(some 20), .mv (.t 1), none, [], []⟩,
      ⟨(some 21), .call (.c (.fn 44 [])) [(.t 19), (.t 20)] false, none, [], []⟩,
      ⟨(some 18), .mv (.t 21), none, [], []⟩,
      ⟨(some 22), .extract (.t 18) 0, none, [], []⟩,
      ⟨(some 23), .extract (.t 18) 1, none, [], []⟩,
      ⟨(some 9), .box 24 2 (.c (.agg [.int .i64 0, .nils])), none, [], []⟩,
      ⟨none, .store 2 (.t 9) (.t 22), none, [], []⟩,
      ⟨(some 10), .mv (.t 23), none, [], []⟩])
    (.seq
     (.seq
      (.region [5, 9, 10] [⟨(some 24), .mv (.t 10), none, [], []⟩,
        ⟨(some 25), .bin .geq (.t 24) (.c (.int .i64 0)), none, [], []⟩])
      (.cond (.t 25)
       (.seq
        (.region [] [⟨(some 6), .mv (.c (.str ⟨#[70, 69]⟩)), none, [], []⟩,
          ⟨(some 7), .mv (.c (.int .i64 0)), none, [], []⟩])
        .ret)
       .skip))
     (.seq
      (.region [5, 9] [⟨(some 26), .load true 2 (.t 9), none, [], []⟩,
        ⟨(some 27), .load true 4 (.t 5), none, [], []⟩,
        ⟨(some 28), .call (.c (.fn 56 [])) [(.t 26), (.t 27)] false, none, [], []⟩,
        ⟨(some 6), .mv (.t 28), none, [], []⟩,
        ⟨(some 7), .mv (.c (.int .i64 0)), none, [], []⟩])
      .ret))))), false, false⟩
/-- progeny/progenyref23.Call -/
def c22 : CFn := ⟨28, [.t 6, .t 7],
 (.seq
  (.region [0, 1, 2] [⟨(some 3), .box 24 2 (.t 0), none, [], []⟩,
    ⟨(some 5), .box 37 4 (.t 2), none, [], []⟩,
    ⟨(some 6), .mv (.c (.str ⟨#[]⟩)), none, [], []⟩,
    ⟨(some 7), .mv (.c (.int .i64 0)), none, [], []⟩])
  (.seq
   (.seq
    (.region [1, 3, 5] [⟨(some 11), .load true 2 (.t 3), none, [], []⟩,
      ⟨(some 12), .mv (.t 1), none, [], []⟩,
      ⟨(some 13), .call (.c (.fn 45 [])) [(.t 11), (.t 12)] false, none, [], []⟩,
      ⟨(some 8), .mv (.t 13), none, [], []⟩])
    (.seq
     (.region [1, 3, 5, 8] [⟨(some 14), .mv (.t 8), none, [], []⟩,
       ⟨(some 15), .bin .neq (.t 14) (.c (.int .i64 0)), none, [], []⟩])
     (.cond (.t 15)
      (.seq
       (.region [8] [⟨(some 16), .mv (.t 8), none, [], []⟩,
         ⟨(some 6), .mv (.c (.str ⟨#[]⟩)), none, [], []⟩,
         ⟨(some 7), .mv (.t 16), none, [], []⟩])
       .ret)
      .skip)))
   (.seq
    (.region [1, 3, 5] [⟨(some 18), .load true 2 (.t 3), none, [], []⟩,
      ⟨(some 19), .mv (.t 1), none, [], []⟩,
      ⟨(some 20), .call (.c (.fn 46 [])) [(.t 18), (.t 19)] false, none, [], []⟩,
      ⟨(some 17), .mv (.t 20), none, [], []⟩,
      ⟨(some 21), .extract (.t 17) 0, none, [], []⟩,
      ⟨(some 22), .extract (.t 17) 1, none, [], []⟩,
      ⟨(some 9), .box 24 2 (.c (.agg [.int .i64 0, .nils])), none, [], []⟩,
      ⟨none, .store 2 (.t 9) (.t 21), none, [], []⟩,
      ⟨(some 10), .mv (.t 22), none, [], []⟩])
    (.seq
     (.seq
      (.region [5, 9, 10] [⟨(some 23), .mv (.t 10), none, [], []⟩,
        ⟨(some 24), .bin .geq (.t 23) (.c (.int .i64 0)), none, [], []⟩])
      (.cond (.t 24)
       (.seq
        (.region [] [⟨(some 6), .mv (.c (.str ⟨#[70, 69]⟩)), none, [], []⟩,
          ⟨(some 7), .mv (.c (.int .i64 0)), none, [], []⟩])
        .ret)
       .skip))
     (.seq
      (.region [5, 9] [⟨(some 25), .load true 2 (.t 9), none, [], []⟩,
        ⟨(some 26), .load true 4 (.t 5), none, [], []⟩,
        ⟨(some 27), .call (.c (.fn 57 [])) [(.t 25), (.t 26)] false, none, [], []⟩,
        ⟨(some 6), .mv (.t 27), none, [], []⟩,
        ⟨(some 7), .mv (.c (.int .i64 0)), none, [], []⟩])
      .ret))))), false, false⟩
def c23_l0 : CC :=
 (.seq
  (.region [4, 8, 9, 27, 28, 29] [⟨(some 30), .bin .lss (.t 29) (.t 28), none, [], []⟩])
  (.seq
   (.cond (.t 30)
    .skip
    (.exit 0))
   (.seq
    (.block 1
     (.seq
      (.region [4, 8, 9, 27, 28, 29] [⟨(some 31), .iaddr 1 (.t 27) (.t 29), none, [], []⟩,
        ⟨(some 32), .load false 1 (.t 31), none, [], []⟩,
        ⟨(some 11), .mv (.t 32), none, [], []⟩])
      (.seq
       (.region [4, 8, 9, 11, 27, 28, 29] [⟨(some 34), .load true 2 (.t 8), none, [], []⟩,
         ⟨(some 35), .mv (.t 11), none, [], []⟩,
         ⟨(some 36), .call (.c (.fn 44 [])) [(.t 34), (.t 35)] true, none, [], []⟩,
         ⟨(some 33), .mv (.t 36), none, [], []⟩,
         ⟨(some 37), .extract (.t 33) 0, none, [], []⟩,
         ⟨(some 38), .extract (.t 33) 1, none, [], []⟩,
         ⟨(some 12), .box 24 2 (.c (.agg [.int .i64 0, .nils])), none, [], []⟩,
         ⟨none, .store 2 (.t 12) (.t 37), none, [], []⟩,
         ⟨(some 13), .mv (.t 38), none, [], []⟩])
       (.seq
        (.seq
         (.region [4, 8, 9, 12, 13, 27, 28, 29] [⟨(some 39), .mv (.t 13), none, [], []⟩,
           ⟨(some 40), .bin .lss (.t 39) (.c (.int .i64 0)), none, [], []⟩])
         (.cond (.t 40)
          (.region [4, 8, 9, 12, 13, 27, 28, 29] [⟨(some 41), .load true 2 (.t 12), none, [], []⟩,
            ⟨none, .store 2 (.t 8) (.t 41), none, [], []⟩])
          .skip))
        (.region [4, 8, 9, 13, 27, 28, 29] [⟨(some 42), .mv (.t 9), none, [], []⟩,
          ⟨(some 43), .mv (.t 13), none, [], []⟩,
          ⟨(some 44), .bin .lss (.t 43) (.c (.int .i64 0)), none, [], []⟩,
          ⟨(some 45), .bslice 4 1 [[.bool false]] [(0, (.t 44))], none, [], []⟩,
          ⟨(some 46), .app 4 1 1 false (.t 42) (.t 45), none, [], []⟩,
          ⟨(some 9), .mv (.t 46), none, [], []⟩])))))
    (.region [4, 8, 9, 27, 28, 29] [⟨(some 47), .bin .add (.t 29) (.c (.int .i64 1)), none, [], []⟩,
      ⟨(some 29), .mv (.t 47), none, [], []⟩]))))
/-- progeny/fast.Order -/
def c23 : CFn := ⟨50, [.cell 4 true 2, .t 5, .t 6],
 (.seq
  (.region [0, 1] [⟨(some 2), .box 24 2 (.t 0), none, [], []⟩,
    ⟨(some 4), .box 24 2 (.c (.agg [.int .i64 0, .nils])), none, [], []⟩,
    ⟨(some 5), .mv (.c (.nils)), none, [], []⟩,
    ⟨(some 6), .mv (.c (.int .i64 0)), none, [], []⟩])
  (.seq
   (.seq
    (.region [1, 2, 4] [⟨(some 14), .load true 2 (.t 2), none, [], []⟩,
      ⟨(some 15), .mv (.t 1), none, [], []⟩,
      ⟨(some 16), .call (.c (.fn 43 [])) [(.t 14), (.t 15)] false, none, [], []⟩,
      ⟨(some 7), .mv (.t 16), none, [], []⟩])
    (.seq
     (.region [1, 2, 4, 7] [⟨(some 17), .mv (.t 7), none, [], []⟩,
       ⟨(some 18), .bin .neq (.t 17) (.c (.int .i64 0)), none, [], []⟩])
     (.cond (.t 18)
      (.seq
       (.region [4, 7] [⟨(some 19), .build [.int .i64 0, .nils] [], none, [], []⟩,
         ⟨(some 20), .mv (.t 7), none, [], []⟩,
         ⟨none, .store 2 (.t 4) (.t 19), none, [], []⟩,
         ⟨(some 5), .mv (.c (.nils)), none, [], []⟩,
         ⟨(some 6), .mv (.t 20), none, [], []⟩])
       .ret)
      .skip)))
   (.seq
    (.seq
     (.region [1, 2, 4] [⟨(some 21), .mv (.t 1), none, [], []⟩,
       ⟨(some 22), .len false (.t 21), none, [], []⟩,
       ⟨(some 23), .bin .gtr (.t 22) (.c (.int .i64 20)), none, [], []⟩])
     (.cond (.t 23)
      (.seq
       (.region [4] [⟨(some 24), .build [.int .i64 0, .nils] [], none, [], []⟩,
         ⟨none, .store 2 (.t 4) (.t 24), none, [], []⟩,
         ⟨(some 5), .mv (.c (.nils)), none, [], []⟩,
         ⟨(some 6), .mv (.c (.int .i64 2)), none, [], []⟩])
       .ret)
      .skip))
    (.seq
     (.region [1, 2, 4] [⟨(some 25), .load true 2 (.t 2), none, [], []⟩,
       ⟨(some 26), .call (.c (.fn 58 [])) [(.t 25)] true, none, [], []⟩,
       ⟨(some 8), .box 24 2 (.c (.agg [.int .i64 0, .nils])), none, [], []⟩,
       ⟨none, .store 2 (.t 8) (.t 26), none, [], []⟩])
     (.seq
      (.region [1, 4, 8] [⟨(some 9), .mv (.c (.nils)), none, [], []⟩])
      (.seq
       (.seq
        (.region [1, 4, 8, 9] [⟨(some 27), .mv (.t 1), none, [], []⟩,
          ⟨(some 28), .len false (.t 27), none, [], []⟩,
          ⟨(some 29), .mv (.c (.int .i64 0)), none, [], []⟩])
        (.block 0
         (.loop c23_l0)))
       (.seq
        (.region [4, 8, 9] [⟨(some 48), .load true 2 (.t 8), none, [], []⟩,
          ⟨(some 49), .mv (.t 9), none, [], []⟩,
          ⟨none, .store 2 (.t 4) (.t 48), none, [], []⟩,
          ⟨(some 5), .mv (.t 49), none, [], []⟩,
          ⟨(some 6), .mv (.c (.int .i64 0)), none, [], []⟩])
        .ret))))))), false, false⟩
def c24_l0 : CC :=
 (.seq
  (.seq
   (.region [1, 2, 4, 7] [⟨(some 17), .mv (.t 7), none, [], []⟩,
     ⟨(some 18), .mv (.t 1), none, [], []⟩,
     ⟨(some 19), .len false (.t 18), none, [], []⟩,
     ⟨(some 20), .bin .lss (.t 17) (.t 19), none, [], []⟩])
   (.cond (.t 20)
    .skip
    (.exit 0)))
  (.seq
   (.block 1
    (.seq
     (.region [1, 2, 4, 7] [⟨(some 23), .mv (.t 1), none, [], []⟩,
       ⟨(some 24), .mv (.t 7), none, [], []⟩,
       ⟨(some 25), .iaddr 1 (.t 23) (.t 24), none, [], []⟩,
       ⟨(some 26), .load false 1 (.t 25), none, [], []⟩,
       ⟨(some 27), .call (.c (.fn 19 [])) [(.t 26)] false, none, [], []⟩,
       ⟨(some 28), .un .not (.t 27), none, [], []⟩])
     (.cond (.t 28)
      (.seq
       (.region [4] [⟨(some 29), .build [.int .i64 0, .nils] [], none, [], []⟩,
         ⟨none, .store 2 (.t 4) (.t 29), none, [], []⟩,
         ⟨(some 5), .mv (.c (.nils)), none, [], []⟩,
         ⟨(some 6), .mv (.c (.int .i64 211)), none, [], []⟩])
       .ret)
      .skip)))
   (.region [1, 2, 4, 7] [⟨(some 21), .mv (.t 7), none, [], []⟩,
     ⟨(some 22), .bin .add (.t 21) (.c (.int .i64 1)), none, [], []⟩,
     ⟨(some 7), .mv (.t 22), none, [], []⟩])))
def c24_l1 : CC :=
 (.seq
  (.seq
   (.region [1, 4, 8, 9, 10] [⟨(some 36), .mv (.t 10), none, [], []⟩,
     ⟨(some 37), .mv (.t 1), none, [], []⟩,
     ⟨(some 38), .len false (.t 37), none, [], []⟩,
     ⟨(some 39), .bin .lss (.t 36) (.t 38), none, [], []⟩])
   (.cond (.t 39)
    .skip
    (.exit 2)))
  (.seq
   (.block 3
    (.seq
     (.draw [1, 4, 8, 9, 10] [⟨(some 43), .load true 2 (.t 8), none, [], [10]⟩,
       ⟨(some 44), .mv (.t 1), none, [], []⟩,
       ⟨(some 45), .mv (.t 10), none, [], []⟩,
       ⟨(some 46), .iaddr 1 (.t 44) (.t 45), none, [1, 2], []⟩,
       ⟨(some 47), .load false 1 (.t 46), none, [1, 2, 3], [10]⟩,
       ⟨(some 48), .qcall (.c (.fn 15 [])) [(.t 43), (.t 47)], none, [0, 1, 2, 3, 4], [10]⟩,
       ⟨(some 42), .mv (.t 48), none, [0, 1, 2, 3, 4, 5], []⟩,
       ⟨(some 49), .extract (.t 42) 0, none, [0, 1, 2, 3, 4, 5, 6], []⟩,
       ⟨(some 50), .extract (.t 42) 1, none, [0, 1, 2, 3, 4, 5, 6], []⟩,
       ⟨(some 11), .box 24 2 (.c (.agg [.int .i64 0, .nils])), none, [], []⟩,
       ⟨none, .store 2 (.t 11) (.t 49), none, [0, 1, 2, 3, 4, 5, 6, 7, 9], []⟩,
       ⟨(some 12), .mv (.t 50), none, [0, 1, 2, 3, 4, 5, 6, 7, 8, 9, 10], []⟩])
     (.seq
      (.seq
       (.region [1, 4, 8, 9, 10, 11, 12] [⟨(some 51), .mv (.t 12), none, [], []⟩,
         ⟨(some 52), .bin .eql (.t 51) (.c (.int .i64 0)), none, [], []⟩])
       (.cond (.t 52)
        (.region [1, 4, 8, 9, 10, 11, 12] [⟨(some 53), .load true 2 (.t 11), none, [], []⟩,
          ⟨none, .store 2 (.t 8) (.t 53), none, [], []⟩])
        .skip))
      (.region [1, 4, 8, 9, 10, 12] [⟨(some 54), .mv (.t 9), none, [], []⟩,
        ⟨(some 55), .mv (.t 12), none, [], []⟩,
        ⟨(some 56), .bin .eql (.t 55) (.c (.int .i64 0)), none, [], []⟩,
        ⟨(some 57), .bslice 4 1 [[.bool false]] [(0, (.t 56))], none, [], []⟩,
        ⟨(some 58), .app 4 1 1 false (.t 54) (.t 57), none, [], []⟩,
        ⟨(some 9), .mv (.t 58), none, [], []⟩]))))
   (.region [1, 4, 8, 9, 10] [⟨(some 40), .mv (.t 10), none, [], []⟩,
     ⟨(some 41), .bin .add (.t 40) (.c (.int .i64 1)), none, [], []⟩,
     ⟨(some 10), .mv (.t 41), none, [], []⟩])))
/-- progeny/progenyref23.Order -/
def c24 : CFn := ⟨61, [.cell 4 true 2, .t 5, .t 6],
 (.seq
  (.region [0, 1] [⟨(some 2), .box 24 2 (.t 0), none, [], []⟩,
    ⟨(some 4), .box 24 2 (.c (.agg [.int .i64 0, .nils])), none, [], []⟩,
    ⟨(some 5), .mv (.c (.nils)), none, [], []⟩,
    ⟨(some 6), .mv (.c (.int .i64 0)), none, [], []⟩])
  (.seq
   (.seq
    (.region [1, 2, 4] [⟨(some 13), .load true 2 (.t 2), none, [], []⟩,
      ⟨(some 14), .call (.c (.fn 17 [])) [(.t 13)] false, none, [], []⟩,
      ⟨(some 15), .un .not (.t 14), none, [], []⟩])
    (.cond (.t 15)
     (.seq
      (.region [4] [⟨(some 16), .build [.int .i64 0, .nils] [], none, [], []⟩,
        ⟨none, .store 2 (.t 4) (.t 16), none, [], []⟩,
        ⟨(some 5), .mv (.c (.nils)), none, [], []⟩,
        ⟨(some 6), .mv (.c (.int .i64 210)), none, [], []⟩])
      .ret)
     .skip))
   (.seq
    (.seq
     (.region [1, 2, 4] [⟨(some 7), .mv (.c (.int .i64 0)), none, [], []⟩])
     (.block 0
      (.loop c24_l0)))
    (.seq
     (.seq
      (.region [1, 2, 4] [⟨(some 30), .mv (.t 1), none, [], []⟩,
        ⟨(some 31), .len false (.t 30), none, [], []⟩,
        ⟨(some 32), .bin .gtr (.t 31) (.c (.int .i64 20)), none, [], []⟩])
      (.cond (.t 32)
       (.seq
        (.region [4] [⟨(some 33), .build [.int .i64 0, .nils] [], none, [], []⟩,
          ⟨none, .store 2 (.t 4) (.t 33), none, [], []⟩,
          ⟨(some 5), .mv (.c (.nils)), none, [], []⟩,
          ⟨(some 6), .mv (.c (.int .i64 2)), none, [], []⟩])
        .ret)
       .skip))
     (.seq
      (.region [1, 2, 4] [⟨(some 34), .load true 2 (.t 2), none, [], []⟩,
        ⟨(some 35), .call (.c (.fn 59 [])) [(.t 34)] true, none, [], []⟩,
        ⟨(some 8), .box 24 2 (.c (.agg [.int .i64 0, .nils])), none, [], []⟩,
        ⟨none, .store 2 (.t 8) (.t 35), none, [], []⟩])
      (.seq
       (.region [1, 4, 8] [⟨(some 9), .mv (.c (.nils)), none, [], []⟩])
       (.seq
        (.seq
         (.region [1, 4, 8, 9] [⟨(some 10), .mv (.c (.int .i64 0)), none, [], []⟩])
         (.block 2
          (.loop c24_l1)))
        (.seq
         (.region [4, 8, 9] [⟨(some 59), .load true 2 (.t 8), none, [], []⟩,
           ⟨(some 60), .mv (.t 9), none, [], []⟩,
           ⟨none, .store 2 (.t 4) (.t 59), none, [], []⟩,
           ⟨(some 5), .mv (.t 60), none, [], []⟩,
           ⟨(some 6), .mv (.c (.int .i64 0)), none, [], []⟩])
         .ret)))))))), false, false⟩
def c25_l0 : CC :=
 (.seq
  (.region [1, 6, 23, 24, 25] [⟨(some 26), .bin .lss (.t 25) (.t 24), none, [], []⟩])
  (.seq
   (.cond (.t 26)
    .skip
    (.exit 1))
   (.seq
    (.block 2
     (.seq
      (.region [1, 6, 23, 24, 25] [⟨(some 27), .iaddr 2 (.t 23) (.t 25), none, [], []⟩,
        ⟨(some 28), .load true 2 (.t 27), none, [], []⟩,
        ⟨(some 8), .box 76 2 (.c (.agg [.str ⟨#[]⟩, .nils])), none, [], []⟩,
        ⟨none, .store 2 (.t 8) (.t 28), none, [], []⟩])
      (.region [1, 6, 8, 23, 24, 25] [⟨(some 29), .mv (.t 6), none, [], []⟩,
        ⟨(some 30), .faddr 1 (.t 8), none, [], []⟩,
        ⟨(some 31), .load false 1 (.t 30), none, [], []⟩,
        ⟨(some 32), .mv (.t 1), none, [], []⟩,
        ⟨(some 33), .iaddr 1 (.t 31) (.t 32), none, [], []⟩,
        ⟨(some 34), .load false 1 (.t 33), none, [], []⟩,
        ⟨(some 35), .bin .add (.t 29) (.t 34), none, [], []⟩,
        ⟨(some 6), .mv (.t 35), none, [], []⟩])))
    (.region [1, 6, 23, 24, 25] [⟨(some 36), .bin .add (.t 25) (.c (.int .i64 1)), none, [], []⟩,
      ⟨(some 25), .mv (.t 36), none, [], []⟩]))))
/-- progeny/fast.Total -/
def c25 : CFn := ⟨38, [.t 4, .t 5],
 (.seq
  (.region [0, 1] [⟨(some 2), .box 24 2 (.t 0), none, [], []⟩,
    ⟨(some 4), .mv (.c (.int .i64 0)), none, [], []⟩,
    ⟨(some 5), .mv (.c (.int .i64 0)), none, [], []⟩])
  (.seq
   (.block 0
    (.seq
     (.region [1, 2] [⟨(some 10), .load true 2 (.t 2), none, [], []⟩,
       ⟨(some 11), .call (.c (.fn 16 [])) [(.t 10)] false, none, [], []⟩,
       ⟨(some 12), .un .not (.t 11), none, [], []⟩,
       ⟨(some 9), .mv (.t 12), none, [], []⟩])
     (.cond (.t 9)
      (.seq
       (.region [] [⟨(some 4), .mv (.c (.int .i64 0)), none, [], []⟩,
         ⟨(some 5), .mv (.c (.int .i64 210)), none, [], []⟩])
       .ret)
      (.seq
       (.region [1, 2] [⟨(some 14), .mv (.t 1), none, [], []⟩,
         ⟨(some 15), .bin .lss (.t 14) (.c (.int .i64 0)), none, [], []⟩,
         ⟨(some 16), .mv (.t 15), none, [], []⟩,
         ⟨(some 17), .mv (.t 1), some (16, false), [], []⟩,
         ⟨(some 18), .faddr 0 (.t 2), some (16, false), [], []⟩,
         ⟨(some 19), .load false 1 (.t 18), some (16, false), [], []⟩,
         ⟨(some 20), .bin .geq (.t 17) (.t 19), some (16, false), [], []⟩,
         ⟨(some 21), .pick (.t 16) (.c (.bool true)) (.t 20), none, [], []⟩,
         ⟨(some 13), .mv (.t 21), none, [], []⟩])
       (.cond (.t 13)
        (.seq
         (.region [] [⟨(some 4), .mv (.c (.int .i64 0)), none, [], []⟩,
           ⟨(some 5), .mv (.c (.int .i64 2)), none, [], []⟩])
         .ret)
        .skip)))))
   (.seq
    (.region [1, 2] [⟨(some 6), .mv (.c (.int .i64 0)), none, [], []⟩])
    (.seq
     (.seq
      (.region [1, 2, 6] [⟨(some 22), .faddr 1 (.t 2), none, [], []⟩,
        ⟨(some 23), .load false 1 (.t 22), none, [], []⟩,
        ⟨(some 24), .len false (.t 23), none, [], []⟩,
        ⟨(some 25), .mv (.c (.int .i64 0)), none, [], []⟩])
      (.block 1
       (.loop c25_l0)))
     (.seq
      (.region [6] [⟨(some 37), .mv (.t 6), none, [], []⟩,
        ⟨(some 4), .mv (.t 37), none, [], []⟩,
        ⟨(some 5), .mv (.c (.int .i64 0)), none, [], []⟩])
      .ret))))), false, false⟩
def c26_l0 : CC :=
 (.seq
  (.seq
   (.region [1, 2, 6, 7] [⟨(some 21), .mv (.t 7), none, [], []⟩,
     ⟨(some 22), .faddr 1 (.t 2), none, [], []⟩,
     ⟨(some 23), .load false 1 (.t 22), none, [], []⟩,
     ⟨(some 24), .len false (.t 23), none, [], []⟩,
     ⟨(some 25), .bin .lss (.t 21) (.t 24), none, [], []⟩])
   (.cond (.t 25)
    .skip
    (.exit 1)))
  (.seq
   (.block 2
    (.region [1, 2, 6, 7] [⟨(some 28), .mv (.t 6), none, [], []⟩,
      ⟨(some 29), .faddr 1 (.t 2), none, [], []⟩,
      ⟨(some 30), .load false 1 (.t 29), none, [], []⟩,
      ⟨(some 31), .mv (.t 7), none, [], []⟩,
      ⟨(some 32), .iaddr 2 (.t 30) (.t 31), none, [], []⟩,
      ⟨(some 33), .faddr 1 (.t 32), none, [], []⟩,
      ⟨(some 34), .load false 1 (.t 33), none, [], []⟩,
      ⟨(some 35), .mv (.t 1), none, [], []⟩,
      ⟨(some 36), .iaddr 1 (.t 34) (.t 35), none, [], []⟩,
      ⟨(some 37), .load false 1 (.t 36), none, [], []⟩,
      ⟨(some 38), .bin .add (.t 28) (.t 37), none, [], []⟩,
      ⟨(some 6), .mv (.t 38), none, [], []⟩]))
   (.region [1, 2, 6, 7] [⟨(some 26), .mv (.t 7), none, [], []⟩,
     ⟨(some 27), .bin .add (.t 26) (.c (.int .i64 1)), none, [], []⟩,
     ⟨(some 7), .mv (.t 27), none, [], []⟩])))
/-- progeny/progenyref23.Total -/
def c26 : CFn := ⟨40, [.t 4, .t 5],
 (.seq
  (.region [0, 1] [⟨(some 2), .box 24 2 (.t 0), none, [], []⟩,
    ⟨(some 4), .mv (.c (.int .i64 0)), none, [], []⟩,
    ⟨(some 5), .mv (.c (.int .i64 0)), none, [], []⟩])
  (.seq
   (.block 0
    (.seq
     (.region [1, 2] [⟨(some 9), .load true 2 (.t 2), none, [], []⟩,
       ⟨(some 10), .call (.c (.fn 17 [])) [(.t 9)] false, none, [], []⟩,
       ⟨(some 11), .un .not (.t 10), none, [], []⟩,
       ⟨(some 8), .mv (.t 11), none, [], []⟩])
     (.cond (.t 8)
      (.seq
       (.region [] [⟨(some 4), .mv (.c (.int .i64 0)), none, [], []⟩,
         ⟨(some 5), .mv (.c (.int .i64 210)), none, [], []⟩])
       .ret)
      (.seq
       (.region [1, 2] [⟨(some 13), .mv (.t 1), none, [], []⟩,
         ⟨(some 14), .bin .lss (.t 13) (.c (.int .i64 0)), none, [], []⟩,
         ⟨(some 15), .mv (.t 14), none, [], []⟩,
         ⟨(some 16), .mv (.t 1), some (15, false), [], []⟩,
         ⟨(some 17), .faddr 0 (.t 2), some (15, false), [], []⟩,
         ⟨(some 18), .load false 1 (.t 17), some (15, false), [], []⟩,
         ⟨(some 19), .bin .geq (.t 16) (.t 18), some (15, false), [], []⟩,
         ⟨(some 20), .pick (.t 15) (.c (.bool true)) (.t 19), none, [], []⟩,
         ⟨(some 12), .mv (.t 20), none, [], []⟩])
       (.cond (.t 12)
        (.seq
         (.region [] [⟨(some 4), .mv (.c (.int .i64 0)), none, [], []⟩,
           ⟨(some 5), .mv (.c (.int .i64 2)), none, [], []⟩])
         .ret)
        .skip)))))
   (.seq
    (.region [1, 2] [⟨(some 6), .mv (.c (.int .i64 0)), none, [], []⟩])
    (.seq
     (.seq
      (.region [1, 2, 6] [⟨(some 7), .mv (.c (.int .i64 0)), none, [], []⟩])
      (.block 1
       (.loop c26_l0)))
     (.seq
      (.region [6] [⟨(some 39), .mv (.t 6), none, [], []⟩,
        ⟨(some 4), .mv (.t 39), none, [], []⟩,
        ⟨(some 5), .mv (.c (.int .i64 0)), none, [], []⟩])
      .ret))))), false, false⟩
def c27_l0 : CC :=
 (.seq
  (.seq
   (.region [0, 1, 5] [⟨(some 11), .mv (.t 5), none, [], []⟩,
     ⟨(some 12), .mv (.t 0), none, [], []⟩,
     ⟨(some 13), .len false (.t 12), none, [], []⟩,
     ⟨(some 14), .bin .lss (.t 11) (.t 13), none, [], []⟩])
   (.cond (.t 14)
    .skip
    (.exit 0)))
  (.seq
   (.block 1
    (.seq
     (.draw [0, 1, 5] [⟨(some 17), .mv (.t 0), none, [], []⟩,
       ⟨(some 18), .mv (.t 5), none, [], []⟩,
       ⟨(some 19), .iaddr 1 (.t 17) (.t 18), none, [0, 1], []⟩,
       ⟨(some 20), .load false 1 (.t 19), none, [0, 1, 2], []⟩,
       ⟨(some 21), .mv (.t 1), none, [], []⟩,
       ⟨(some 22), .mv (.t 5), none, [], []⟩,
       ⟨(some 23), .iaddr 1 (.t 21) (.t 22), none, [4, 5], []⟩,
       ⟨(some 24), .load false 1 (.t 23), none, [4, 5, 6], []⟩,
       ⟨(some 25), .eqb true (.t 20) (.t 24), none, [0, 1, 2, 3, 4, 5, 6, 7], []⟩])
     (.cond (.t 25)
      (.seq
       (.region [] [⟨(some 4), .mv (.c (.bool false)), none, [], []⟩])
       .ret)
      .skip)))
   (.region [0, 1, 5] [⟨(some 15), .mv (.t 5), none, [], []⟩,
     ⟨(some 16), .bin .add (.t 15) (.c (.int .i64 1)), none, [], []⟩,
     ⟨(some 5), .mv (.t 16), none, [], []⟩])))
/-- progeny/progenylaw23.sameBools -/
def c27 : CFn := ⟨26, [.t 4],
 (.seq
  (.region [0, 1] [⟨(some 4), .mv (.c (.bool false)), none, [], []⟩])
  (.seq
   (.seq
    (.region [0, 1] [⟨(some 6), .mv (.t 0), none, [], []⟩,
      ⟨(some 7), .len false (.t 6), none, [], []⟩,
      ⟨(some 8), .mv (.t 1), none, [], []⟩,
      ⟨(some 9), .len false (.t 8), none, [], []⟩,
      ⟨(some 10), .bin .neq (.t 7) (.t 9), none, [], []⟩])
    (.cond (.t 10)
     (.seq
      (.region [] [⟨(some 4), .mv (.c (.bool false)), none, [], []⟩])
      .ret)
     .skip))
   (.seq
    (.seq
     (.region [0, 1] [⟨(some 5), .mv (.c (.int .i64 0)), none, [], []⟩])
     (.block 0
      (.loop c27_l0)))
    (.seq
     (.region [] [⟨(some 4), .mv (.c (.bool true)), none, [], []⟩])
     .ret)))), false, false⟩
/-- progeny/fast.Moves -/
def c28 : CFn := ⟨48, [.t 8, .t 9],
 (.seq
  (.region [0, 1, 2, 3] [⟨(some 8), .mv (.c (.nils)), none, [], []⟩,
    ⟨(some 9), .mv (.c (.int .i64 0)), none, [], []⟩])
  (.seq
   (.seq
    (.region [0, 1, 2, 3] [⟨(some 10), .mv (.t 0), none, [], []⟩,
      ⟨(some 11), .call (.c (.fn 47 [])) [(.t 10)] false, none, [], []⟩,
      ⟨(some 12), .un .not (.t 11), none, [], []⟩,
      ⟨(some 13), .mv (.t 12), none, [], []⟩,
      ⟨(some 14), .mv (.t 1), some (13, false), [], []⟩,
      ⟨(some 15), .call (.c (.fn 47 [])) [(.t 14)] false, some (13, false), [], []⟩,
      ⟨(some 16), .un .not (.t 15), some (13, false), [], []⟩,
      ⟨(some 17), .pick (.t 13) (.c (.bool true)) (.t 16), none, [], []⟩,
      ⟨(some 18), .mv (.t 17), none, [], []⟩,
      ⟨(some 19), .mv (.t 2), some (18, false), [], []⟩,
      ⟨(some 20), .bin .lss (.t 19) (.c (.int .i64 0)), some (18, false), [], []⟩,
      ⟨(some 21), .pick (.t 18) (.c (.bool true)) (.t 20), none, [], []⟩,
      ⟨(some 22), .mv (.t 21), none, [], []⟩,
      ⟨(some 23), .mv (.t 2), some (22, false), [], []⟩,
      ⟨(some 24), .bin .geq (.t 23) (.c (.int .i64 4)), some (22, false), [], []⟩,
      ⟨(some 25), .pick (.t 22) (.c (.bool true)) (.t 24), none, [], []⟩,
      ⟨(some 26), .mv (.t 25), none, [], []⟩,
      ⟨(some 27), .mv (.t 3), some (26, false), [], []⟩,
      ⟨(some 28), .bin .lss (.t 27) (.c (.int .i64 0)), some (26, false), [], []⟩,
      ⟨(some 29), .pick (.t 26) (.c (.bool true)) (.t 28), none, [], []⟩,
      ⟨(some 30), .mv (.t 29), none, [], []⟩,
      ⟨(some 31), .mv (.t 3), some (30, false), [], []⟩,
      ⟨(some 32), .bin .gtr (.t 31) (.c (.int .i64 1000000000)), some (30, false), [], []⟩,
      ⟨(some 33), .pick (.t 30) (.c (.bool true)) (.t 32), none, [], []⟩])
    (.cond (.t 33)
     (.seq
      (.region [] [⟨(some 8), .mv (.c (.nils)), none, [], []⟩,
        ⟨(some 9), .mv (.c (.int .i64 2)), none, [], []⟩])
      .ret)
     .skip))
   (.seq
    (.region [0, 1, 2, 3] [⟨(some 34), .mv (.t 0), none, [], []⟩,
      ⟨(some 35), .mv (.t 2), none, [], []⟩,
      ⟨(some 36), .mv (.t 3), none, [], []⟩,
      ⟨(some 37), .bin .sub (.t 36) (.c (.int .i64 1)), none, [], []⟩,
      ⟨(some 38), .build [.str ⟨#[]⟩, .int .i64 0, .str ⟨#[]⟩, .int .i64 0] [(0, 1, (.t 34)), (1, 1, (.t 35)), (2, 1, (.c (.str ⟨#[86, 62]⟩))), (3, 1, (.t 37))], none, [], []⟩,
      ⟨(some 39), .mv (.t 0), none, [], []⟩,
      ⟨(some 40), .mv (.t 2), none, [], []⟩,
      ⟨(some 41), .mv (.t 3), none, [], []⟩,
      ⟨(some 42), .build [.str ⟨#[]⟩, .int .i64 0, .str ⟨#[]⟩, .int .i64 0] [(0, 1, (.t 39)), (1, 1, (.t 40)), (2, 1, (.c (.str ⟨#[45]⟩))), (3, 1, (.t 41))], none, [], []⟩,
      ⟨(some 43), .mv (.t 1), none, [], []⟩,
      ⟨(some 44), .mv (.t 2), none, [], []⟩,
      ⟨(some 45), .mv (.t 3), none, [], []⟩,
      ⟨(some 46), .build [.str ⟨#[]⟩, .int .i64 0, .str ⟨#[]⟩, .int .i64 0] [(0, 1, (.t 43)), (1, 1, (.t 44)), (2, 1, (.c (.str ⟨#[43]⟩))), (3, 1, (.t 45))], none, [], []⟩,
      ⟨(some 47), .bslice 37 4 [[.str ⟨#[]⟩, .int .i64 0, .str ⟨#[]⟩, .int .i64 0], [.str ⟨#[]⟩, .int .i64 0, .str ⟨#[]⟩, .int .i64 0], [.str ⟨#[]⟩, .int .i64 0, .str ⟨#[]⟩, .int .i64 0]] [(0, (.t 38)), (1, (.t 42)), (2, (.t 46))], none, [], []⟩,
      ⟨(some 8), .mv (.t 47), none, [], []⟩,
      ⟨(some 9), .mv (.c (.int .i64 0)), none, [], []⟩])
    .ret))), false, false⟩
/-- progeny/progenyref23.Moves -/
def c29 : CFn := ⟨58, [.t 8, .t 9],
 (.seq
  (.region [0, 1, 2, 3] [⟨(some 8), .mv (.c (.nils)), none, [], []⟩,
    ⟨(some 9), .mv (.c (.int .i64 0)), none, [], []⟩])
  (.seq
   (.seq
    (.region [0, 1, 2, 3] [⟨(some 10), .mv (.t 0), none, [], []⟩,
      ⟨(some 11), .len true (.t 10), none, [], []⟩,
      ⟨(some 12), .bin .lss (.t 11) (.c (.int .i64 1)), none, [], []⟩,
      ⟨(some 13), .mv (.t 12), none, [], []⟩,
      ⟨(some 14), .mv (.t 0), some (13, false), [], []⟩,
      ⟨(some 15), .len true (.t 14), some (13, false), [], []⟩,
      ⟨(some 16), .bin .gtr (.t 15) (.c (.int .i64 8)), some (13, false), [], []⟩,
      ⟨(some 17), .pick (.t 13) (.c (.bool true)) (.t 16), none, [], []⟩,
      ⟨(some 18), .mv (.t 17), none, [], []⟩,
      ⟨(some 19), .mv (.t 1), some (18, false), [], []⟩,
      ⟨(some 20), .len true (.t 19), some (18, false), [], []⟩,
      ⟨(some 21), .bin .lss (.t 20) (.c (.int .i64 1)), some (18, false), [], []⟩,
      ⟨(some 22), .pick (.t 18) (.c (.bool true)) (.t 21), none, [], []⟩,
      ⟨(some 23), .mv (.t 22), none, [], []⟩,
      ⟨(some 24), .mv (.t 1), some (23, false), [], []⟩,
      ⟨(some 25), .len true (.t 24), some (23, false), [], []⟩,
      ⟨(some 26), .bin .gtr (.t 25) (.c (.int .i64 8)), some (23, false), [], []⟩,
      ⟨(some 27), .pick (.t 23) (.c (.bool true)) (.t 26), none, [], []⟩,
      ⟨(some 28), .mv (.t 27), none, [], []⟩,
      ⟨(some 29), .mv (.t 2), some (28, false), [], []⟩,
      ⟨(some 30), .bin .lss (.t 29) (.c (.int .i64 0)), some (28, false), [], []⟩,
      ⟨(some 31), .pick (.t 28) (.c (.bool true)) (.t 30), none, [], []⟩,
      ⟨(some 32), .mv (.t 31), none, [], []⟩,
      ⟨(some 33), .mv (.t 2), some (32, false), [], []⟩,
      ⟨(some 34), .bin .gtr (.t 33) (.c (.int .i64 3)), some (32, false), [], []⟩,
      ⟨(some 35), .pick (.t 32) (.c (.bool true)) (.t 34), none, [], []⟩,
      ⟨(some 36), .mv (.t 35), none, [], []⟩,
      ⟨(some 37), .mv (.t 3), some (36, false), [], []⟩,
      ⟨(some 38), .bin .lss (.t 37) (.c (.int .i64 0)), some (36, false), [], []⟩,
      ⟨(some 39), .pick (.t 36) (.c (.bool true)) (.t 38), none, [], []⟩,
      ⟨(some 40), .mv (.t 39), none, [], []⟩,
      ⟨(some 41), .mv (.t 3), some (40, false), [], []⟩,
      ⟨(some 42), .bin .gtr (.t 41) (.c (.int .i64 1000000000)), some (40, false), [], []⟩,
      ⟨(some 43), .pick (.t 40) (.c (.bool true)) (.t 42), none, [], []⟩])
    (.cond (.t 43)
     (.seq
      (.region [] [⟨(some 8), .mv (.c (.nils)), none, [], []⟩,
        ⟨(some 9), .mv (.c (.int .i64 2)), none, [], []⟩])
      .ret)
     .skip))
   (.seq
    (.region [0, 1, 2, 3] [⟨(some 44), .mv (.t 0), none, [], []⟩,
      ⟨(some 45), .mv (.t 2), none, [], []⟩,
      ⟨(some 46), .mv (.t 3), none, [], []⟩,
      ⟨(some 47), .bin .sub (.t 46) (.c (.int .i64 1)), none, [], []⟩,
      ⟨(some 48), .build [.str ⟨#[]⟩, .int .i64 0, .str ⟨#[]⟩, .int .i64 0] [(0, 1, (.t 44)), (1, 1, (.t 45)), (2, 1, (.c (.str ⟨#[86, 62]⟩))), (3, 1, (.t 47))], none, [], []⟩,
      ⟨(some 49), .mv (.t 0), none, [], []⟩,
      ⟨(some 50), .mv (.t 2), none, [], []⟩,
      ⟨(some 51), .mv (.t 3), none, [], []⟩,
      ⟨(some 52), .build [.str ⟨#[]⟩, .int .i64 0, .str ⟨#[]⟩, .int .i64 0] [(0, 1, (.t 49)), (1, 1, (.t 50)), (2, 1, (.c (.str ⟨#[45]⟩))), (3, 1, (.t 51))], none, [], []⟩,
      ⟨(some 53), .mv (.t 1), none, [], []⟩,
      ⟨(some 54), .mv (.t 2), none, [], []⟩,
      ⟨(some 55), .mv (.t 3), none, [], []⟩,
      ⟨(some 56), .build [.str ⟨#[]⟩, .int .i64 0, .str ⟨#[]⟩, .int .i64 0] [(0, 1, (.t 53)), (1, 1, (.t 54)), (2, 1, (.c (.str ⟨#[43]⟩))), (3, 1, (.t 55))], none, [], []⟩,
      ⟨(some 57), .bslice 37 4 [[.str ⟨#[]⟩, .int .i64 0, .str ⟨#[]⟩, .int .i64 0], [.str ⟨#[]⟩, .int .i64 0, .str ⟨#[]⟩, .int .i64 0], [.str ⟨#[]⟩, .int .i64 0, .str ⟨#[]⟩, .int .i64 0]] [(0, (.t 48)), (1, (.t 52)), (2, (.t 56))], none, [], []⟩,
      ⟨(some 8), .mv (.t 57), none, [], []⟩,
      ⟨(some 9), .mv (.c (.int .i64 0)), none, [], []⟩])
    .ret))), false, false⟩
def c30_l0 : CC :=
 (.seq
  (.region [1, 6, 23, 24] [⟨(some 25), .bin .lss (.t 24) (.t 23), none, [], []⟩])
  (.seq
   (.cond (.t 25)
    .skip
    (.exit 0))
   (.seq
    (.block 1
     (.draw [1, 6, 23, 24] [⟨(some 26), .mv (.t 6), none, [], []⟩,
       ⟨(some 27), .mv (.t 6), none, [], []⟩,
       ⟨(some 28), .nilck (.t 27), none, [1], []⟩,
       ⟨(some 29), .faddr 0 (.t 28), none, [1, 2], []⟩,
       ⟨(some 30), .load false 1 (.t 29), none, [1, 2, 3], [7, 8]⟩,
       ⟨(some 31), .mv (.t 1), none, [], []⟩,
       ⟨(some 32), .mks 96 2 24 [.str ⟨#[]⟩, .bool false] (.t 31) (.t 31), none, [5], []⟩,
       ⟨(some 33), .bslice 88 1 [[.nils]] [(0, (.t 32))], none, [5, 6], []⟩,
       ⟨(some 34), .app 88 1 24 false (.t 30) (.t 33), none, [1, 2, 3, 4, 5, 6, 7], []⟩,
       ⟨(some 35), .nilck (.t 26), none, [0, 1, 2, 3, 4, 5, 6, 7, 8], []⟩,
       ⟨(some 36), .faddr 0 (.t 35), none, [0, 1, 2, 3, 4, 5, 6, 7, 8, 9], []⟩,
       ⟨none, .store 1 (.t 36) (.t 34), none, [0, 1, 2, 3, 4, 5, 6, 7, 8, 9, 10], []⟩]))
    (.region [1, 6, 23, 24] [⟨(some 37), .bin .add (.t 24) (.c (.int .i64 1)), none, [], []⟩,
      ⟨(some 24), .mv (.t 37), none, [], []⟩]))))
/-- progeny/fast.NewArea -/
def c30 : CFn := ⟨39, [.t 4, .t 5],
 (.seq
  (.region [0, 1] [⟨(some 4), .mv (.c (.nilptr)), none, [], []⟩,
    ⟨(some 5), .mv (.c (.int .i64 0)), none, [], []⟩])
  (.seq
   (.seq
    (.region [0, 1] [⟨(some 7), .mv (.t 0), none, [], []⟩,
      ⟨(some 8), .bin .lss (.t 7) (.c (.int .i64 2)), none, [], []⟩,
      ⟨(some 9), .mv (.t 8), none, [], []⟩,
      ⟨(some 10), .mv (.t 0), some (9, false), [], []⟩,
      ⟨(some 11), .bin .gtr (.t 10) (.c (.int .i64 3)), some (9, false), [], []⟩,
      ⟨(some 12), .pick (.t 9) (.c (.bool true)) (.t 11), none, [], []⟩,
      ⟨(some 13), .mv (.t 12), none, [], []⟩,
      ⟨(some 14), .mv (.t 1), some (13, false), [], []⟩,
      ⟨(some 15), .bin .lss (.t 14) (.c (.int .i64 1)), some (13, false), [], []⟩,
      ⟨(some 16), .pick (.t 13) (.c (.bool true)) (.t 15), none, [], []⟩,
      ⟨(some 17), .mv (.t 16), none, [], []⟩,
      ⟨(some 18), .mv (.t 1), some (17, false), [], []⟩,
      ⟨(some 19), .bin .gtr (.t 18) (.c (.int .i64 8)), some (17, false), [], []⟩,
      ⟨(some 20), .pick (.t 17) (.c (.bool true)) (.t 19), none, [], []⟩])
    (.cond (.t 20)
     (.seq
      (.region [] [⟨(some 4), .mv (.c (.nilptr)), none, [], []⟩,
        ⟨(some 5), .mv (.c (.int .i64 2)), none, [], []⟩])
      .ret)
     .skip))
   (.seq
    (.region [0, 1] [⟨(some 21), .build [.nils] [], none, [], []⟩,
      ⟨(some 22), .box 72 1 (.t 21), none, [], []⟩,
      ⟨(some 6), .mv (.t 22), none, [], []⟩])
    (.seq
     (.seq
      (.region [0, 1, 6] [⟨(some 23), .mv (.t 0), none, [], []⟩,
        ⟨(some 24), .mv (.c (.int .i64 0)), none, [], []⟩])
      (.block 0
       (.loop c30_l0)))
     (.seq
      (.region [6] [⟨(some 38), .mv (.t 6), none, [], []⟩,
        ⟨(some 4), .mv (.t 38), none, [], []⟩,
        ⟨(some 5), .mv (.c (.int .i64 0)), none, [], []⟩])
      .ret))))), false, false⟩
def c31_l0 : CC :=
 (.seq
  (.seq
   (.region [0, 1, 6, 7] [⟨(some 24), .mv (.t 7), none, [], []⟩,
     ⟨(some 25), .mv (.t 0), none, [], []⟩,
     ⟨(some 26), .bin .lss (.t 24) (.t 25), none, [], []⟩])
   (.cond (.t 26)
    .skip
    (.exit 0)))
  (.seq
   (.block 1
    (.draw [0, 1, 6, 7] [⟨(some 29), .mv (.t 6), none, [], []⟩,
      ⟨(some 30), .mv (.t 6), none, [], []⟩,
      ⟨(some 31), .nilck (.t 30), none, [1], []⟩,
      ⟨(some 32), .faddr 0 (.t 31), none, [1, 2], []⟩,
      ⟨(some 33), .load false 1 (.t 32), none, [1, 2, 3], [7, 8]⟩,
      ⟨(some 34), .mv (.t 1), none, [], []⟩,
      ⟨(some 35), .mks 98 2 24 [.str ⟨#[]⟩, .bool false] (.t 34) (.t 34), none, [5], []⟩,
      ⟨(some 36), .bslice 92 1 [[.nils]] [(0, (.t 35))], none, [5, 6], []⟩,
      ⟨(some 37), .app 92 1 24 false (.t 33) (.t 36), none, [1, 2, 3, 4, 5, 6, 7], []⟩,
      ⟨(some 38), .nilck (.t 29), none, [0, 1, 2, 3, 4, 5, 6, 7, 8], []⟩,
      ⟨(some 39), .faddr 0 (.t 38), none, [0, 1, 2, 3, 4, 5, 6, 7, 8, 9], []⟩,
      ⟨none, .store 1 (.t 39) (.t 37), none, [0, 1, 2, 3, 4, 5, 6, 7, 8, 9, 10], []⟩]))
   (.region [0, 1, 6, 7] [⟨(some 27), .mv (.t 7), none, [], []⟩,
     ⟨(some 28), .bin .add (.t 27) (.c (.int .i64 1)), none, [], []⟩,
     ⟨(some 7), .mv (.t 28), none, [], []⟩])))
/-- progeny/progenyref23.NewArea -/
def c31 : CFn := ⟨41, [.t 4, .t 5],
 (.seq
  (.region [0, 1] [⟨(some 4), .mv (.c (.nilptr)), none, [], []⟩,
    ⟨(some 5), .mv (.c (.int .i64 0)), none, [], []⟩])
  (.seq
   (.seq
    (.region [0, 1] [⟨(some 8), .mv (.t 0), none, [], []⟩,
      ⟨(some 9), .bin .lss (.t 8) (.c (.int .i64 2)), none, [], []⟩,
      ⟨(some 10), .mv (.t 9), none, [], []⟩,
      ⟨(some 11), .mv (.t 0), some (10, false), [], []⟩,
      ⟨(some 12), .bin .gtr (.t 11) (.c (.int .i64 3)), some (10, false), [], []⟩,
      ⟨(some 13), .pick (.t 10) (.c (.bool true)) (.t 12), none, [], []⟩,
      ⟨(some 14), .mv (.t 13), none, [], []⟩,
      ⟨(some 15), .mv (.t 1), some (14, false), [], []⟩,
      ⟨(some 16), .bin .lss (.t 15) (.c (.int .i64 1)), some (14, false), [], []⟩,
      ⟨(some 17), .pick (.t 14) (.c (.bool true)) (.t 16), none, [], []⟩,
      ⟨(some 18), .mv (.t 17), none, [], []⟩,
      ⟨(some 19), .mv (.t 1), some (18, false), [], []⟩,
      ⟨(some 20), .bin .gtr (.t 19) (.c (.int .i64 8)), some (18, false), [], []⟩,
      ⟨(some 21), .pick (.t 18) (.c (.bool true)) (.t 20), none, [], []⟩])
    (.cond (.t 21)
     (.seq
      (.region [] [⟨(some 4), .mv (.c (.nilptr)), none, [], []⟩,
        ⟨(some 5), .mv (.c (.int .i64 2)), none, [], []⟩])
      .ret)
     .skip))
   (.seq
    (.region [0, 1] [⟨(some 22), .build [.nils] [], none, [], []⟩,
      ⟨(some 23), .box 91 1 (.t 22), none, [], []⟩,
      ⟨(some 6), .mv (.t 23), none, [], []⟩])
    (.seq
     (.seq
      (.region [0, 1, 6] [⟨(some 7), .mv (.c (.int .i64 0)), none, [], []⟩])
      (.block 0
       (.loop c31_l0)))
     (.seq
      (.region [6] [⟨(some 40), .mv (.t 6), none, [], []⟩,
        ⟨(some 4), .mv (.t 40), none, [], []⟩,
        ⟨(some 5), .mv (.c (.int .i64 0)), none, [], []⟩])
      .ret))))), false, false⟩
/-- (*progeny/fast.Area).Read -/
def c32 : CFn := ⟨30, [.t 4, .t 5],
 (.seq
  (.region [0, 1] [⟨(some 4), .mv (.c (.str ⟨#[]⟩)), none, [], []⟩,
    ⟨(some 5), .mv (.c (.int .i64 0)), none, [], []⟩])
  (.seq
   (.seq
    (.region [0, 1] [⟨(some 8), .mv (.t 0), none, [], []⟩,
      ⟨(some 9), .mv (.t 1), none, [], []⟩,
      ⟨(some 10), .call (.c (.fn 60 [])) [(.t 8), (.t 9)] false, none, [], []⟩,
      ⟨(some 6), .mv (.t 10), none, [], []⟩])
    (.seq
     (.region [0, 1, 6] [⟨(some 11), .mv (.t 6), none, [], []⟩,
       ⟨(some 12), .bin .neq (.t 11) (.c (.int .i64 0)), none, [], []⟩])
     (.cond (.t 12)
      (.seq
       (.region [6] [⟨(some 13), .mv (.t 6), none, [], []⟩,
         ⟨(some 4), .mv (.c (.str ⟨#[]⟩)), none, [], []⟩,
         ⟨(some 5), .mv (.t 13), none, [], []⟩])
       .ret)
      .skip)))
   (.seq
    (.region [0, 1] [⟨(some 14), .mv (.t 0), none, [], []⟩,
      ⟨(some 15), .mv (.t 1), none, [], []⟩,
      ⟨(some 16), .call (.c (.fn 61 [])) [(.t 14), (.t 15)] false, none, [], []⟩,
      ⟨(some 7), .mv (.t 16), none, [], []⟩])
    (.seq
     (.seq
      (.region [0, 1, 7] [⟨(some 17), .mv (.t 7), none, [], []⟩,
        ⟨(some 18), .bin .lss (.t 17) (.c (.int .i64 0)), none, [], []⟩])
      (.cond (.t 18)
       (.seq
        (.region [] [⟨(some 4), .mv (.c (.str ⟨#[]⟩)), none, [], []⟩,
          ⟨(some 5), .mv (.c (.int .i64 213)), none, [], []⟩])
        .ret)
       .skip))
     (.seq
      (.region [0, 1, 7] [⟨(some 19), .mv (.t 0), none, [], []⟩,
        ⟨(some 20), .nilck (.t 19), none, [], []⟩,
        ⟨(some 21), .faddr 0 (.t 20), none, [], []⟩,
        ⟨(some 22), .load false 1 (.t 21), none, [], []⟩,
        ⟨(some 23), .mv (.t 7), none, [], []⟩,
        ⟨(some 24), .iaddr 1 (.t 22) (.t 23), none, [], []⟩,
        ⟨(some 25), .load false 1 (.t 24), none, [], []⟩,
        ⟨(some 26), .mv (.t 1), none, [], []⟩,
        ⟨(some 27), .iaddr 2 (.t 25) (.t 26), none, [], []⟩,
        ⟨(some 28), .faddr 0 (.t 27), none, [], []⟩,
        ⟨(some 29), .load false 1 (.t 28), none, [], []⟩,
        ⟨(some 4), .mv (.t 29), none, [], []⟩,
        ⟨(some 5), .mv (.c (.int .i64 0)), none, [], []⟩])
      .ret))))), false, false⟩
def c33_l0 : CC :=
 (.seq
  (.seq
   (.region [0, 1, 6] [⟨(some 11), .mv (.t 6), none, [], []⟩,
     ⟨(some 12), .mv (.t 0), none, [], []⟩,
     ⟨(some 13), .nilck (.t 12), none, [], []⟩,
     ⟨(some 14), .faddr 0 (.t 13), none, [], []⟩,
     ⟨(some 15), .load false 1 (.t 14), none, [], []⟩,
     ⟨(some 16), .len false (.t 15), none, [], []⟩,
     ⟨(some 17), .bin .lss (.t 11) (.t 16), none, [], []⟩])
   (.cond (.t 17)
    .skip
    (.exit 0)))
  (.seq
   (.block 1
    (.seq
     (.region [0, 1, 6] [⟨(some 20), .mv (.t 0), none, [], []⟩,
       ⟨(some 21), .nilck (.t 20), none, [], []⟩,
       ⟨(some 22), .faddr 0 (.t 21), none, [], []⟩,
       ⟨(some 23), .load false 1 (.t 22), none, [], []⟩,
       ⟨(some 24), .mv (.t 6), none, [], []⟩,
       ⟨(some 25), .iaddr 1 (.t 23) (.t 24), none, [], []⟩,
       ⟨(some 26), .load false 1 (.t 25), none, [], []⟩,
       ⟨(some 27), .mv (.t 1), none, [], []⟩,
       ⟨(some 28), .iaddr 2 (.t 26) (.t 27), none, [], []⟩,
       ⟨(some 29), .faddr 1 (.t 28), none, [], []⟩,
       ⟨(some 30), .load false 1 (.t 29), none, [], []⟩,
       ⟨(some 31), .un .not (.t 30), none, [], []⟩])
     (.cond (.t 31)
      (.seq
       (.region [0, 1, 6] [⟨(some 32), .mv (.t 0), none, [], []⟩,
         ⟨(some 33), .nilck (.t 32), none, [], []⟩,
         ⟨(some 34), .faddr 0 (.t 33), none, [], []⟩,
         ⟨(some 35), .load false 1 (.t 34), none, [], []⟩,
         ⟨(some 36), .mv (.t 6), none, [], []⟩,
         ⟨(some 37), .iaddr 1 (.t 35) (.t 36), none, [], []⟩,
         ⟨(some 38), .load false 1 (.t 37), none, [], []⟩,
         ⟨(some 39), .mv (.t 1), none, [], []⟩,
         ⟨(some 40), .iaddr 2 (.t 38) (.t 39), none, [], []⟩,
         ⟨(some 41), .faddr 0 (.t 40), none, [], []⟩,
         ⟨(some 42), .load false 1 (.t 41), none, [], []⟩,
         ⟨(some 4), .mv (.t 42), none, [], []⟩,
         ⟨(some 5), .mv (.c (.int .i64 0)), none, [], []⟩])
       .ret)
      .skip)))
   (.region [0, 1, 6] [⟨(some 18), .mv (.t 6), none, [], []⟩,
     ⟨(some 19), .bin .add (.t 18) (.c (.int .i64 1)), none, [], []⟩,
     ⟨(some 6), .mv (.t 19), none, [], []⟩])))
/-- (*progeny/progenyref23.Area).Read -/
def c33 : CFn := ⟨43, [.t 4, .t 5],
 (.seq
  (.region [0, 1] [⟨(some 4), .mv (.c (.str ⟨#[]⟩)), none, [], []⟩,
    ⟨(some 5), .mv (.c (.int .i64 0)), none, [], []⟩])
  (.seq
   (.seq
    (.region [0, 1] [⟨(some 7), .mv (.t 0), none, [], []⟩,
      ⟨(some 8), .mv (.t 1), none, [], []⟩,
      ⟨(some 9), .call (.c (.fn 62 [])) [(.t 7), (.t 8)] false, none, [], []⟩,
      ⟨(some 10), .un .not (.t 9), none, [], []⟩])
    (.cond (.t 10)
     (.seq
      (.region [] [⟨(some 4), .mv (.c (.str ⟨#[]⟩)), none, [], []⟩,
        ⟨(some 5), .mv (.c (.int .i64 2)), none, [], []⟩])
      .ret)
     .skip))
   (.seq
    (.seq
     (.region [0, 1] [⟨(some 6), .mv (.c (.int .i64 0)), none, [], []⟩])
     (.block 0
      (.loop c33_l0)))
    (.seq
     (.region [] [⟨(some 4), .mv (.c (.str ⟨#[]⟩)), none, [], []⟩,
       ⟨(some 5), .mv (.c (.int .i64 213)), none, [], []⟩])
     .ret)))), false, false⟩
def c34_l0 : CC :=
 (.seq
  (.region [1, 2, 29, 30, 31] [⟨(some 32), .bin .lss (.t 31) (.t 30), none, [], []⟩])
  (.seq
   (.cond (.t 32)
    .skip
    (.exit 1))
   (.seq
    (.block 2
     (.seq
      (.region [1, 2, 29, 30, 31] [⟨(some 33), .iaddr 1 (.t 29) (.t 31), none, [], []⟩,
        ⟨(some 34), .load false 1 (.t 33), none, [], []⟩,
        ⟨(some 9), .mv (.t 34), none, [], []⟩])
      (.seq
       (.region [1, 2, 9, 29, 30, 31] [⟨(some 35), .mv (.t 9), none, [], []⟩,
         ⟨(some 36), .mv (.t 1), none, [], []⟩,
         ⟨(some 37), .iaddr 2 (.t 35) (.t 36), none, [], []⟩,
         ⟨(some 38), .faddr 1 (.t 37), none, [], []⟩,
         ⟨(some 39), .load false 1 (.t 38), none, [], []⟩,
         ⟨(some 40), .un .not (.t 39), none, [], []⟩])
       (.cond (.t 40)
        (.region [1, 2, 9, 29, 30, 31] [⟨(some 41), .mv (.t 9), none, [], []⟩,
          ⟨(some 42), .mv (.t 1), none, [], []⟩,
          ⟨(some 43), .mv (.t 2), none, [], []⟩,
          ⟨(some 44), .iaddr 2 (.t 41) (.t 42), none, [], []⟩,
          ⟨(some 45), .faddr 0 (.t 44), none, [], []⟩,
          ⟨none, .store 1 (.t 45) (.t 43), none, [], []⟩])
        .skip))))
    (.region [1, 2, 29, 30, 31] [⟨(some 46), .bin .add (.t 31) (.c (.int .i64 1)), none, [], []⟩,
      ⟨(some 31), .mv (.t 46), none, [], []⟩]))))
/-- (*progeny/fast.Area).Write -/
def c34 : CFn := ⟨47, [.t 6],
 (.seq
  (.region [0, 1, 2] [⟨(some 6), .mv (.c (.int .i64 0)), none, [], []⟩])
  (.seq
   (.seq
    (.region [0, 1, 2] [⟨(some 10), .mv (.t 0), none, [], []⟩,
      ⟨(some 11), .mv (.t 1), none, [], []⟩,
      ⟨(some 12), .call (.c (.fn 60 [])) [(.t 10), (.t 11)] false, none, [], []⟩,
      ⟨(some 7), .mv (.t 12), none, [], []⟩])
    (.block 0
     (.seq
      (.region [0, 1, 2, 7] [⟨(some 14), .mv (.t 7), none, [], []⟩,
        ⟨(some 15), .bin .neq (.t 14) (.c (.int .i64 0)), none, [], []⟩,
        ⟨(some 13), .mv (.t 15), none, [], []⟩])
      (.cond (.t 13)
       (.seq
        (.region [7] [⟨(some 16), .mv (.t 7), none, [], []⟩,
          ⟨(some 6), .mv (.t 16), none, [], []⟩])
        .ret)
       (.seq
        (.region [0, 1, 2] [⟨(some 18), .mv (.t 2), none, [], []⟩,
          ⟨(some 19), .len true (.t 18), none, [], []⟩,
          ⟨(some 20), .bin .gtr (.t 19) (.c (.int .i64 20)), none, [], []⟩,
          ⟨(some 17), .mv (.t 20), none, [], []⟩])
        (.cond (.t 17)
         (.seq
          (.region [] [⟨(some 6), .mv (.c (.int .i64 2)), none, [], []⟩])
          .ret)
         (.seq
          (.region [0, 1, 2] [⟨(some 22), .mv (.t 0), none, [], []⟩,
            ⟨(some 23), .mv (.t 1), none, [], []⟩,
            ⟨(some 24), .call (.c (.fn 61 [])) [(.t 22), (.t 23)] false, none, [], []⟩,
            ⟨(some 25), .bin .lss (.t 24) (.c (.int .i64 0)), none, [], []⟩,
            ⟨(some 21), .mv (.t 25), none, [], []⟩])
          (.cond (.t 21)
           (.seq
            (.region [] [⟨(some 6), .mv (.c (.int .i64 213)), none, [], []⟩])
            .ret)
           .skip))))))))
   (.seq
    (.seq
     (.region [0, 1, 2] [⟨(some 26), .mv (.t 0), none, [], []⟩,
       ⟨(some 27), .nilck (.t 26), none, [], []⟩,
       ⟨(some 28), .faddr 0 (.t 27), none, [], []⟩,
       ⟨(some 29), .load false 1 (.t 28), none, [], []⟩,
       ⟨(some 30), .len false (.t 29), none, [], []⟩,
       ⟨(some 31), .mv (.c (.int .i64 0)), none, [], []⟩])
     (.block 1
      (.loop c34_l0)))
    (.seq
     (.region [] [⟨(some 6), .mv (.c (.int .i64 0)), none, [], []⟩])
     .ret)))), false, false⟩
def c35_l0 : CC :=
 (.seq
  (.seq
   (.region [0, 1, 2, 9] [⟨(some 28), .mv (.t 9), none, [], []⟩,
     ⟨(some 29), .mv (.t 0), none, [], []⟩,
     ⟨(some 30), .nilck (.t 29), none, [], []⟩,
     ⟨(some 31), .faddr 0 (.t 30), none, [], []⟩,
     ⟨(some 32), .load false 1 (.t 31), none, [], []⟩,
     ⟨(some 33), .len false (.t 32), none, [], []⟩,
     ⟨(some 34), .bin .lss (.t 28) (.t 33), none, [], []⟩])
   (.cond (.t 34)
    .skip
    (.exit 0)))
  (.seq
   (.block 1
    (.seq
     (.region [0, 1, 2, 9] [⟨(some 37), .mv (.t 0), none, [], []⟩,
       ⟨(some 38), .nilck (.t 37), none, [], []⟩,
       ⟨(some 39), .faddr 0 (.t 38), none, [], []⟩,
       ⟨(some 40), .load false 1 (.t 39), none, [], []⟩,
       ⟨(some 41), .mv (.t 9), none, [], []⟩,
       ⟨(some 42), .iaddr 1 (.t 40) (.t 41), none, [], []⟩,
       ⟨(some 43), .load false 1 (.t 42), none, [], []⟩,
       ⟨(some 44), .mv (.t 1), none, [], []⟩,
       ⟨(some 45), .iaddr 2 (.t 43) (.t 44), none, [], []⟩,
       ⟨(some 46), .faddr 1 (.t 45), none, [], []⟩,
       ⟨(some 47), .load false 1 (.t 46), none, [], []⟩,
       ⟨(some 48), .un .not (.t 47), none, [], []⟩])
     (.cond (.t 48)
      (.region [0, 1, 2, 9] [⟨(some 49), .mv (.t 0), none, [], []⟩,
        ⟨(some 50), .nilck (.t 49), none, [], []⟩,
        ⟨(some 51), .faddr 0 (.t 50), none, [], []⟩,
        ⟨(some 52), .load false 1 (.t 51), none, [], []⟩,
        ⟨(some 53), .mv (.t 9), none, [], []⟩,
        ⟨(some 54), .iaddr 1 (.t 52) (.t 53), none, [], []⟩,
        ⟨(some 55), .load false 1 (.t 54), none, [], []⟩,
        ⟨(some 56), .mv (.t 1), none, [], []⟩,
        ⟨(some 57), .mv (.t 2), none, [], []⟩,
        ⟨(some 58), .iaddr 2 (.t 55) (.t 56), none, [], []⟩,
        ⟨(some 59), .faddr 0 (.t 58), none, [], []⟩,
        ⟨none, .store 1 (.t 59) (.t 57), none, [], []⟩])
      .skip)))
   (.region [0, 1, 2, 9] [⟨(some 35), .mv (.t 9), none, [], []⟩,
     ⟨(some 36), .bin .add (.t 35) (.c (.int .i64 1)), none, [], []⟩,
     ⟨(some 9), .mv (.t 36), none, [], []⟩])))
/-- (*progeny/progenyref23.Area).Write -/
def c35 : CFn := ⟨60, [.t 6],
 (.seq
  (.region [0, 1, 2] [⟨(some 6), .mv (.c (.int .i64 0)), none, [], []⟩])
  (.seq
   (.seq
    (.region [0, 1, 2] [⟨(some 10), .mv (.t 0), none, [], []⟩,
      ⟨(some 11), .mv (.t 1), none, [], []⟩,
      ⟨(some 12), .call (.c (.fn 62 [])) [(.t 10), (.t 11)] false, none, [], []⟩,
      ⟨(some 13), .un .not (.t 12), none, [], []⟩,
      ⟨(some 14), .mv (.t 13), none, [], []⟩,
      ⟨(some 15), .mv (.t 2), some (14, false), [], []⟩,
      ⟨(some 16), .len true (.t 15), some (14, false), [], []⟩,
      ⟨(some 17), .bin .gtr (.t 16) (.c (.int .i64 20)), some (14, false), [], []⟩,
      ⟨(some 18), .pick (.t 14) (.c (.bool true)) (.t 17), none, [], []⟩])
    (.cond (.t 18)
     (.seq
      (.region [] [⟨(some 6), .mv (.c (.int .i64 2)), none, [], []⟩])
      .ret)
     .skip))
   (.seq
    (.seq
     (.region [0, 1, 2] [⟨(some 20), .mv (.t 0), none, [], []⟩,
       ⟨(some 21), .mv (.t 1), none, [], []⟩,
       ⟨(some 22), .call (.c (.fn 33 [])) [(.t 20), (.t 21)] false, none, [], []⟩,
       ⟨(some 19), .mv (.t 22), none, [], []⟩,
       ⟨(some 23), .extract (.t 19) 0, none, [], []⟩,
       ⟨(some 24), .extract (.t 19) 1, none, [], []⟩,
       ⟨(some 7), .mv (.t 23), none, [], []⟩,
       ⟨(some 8), .mv (.t 24), none, [], []⟩])
     (.seq
      (.region [0, 1, 2, 8] [⟨(some 25), .mv (.t 8), none, [], []⟩,
        ⟨(some 26), .bin .neq (.t 25) (.c (.int .i64 0)), none, [], []⟩])
      (.cond (.t 26)
       (.seq
        (.region [8] [⟨(some 27), .mv (.t 8), none, [], []⟩,
          ⟨(some 6), .mv (.t 27), none, [], []⟩])
        .ret)
       .skip)))
    (.seq
     (.seq
      (.region [0, 1, 2] [⟨(some 9), .mv (.c (.int .i64 0)), none, [], []⟩])
      (.block 0
       (.loop c35_l0)))
     (.seq
      (.region [] [⟨(some 6), .mv (.c (.int .i64 0)), none, [], []⟩])
      .ret))))), false, false⟩
/-- (*progeny/fast.Area).Bad -/
def c36 : CFn := ⟨37, [.t 6],
 (.seq
  (.region [0, 1, 2] [⟨(some 6), .mv (.c (.int .i64 0)), none, [], []⟩])
  (.seq
   (.seq
    (.region [0, 1, 2] [⟨(some 8), .mv (.t 0), none, [], []⟩,
      ⟨(some 9), .mv (.t 2), none, [], []⟩,
      ⟨(some 10), .call (.c (.fn 60 [])) [(.t 8), (.t 9)] false, none, [], []⟩,
      ⟨(some 7), .mv (.t 10), none, [], []⟩])
    (.block 0
     (.seq
      (.region [0, 1, 2, 7] [⟨(some 12), .mv (.t 7), none, [], []⟩,
        ⟨(some 13), .bin .neq (.t 12) (.c (.int .i64 0)), none, [], []⟩,
        ⟨(some 11), .mv (.t 13), none, [], []⟩])
      (.cond (.t 11)
       (.seq
        (.region [7] [⟨(some 14), .mv (.t 7), none, [], []⟩,
          ⟨(some 6), .mv (.t 14), none, [], []⟩])
        .ret)
       (.seq
        (.region [0, 1, 2] [⟨(some 16), .mv (.t 1), none, [], []⟩,
          ⟨(some 17), .bin .lss (.t 16) (.c (.int .i64 0)), none, [], []⟩,
          ⟨(some 18), .mv (.t 17), none, [], []⟩,
          ⟨(some 19), .mv (.t 1), some (18, false), [], []⟩,
          ⟨(some 20), .mv (.t 0), some (18, false), [], []⟩,
          ⟨(some 21), .nilck (.t 20), some (18, false), [], []⟩,
          ⟨(some 22), .faddr 0 (.t 21), some (18, false), [], []⟩,
          ⟨(some 23), .load false 1 (.t 22), some (18, false), [], []⟩,
          ⟨(some 24), .len false (.t 23), some (18, false), [], []⟩,
          ⟨(some 25), .bin .geq (.t 19) (.t 24), some (18, false), [], []⟩,
          ⟨(some 26), .pick (.t 18) (.c (.bool true)) (.t 25), none, [], []⟩,
          ⟨(some 15), .mv (.t 26), none, [], []⟩])
        (.cond (.t 15)
         (.seq
          (.region [] [⟨(some 6), .mv (.c (.int .i64 2)), none, [], []⟩])
          .ret)
         .skip))))))
   (.seq
    (.region [0, 1, 2] [⟨(some 27), .mv (.t 0), none, [], []⟩,
      ⟨(some 28), .nilck (.t 27), none, [], []⟩,
      ⟨(some 29), .faddr 0 (.t 28), none, [], []⟩,
      ⟨(some 30), .load false 1 (.t 29), none, [], []⟩,
      ⟨(some 31), .mv (.t 1), none, [], []⟩,
      ⟨(some 32), .iaddr 1 (.t 30) (.t 31), none, [], []⟩,
      ⟨(some 33), .load false 1 (.t 32), none, [], []⟩,
      ⟨(some 34), .mv (.t 2), none, [], []⟩,
      ⟨(some 35), .build [.str ⟨#[]⟩, .bool false] [(1, 1, (.c (.bool true)))], none, [], []⟩,
      ⟨(some 36), .iaddr 2 (.t 33) (.t 34), none, [], []⟩,
      ⟨none, .store 2 (.t 36) (.t 35), none, [], []⟩])
    (.seq
     (.region [] [⟨(some 6), .mv (.c (.int .i64 0)), none, [], []⟩])
     .ret)))), false, false⟩
/-- (*progeny/progenyref23.Area).Bad -/
def c37 : CFn := ⟨34, [.t 6],
 (.seq
  (.region [0, 1, 2] [⟨(some 6), .mv (.c (.int .i64 0)), none, [], []⟩])
  (.seq
   (.seq
    (.region [0, 1, 2] [⟨(some 7), .mv (.t 1), none, [], []⟩,
      ⟨(some 8), .bin .lss (.t 7) (.c (.int .i64 0)), none, [], []⟩,
      ⟨(some 9), .mv (.t 8), none, [], []⟩,
      ⟨(some 10), .mv (.t 1), some (9, false), [], []⟩,
      ⟨(some 11), .mv (.t 0), some (9, false), [], []⟩,
      ⟨(some 12), .nilck (.t 11), some (9, false), [], []⟩,
      ⟨(some 13), .faddr 0 (.t 12), some (9, false), [], []⟩,
      ⟨(some 14), .load false 1 (.t 13), some (9, false), [], []⟩,
      ⟨(some 15), .len false (.t 14), some (9, false), [], []⟩,
      ⟨(some 16), .bin .geq (.t 10) (.t 15), some (9, false), [], []⟩,
      ⟨(some 17), .pick (.t 9) (.c (.bool true)) (.t 16), none, [], []⟩,
      ⟨(some 18), .mv (.t 17), none, [], []⟩,
      ⟨(some 19), .mv (.t 0), some (18, false), [], []⟩,
      ⟨(some 20), .mv (.t 2), some (18, false), [], []⟩,
      ⟨(some 21), .call (.c (.fn 62 [])) [(.t 19), (.t 20)] false, some (18, false), [], []⟩,
      ⟨(some 22), .un .not (.t 21), some (18, false), [], []⟩,
      ⟨(some 23), .pick (.t 18) (.c (.bool true)) (.t 22), none, [], []⟩])
    (.cond (.t 23)
     (.seq
      (.region [] [⟨(some 6), .mv (.c (.int .i64 2)), none, [], []⟩])
      .ret)
     .skip))
   (.seq
    (.region [0, 1, 2] [⟨(some 24), .mv (.t 0), none, [], []⟩,
      ⟨(some 25), .nilck (.t 24), none, [], []⟩,
      ⟨(some 26), .faddr 0 (.t 25), none, [], []⟩,
      ⟨(some 27), .load false 1 (.t 26), none, [], []⟩,
      ⟨(some 28), .mv (.t 1), none, [], []⟩,
      ⟨(some 29), .iaddr 1 (.t 27) (.t 28), none, [], []⟩,
      ⟨(some 30), .load false 1 (.t 29), none, [], []⟩,
      ⟨(some 31), .mv (.t 2), none, [], []⟩,
      ⟨(some 32), .build [.str ⟨#[]⟩, .bool false] [(1, 1, (.c (.bool true)))], none, [], []⟩,
      ⟨(some 33), .iaddr 2 (.t 30) (.t 31), none, [], []⟩,
      ⟨none, .store 2 (.t 33) (.t 32), none, [], []⟩])
    (.seq
     (.region [] [⟨(some 6), .mv (.c (.int .i64 0)), none, [], []⟩])
     .ret)))), false, false⟩
def c38_l0 : CC :=
 (.seq
  (.region [0, 1, 6, 7, 34, 35, 36] [⟨(some 37), .bin .lss (.t 36) (.t 35), none, [], []⟩])
  (.seq
   (.cond (.t 37)
    .skip
    (.exit 1))
   (.seq
    (.block 2
     (.seq
      (.region [0, 1, 6, 7, 34, 35, 36] [⟨(some 38), .mv (.t 36), none, [], []⟩,
        ⟨(some 39), .iaddr 2 (.t 34) (.t 36), none, [], []⟩,
        ⟨(some 40), .load true 2 (.t 39), none, [], []⟩,
        ⟨(some 9), .box 96 2 (.c (.agg [.str ⟨#[]⟩, .bool false])), none, [], []⟩,
        ⟨(some 8), .mv (.t 38), none, [], []⟩,
        ⟨none, .store 2 (.t 9) (.t 40), none, [], []⟩])
      (.seq
       (.seq
        (.region [0, 1, 6, 7, 8, 9, 34, 35, 36] [⟨(some 41), .faddr 1 (.t 9), none, [], []⟩,
          ⟨(some 42), .load false 1 (.t 41), none, [], []⟩,
          ⟨(some 43), .un .not (.t 42), none, [], []⟩])
        (.cond (.t 43)
         (.exit 2)
         .skip))
       (.seq
        (.region [0, 1, 6, 7, 8, 34, 35, 36] [⟨(some 44), .mv (.t 0), none, [], []⟩,
          ⟨(some 45), .mv (.t 8), none, [], []⟩,
          ⟨(some 46), .call (.c (.fn 61 [])) [(.t 44), (.t 45)] false, none, [], []⟩,
          ⟨(some 10), .mv (.t 46), none, [], []⟩])
        (.seq
         (.seq
          (.region [0, 1, 6, 7, 8, 10, 34, 35, 36] [⟨(some 47), .mv (.t 10), none, [], []⟩,
            ⟨(some 48), .bin .lss (.t 47) (.c (.int .i64 0)), none, [], []⟩])
          (.cond (.t 48)
           (.seq
            (.region [] [⟨(some 4), .mv (.c (.int .i64 0)), none, [], []⟩,
              ⟨(some 5), .mv (.c (.int .i64 213)), none, [], []⟩])
            .ret)
           .skip))
         (.seq
          (.region [0, 1, 6, 7, 8, 10, 34, 35, 36] [⟨(some 49), .mv (.t 6), none, [], []⟩,
            ⟨(some 50), .mv (.t 8), none, [], []⟩,
            ⟨(some 51), .mv (.t 0), none, [], []⟩,
            ⟨(some 52), .nilck (.t 51), none, [], []⟩,
            ⟨(some 53), .faddr 0 (.t 52), none, [], []⟩,
            ⟨(some 54), .load false 1 (.t 53), none, [], []⟩,
            ⟨(some 55), .mv (.t 10), none, [], []⟩,
            ⟨(some 56), .iaddr 1 (.t 54) (.t 55), none, [], []⟩,
            ⟨(some 57), .load false 1 (.t 56), none, [], []⟩,
            ⟨(some 58), .mv (.t 8), none, [], []⟩,
            ⟨(some 59), .iaddr 2 (.t 57) (.t 58), none, [], []⟩,
            ⟨(some 60), .load true 2 (.t 59), none, [], []⟩,
            ⟨(some 61), .iaddr 2 (.t 49) (.t 50), none, [], []⟩,
            ⟨none, .store 2 (.t 61) (.t 60), none, [], []⟩])
          (.region [0, 1, 6, 7, 34, 35, 36] [⟨(some 62), .mv (.t 7), none, [], []⟩,
            ⟨(some 63), .bin .add (.t 62) (.c (.int .i64 1)), none, [], []⟩,
            ⟨(some 7), .mv (.t 63), none, [], []⟩])))))))
    (.region [0, 1, 6, 7, 34, 35, 36] [⟨(some 64), .bin .add (.t 36) (.c (.int .i64 1)), none, [], []⟩,
      ⟨(some 36), .mv (.t 64), none, [], []⟩]))))
/-- (*progeny/fast.Area).Repair -/
def c38 : CFn := ⟨73, [.t 4, .t 5],
 (.seq
  (.region [0, 1] [⟨(some 4), .mv (.c (.int .i64 0)), none, [], []⟩,
    ⟨(some 5), .mv (.c (.int .i64 0)), none, [], []⟩])
  (.seq
   (.block 0
    (.seq
     (.region [0, 1] [⟨(some 12), .mv (.t 0), none, [], []⟩,
       ⟨(some 13), .call (.c (.fn 63 [])) [(.t 12)] false, none, [], []⟩,
       ⟨(some 11), .mv (.t 13), none, [], []⟩])
     (.cond (.t 11)
      (.seq
       (.region [] [⟨(some 4), .mv (.c (.int .i64 0)), none, [], []⟩,
         ⟨(some 5), .mv (.c (.int .i64 6)), none, [], []⟩])
       .ret)
      (.seq
       (.region [0, 1] [⟨(some 15), .mv (.t 1), none, [], []⟩,
         ⟨(some 16), .bin .lss (.t 15) (.c (.int .i64 0)), none, [], []⟩,
         ⟨(some 17), .mv (.t 16), none, [], []⟩,
         ⟨(some 18), .mv (.t 1), some (17, false), [], []⟩,
         ⟨(some 19), .mv (.t 0), some (17, false), [], []⟩,
         ⟨(some 20), .nilck (.t 19), some (17, false), [], []⟩,
         ⟨(some 21), .faddr 0 (.t 20), some (17, false), [], []⟩,
         ⟨(some 22), .load false 1 (.t 21), some (17, false), [], []⟩,
         ⟨(some 23), .len false (.t 22), some (17, false), [], []⟩,
         ⟨(some 24), .bin .geq (.t 18) (.t 23), some (17, false), [], []⟩,
         ⟨(some 25), .pick (.t 17) (.c (.bool true)) (.t 24), none, [], []⟩,
         ⟨(some 14), .mv (.t 25), none, [], []⟩])
       (.cond (.t 14)
        (.seq
         (.region [] [⟨(some 4), .mv (.c (.int .i64 0)), none, [], []⟩,
           ⟨(some 5), .mv (.c (.int .i64 2)), none, [], []⟩])
         .ret)
        .skip)))))
   (.seq
    (.region [0, 1] [⟨(some 26), .mv (.t 0), none, [], []⟩,
      ⟨(some 27), .nilck (.t 26), none, [], []⟩,
      ⟨(some 28), .faddr 0 (.t 27), none, [], []⟩,
      ⟨(some 29), .load false 1 (.t 28), none, [], []⟩,
      ⟨(some 30), .mv (.t 1), none, [], []⟩,
      ⟨(some 31), .iaddr 1 (.t 29) (.t 30), none, [], []⟩,
      ⟨(some 32), .load false 1 (.t 31), none, [], []⟩,
      ⟨(some 33), .call (.c (.fn 64 [])) [(.t 32)] false, none, [], []⟩,
      ⟨(some 6), .mv (.t 33), none, [], []⟩])
    (.seq
     (.region [0, 1, 6] [⟨(some 7), .mv (.c (.int .i64 0)), none, [], []⟩])
     (.seq
      (.seq
       (.region [0, 1, 6, 7] [⟨(some 34), .mv (.t 6), none, [], []⟩,
         ⟨(some 35), .len false (.t 34), none, [], []⟩,
         ⟨(some 36), .mv (.c (.int .i64 0)), none, [], []⟩])
       (.block 1
        (.loop c38_l0)))
      (.seq
       (.region [0, 1, 6, 7] [⟨(some 65), .mv (.t 0), none, [], []⟩,
         ⟨(some 66), .nilck (.t 65), none, [], []⟩,
         ⟨(some 67), .faddr 0 (.t 66), none, [], []⟩,
         ⟨(some 68), .load false 1 (.t 67), none, [], []⟩,
         ⟨(some 69), .mv (.t 1), none, [], []⟩,
         ⟨(some 70), .mv (.t 6), none, [], []⟩,
         ⟨(some 71), .iaddr 1 (.t 68) (.t 69), none, [], []⟩,
         ⟨none, .store 1 (.t 71) (.t 70), none, [], []⟩])
       (.seq
        (.region [7] [⟨(some 72), .mv (.t 7), none, [], []⟩,
          ⟨(some 4), .mv (.t 72), none, [], []⟩,
          ⟨(some 5), .mv (.c (.int .i64 0)), none, [], []⟩])
        .ret))))))), false, false⟩
def c39_l0 : CC :=
 (.seq
  (.seq
   (.region [0, 1, 6, 7] [⟨(some 24), .mv (.t 7), none, [], []⟩,
     ⟨(some 25), .mv (.t 0), none, [], []⟩,
     ⟨(some 26), .nilck (.t 25), none, [], []⟩,
     ⟨(some 27), .faddr 0 (.t 26), none, [], []⟩,
     ⟨(some 28), .load false 1 (.t 27), none, [], []⟩,
     ⟨(some 29), .mv (.t 1), none, [], []⟩,
     ⟨(some 30), .iaddr 1 (.t 28) (.t 29), none, [], []⟩,
     ⟨(some 31), .load false 1 (.t 30), none, [], []⟩,
     ⟨(some 32), .len false (.t 31), none, [], []⟩,
     ⟨(some 33), .bin .lss (.t 24) (.t 32), none, [], []⟩])
   (.cond (.t 33)
    .skip
    (.exit 0)))
  (.seq
   (.block 1
    (.seq
     (.region [0, 1, 6, 7] [⟨(some 36), .mv (.t 0), none, [], []⟩,
       ⟨(some 37), .nilck (.t 36), none, [], []⟩,
       ⟨(some 38), .faddr 0 (.t 37), none, [], []⟩,
       ⟨(some 39), .load false 1 (.t 38), none, [], []⟩,
       ⟨(some 40), .mv (.t 1), none, [], []⟩,
       ⟨(some 41), .iaddr 1 (.t 39) (.t 40), none, [], []⟩,
       ⟨(some 42), .load false 1 (.t 41), none, [], []⟩,
       ⟨(some 43), .mv (.t 7), none, [], []⟩,
       ⟨(some 44), .iaddr 2 (.t 42) (.t 43), none, [], []⟩,
       ⟨(some 45), .faddr 1 (.t 44), none, [], []⟩,
       ⟨(some 46), .load false 1 (.t 45), none, [], []⟩])
     (.cond (.t 46)
      (.seq
       (.seq
        (.region [0, 1, 6, 7] [⟨(some 48), .mv (.t 0), none, [], []⟩,
          ⟨(some 49), .mv (.t 7), none, [], []⟩,
          ⟨(some 50), .call (.c (.fn 33 [])) [(.t 48), (.t 49)] false, none, [], []⟩,
          ⟨(some 47), .mv (.t 50), none, [], []⟩,
          ⟨(some 51), .extract (.t 47) 0, none, [], []⟩,
          ⟨(some 52), .extract (.t 47) 1, none, [], []⟩,
          ⟨(some 8), .mv (.t 51), none, [], []⟩,
          ⟨(some 9), .mv (.t 52), none, [], []⟩])
        (.seq
         (.region [0, 1, 6, 7, 9] [⟨(some 53), .mv (.t 9), none, [], []⟩,
           ⟨(some 54), .bin .neq (.t 53) (.c (.int .i64 0)), none, [], []⟩])
         (.cond (.t 54)
          (.seq
           (.region [9] [⟨(some 55), .mv (.t 9), none, [], []⟩,
             ⟨(some 4), .mv (.c (.int .i64 0)), none, [], []⟩,
             ⟨(some 5), .mv (.t 55), none, [], []⟩])
           .ret)
          .skip)))
       (.region [0, 1, 6, 7] [⟨(some 56), .mv (.t 6), none, [], []⟩,
         ⟨(some 57), .bin .add (.t 56) (.c (.int .i64 1)), none, [], []⟩,
         ⟨(some 6), .mv (.t 57), none, [], []⟩]))
      .skip)))
   (.region [0, 1, 6, 7] [⟨(some 34), .mv (.t 7), none, [], []⟩,
     ⟨(some 35), .bin .add (.t 34) (.c (.int .i64 1)), none, [], []⟩,
     ⟨(some 7), .mv (.t 35), none, [], []⟩])))
def c39_l1 : CC :=
 (.seq
  (.seq
   (.region [0, 1, 6, 10] [⟨(some 58), .mv (.t 10), none, [], []⟩,
     ⟨(some 59), .mv (.t 0), none, [], []⟩,
     ⟨(some 60), .nilck (.t 59), none, [], []⟩,
     ⟨(some 61), .faddr 0 (.t 60), none, [], []⟩,
     ⟨(some 62), .load false 1 (.t 61), none, [], []⟩,
     ⟨(some 63), .mv (.t 1), none, [], []⟩,
     ⟨(some 64), .iaddr 1 (.t 62) (.t 63), none, [], []⟩,
     ⟨(some 65), .load false 1 (.t 64), none, [], []⟩,
     ⟨(some 66), .len false (.t 65), none, [], []⟩,
     ⟨(some 67), .bin .lss (.t 58) (.t 66), none, [], []⟩])
   (.cond (.t 67)
    .skip
    (.exit 2)))
  (.seq
   (.block 3
    (.seq
     (.region [0, 1, 6, 10] [⟨(some 70), .mv (.t 0), none, [], []⟩,
       ⟨(some 71), .nilck (.t 70), none, [], []⟩,
       ⟨(some 72), .faddr 0 (.t 71), none, [], []⟩,
       ⟨(some 73), .load false 1 (.t 72), none, [], []⟩,
       ⟨(some 74), .mv (.t 1), none, [], []⟩,
       ⟨(some 75), .iaddr 1 (.t 73) (.t 74), none, [], []⟩,
       ⟨(some 76), .load false 1 (.t 75), none, [], []⟩,
       ⟨(some 77), .mv (.t 10), none, [], []⟩,
       ⟨(some 78), .iaddr 2 (.t 76) (.t 77), none, [], []⟩,
       ⟨(some 79), .faddr 1 (.t 78), none, [], []⟩,
       ⟨(some 80), .load false 1 (.t 79), none, [], []⟩])
     (.cond (.t 80)
      (.seq
       (.region [0, 1, 6, 10] [⟨(some 82), .mv (.t 0), none, [], []⟩,
         ⟨(some 83), .mv (.t 10), none, [], []⟩,
         ⟨(some 84), .call (.c (.fn 33 [])) [(.t 82), (.t 83)] false, none, [], []⟩,
         ⟨(some 81), .mv (.t 84), none, [], []⟩,
         ⟨(some 85), .extract (.t 81) 0, none, [], []⟩,
         ⟨(some 86), .extract (.t 81) 1, none, [], []⟩,
         ⟨(some 11), .mv (.t 85), none, [], []⟩,
         ⟨(some 12), .mv (.t 86), none, [], []⟩])
       (.region [0, 1, 6, 10, 11] [⟨(some 87), .mv (.t 0), none, [], []⟩,
         ⟨(some 88), .nilck (.t 87), none, [], []⟩,
         ⟨(some 89), .faddr 0 (.t 88), none, [], []⟩,
         ⟨(some 90), .load false 1 (.t 89), none, [], []⟩,
         ⟨(some 91), .mv (.t 1), none, [], []⟩,
         ⟨(some 92), .iaddr 1 (.t 90) (.t 91), none, [], []⟩,
         ⟨(some 93), .load false 1 (.t 92), none, [], []⟩,
         ⟨(some 94), .mv (.t 10), none, [], []⟩,
         ⟨(some 95), .mv (.t 11), none, [], []⟩,
         ⟨(some 96), .build [.str ⟨#[]⟩, .bool false] [(0, 1, (.t 95))], none, [], []⟩,
         ⟨(some 97), .iaddr 2 (.t 93) (.t 94), none, [], []⟩,
         ⟨none, .store 2 (.t 97) (.t 96), none, [], []⟩]))
      .skip)))
   (.region [0, 1, 6, 10] [⟨(some 68), .mv (.t 10), none, [], []⟩,
     ⟨(some 69), .bin .add (.t 68) (.c (.int .i64 1)), none, [], []⟩,
     ⟨(some 10), .mv (.t 69), none, [], []⟩])))
/-- (*progeny/progenyref23.Area).Repair -/
def c39 : CFn := ⟨99, [.t 4, .t 5],
 (.seq
  (.region [0, 1] [⟨(some 4), .mv (.c (.int .i64 0)), none, [], []⟩,
    ⟨(some 5), .mv (.c (.int .i64 0)), none, [], []⟩])
  (.seq
   (.seq
    (.region [0, 1] [⟨(some 13), .mv (.t 1), none, [], []⟩,
      ⟨(some 14), .bin .lss (.t 13) (.c (.int .i64 0)), none, [], []⟩,
      ⟨(some 15), .mv (.t 14), none, [], []⟩,
      ⟨(some 16), .mv (.t 1), some (15, false), [], []⟩,
      ⟨(some 17), .mv (.t 0), some (15, false), [], []⟩,
      ⟨(some 18), .nilck (.t 17), some (15, false), [], []⟩,
      ⟨(some 19), .faddr 0 (.t 18), some (15, false), [], []⟩,
      ⟨(some 20), .load false 1 (.t 19), some (15, false), [], []⟩,
      ⟨(some 21), .len false (.t 20), some (15, false), [], []⟩,
      ⟨(some 22), .bin .geq (.t 16) (.t 21), some (15, false), [], []⟩,
      ⟨(some 23), .pick (.t 15) (.c (.bool true)) (.t 22), none, [], []⟩])
    (.cond (.t 23)
     (.seq
      (.region [] [⟨(some 4), .mv (.c (.int .i64 0)), none, [], []⟩,
        ⟨(some 5), .mv (.c (.int .i64 2)), none, [], []⟩])
      .ret)
     .skip))
   (.seq
    (.region [0, 1] [⟨(some 6), .mv (.c (.int .i64 0)), none, [], []⟩])
    (.seq
     (.seq
      (.region [0, 1, 6] [⟨(some 7), .mv (.c (.int .i64 0)), none, [], []⟩])
      (.block 0
       (.loop c39_l0)))
     (.seq
      (.seq
       (.region [0, 1, 6] [⟨(some 10), .mv (.c (.int .i64 0)), none, [], []⟩])
       (.block 2
        (.loop c39_l1)))
      (.seq
       (.region [6] [⟨(some 98), .mv (.t 6), none, [], []⟩,
         ⟨(some 4), .mv (.t 98), none, [], []⟩,
         ⟨(some 5), .mv (.c (.int .i64 0)), none, [], []⟩])
       .ret)))))), false, false⟩
def c40_l0 : CC :=
 (.seq
  (.region [1, 7, 19, 20, 21] [⟨(some 22), .bin .lss (.t 21) (.t 20), none, [], []⟩])
  (.seq
   (.cond (.t 22)
    .skip
    (.exit 0))
   (.seq
    (.block 1
     (.seq
      (.region [1, 7, 19, 20, 21] [⟨(some 23), .iaddr 1 (.t 19) (.t 21), none, [], []⟩,
        ⟨(some 24), .load false 1 (.t 23), none, [], []⟩,
        ⟨(some 9), .mv (.t 24), none, [], []⟩])
      (.seq
       (.region [1, 7, 9, 19, 20, 21] [⟨(some 25), .mv (.t 9), none, [], []⟩,
         ⟨(some 26), .mv (.t 1), none, [], []⟩,
         ⟨(some 27), .iaddr 2 (.t 25) (.t 26), none, [], []⟩,
         ⟨(some 28), .faddr 1 (.t 27), none, [], []⟩,
         ⟨(some 29), .load false 1 (.t 28), none, [], []⟩,
         ⟨(some 30), .un .not (.t 29), none, [], []⟩])
       (.cond (.t 30)
        (.region [1, 7, 19, 20, 21] [⟨(some 31), .mv (.t 7), none, [], []⟩,
          ⟨(some 32), .bin .add (.t 31) (.c (.int .i64 1)), none, [], []⟩,
          ⟨(some 7), .mv (.t 32), none, [], []⟩])
        .skip))))
    (.region [1, 7, 19, 20, 21] [⟨(some 33), .bin .add (.t 21) (.c (.int .i64 1)), none, [], []⟩,
      ⟨(some 21), .mv (.t 33), none, [], []⟩]))))
/-- (*progeny/fast.Area).Left -/
def c40 : CFn := ⟨35, [.t 4, .t 5],
 (.seq
  (.region [0, 1] [⟨(some 4), .mv (.c (.int .i64 0)), none, [], []⟩,
    ⟨(some 5), .mv (.c (.int .i64 0)), none, [], []⟩])
  (.seq
   (.seq
    (.region [0, 1] [⟨(some 10), .mv (.t 0), none, [], []⟩,
      ⟨(some 11), .mv (.t 1), none, [], []⟩,
      ⟨(some 12), .call (.c (.fn 60 [])) [(.t 10), (.t 11)] false, none, [], []⟩,
      ⟨(some 6), .mv (.t 12), none, [], []⟩])
    (.seq
     (.region [0, 1, 6] [⟨(some 13), .mv (.t 6), none, [], []⟩,
       ⟨(some 14), .bin .neq (.t 13) (.c (.int .i64 0)), none, [], []⟩])
     (.cond (.t 14)
      (.seq
       (.region [6] [⟨(some 15), .mv (.t 6), none, [], []⟩,
         ⟨(some 4), .mv (.c (.int .i64 0)), none, [], []⟩,
         ⟨(some 5), .mv (.t 15), none, [], []⟩])
       .ret)
      .skip)))
   (.seq
    (.region [0, 1] [⟨(some 7), .mv (.c (.int .i64 0)), none, [], []⟩])
    (.seq
     (.seq
      (.region [0, 1, 7] [⟨(some 16), .mv (.t 0), none, [], []⟩,
        ⟨(some 17), .nilck (.t 16), none, [], []⟩,
        ⟨(some 18), .faddr 0 (.t 17), none, [], []⟩,
        ⟨(some 19), .load false 1 (.t 18), none, [], []⟩,
        ⟨(some 20), .len false (.t 19), none, [], []⟩,
        ⟨(some 21), .mv (.c (.int .i64 0)), none, [], []⟩])
      (.block 0
       (.loop c40_l0)))
     (.seq
      (.region [7] [⟨(some 34), .mv (.t 7), none, [], []⟩,
        ⟨(some 4), .mv (.t 34), none, [], []⟩,
        ⟨(some 5), .mv (.c (.int .i64 0)), none, [], []⟩])
      .ret))))), false, false⟩
def c41_l0 : CC :=
 (.seq
  (.seq
   (.region [0, 1, 6, 7] [⟨(some 12), .mv (.t 7), none, [], []⟩,
     ⟨(some 13), .mv (.t 0), none, [], []⟩,
     ⟨(some 14), .nilck (.t 13), none, [], []⟩,
     ⟨(some 15), .faddr 0 (.t 14), none, [], []⟩,
     ⟨(some 16), .load false 1 (.t 15), none, [], []⟩,
     ⟨(some 17), .len false (.t 16), none, [], []⟩,
     ⟨(some 18), .bin .lss (.t 12) (.t 17), none, [], []⟩])
   (.cond (.t 18)
    .skip
    (.exit 0)))
  (.seq
   (.block 1
    (.seq
     (.region [0, 1, 6, 7] [⟨(some 21), .mv (.t 0), none, [], []⟩,
       ⟨(some 22), .nilck (.t 21), none, [], []⟩,
       ⟨(some 23), .faddr 0 (.t 22), none, [], []⟩,
       ⟨(some 24), .load false 1 (.t 23), none, [], []⟩,
       ⟨(some 25), .mv (.t 7), none, [], []⟩,
       ⟨(some 26), .iaddr 1 (.t 24) (.t 25), none, [], []⟩,
       ⟨(some 27), .load false 1 (.t 26), none, [], []⟩,
       ⟨(some 28), .mv (.t 1), none, [], []⟩,
       ⟨(some 29), .iaddr 2 (.t 27) (.t 28), none, [], []⟩,
       ⟨(some 30), .faddr 1 (.t 29), none, [], []⟩,
       ⟨(some 31), .load false 1 (.t 30), none, [], []⟩,
       ⟨(some 32), .un .not (.t 31), none, [], []⟩])
     (.cond (.t 32)
      (.region [0, 1, 6, 7] [⟨(some 33), .mv (.t 6), none, [], []⟩,
        ⟨(some 34), .bin .add (.t 33) (.c (.int .i64 1)), none, [], []⟩,
        ⟨(some 6), .mv (.t 34), none, [], []⟩])
      .skip)))
   (.region [0, 1, 6, 7] [⟨(some 19), .mv (.t 7), none, [], []⟩,
     ⟨(some 20), .bin .add (.t 19) (.c (.int .i64 1)), none, [], []⟩,
     ⟨(some 7), .mv (.t 20), none, [], []⟩])))
/-- (*progeny/progenyref23.Area).Left -/
def c41 : CFn := ⟨36, [.t 4, .t 5],
 (.seq
  (.region [0, 1] [⟨(some 4), .mv (.c (.int .i64 0)), none, [], []⟩,
    ⟨(some 5), .mv (.c (.int .i64 0)), none, [], []⟩])
  (.seq
   (.seq
    (.region [0, 1] [⟨(some 8), .mv (.t 0), none, [], []⟩,
      ⟨(some 9), .mv (.t 1), none, [], []⟩,
      ⟨(some 10), .call (.c (.fn 62 [])) [(.t 8), (.t 9)] false, none, [], []⟩,
      ⟨(some 11), .un .not (.t 10), none, [], []⟩])
    (.cond (.t 11)
     (.seq
      (.region [] [⟨(some 4), .mv (.c (.int .i64 0)), none, [], []⟩,
        ⟨(some 5), .mv (.c (.int .i64 2)), none, [], []⟩])
      .ret)
     .skip))
   (.seq
    (.region [0, 1] [⟨(some 6), .mv (.c (.int .i64 0)), none, [], []⟩])
    (.seq
     (.seq
      (.region [0, 1, 6] [⟨(some 7), .mv (.c (.int .i64 0)), none, [], []⟩])
      (.block 0
       (.loop c41_l0)))
     (.seq
      (.region [6] [⟨(some 35), .mv (.t 6), none, [], []⟩,
        ⟨(some 4), .mv (.t 35), none, [], []⟩,
        ⟨(some 5), .mv (.c (.int .i64 0)), none, [], []⟩])
      .ret))))), false, false⟩
/-- (*progeny/fast.Area).Same -/
def c42 : CFn := ⟨26, [.t 4],
 (.seq
  (.region [0, 1] [⟨(some 4), .mv (.c (.bool false)), none, [], []⟩])
  (.seq
   (.seq
    (.region [0, 1] [⟨(some 5), .mv (.t 0), none, [], []⟩,
      ⟨(some 6), .call (.c (.fn 63 [])) [(.t 5)] false, none, [], []⟩,
      ⟨(some 7), .mv (.t 6), none, [], []⟩,
      ⟨(some 8), .mv (.t 1), some (7, false), [], []⟩,
      ⟨(some 9), .call (.c (.fn 63 [])) [(.t 8)] false, some (7, false), [], []⟩,
      ⟨(some 10), .pick (.t 7) (.c (.bool true)) (.t 9), none, [], []⟩])
    (.cond (.t 10)
     (.seq
      (.region [0, 1] [⟨(some 11), .mv (.t 0), none, [], []⟩,
        ⟨(some 12), .call (.c (.fn 63 [])) [(.t 11)] false, none, [], []⟩,
        ⟨(some 13), .mv (.t 12), none, [], []⟩,
        ⟨(some 14), .mv (.t 1), some (13, true), [], []⟩,
        ⟨(some 15), .call (.c (.fn 63 [])) [(.t 14)] false, some (13, true), [], []⟩,
        ⟨(some 16), .pick (.t 13) (.t 15) (.c (.bool false)), none, [], []⟩,
        ⟨(some 4), .mv (.t 16), none, [], []⟩])
      .ret)
     .skip))
   (.seq
    (.draw [0, 1] [⟨(some 17), .mv (.t 0), none, [], []⟩,
      ⟨(some 18), .nilck (.t 17), none, [0], []⟩,
      ⟨(some 19), .faddr 0 (.t 18), none, [0, 1], []⟩,
      ⟨(some 20), .load false 1 (.t 19), none, [0, 1, 2], []⟩,
      ⟨(some 21), .mv (.t 1), none, [], []⟩,
      ⟨(some 22), .nilck (.t 21), none, [4], []⟩,
      ⟨(some 23), .faddr 0 (.t 22), none, [4, 5], []⟩,
      ⟨(some 24), .load false 1 (.t 23), none, [4, 5, 6], []⟩,
      ⟨(some 25), .call (.c (.fn 65 [])) [(.t 20), (.t 24), (.c (.fn 66 []))] false, none, [0, 1, 2, 3, 4, 5, 6, 7], []⟩,
      ⟨(some 4), .mv (.t 25), none, [0, 1, 2, 3, 4, 5, 6, 7, 8], []⟩])
    .ret))), false, false⟩
/-- progeny/fast.asked -/
def c43 : CFn := ⟨12, [.t 4],
 (.seq
  (.region [0, 1] [⟨(some 2), .box 24 2 (.t 0), none, [], []⟩,
    ⟨(some 4), .mv (.c (.int .i64 0)), none, [], []⟩])
  (.seq
   (.block 0
    (.seq
     (.region [1, 2] [⟨(some 6), .load true 2 (.t 2), none, [], []⟩,
       ⟨(some 7), .call (.c (.fn 16 [])) [(.t 6)] false, none, [], []⟩,
       ⟨(some 8), .un .not (.t 7), none, [], []⟩,
       ⟨(some 5), .mv (.t 8), none, [], []⟩])
     (.cond (.t 5)
      (.seq
       (.region [] [⟨(some 4), .mv (.c (.int .i64 210)), none, [], []⟩])
       .ret)
      (.seq
       (.region [1] [⟨(some 10), .mv (.t 1), none, [], []⟩,
         ⟨(some 11), .call (.c (.fn 67 [])) [(.t 10), (.c (.fn 68 []))] false, none, [], []⟩,
         ⟨(some 9), .mv (.t 11), none, [], []⟩])
       (.cond (.t 9)
        (.seq
         (.region [] [⟨(some 4), .mv (.c (.int .i64 211)), none, [], []⟩])
         .ret)
        .skip)))))
   (.seq
    (.region [] [⟨(some 4), .mv (.c (.int .i64 0)), none, [], []⟩])
    .ret))), false, false⟩
/-- progeny/fast.run -/
def c44 : CFn := ⟨12, [.cell 4 true 2, .t 5],
 (.seq
  (.region [0, 1] [⟨(some 2), .box 24 2 (.t 0), none, [], []⟩,
    ⟨(some 4), .box 24 2 (.c (.agg [.int .i64 0, .nils])), none, [], []⟩,
    ⟨(some 5), .mv (.c (.int .i64 0)), none, [], []⟩])
  (.seq
   (.region [1, 2, 4] [⟨(some 6), .load true 2 (.t 2), none, [], []⟩,
     ⟨(some 7), .call (.c (.fn 58 [])) [(.t 6)] false, none, [], []⟩,
     ⟨none, .store 2 (.t 2) (.t 7), none, [], []⟩])
   (.seq
    (.draw [1, 2, 4] [⟨(some 8), .load true 2 (.t 2), none, [], [4]⟩,
      ⟨(some 9), .mv (.t 1), none, [], []⟩,
      ⟨(some 10), .mkfn 70 [(.t 2)], none, [], []⟩,
      ⟨(some 11), .call (.c (.fn 69 [])) [(.t 9), (.t 10)] false, none, [1, 2], []⟩,
      ⟨none, .store 2 (.t 4) (.t 8), none, [0, 1, 2, 3], []⟩,
      ⟨(some 5), .mv (.t 11), none, [0, 1, 2, 3, 4], []⟩])
    .ret))), false, false⟩
/-- progeny/progenyref23.asked -/
def c45 : CFn := ⟨13, [.t 4],
 (.seq
  (.region [0, 1] [⟨(some 2), .box 24 2 (.t 0), none, [], []⟩,
    ⟨(some 4), .mv (.c (.int .i64 0)), none, [], []⟩])
  (.seq
   (.block 0
    (.seq
     (.region [1, 2] [⟨(some 6), .load true 2 (.t 2), none, [], []⟩,
       ⟨(some 7), .call (.c (.fn 17 [])) [(.t 6)] false, none, [], []⟩,
       ⟨(some 8), .un .not (.t 7), none, [], []⟩,
       ⟨(some 5), .mv (.t 8), none, [], []⟩])
     (.cond (.t 5)
      (.seq
       (.region [] [⟨(some 4), .mv (.c (.int .i64 210)), none, [], []⟩])
       .ret)
      (.seq
       (.region [1] [⟨(some 10), .mv (.t 1), none, [], []⟩,
         ⟨(some 11), .call (.c (.fn 19 [])) [(.t 10)] false, none, [], []⟩,
         ⟨(some 12), .un .not (.t 11), none, [], []⟩,
         ⟨(some 9), .mv (.t 12), none, [], []⟩])
       (.cond (.t 9)
        (.seq
         (.region [] [⟨(some 4), .mv (.c (.int .i64 211)), none, [], []⟩])
         .ret)
        .skip)))))
   (.seq
    (.region [] [⟨(some 4), .mv (.c (.int .i64 0)), none, [], []⟩])
    .ret))), false, false⟩
def c46_l0 : CC :=
 (.seq
  (.seq
   (.region [1, 4, 6, 7] [⟨(some 10), .mv (.t 7), none, [], []⟩,
     ⟨(some 11), .mv (.t 1), none, [], []⟩,
     ⟨(some 12), .len false (.t 11), none, [], []⟩,
     ⟨(some 13), .bin .lss (.t 10) (.t 12), none, [], []⟩])
   (.cond (.t 13)
    .skip
    (.exit 0)))
  (.seq
   (.block 1
    (.seq
     (.draw [1, 4, 6, 7] [⟨(some 16), .load true 2 (.t 6), none, [], []⟩,
       ⟨(some 17), .mv (.t 1), none, [], []⟩,
       ⟨(some 18), .mv (.t 7), none, [], []⟩,
       ⟨(some 19), .iaddr 4 (.t 17) (.t 18), none, [1, 2], []⟩,
       ⟨(some 20), .load true 4 (.t 19), none, [1, 2, 3], []⟩,
       ⟨(some 21), .call (.c (.fn 57 [])) [(.t 16), (.t 20)] false, none, [0, 1, 2, 3, 4], []⟩,
       ⟨(some 22), .bin .neq (.t 21) (.c (.str ⟨#[32, 32]⟩)), none, [0, 1, 2, 3, 4, 5], []⟩])
     (.cond (.t 22)
      (.seq
       (.region [4, 6, 7] [⟨(some 23), .load true 2 (.t 6), none, [], []⟩,
         ⟨(some 24), .mv (.t 7), none, [], []⟩,
         ⟨none, .store 2 (.t 4) (.t 23), none, [], []⟩,
         ⟨(some 5), .mv (.t 24), none, [], []⟩])
       .ret)
      .skip)))
   (.region [1, 4, 6, 7] [⟨(some 14), .mv (.t 7), none, [], []⟩,
     ⟨(some 15), .bin .add (.t 14) (.c (.int .i64 1)), none, [], []⟩,
     ⟨(some 7), .mv (.t 15), none, [], []⟩])))
/-- progeny/progenyref23.done -/
def c46 : CFn := ⟨26, [.cell 4 true 2, .t 5],
 (.seq
  (.region [0, 1] [⟨(some 2), .box 24 2 (.t 0), none, [], []⟩,
    ⟨(some 4), .box 24 2 (.c (.agg [.int .i64 0, .nils])), none, [], []⟩,
    ⟨(some 5), .mv (.c (.int .i64 0)), none, [], []⟩])
  (.seq
   (.region [1, 2, 4] [⟨(some 8), .load true 2 (.t 2), none, [], []⟩,
     ⟨(some 9), .call (.c (.fn 59 [])) [(.t 8)] false, none, [], []⟩,
     ⟨(some 6), .box 24 2 (.c (.agg [.int .i64 0, .nils])), none, [], []⟩,
     ⟨none, .store 2 (.t 6) (.t 9), none, [], []⟩])
   (.seq
    (.seq
     (.region [1, 4, 6] [⟨(some 7), .mv (.c (.int .i64 0)), none, [], []⟩])
     (.block 0
      (.loop c46_l0)))
    (.seq
     (.region [4, 6] [⟨(some 25), .load true 2 (.t 6), none, [], []⟩,
       ⟨none, .store 2 (.t 4) (.t 25), none, [], []⟩,
       ⟨(some 5), .mv (.c (.int .i64 (-1))), none, [], []⟩])
     .ret)))), false, false⟩
/-- progeny/fast.isKey -/
def c47 : CFn := ⟨11, [.t 2],
 (.seq
  (.region [0] [⟨(some 2), .mv (.c (.bool false)), none, [], []⟩])
  (.seq
   (.region [0] [⟨(some 3), .mv (.t 0), none, [], []⟩,
     ⟨(some 4), .len true (.t 3), none, [], []⟩,
     ⟨(some 5), .bin .geq (.t 4) (.c (.int .i64 1)), none, [], []⟩,
     ⟨(some 6), .mv (.t 5), none, [], []⟩,
     ⟨(some 7), .mv (.t 0), some (6, true), [], []⟩,
     ⟨(some 8), .len true (.t 7), some (6, true), [], []⟩,
     ⟨(some 9), .bin .leq (.t 8) (.c (.int .i64 8)), some (6, true), [], []⟩,
     ⟨(some 10), .pick (.t 6) (.t 9) (.c (.bool false)), none, [], []⟩,
     ⟨(some 2), .mv (.t 10), none, [], []⟩])
   .ret)), false, false⟩
/-- slices.ContainsFunc[[]int,int] -/
def c48 : CFn := ⟨9, [.t 4],
 (.seq
  (.region [0, 1] [⟨(some 4), .mv (.c (.bool false)), none, [], []⟩])
  (.seq
   (.region [0, 1] [⟨(some 5), .mv (.t 0), none, [], []⟩,
     ⟨(some 6), .mv (.t 1), none, [], []⟩,
     ⟨(some 7), .call (.c (.fn 71 [])) [(.t 5), (.t 6)] false, none, [], []⟩,
     ⟨(some 8), .bin .geq (.t 7) (.c (.int .i64 0)), none, [], []⟩,
     ⟨(some 4), .mv (.t 8), none, [], []⟩])
   .ret)), false, false⟩
/-- progeny/fast.Valid$1 -/
def c49 : CFn := ⟨6, [.t 2],
 (.seq
  (.region [0] [⟨(some 2), .mv (.c (.bool false)), none, [], []⟩])
  (.seq
   (.region [0] [⟨(some 3), .mv (.t 0), none, [], []⟩,
     ⟨(some 4), .call (.c (.fn 50 [])) [(.t 3)] false, none, [], []⟩,
     ⟨(some 5), .un .not (.t 4), none, [], []⟩,
     ⟨(some 2), .mv (.t 5), none, [], []⟩])
   .ret)), false, false⟩
/-- progeny/fast.isAmount -/
def c50 : CFn := ⟨9, [.t 2],
 (.seq
  (.region [0] [⟨(some 2), .mv (.c (.bool false)), none, [], []⟩])
  (.seq
   (.region [0] [⟨(some 3), .mv (.t 0), none, [], []⟩,
     ⟨(some 4), .bin .geq (.t 3) (.c (.int .i64 (-1000000000))), none, [], []⟩,
     ⟨(some 5), .mv (.t 4), none, [], []⟩,
     ⟨(some 6), .mv (.t 0), some (5, true), [], []⟩,
     ⟨(some 7), .bin .leq (.t 6) (.c (.int .i64 1000000000)), some (5, true), [], []⟩,
     ⟨(some 8), .pick (.t 5) (.t 7) (.c (.bool false)), none, [], []⟩,
     ⟨(some 2), .mv (.t 8), none, [], []⟩])
   .ret)), false, false⟩
/-- progeny/progenyref23.within -/
def c51 : CFn := ⟨9, [.t 2],
 (.seq
  (.region [0] [⟨(some 2), .mv (.c (.bool false)), none, [], []⟩])
  (.seq
   (.region [0] [⟨(some 3), .mv (.t 0), none, [], []⟩,
     ⟨(some 4), .bin .geq (.t 3) (.c (.int .i64 (-1000000000))), none, [], []⟩,
     ⟨(some 5), .mv (.t 4), none, [], []⟩,
     ⟨(some 6), .mv (.t 0), some (5, true), [], []⟩,
     ⟨(some 7), .bin .leq (.t 6) (.c (.int .i64 1000000000)), some (5, true), [], []⟩,
     ⟨(some 8), .pick (.t 5) (.t 7) (.c (.bool false)), none, [], []⟩,
     ⟨(some 2), .mv (.t 8), none, [], []⟩])
   .ret)), false, false⟩
/-- slices.ContainsFunc[[]progeny/api.Fld,progeny/api.Fld] -/
def c52 : CFn := ⟨9, [.t 4],
 (.seq
  (.region [0, 1] [⟨(some 4), .mv (.c (.bool false)), none, [], []⟩])
  (.seq
   (.region [0, 1] [⟨(some 5), .mv (.t 0), none, [], []⟩,
     ⟨(some 6), .mv (.t 1), none, [], []⟩,
     ⟨(some 7), .call (.c (.fn 69 [])) [(.t 5), (.t 6)] false, none, [], []⟩,
     ⟨(some 8), .bin .geq (.t 7) (.c (.int .i64 0)), none, [], []⟩,
     ⟨(some 4), .mv (.t 8), none, [], []⟩])
   .ret)), false, false⟩
/-- progeny/fast.IsUnit$1 -/
def c53 : CFn := ⟨6, [.t 2],
 (.seq
  (.region [0] [⟨(some 1), .box 37 4 (.t 0), none, [], []⟩,
    ⟨(some 2), .mv (.c (.bool false)), none, [], []⟩])
  (.seq
   (.region [1] [⟨(some 3), .load true 4 (.t 1), none, [], []⟩,
     ⟨(some 4), .call (.c (.fn 54 [])) [(.t 3)] false, none, [], []⟩,
     ⟨(some 5), .un .not (.t 4), none, [], []⟩,
     ⟨(some 2), .mv (.t 5), none, [], []⟩])
   .ret)), false, false⟩
/-- progeny/fast.isCall -/
def c54 : CFn := ⟨12, [.t 2],
 (.seq
  (.region [0] [⟨(some 1), .box 37 4 (.t 0), none, [], []⟩,
    ⟨(some 2), .mv (.c (.bool false)), none, [], []⟩])
  (.seq
   (.region [1] [⟨(some 3), .bslice 9 1 [[.str ⟨#[]⟩], [.str ⟨#[]⟩], [.str ⟨#[]⟩], [.str ⟨#[]⟩], [.str ⟨#[]⟩], [.str ⟨#[]⟩]] [(0, (.c (.str ⟨#[86, 61]⟩))), (1, (.c (.str ⟨#[86, 60]⟩))), (2, (.c (.str ⟨#[86, 62]⟩))), (3, (.c (.str ⟨#[43]⟩))), (4, (.c (.str ⟨#[45]⟩))), (5, (.c (.str ⟨#[61]⟩)))], none, [], []⟩,
     ⟨(some 4), .faddr 2 (.t 1), none, [], []⟩,
     ⟨(some 5), .load false 1 (.t 4), none, [], []⟩,
     ⟨(some 6), .call (.c (.fn 72 [])) [(.t 3), (.t 5)] false, none, [], []⟩,
     ⟨(some 7), .mv (.t 6), none, [], []⟩,
     ⟨(some 8), .faddr 3 (.t 1), some (7, true), [], []⟩,
     ⟨(some 9), .load false 1 (.t 8), some (7, true), [], []⟩,
     ⟨(some 10), .call (.c (.fn 50 [])) [(.t 9)] false, some (7, true), [], []⟩,
     ⟨(some 11), .pick (.t 7) (.t 10) (.c (.bool false)), none, [], []⟩,
     ⟨(some 2), .mv (.t 11), none, [], []⟩])
   .ret)), false, false⟩
/-- progeny/progenyref23.isOp -/
def c55 : CFn := ⟨25, [.t 2],
 (.seq
  (.region [0] [⟨(some 2), .mv (.c (.bool false)), none, [], []⟩])
  (.seq
   (.region [0] [⟨(some 3), .mv (.t 0), none, [], []⟩,
     ⟨(some 4), .bin .eql (.t 3) (.c (.str ⟨#[86, 61]⟩)), none, [], []⟩,
     ⟨(some 5), .mv (.t 4), none, [], []⟩,
     ⟨(some 6), .mv (.t 0), some (5, false), [], []⟩,
     ⟨(some 7), .bin .eql (.t 6) (.c (.str ⟨#[86, 60]⟩)), some (5, false), [], []⟩,
     ⟨(some 8), .pick (.t 5) (.c (.bool true)) (.t 7), none, [], []⟩,
     ⟨(some 9), .mv (.t 8), none, [], []⟩,
     ⟨(some 10), .mv (.t 0), some (9, false), [], []⟩,
     ⟨(some 11), .bin .eql (.t 10) (.c (.str ⟨#[86, 62]⟩)), some (9, false), [], []⟩,
     ⟨(some 12), .pick (.t 9) (.c (.bool true)) (.t 11), none, [], []⟩,
     ⟨(some 13), .mv (.t 12), none, [], []⟩,
     ⟨(some 14), .mv (.t 0), some (13, false), [], []⟩,
     ⟨(some 15), .bin .eql (.t 14) (.c (.str ⟨#[43]⟩)), some (13, false), [], []⟩,
     ⟨(some 16), .pick (.t 13) (.c (.bool true)) (.t 15), none, [], []⟩,
     ⟨(some 17), .mv (.t 16), none, [], []⟩,
     ⟨(some 18), .mv (.t 0), some (17, false), [], []⟩,
     ⟨(some 19), .bin .eql (.t 18) (.c (.str ⟨#[45]⟩)), some (17, false), [], []⟩,
     ⟨(some 20), .pick (.t 17) (.c (.bool true)) (.t 19), none, [], []⟩,
     ⟨(some 21), .mv (.t 20), none, [], []⟩,
     ⟨(some 22), .mv (.t 0), some (21, false), [], []⟩,
     ⟨(some 23), .bin .eql (.t 22) (.c (.str ⟨#[61]⟩)), some (21, false), [], []⟩,
     ⟨(some 24), .pick (.t 21) (.c (.bool true)) (.t 23), none, [], []⟩,
     ⟨(some 2), .mv (.t 24), none, [], []⟩])
   .ret)), false, false⟩
/-- progeny/fast.do -/
def c56 : CFn := ⟨91, [.t 4],
 (.seq
  (.region [0, 1] [⟨(some 2), .box 24 2 (.t 0), none, [], []⟩,
    ⟨(some 3), .box 37 4 (.t 1), none, [], []⟩,
    ⟨(some 4), .mv (.c (.str ⟨#[]⟩)), none, [], []⟩])
  (.seq
   (.region [2, 3] [⟨(some 9), .faddr 1 (.t 2), none, [], []⟩,
     ⟨(some 10), .load false 1 (.t 9), none, [], []⟩,
     ⟨(some 11), .mkfn 74 [(.t 3)], none, [], []⟩,
     ⟨(some 12), .call (.c (.fn 73 [])) [(.t 10), (.t 11)] false, none, [], []⟩,
     ⟨(some 5), .mv (.t 12), none, [], []⟩])
   (.seq
    (.block 0
     (.seq
      (.region [2, 3, 5] [⟨(some 14), .mv (.t 5), none, [], []⟩,
        ⟨(some 15), .bin .lss (.t 14) (.c (.int .i64 0)), none, [], []⟩,
        ⟨(some 13), .mv (.t 15), none, [], []⟩])
      (.cond (.t 13)
       (.seq
        (.region [] [⟨(some 4), .mv (.c (.str ⟨#[71, 69]⟩)), none, [], []⟩])
        .ret)
       (.seq
        (.region [2, 3, 5] [⟨(some 17), .faddr 1 (.t 3), none, [], []⟩,
          ⟨(some 18), .load false 1 (.t 17), none, [], []⟩,
          ⟨(some 19), .bin .lss (.t 18) (.c (.int .i64 0)), none, [], []⟩,
          ⟨(some 20), .mv (.t 19), none, [], []⟩,
          ⟨(some 21), .faddr 1 (.t 3), some (20, false), [], []⟩,
          ⟨(some 22), .load false 1 (.t 21), some (20, false), [], []⟩,
          ⟨(some 23), .faddr 0 (.t 2), some (20, false), [], []⟩,
          ⟨(some 24), .load false 1 (.t 23), some (20, false), [], []⟩,
          ⟨(some 25), .bin .geq (.t 22) (.t 24), some (20, false), [], []⟩,
          ⟨(some 26), .pick (.t 20) (.c (.bool true)) (.t 25), none, [], []⟩,
          ⟨(some 27), .mv (.t 26), none, [], []⟩,
          ⟨(some 28), .load true 4 (.t 3), some (27, false), [], []⟩,
          ⟨(some 29), .call (.c (.fn 54 [])) [(.t 28)] false, some (27, false), [], []⟩,
          ⟨(some 30), .un .not (.t 29), some (27, false), [], []⟩,
          ⟨(some 31), .pick (.t 27) (.c (.bool true)) (.t 30), none, [], []⟩,
          ⟨(some 16), .mv (.t 31), none, [], []⟩])
        (.cond (.t 16)
         (.seq
          (.region [] [⟨(some 4), .mv (.c (.str ⟨#[70, 73]⟩)), none, [], []⟩])
          .ret)
         .skip)))))
    (.seq
     (.region [2, 3, 5] [⟨(some 32), .faddr 1 (.t 2), none, [], []⟩,
       ⟨(some 33), .load false 1 (.t 32), none, [], []⟩,
       ⟨(some 34), .mv (.t 5), none, [], []⟩,
       ⟨(some 35), .iaddr 2 (.t 33) (.t 34), none, [], []⟩,
       ⟨(some 36), .faddr 1 (.t 35), none, [], []⟩,
       ⟨(some 37), .load false 1 (.t 36), none, [], []⟩,
       ⟨(some 6), .mv (.t 37), none, [], []⟩])
     (.seq
      (.region [3, 6] [⟨(some 38), .mv (.t 6), none, [], []⟩,
        ⟨(some 39), .faddr 1 (.t 3), none, [], []⟩,
        ⟨(some 40), .load false 1 (.t 39), none, [], []⟩,
        ⟨(some 41), .iaddr 1 (.t 38) (.t 40), none, [], []⟩,
        ⟨(some 42), .load false 1 (.t 41), none, [], []⟩,
        ⟨(some 7), .mv (.t 42), none, [], []⟩])
      (.seq
       (.region [3, 6, 7] [⟨(some 8), .mv (.c (.bool true)), none, [], []⟩])
       (.seq
        (.seq
         (.region [3, 6, 7, 8] [⟨(some 43), .faddr 2 (.t 3), none, [], []⟩,
           ⟨(some 44), .load false 1 (.t 43), none, [], []⟩])
         (.block 1
          (.seq
           (.region [3, 6, 7, 8, 44] [⟨(some 46), .bin .eql (.t 44) (.c (.str ⟨#[86, 61]⟩)), none, [], []⟩,
             ⟨(some 45), .mv (.t 46), none, [], []⟩])
           (.cond (.t 45)
            (.region [3, 6, 7] [⟨(some 47), .mv (.t 7), none, [], []⟩,
              ⟨(some 48), .faddr 3 (.t 3), none, [], []⟩,
              ⟨(some 49), .load false 1 (.t 48), none, [], []⟩,
              ⟨(some 50), .bin .eql (.t 47) (.t 49), none, [], []⟩,
              ⟨(some 8), .mv (.t 50), none, [], []⟩])
            (.seq
             (.region [3, 6, 7, 8, 44] [⟨(some 52), .bin .eql (.t 44) (.c (.str ⟨#[86, 60]⟩)), none, [], []⟩,
               ⟨(some 51), .mv (.t 52), none, [], []⟩])
             (.cond (.t 51)
              (.region [3, 6, 7] [⟨(some 53), .mv (.t 7), none, [], []⟩,
                ⟨(some 54), .faddr 3 (.t 3), none, [], []⟩,
                ⟨(some 55), .load false 1 (.t 54), none, [], []⟩,
                ⟨(some 56), .bin .lss (.t 53) (.t 55), none, [], []⟩,
                ⟨(some 8), .mv (.t 56), none, [], []⟩])
              (.seq
               (.region [3, 6, 7, 8, 44] [⟨(some 58), .bin .eql (.t 44) (.c (.str ⟨#[86, 62]⟩)), none, [], []⟩,
                 ⟨(some 57), .mv (.t 58), none, [], []⟩])
               (.cond (.t 57)
                (.region [3, 6, 7] [⟨(some 59), .mv (.t 7), none, [], []⟩,
                  ⟨(some 60), .faddr 3 (.t 3), none, [], []⟩,
                  ⟨(some 61), .load false 1 (.t 60), none, [], []⟩,
                  ⟨(some 62), .bin .gtr (.t 59) (.t 61), none, [], []⟩,
                  ⟨(some 8), .mv (.t 62), none, [], []⟩])
                (.seq
                 (.region [3, 6, 7, 8, 44] [⟨(some 64), .bin .eql (.t 44) (.c (.str ⟨#[43]⟩)), none, [], []⟩,
                   ⟨(some 63), .mv (.t 64), none, [], []⟩])
                 (.cond (.t 63)
                  (.region [3, 6, 7, 8] [⟨(some 65), .mv (.t 7), none, [], []⟩,
                    ⟨(some 66), .faddr 3 (.t 3), none, [], []⟩,
                    ⟨(some 67), .load false 1 (.t 66), none, [], []⟩,
                    ⟨(some 68), .bin .add (.t 65) (.t 67), none, [], []⟩,
                    ⟨(some 7), .mv (.t 68), none, [], []⟩])
                  (.seq
                   (.region [3, 6, 7, 8, 44] [⟨(some 70), .bin .eql (.t 44) (.c (.str ⟨#[45]⟩)), none, [], []⟩,
                     ⟨(some 69), .mv (.t 70), none, [], []⟩])
                   (.cond (.t 69)
                    (.region [3, 6, 7, 8] [⟨(some 71), .mv (.t 7), none, [], []⟩,
                      ⟨(some 72), .faddr 3 (.t 3), none, [], []⟩,
                      ⟨(some 73), .load false 1 (.t 72), none, [], []⟩,
                      ⟨(some 74), .bin .sub (.t 71) (.t 73), none, [], []⟩,
                      ⟨(some 7), .mv (.t 74), none, [], []⟩])
                    (.seq
                     (.region [3, 6, 7, 8, 44] [⟨(some 76), .bin .eql (.t 44) (.c (.str ⟨#[61]⟩)), none, [], []⟩,
                       ⟨(some 75), .mv (.t 76), none, [], []⟩])
                     (.cond (.t 75)
                      (.region [3, 6, 8] [⟨(some 77), .faddr 3 (.t 3), none, [], []⟩,
                        ⟨(some 78), .load false 1 (.t 77), none, [], []⟩,
                        ⟨(some 7), .mv (.t 78), none, [], []⟩])
                      .skip))))))))))))))
        (.seq
         (.block 2
          (.seq
           (.region [3, 6, 7, 8] [⟨(some 80), .mv (.t 8), none, [], []⟩,
             ⟨(some 81), .un .not (.t 80), none, [], []⟩,
             ⟨(some 79), .mv (.t 81), none, [], []⟩])
           (.cond (.t 79)
            (.seq
             (.region [] [⟨(some 4), .mv (.c (.str ⟨#[70, 86]⟩)), none, [], []⟩])
             .ret)
            (.seq
             (.region [3, 6, 7] [⟨(some 83), .mv (.t 7), none, [], []⟩,
               ⟨(some 84), .call (.c (.fn 50 [])) [(.t 83)] false, none, [], []⟩,
               ⟨(some 85), .un .not (.t 84), none, [], []⟩,
               ⟨(some 82), .mv (.t 85), none, [], []⟩])
             (.cond (.t 82)
              (.seq
               (.region [] [⟨(some 4), .mv (.c (.str ⟨#[70, 79]⟩)), none, [], []⟩])
               .ret)
              .skip)))))
         (.seq
          (.region [3, 6, 7] [⟨(some 86), .mv (.t 6), none, [], []⟩,
            ⟨(some 87), .faddr 1 (.t 3), none, [], []⟩,
            ⟨(some 88), .load false 1 (.t 87), none, [], []⟩,
            ⟨(some 89), .mv (.t 7), none, [], []⟩,
            ⟨(some 90), .iaddr 1 (.t 86) (.t 88), none, [], []⟩,
            ⟨none, .store 1 (.t 90) (.t 89), none, [], []⟩])
          (.seq
           (.region [] [⟨(some 4), .mv (.c (.str ⟨#[32, 32]⟩)), none, [], []⟩])
           .ret)))))))))), false, false⟩
def c57_l0 : CC :=
 (.seq
  (.seq
   (.region [2, 3, 5, 6] [⟨(some 9), .mv (.t 6), none, [], []⟩,
     ⟨(some 10), .faddr 1 (.t 2), none, [], []⟩,
     ⟨(some 11), .load false 1 (.t 10), none, [], []⟩,
     ⟨(some 12), .len false (.t 11), none, [], []⟩,
     ⟨(some 13), .bin .lss (.t 9) (.t 12), none, [], []⟩])
   (.cond (.t 13)
    .skip
    (.exit 0)))
  (.seq
   (.block 1
    (.seq
     (.draw [2, 3, 5, 6] [⟨(some 16), .faddr 1 (.t 2), none, [], []⟩,
       ⟨(some 17), .load false 1 (.t 16), none, [0], []⟩,
       ⟨(some 18), .mv (.t 6), none, [], []⟩,
       ⟨(some 19), .iaddr 2 (.t 17) (.t 18), none, [0, 1, 2], []⟩,
       ⟨(some 20), .faddr 0 (.t 19), none, [0, 1, 2, 3], []⟩,
       ⟨(some 21), .load false 1 (.t 20), none, [0, 1, 2, 3, 4], []⟩,
       ⟨(some 22), .faddr 0 (.t 3), none, [], []⟩,
       ⟨(some 23), .load false 1 (.t 22), none, [6], []⟩,
       ⟨(some 24), .bin .eql (.t 21) (.t 23), none, [0, 1, 2, 3, 4, 5, 6, 7], []⟩])
     (.cond (.t 24)
      (.region [2, 3, 6] [⟨(some 25), .mv (.t 6), none, [], []⟩,
        ⟨(some 5), .mv (.t 25), none, [], []⟩])
      .skip)))
   (.region [2, 3, 5, 6] [⟨(some 14), .mv (.t 6), none, [], []⟩,
     ⟨(some 15), .bin .add (.t 14) (.c (.int .i64 1)), none, [], []⟩,
     ⟨(some 6), .mv (.t 15), none, [], []⟩])))
/-- progeny/progenyref23.one -/
def c57 : CFn := ⟨110, [.t 4],
 (.seq
  (.region [0, 1] [⟨(some 2), .box 24 2 (.t 0), none, [], []⟩,
    ⟨(some 3), .box 37 4 (.t 1), none, [], []⟩,
    ⟨(some 4), .mv (.c (.str ⟨#[]⟩)), none, [], []⟩])
  (.seq
   (.region [2, 3] [⟨(some 5), .mv (.c (.int .i64 (-1))), none, [], []⟩])
   (.seq
    (.seq
     (.region [2, 3, 5] [⟨(some 6), .mv (.c (.int .i64 0)), none, [], []⟩])
     (.block 0
      (.loop c57_l0)))
    (.seq
     (.seq
      (.region [2, 3, 5] [⟨(some 26), .mv (.t 5), none, [], []⟩,
        ⟨(some 27), .bin .lss (.t 26) (.c (.int .i64 0)), none, [], []⟩])
      (.cond (.t 27)
       (.seq
        (.region [] [⟨(some 4), .mv (.c (.str ⟨#[71, 69]⟩)), none, [], []⟩])
        .ret)
       .skip))
     (.seq
      (.seq
       (.region [2, 3, 5] [⟨(some 28), .faddr 1 (.t 3), none, [], []⟩,
         ⟨(some 29), .load false 1 (.t 28), none, [], []⟩,
         ⟨(some 30), .bin .lss (.t 29) (.c (.int .i64 0)), none, [], []⟩,
         ⟨(some 31), .mv (.t 30), none, [], []⟩,
         ⟨(some 32), .faddr 1 (.t 3), some (31, false), [], []⟩,
         ⟨(some 33), .load false 1 (.t 32), some (31, false), [], []⟩,
         ⟨(some 34), .faddr 0 (.t 2), some (31, false), [], []⟩,
         ⟨(some 35), .load false 1 (.t 34), some (31, false), [], []⟩,
         ⟨(some 36), .bin .geq (.t 33) (.t 35), some (31, false), [], []⟩,
         ⟨(some 37), .pick (.t 31) (.c (.bool true)) (.t 36), none, [], []⟩,
         ⟨(some 38), .mv (.t 37), none, [], []⟩,
         ⟨(some 39), .faddr 2 (.t 3), some (38, false), [], []⟩,
         ⟨(some 40), .load false 1 (.t 39), some (38, false), [], []⟩,
         ⟨(some 41), .call (.c (.fn 55 [])) [(.t 40)] false, some (38, false), [], []⟩,
         ⟨(some 42), .un .not (.t 41), some (38, false), [], []⟩,
         ⟨(some 43), .pick (.t 38) (.c (.bool true)) (.t 42), none, [], []⟩,
         ⟨(some 44), .mv (.t 43), none, [], []⟩,
         ⟨(some 45), .faddr 3 (.t 3), some (44, false), [], []⟩,
         ⟨(some 46), .load false 1 (.t 45), some (44, false), [], []⟩,
         ⟨(some 47), .call (.c (.fn 51 [])) [(.t 46)] false, some (44, false), [], []⟩,
         ⟨(some 48), .un .not (.t 47), some (44, false), [], []⟩,
         ⟨(some 49), .pick (.t 44) (.c (.bool true)) (.t 48), none, [], []⟩])
       (.cond (.t 49)
        (.seq
         (.region [] [⟨(some 4), .mv (.c (.str ⟨#[70, 73]⟩)), none, [], []⟩])
         .ret)
        .skip))
      (.seq
       (.draw [2, 3, 5] [⟨(some 50), .faddr 1 (.t 2), none, [], []⟩,
         ⟨(some 51), .load false 1 (.t 50), none, [0], []⟩,
         ⟨(some 52), .mv (.t 5), none, [], []⟩,
         ⟨(some 53), .iaddr 2 (.t 51) (.t 52), none, [0, 1, 2], []⟩,
         ⟨(some 54), .faddr 1 (.t 53), none, [0, 1, 2, 3], []⟩,
         ⟨(some 55), .load false 1 (.t 54), none, [0, 1, 2, 3, 4], []⟩,
         ⟨(some 56), .faddr 1 (.t 3), none, [], []⟩,
         ⟨(some 57), .load false 1 (.t 56), none, [6], []⟩,
         ⟨(some 58), .iaddr 1 (.t 55) (.t 57), none, [0, 1, 2, 3, 4, 5, 6, 7], []⟩,
         ⟨(some 59), .load false 1 (.t 58), none, [0, 1, 2, 3, 4, 5, 6, 7, 8], []⟩,
         ⟨(some 7), .mv (.t 59), none, [0, 1, 2, 3, 4, 5, 6, 7, 8, 9], []⟩])
       (.seq
        (.region [2, 3, 5, 7] [⟨(some 60), .mv (.t 7), none, [], []⟩,
          ⟨(some 8), .mv (.t 60), none, [], []⟩])
        (.seq
         (.seq
          (.region [2, 3, 5, 7, 8] [⟨(some 61), .faddr 2 (.t 3), none, [], []⟩,
            ⟨(some 62), .load false 1 (.t 61), none, [], []⟩])
          (.block 2
           (.seq
            (.region [2, 3, 5, 7, 8, 62] [⟨(some 64), .bin .eql (.t 62) (.c (.str ⟨#[86, 61]⟩)), none, [], []⟩,
              ⟨(some 63), .mv (.t 64), none, [], []⟩])
            (.cond (.t 63)
             (.seq
              (.region [2, 3, 5, 7, 8] [⟨(some 65), .mv (.t 7), none, [], []⟩,
                ⟨(some 66), .faddr 3 (.t 3), none, [], []⟩,
                ⟨(some 67), .load false 1 (.t 66), none, [], []⟩,
                ⟨(some 68), .bin .neq (.t 65) (.t 67), none, [], []⟩])
              (.cond (.t 68)
               (.seq
                (.region [] [⟨(some 4), .mv (.c (.str ⟨#[70, 86]⟩)), none, [], []⟩])
                .ret)
               .skip))
             (.seq
              (.region [2, 3, 5, 7, 8, 62] [⟨(some 70), .bin .eql (.t 62) (.c (.str ⟨#[86, 60]⟩)), none, [], []⟩,
                ⟨(some 69), .mv (.t 70), none, [], []⟩])
              (.cond (.t 69)
               (.seq
                (.region [2, 3, 5, 7, 8] [⟨(some 71), .mv (.t 7), none, [], []⟩,
                  ⟨(some 72), .faddr 3 (.t 3), none, [], []⟩,
                  ⟨(some 73), .load false 1 (.t 72), none, [], []⟩,
                  ⟨(some 74), .bin .geq (.t 71) (.t 73), none, [], []⟩])
                (.cond (.t 74)
                 (.seq
                  (.region [] [⟨(some 4), .mv (.c (.str ⟨#[70, 86]⟩)), none, [], []⟩])
                  .ret)
                 .skip))
               (.seq
                (.region [2, 3, 5, 7, 8, 62] [⟨(some 76), .bin .eql (.t 62) (.c (.str ⟨#[86, 62]⟩)), none, [], []⟩,
                  ⟨(some 75), .mv (.t 76), none, [], []⟩])
                (.cond (.t 75)
                 (.seq
                  (.region [2, 3, 5, 7, 8] [⟨(some 77), .mv (.t 7), none, [], []⟩,
                    ⟨(some 78), .faddr 3 (.t 3), none, [], []⟩,
                    ⟨(some 79), .load false 1 (.t 78), none, [], []⟩,
                    ⟨(some 80), .bin .leq (.t 77) (.t 79), none, [], []⟩])
                  (.cond (.t 80)
                   (.seq
                    (.region [] [⟨(some 4), .mv (.c (.str ⟨#[70, 86]⟩)), none, [], []⟩])
                    .ret)
                   .skip))
                 (.seq
                  (.region [2, 3, 5, 7, 8, 62] [⟨(some 82), .bin .eql (.t 62) (.c (.str ⟨#[43]⟩)), none, [], []⟩,
                    ⟨(some 81), .mv (.t 82), none, [], []⟩])
                  (.cond (.t 81)
                   (.region [2, 3, 5, 7] [⟨(some 83), .mv (.t 7), none, [], []⟩,
                     ⟨(some 84), .faddr 3 (.t 3), none, [], []⟩,
                     ⟨(some 85), .load false 1 (.t 84), none, [], []⟩,
                     ⟨(some 86), .bin .add (.t 83) (.t 85), none, [], []⟩,
                     ⟨(some 8), .mv (.t 86), none, [], []⟩])
                   (.seq
                    (.region [2, 3, 5, 7, 8, 62] [⟨(some 88), .bin .eql (.t 62) (.c (.str ⟨#[45]⟩)), none, [], []⟩,
                      ⟨(some 87), .mv (.t 88), none, [], []⟩])
                    (.cond (.t 87)
                     (.region [2, 3, 5, 7] [⟨(some 89), .mv (.t 7), none, [], []⟩,
                       ⟨(some 90), .faddr 3 (.t 3), none, [], []⟩,
                       ⟨(some 91), .load false 1 (.t 90), none, [], []⟩,
                       ⟨(some 92), .bin .sub (.t 89) (.t 91), none, [], []⟩,
                       ⟨(some 8), .mv (.t 92), none, [], []⟩])
                     (.seq
                      (.region [2, 3, 5, 8, 62] [⟨(some 94), .bin .eql (.t 62) (.c (.str ⟨#[61]⟩)), none, [], []⟩,
                        ⟨(some 93), .mv (.t 94), none, [], []⟩])
                      (.cond (.t 93)
                       (.region [2, 3, 5] [⟨(some 95), .faddr 3 (.t 3), none, [], []⟩,
                         ⟨(some 96), .load false 1 (.t 95), none, [], []⟩,
                         ⟨(some 8), .mv (.t 96), none, [], []⟩])
                       .skip))))))))))))))
         (.seq
          (.seq
           (.region [2, 3, 5, 8] [⟨(some 97), .mv (.t 8), none, [], []⟩,
             ⟨(some 98), .call (.c (.fn 51 [])) [(.t 97)] false, none, [], []⟩,
             ⟨(some 99), .un .not (.t 98), none, [], []⟩])
           (.cond (.t 99)
            (.seq
             (.region [] [⟨(some 4), .mv (.c (.str ⟨#[70, 79]⟩)), none, [], []⟩])
             .ret)
            .skip))
          (.seq
           (.draw [2, 3, 5, 8] [⟨(some 100), .faddr 1 (.t 2), none, [], []⟩,
             ⟨(some 101), .load false 1 (.t 100), none, [0], []⟩,
             ⟨(some 102), .mv (.t 5), none, [], []⟩,
             ⟨(some 103), .iaddr 2 (.t 101) (.t 102), none, [0, 1, 2], []⟩,
             ⟨(some 104), .faddr 1 (.t 103), none, [0, 1, 2, 3], []⟩,
             ⟨(some 105), .load false 1 (.t 104), none, [0, 1, 2, 3, 4], []⟩,
             ⟨(some 106), .faddr 1 (.t 3), none, [], []⟩,
             ⟨(some 107), .load false 1 (.t 106), none, [6], []⟩,
             ⟨(some 108), .mv (.t 8), none, [], []⟩,
             ⟨(some 109), .iaddr 1 (.t 105) (.t 107), none, [0, 1, 2, 3, 4, 5, 6, 7, 8], []⟩,
             ⟨none, .store 1 (.t 109) (.t 108), none, [0, 1, 2, 3, 4, 5, 6, 7, 8, 9], []⟩])
           (.seq
            (.region [] [⟨(some 4), .mv (.c (.str ⟨#[32, 32]⟩)), none, [], []⟩])
            .ret))))))))))), false, false⟩
def c58_l0 : CC :=
 (.seq
  (.region [1, 2, 10, 11, 12] [⟨(some 13), .bin .lss (.t 12) (.t 11), none, [], []⟩])
  (.seq
   (.cond (.t 13)
    .skip
    (.exit 0))
   (.seq
    (.block 1
     (.seq
      (.region [1, 2, 10, 11, 12] [⟨(some 14), .mv (.t 12), none, [], []⟩,
        ⟨(some 15), .iaddr 2 (.t 10) (.t 12), none, [], []⟩,
        ⟨(some 16), .load true 2 (.t 15), none, [], []⟩,
        ⟨(some 4), .box 76 2 (.c (.agg [.str ⟨#[]⟩, .nils])), none, [], []⟩,
        ⟨(some 3), .mv (.t 14), none, [], []⟩,
        ⟨none, .store 2 (.t 4) (.t 16), none, [], []⟩])
      (.draw [1, 2, 3, 4, 10, 11, 12] [⟨(some 17), .faddr 1 (.t 1), none, [], []⟩,
        ⟨(some 18), .load false 1 (.t 17), none, [0], [6]⟩,
        ⟨(some 19), .mv (.t 3), none, [], []⟩,
        ⟨(some 20), .faddr 1 (.t 4), none, [], []⟩,
        ⟨(some 21), .load false 1 (.t 20), none, [3], []⟩,
        ⟨(some 22), .call (.c (.fn 76 [])) [(.t 21)] false, none, [3, 4], []⟩,
        ⟨(some 23), .iaddr 2 (.t 18) (.t 19), none, [0, 1, 2, 3, 4, 5], []⟩,
        ⟨(some 24), .faddr 1 (.t 23), none, [0, 1, 2, 3, 4, 5, 6], []⟩,
        ⟨none, .store 1 (.t 24) (.t 22), none, [0, 1, 2, 3, 4, 5, 6, 7], []⟩])))
    (.region [1, 2, 10, 11, 12] [⟨(some 25), .bin .add (.t 12) (.c (.int .i64 1)), none, [], []⟩,
      ⟨(some 12), .mv (.t 25), none, [], []⟩]))))
/-- progeny/fast.copied -/
def c58 : CFn := ⟨27, [.cell 2 true 2],
 (.seq
  (.region [0] [⟨(some 1), .box 24 2 (.t 0), none, [], []⟩,
    ⟨(some 2), .box 24 2 (.c (.agg [.int .i64 0, .nils])), none, [], []⟩])
  (.seq
   (.region [1, 2] [⟨(some 5), .faddr 1 (.t 1), none, [], []⟩,
     ⟨(some 6), .load false 1 (.t 5), none, [], []⟩,
     ⟨(some 7), .call (.c (.fn 75 [])) [(.t 6)] false, none, [], []⟩,
     ⟨(some 8), .faddr 1 (.t 1), none, [], []⟩,
     ⟨none, .store 1 (.t 8) (.t 7), none, [], []⟩])
   (.seq
    (.seq
     (.region [1, 2] [⟨(some 9), .faddr 1 (.t 1), none, [], []⟩,
       ⟨(some 10), .load false 1 (.t 9), none, [], []⟩,
       ⟨(some 11), .len false (.t 10), none, [], []⟩,
       ⟨(some 12), .mv (.c (.int .i64 0)), none, [], []⟩])
     (.block 0
      (.loop c58_l0)))
    (.seq
     (.region [1, 2] [⟨(some 26), .load true 2 (.t 1), none, [], []⟩,
       ⟨none, .store 2 (.t 2) (.t 26), none, [], []⟩])
     .ret)))), false, false⟩
def c59_l0 : CC :=
 (.seq
  (.seq
   (.region [1, 2, 3, 4] [⟨(some 8), .mv (.t 4), none, [], []⟩,
     ⟨(some 9), .faddr 1 (.t 1), none, [], []⟩,
     ⟨(some 10), .load false 1 (.t 9), none, [], []⟩,
     ⟨(some 11), .len false (.t 10), none, [], []⟩,
     ⟨(some 12), .bin .lss (.t 8) (.t 11), none, [], []⟩])
   (.cond (.t 12)
    .skip
    (.exit 0)))
  (.seq
   (.block 1
    (.draw [1, 2, 3, 4] [⟨(some 15), .faddr 1 (.t 3), none, [], []⟩,
      ⟨(some 16), .load false 1 (.t 15), none, [0], [9, 16, 18]⟩,
      ⟨(some 17), .faddr 1 (.t 1), none, [], []⟩,
      ⟨(some 18), .load false 1 (.t 17), none, [2], [9, 16]⟩,
      ⟨(some 19), .mv (.t 4), none, [], []⟩,
      ⟨(some 20), .iaddr 2 (.t 18) (.t 19), none, [2, 3, 4], []⟩,
      ⟨(some 21), .faddr 0 (.t 20), none, [2, 3, 4, 5], []⟩,
      ⟨(some 22), .load false 1 (.t 21), none, [2, 3, 4, 5, 6], [9, 16]⟩,
      ⟨(some 23), .bslice 3 1 [] [], none, [], []⟩,
      ⟨(some 24), .faddr 1 (.t 1), none, [], []⟩,
      ⟨(some 25), .load false 1 (.t 24), none, [9], [8]⟩,
      ⟨(some 26), .mv (.t 4), none, [], []⟩,
      ⟨(some 27), .iaddr 2 (.t 25) (.t 26), none, [9, 10, 11], []⟩,
      ⟨(some 28), .faddr 1 (.t 27), none, [9, 10, 11, 12], []⟩,
      ⟨(some 29), .load false 1 (.t 28), none, [9, 10, 11, 12, 13], [8]⟩,
      ⟨(some 30), .app 3 1 8 false (.t 23) (.t 29), none, [8, 9, 10, 11, 12, 13, 14], []⟩,
      ⟨(some 31), .build [.str ⟨#[]⟩, .nils] [(0, 1, (.t 22)), (1, 1, (.t 30))], none, [2, 3, 4, 5, 6, 7, 8, 9, 10, 11, 12, 13, 14, 15], []⟩,
      ⟨(some 32), .bslice 76 2 [[.str ⟨#[]⟩, .nils]] [(0, (.t 31))], none, [2, 3, 4, 5, 6, 7, 8, 9, 10, 11, 12, 13, 14, 15, 16], []⟩,
      ⟨(some 33), .app 76 2 40 false (.t 16) (.t 32), none, [0, 1, 2, 3, 4, 5, 6, 7, 8, 9, 10, 11, 12, 13, 14, 15, 16, 17], []⟩,
      ⟨(some 34), .faddr 1 (.t 3), none, [0, 1, 2, 3, 4, 5, 6, 7, 8, 9, 10, 11, 12, 13, 14, 15, 16, 17, 18], []⟩,
      ⟨none, .store 1 (.t 34) (.t 33), none, [0, 1, 2, 3, 4, 5, 6, 7, 8, 9, 10, 11, 12, 13, 14, 15, 16, 17, 18, 19], []⟩]))
   (.region [1, 2, 3, 4] [⟨(some 13), .mv (.t 4), none, [], []⟩,
     ⟨(some 14), .bin .add (.t 13) (.c (.int .i64 1)), none, [], []⟩,
     ⟨(some 4), .mv (.t 14), none, [], []⟩])))
/-- progeny/progenyref23.copied -/
def c59 : CFn := ⟨36, [.cell 2 true 2],
 (.seq
  (.region [0] [⟨(some 1), .box 24 2 (.t 0), none, [], []⟩,
    ⟨(some 2), .box 24 2 (.c (.agg [.int .i64 0, .nils])), none, [], []⟩])
  (.seq
   (.region [1, 2] [⟨(some 5), .faddr 0 (.t 1), none, [], []⟩,
     ⟨(some 6), .load false 1 (.t 5), none, [], []⟩,
     ⟨(some 7), .build [.int .i64 0, .nils] [(0, 1, (.t 6))], none, [], []⟩,
     ⟨(some 3), .box 24 2 (.c (.agg [.int .i64 0, .nils])), none, [], []⟩,
     ⟨none, .store 2 (.t 3) (.t 7), none, [], []⟩])
   (.seq
    (.seq
     (.region [1, 2, 3] [⟨(some 4), .mv (.c (.int .i64 0)), none, [], []⟩])
     (.block 0
      (.loop c59_l0)))
    (.seq
     (.region [2, 3] [⟨(some 35), .load true 2 (.t 3), none, [], []⟩,
       ⟨none, .store 2 (.t 2) (.t 35), none, [], []⟩])
     .ret)))), false, false⟩
/-- (*progeny/fast.Area).asked -/
def c60 : CFn := ⟨22, [.t 4],
 (.seq
  (.region [0, 1] [⟨(some 4), .mv (.c (.int .i64 0)), none, [], []⟩])
  (.seq
   (.block 0
    (.seq
     (.region [0, 1] [⟨(some 6), .mv (.t 0), none, [], []⟩,
       ⟨(some 7), .call (.c (.fn 63 [])) [(.t 6)] false, none, [], []⟩,
       ⟨(some 5), .mv (.t 7), none, [], []⟩])
     (.cond (.t 5)
      (.seq
       (.region [] [⟨(some 4), .mv (.c (.int .i64 6)), none, [], []⟩])
       .ret)
      (.seq
       (.region [0, 1] [⟨(some 9), .mv (.t 1), none, [], []⟩,
         ⟨(some 10), .bin .lss (.t 9) (.c (.int .i64 0)), none, [], []⟩,
         ⟨(some 11), .mv (.t 10), none, [], []⟩,
         ⟨(some 12), .mv (.t 1), some (11, false), [], []⟩,
         ⟨(some 13), .mv (.t 0), some (11, false), [], []⟩,
         ⟨(some 14), .nilck (.t 13), some (11, false), [], []⟩,
         ⟨(some 15), .faddr 0 (.t 14), some (11, false), [], []⟩,
         ⟨(some 16), .load false 1 (.t 15), some (11, false), [], []⟩,
         ⟨(some 17), .iaddr 1 (.t 16) (.c (.int .i64 0)), some (11, false), [], []⟩,
         ⟨(some 18), .load false 1 (.t 17), some (11, false), [], []⟩,
         ⟨(some 19), .len false (.t 18), some (11, false), [], []⟩,
         ⟨(some 20), .bin .geq (.t 12) (.t 19), some (11, false), [], []⟩,
         ⟨(some 21), .pick (.t 11) (.c (.bool true)) (.t 20), none, [], []⟩,
         ⟨(some 8), .mv (.t 21), none, [], []⟩])
       (.cond (.t 8)
        (.seq
         (.region [] [⟨(some 4), .mv (.c (.int .i64 2)), none, [], []⟩])
         .ret)
        .skip)))))
   (.seq
    (.region [] [⟨(some 4), .mv (.c (.int .i64 0)), none, [], []⟩])
    .ret))), false, false⟩
/-- (*progeny/fast.Area).good -/
def c61 : CFn := ⟨11, [.t 4],
 (.seq
  (.region [0, 1] [⟨(some 3), .box 3 1 (.t 1), none, [], []⟩,
    ⟨(some 4), .mv (.c (.int .i64 0)), none, [], []⟩])
  (.seq
   (.region [0, 3] [⟨(some 5), .mv (.t 0), none, [], []⟩,
     ⟨(some 6), .nilck (.t 5), none, [], []⟩,
     ⟨(some 7), .faddr 0 (.t 6), none, [], []⟩,
     ⟨(some 8), .load false 1 (.t 7), none, [], []⟩,
     ⟨(some 9), .mkfn 78 [(.t 3)], none, [], []⟩,
     ⟨(some 10), .call (.c (.fn 77 [])) [(.t 8), (.t 9)] false, none, [], []⟩,
     ⟨(some 4), .mv (.t 10), none, [], []⟩])
   .ret)), false, false⟩
/-- (*progeny/progenyref23.Area).is -/
def c62 : CFn := ⟨18, [.t 4],
 (.seq
  (.region [0, 1] [⟨(some 4), .mv (.c (.bool false)), none, [], []⟩])
  (.seq
   (.region [0, 1] [⟨(some 5), .mv (.t 1), none, [], []⟩,
     ⟨(some 6), .bin .geq (.t 5) (.c (.int .i64 0)), none, [], []⟩,
     ⟨(some 7), .mv (.t 6), none, [], []⟩,
     ⟨(some 8), .mv (.t 1), some (7, true), [], []⟩,
     ⟨(some 9), .mv (.t 0), some (7, true), [], []⟩,
     ⟨(some 10), .nilck (.t 9), some (7, true), [], []⟩,
     ⟨(some 11), .faddr 0 (.t 10), some (7, true), [], []⟩,
     ⟨(some 12), .load false 1 (.t 11), some (7, true), [], []⟩,
     ⟨(some 13), .iaddr 1 (.t 12) (.c (.int .i64 0)), some (7, true), [], []⟩,
     ⟨(some 14), .load false 1 (.t 13), some (7, true), [], []⟩,
     ⟨(some 15), .len false (.t 14), some (7, true), [], []⟩,
     ⟨(some 16), .bin .lss (.t 8) (.t 15), some (7, true), [], []⟩,
     ⟨(some 17), .pick (.t 7) (.t 16) (.c (.bool false)), none, [], []⟩,
     ⟨(some 4), .mv (.t 17), none, [], []⟩])
   .ret)), false, false⟩
/-- (*progeny/fast.Area).none -/
def c63 : CFn := ⟨13, [.t 2],
 (.seq
  (.region [0] [⟨(some 2), .mv (.c (.bool false)), none, [], []⟩])
  (.seq
   (.region [0] [⟨(some 3), .mv (.t 0), none, [], []⟩,
     ⟨(some 4), .eqn false 0 (.t 3) (.c (.nilptr)), none, [], []⟩,
     ⟨(some 5), .mv (.t 4), none, [], []⟩,
     ⟨(some 6), .mv (.t 0), some (5, false), [], []⟩,
     ⟨(some 7), .nilck (.t 6), some (5, false), [], []⟩,
     ⟨(some 8), .faddr 0 (.t 7), some (5, false), [], []⟩,
     ⟨(some 9), .load false 1 (.t 8), some (5, false), [], []⟩,
     ⟨(some 10), .len false (.t 9), some (5, false), [], []⟩,
     ⟨(some 11), .bin .eql (.t 10) (.c (.int .i64 0)), some (5, false), [], []⟩,
     ⟨(some 12), .pick (.t 5) (.c (.bool true)) (.t 11), none, [], []⟩,
     ⟨(some 2), .mv (.t 12), none, [], []⟩])
   .ret)), false, false⟩
/-- slices.Clone[[]progeny/fast.block,progeny/fast.block] -/
def c64 : CFn := ⟨8, [.t 2],
 (.seq
  (.region [0] [⟨(some 2), .mv (.c (.nils)), none, [], []⟩])
  (.seq
   (.seq
    (.region [0] [⟨(some 3), .mv (.t 0), none, [], []⟩,
      ⟨(some 4), .eqn false 1 (.t 3) (.c (.nils)), none, [], []⟩])
    (.cond (.t 4)
     (.seq
      (.region [] [⟨(some 2), .mv (.c (.nils)), none, [], []⟩])
      .ret)
     .skip))
   (.seq
    (.region [0] [⟨(some 5), .bslice 96 2 [] [], none, [], []⟩,
      ⟨(some 6), .mv (.t 0), none, [], []⟩,
      ⟨(some 7), .app 96 2 24 false (.t 5) (.t 6), none, [], []⟩,
      ⟨(some 2), .mv (.t 7), none, [], []⟩])
    .ret))), true, false⟩
def c65_l0 : CC :=
 (.seq
  (.region [1, 2, 15, 16, 17] [⟨(some 18), .bin .lss (.t 17) (.t 16), none, [], []⟩])
  (.seq
   (.cond (.t 18)
    .skip
    (.exit 0))
   (.seq
    (.block 1
     (.seq
      (.region [1, 2, 15, 16, 17] [⟨(some 19), .mv (.t 17), none, [], []⟩,
        ⟨(some 20), .iaddr 1 (.t 15) (.t 17), none, [], []⟩,
        ⟨(some 21), .load false 1 (.t 20), none, [], []⟩,
        ⟨(some 7), .mv (.t 19), none, [], []⟩,
        ⟨(some 8), .mv (.t 21), none, [], []⟩])
      (.seq
       (.region [1, 2, 7, 8, 15, 16, 17] [⟨(some 22), .mv (.t 1), none, [], []⟩,
         ⟨(some 23), .mv (.t 7), none, [], []⟩,
         ⟨(some 24), .iaddr 1 (.t 22) (.t 23), none, [], []⟩,
         ⟨(some 25), .load false 1 (.t 24), none, [], []⟩,
         ⟨(some 9), .mv (.t 25), none, [], []⟩])
       (.seq
        (.region [1, 2, 8, 9, 15, 16, 17] [⟨(some 26), .mv (.t 2), none, [], []⟩,
          ⟨(some 27), .mv (.t 8), none, [], []⟩,
          ⟨(some 28), .mv (.t 9), none, [], []⟩,
          ⟨(some 29), .call (.t 26) [(.t 27), (.t 28)] false, none, [], []⟩,
          ⟨(some 30), .un .not (.t 29), none, [], []⟩])
        (.cond (.t 30)
         (.seq
          (.region [] [⟨(some 6), .mv (.c (.bool false)), none, [], []⟩])
          .ret)
         .skip)))))
    (.region [1, 2, 15, 16, 17] [⟨(some 31), .bin .add (.t 17) (.c (.int .i64 1)), none, [], []⟩,
      ⟨(some 17), .mv (.t 31), none, [], []⟩]))))
/-- slices.EqualFunc[[][]progeny/fast.block,[][]progeny/fast.block,[]progeny/fast.block,[]progeny/fast.block] -/
def c65 : CFn := ⟨32, [.t 6],
 (.seq
  (.region [0, 1, 2] [⟨(some 6), .mv (.c (.bool false)), none, [], []⟩])
  (.seq
   (.seq
    (.region [0, 1, 2] [⟨(some 10), .mv (.t 0), none, [], []⟩,
      ⟨(some 11), .len false (.t 10), none, [], []⟩,
      ⟨(some 12), .mv (.t 1), none, [], []⟩,
      ⟨(some 13), .len false (.t 12), none, [], []⟩,
      ⟨(some 14), .bin .neq (.t 11) (.t 13), none, [], []⟩])
    (.cond (.t 14)
     (.seq
      (.region [] [⟨(some 6), .mv (.c (.bool false)), none, [], []⟩])
      .ret)
     .skip))
   (.seq
    (.seq
     (.region [0, 1, 2] [⟨(some 15), .mv (.t 0), none, [], []⟩,
       ⟨(some 16), .len false (.t 15), none, [], []⟩,
       ⟨(some 17), .mv (.c (.int .i64 0)), none, [], []⟩])
     (.block 0
      (.loop c65_l0)))
    (.seq
     (.region [] [⟨(some 6), .mv (.c (.bool true)), none, [], []⟩])
     .ret)))), false, false⟩
def c66_l0 : CC :=
 (.seq
  (.region [0, 1, 12, 13] [⟨(some 14), .bin .lss (.t 13) (.t 12), none, [], []⟩])
  (.seq
   (.cond (.t 14)
    .skip
    (.exit 0))
   (.seq
    (.block 1
     (.seq
      (.region [0, 1, 12, 13] [⟨(some 15), .mv (.t 13), none, [], []⟩,
        ⟨(some 5), .mv (.t 15), none, [], []⟩])
      (.seq
       (.draw [0, 1, 5, 12, 13] [⟨(some 16), .mv (.t 0), none, [], []⟩,
         ⟨(some 17), .mv (.t 5), none, [], []⟩,
         ⟨(some 18), .iaddr 2 (.t 16) (.t 17), none, [0, 1], []⟩,
         ⟨(some 19), .load true 2 (.t 18), none, [0, 1, 2], []⟩,
         ⟨(some 20), .mv (.t 1), none, [], []⟩,
         ⟨(some 21), .mv (.t 5), none, [], []⟩,
         ⟨(some 22), .iaddr 2 (.t 20) (.t 21), none, [4, 5], []⟩,
         ⟨(some 23), .load true 2 (.t 22), none, [4, 5, 6], []⟩,
         ⟨(some 24), .eqs true [2, 1] (.t 19) (.t 23), none, [0, 1, 2, 3, 4, 5, 6, 7], []⟩])
       (.cond (.t 24)
        (.seq
         (.region [] [⟨(some 4), .mv (.c (.bool false)), none, [], []⟩])
         .ret)
        .skip))))
    (.region [0, 1, 12, 13] [⟨(some 25), .bin .add (.t 13) (.c (.int .i64 1)), none, [], []⟩,
      ⟨(some 13), .mv (.t 25), none, [], []⟩]))))
/-- slices.Equal[[]progeny/fast.block,progeny/fast.block] -/
def c66 : CFn := ⟨26, [.t 4],
 (.seq
  (.region [0, 1] [⟨(some 4), .mv (.c (.bool false)), none, [], []⟩])
  (.seq
   (.seq
    (.region [0, 1] [⟨(some 6), .mv (.t 0), none, [], []⟩,
      ⟨(some 7), .len false (.t 6), none, [], []⟩,
      ⟨(some 8), .mv (.t 1), none, [], []⟩,
      ⟨(some 9), .len false (.t 8), none, [], []⟩,
      ⟨(some 10), .bin .neq (.t 7) (.t 9), none, [], []⟩])
    (.cond (.t 10)
     (.seq
      (.region [] [⟨(some 4), .mv (.c (.bool false)), none, [], []⟩])
      .ret)
     .skip))
   (.seq
    (.seq
     (.region [0, 1] [⟨(some 11), .mv (.t 0), none, [], []⟩,
       ⟨(some 12), .len false (.t 11), none, [], []⟩,
       ⟨(some 13), .mv (.c (.int .i64 0)), none, [], []⟩])
     (.block 0
      (.loop c66_l0)))
    (.seq
     (.region [] [⟨(some 4), .mv (.c (.bool true)), none, [], []⟩])
     .ret)))), false, false⟩
/-- slices.ContainsFunc[[][]progeny/api.Fld,[]progeny/api.Fld] -/
def c67 : CFn := ⟨9, [.t 4],
 (.seq
  (.region [0, 1] [⟨(some 4), .mv (.c (.bool false)), none, [], []⟩])
  (.seq
   (.region [0, 1] [⟨(some 5), .mv (.t 0), none, [], []⟩,
     ⟨(some 6), .mv (.t 1), none, [], []⟩,
     ⟨(some 7), .call (.c (.fn 79 [])) [(.t 5), (.t 6)] false, none, [], []⟩,
     ⟨(some 8), .bin .geq (.t 7) (.c (.int .i64 0)), none, [], []⟩,
     ⟨(some 4), .mv (.t 8), none, [], []⟩])
   .ret)), false, false⟩
/-- progeny/fast.asked$1 -/
def c68 : CFn := ⟨6, [.t 2],
 (.seq
  (.region [0] [⟨(some 2), .mv (.c (.bool false)), none, [], []⟩])
  (.seq
   (.region [0] [⟨(some 3), .mv (.t 0), none, [], []⟩,
     ⟨(some 4), .call (.c (.fn 18 [])) [(.t 3)] false, none, [], []⟩,
     ⟨(some 5), .un .not (.t 4), none, [], []⟩,
     ⟨(some 2), .mv (.t 5), none, [], []⟩])
   .ret)), false, false⟩
def c69_l0 : CC :=
 (.seq
  (.region [0, 1, 7, 8] [⟨(some 9), .bin .lss (.t 8) (.t 7), none, [], []⟩])
  (.seq
   (.cond (.t 9)
    .skip
    (.exit 0))
   (.seq
    (.block 1
     (.seq
      (.region [0, 1, 7, 8] [⟨(some 10), .mv (.t 8), none, [], []⟩,
        ⟨(some 5), .mv (.t 10), none, [], []⟩])
      (.seq
       (.region [0, 1, 5, 7, 8] [⟨(some 11), .mv (.t 1), none, [], []⟩,
         ⟨(some 12), .mv (.t 0), none, [], []⟩,
         ⟨(some 13), .mv (.t 5), none, [], []⟩,
         ⟨(some 14), .iaddr 4 (.t 12) (.t 13), none, [], []⟩,
         ⟨(some 15), .load true 4 (.t 14), none, [], []⟩,
         ⟨(some 16), .call (.t 11) [(.t 15)] false, none, [], []⟩])
       (.cond (.t 16)
        (.seq
         (.region [5] [⟨(some 17), .mv (.t 5), none, [], []⟩,
           ⟨(some 4), .mv (.t 17), none, [], []⟩])
         .ret)
        .skip))))
    (.region [0, 1, 7, 8] [⟨(some 18), .bin .add (.t 8) (.c (.int .i64 1)), none, [], []⟩,
      ⟨(some 8), .mv (.t 18), none, [], []⟩]))))
/-- slices.IndexFunc[[]progeny/api.Fld,progeny/api.Fld] -/
def c69 : CFn := ⟨19, [.t 4],
 (.seq
  (.region [0, 1] [⟨(some 4), .mv (.c (.int .i64 0)), none, [], []⟩])
  (.seq
   (.seq
    (.region [0, 1] [⟨(some 6), .mv (.t 0), none, [], []⟩,
      ⟨(some 7), .len false (.t 6), none, [], []⟩,
      ⟨(some 8), .mv (.c (.int .i64 0)), none, [], []⟩])
    (.block 0
     (.loop c69_l0)))
   (.seq
    (.region [] [⟨(some 4), .mv (.c (.int .i64 (-1))), none, [], []⟩])
    .ret))), false, false⟩
/-- progeny/fast.run$1 -/
def c70 : CFn := ⟨8, [.t 3],
 (.seq
  (.region [0, 1] [⟨(some 2), .box 37 4 (.t 0), none, [], []⟩,
    ⟨(some 3), .mv (.c (.bool false)), none, [], []⟩])
  (.seq
   (.region [1, 2] [⟨(some 4), .load true 2 (.t 1), none, [], []⟩,
     ⟨(some 5), .load true 4 (.t 2), none, [], []⟩,
     ⟨(some 6), .call (.c (.fn 56 [])) [(.t 4), (.t 5)] false, none, [], []⟩,
     ⟨(some 7), .bin .neq (.t 6) (.c (.str ⟨#[32, 32]⟩)), none, [], []⟩,
     ⟨(some 3), .mv (.t 7), none, [], []⟩])
   .ret)), false, false⟩
def c71_l0 : CC :=
 (.seq
  (.region [0, 1, 7, 8] [⟨(some 9), .bin .lss (.t 8) (.t 7), none, [], []⟩])
  (.seq
   (.cond (.t 9)
    .skip
    (.exit 0))
   (.seq
    (.block 1
     (.seq
      (.region [0, 1, 7, 8] [⟨(some 10), .mv (.t 8), none, [], []⟩,
        ⟨(some 5), .mv (.t 10), none, [], []⟩])
      (.seq
       (.region [0, 1, 5, 7, 8] [⟨(some 11), .mv (.t 1), none, [], []⟩,
         ⟨(some 12), .mv (.t 0), none, [], []⟩,
         ⟨(some 13), .mv (.t 5), none, [], []⟩,
         ⟨(some 14), .iaddr 1 (.t 12) (.t 13), none, [], []⟩,
         ⟨(some 15), .load false 1 (.t 14), none, [], []⟩,
         ⟨(some 16), .call (.t 11) [(.t 15)] false, none, [], []⟩])
       (.cond (.t 16)
        (.seq
         (.region [5] [⟨(some 17), .mv (.t 5), none, [], []⟩,
           ⟨(some 4), .mv (.t 17), none, [], []⟩])
         .ret)
        .skip))))
    (.region [0, 1, 7, 8] [⟨(some 18), .bin .add (.t 8) (.c (.int .i64 1)), none, [], []⟩,
      ⟨(some 8), .mv (.t 18), none, [], []⟩]))))
/-- slices.IndexFunc[[]int,int] -/
def c71 : CFn := ⟨19, [.t 4],
 (.seq
  (.region [0, 1] [⟨(some 4), .mv (.c (.int .i64 0)), none, [], []⟩])
  (.seq
   (.seq
    (.region [0, 1] [⟨(some 6), .mv (.t 0), none, [], []⟩,
      ⟨(some 7), .len false (.t 6), none, [], []⟩,
      ⟨(some 8), .mv (.c (.int .i64 0)), none, [], []⟩])
    (.block 0
     (.loop c71_l0)))
   (.seq
    (.region [] [⟨(some 4), .mv (.c (.int .i64 (-1))), none, [], []⟩])
    .ret))), false, false⟩
/-- slices.Contains[[]string,string] -/
def c72 : CFn := ⟨9, [.t 4],
 (.seq
  (.region [0, 1] [⟨(some 4), .mv (.c (.bool false)), none, [], []⟩])
  (.seq
   (.region [0, 1] [⟨(some 5), .mv (.t 0), none, [], []⟩,
     ⟨(some 6), .mv (.t 1), none, [], []⟩,
     ⟨(some 7), .call (.c (.fn 80 [])) [(.t 5), (.t 6)] false, none, [], []⟩,
     ⟨(some 8), .bin .geq (.t 7) (.c (.int .i64 0)), none, [], []⟩,
     ⟨(some 4), .mv (.t 8), none, [], []⟩])
   .ret)), false, false⟩
def c73_l0 : CC :=
 (.seq
  (.region [0, 1, 7, 8] [⟨(some 9), .bin .lss (.t 8) (.t 7), none, [], []⟩])
  (.seq
   (.cond (.t 9)
    .skip
    (.exit 0))
   (.seq
    (.block 1
     (.seq
      (.region [0, 1, 7, 8] [⟨(some 10), .mv (.t 8), none, [], []⟩,
        ⟨(some 5), .mv (.t 10), none, [], []⟩])
      (.seq
       (.region [0, 1, 5, 7, 8] [⟨(some 11), .mv (.t 1), none, [], []⟩,
         ⟨(some 12), .mv (.t 0), none, [], []⟩,
         ⟨(some 13), .mv (.t 5), none, [], []⟩,
         ⟨(some 14), .iaddr 2 (.t 12) (.t 13), none, [], []⟩,
         ⟨(some 15), .load true 2 (.t 14), none, [], []⟩,
         ⟨(some 16), .call (.t 11) [(.t 15)] false, none, [], []⟩])
       (.cond (.t 16)
        (.seq
         (.region [5] [⟨(some 17), .mv (.t 5), none, [], []⟩,
           ⟨(some 4), .mv (.t 17), none, [], []⟩])
         .ret)
        .skip))))
    (.region [0, 1, 7, 8] [⟨(some 18), .bin .add (.t 8) (.c (.int .i64 1)), none, [], []⟩,
      ⟨(some 8), .mv (.t 18), none, [], []⟩]))))
/-- slices.IndexFunc[[]progeny/api.Row,progeny/api.Row] -/
def c73 : CFn := ⟨19, [.t 4],
 (.seq
  (.region [0, 1] [⟨(some 4), .mv (.c (.int .i64 0)), none, [], []⟩])
  (.seq
   (.seq
    (.region [0, 1] [⟨(some 6), .mv (.t 0), none, [], []⟩,
      ⟨(some 7), .len false (.t 6), none, [], []⟩,
      ⟨(some 8), .mv (.c (.int .i64 0)), none, [], []⟩])
    (.block 0
     (.loop c73_l0)))
   (.seq
    (.region [] [⟨(some 4), .mv (.c (.int .i64 (-1))), none, [], []⟩])
    .ret))), false, false⟩
/-- progeny/fast.do$1 -/
def c74 : CFn := ⟨9, [.t 3],
 (.seq
  (.region [0, 1] [⟨(some 2), .box 76 2 (.t 0), none, [], []⟩,
    ⟨(some 3), .mv (.c (.bool false)), none, [], []⟩])
  (.seq
   (.region [1, 2] [⟨(some 4), .faddr 0 (.t 2), none, [], []⟩,
     ⟨(some 5), .load false 1 (.t 4), none, [], []⟩,
     ⟨(some 6), .faddr 0 (.t 1), none, [], []⟩,
     ⟨(some 7), .load false 1 (.t 6), none, [], []⟩,
     ⟨(some 8), .bin .eql (.t 5) (.t 7), none, [], []⟩,
     ⟨(some 3), .mv (.t 8), none, [], []⟩])
   .ret)), false, false⟩
/-- slices.Clone[[]progeny/api.Row,progeny/api.Row] -/
def c75 : CFn := ⟨8, [.t 2],
 (.seq
  (.region [0] [⟨(some 2), .mv (.c (.nils)), none, [], []⟩])
  (.seq
   (.seq
    (.region [0] [⟨(some 3), .mv (.t 0), none, [], []⟩,
      ⟨(some 4), .eqn false 1 (.t 3) (.c (.nils)), none, [], []⟩])
    (.cond (.t 4)
     (.seq
      (.region [] [⟨(some 2), .mv (.c (.nils)), none, [], []⟩])
      .ret)
     .skip))
   (.seq
    (.region [0] [⟨(some 5), .bslice 76 2 [] [], none, [], []⟩,
      ⟨(some 6), .mv (.t 0), none, [], []⟩,
      ⟨(some 7), .app 76 2 40 false (.t 5) (.t 6), none, [], []⟩,
      ⟨(some 2), .mv (.t 7), none, [], []⟩])
    .ret))), true, false⟩
/-- slices.Clone[[]int,int] -/
def c76 : CFn := ⟨8, [.t 2],
 (.seq
  (.region [0] [⟨(some 2), .mv (.c (.nils)), none, [], []⟩])
  (.seq
   (.seq
    (.region [0] [⟨(some 3), .mv (.t 0), none, [], []⟩,
      ⟨(some 4), .eqn false 1 (.t 3) (.c (.nils)), none, [], []⟩])
    (.cond (.t 4)
     (.seq
      (.region [] [⟨(some 2), .mv (.c (.nils)), none, [], []⟩])
      .ret)
     .skip))
   (.seq
    (.region [0] [⟨(some 5), .bslice 3 1 [] [], none, [], []⟩,
      ⟨(some 6), .mv (.t 0), none, [], []⟩,
      ⟨(some 7), .app 3 1 8 false (.t 5) (.t 6), none, [], []⟩,
      ⟨(some 2), .mv (.t 7), none, [], []⟩])
    .ret))), true, false⟩
def c77_l0 : CC :=
 (.seq
  (.region [0, 1, 7, 8] [⟨(some 9), .bin .lss (.t 8) (.t 7), none, [], []⟩])
  (.seq
   (.cond (.t 9)
    .skip
    (.exit 0))
   (.seq
    (.block 1
     (.seq
      (.region [0, 1, 7, 8] [⟨(some 10), .mv (.t 8), none, [], []⟩,
        ⟨(some 5), .mv (.t 10), none, [], []⟩])
      (.seq
       (.region [0, 1, 5, 7, 8] [⟨(some 11), .mv (.t 1), none, [], []⟩,
         ⟨(some 12), .mv (.t 0), none, [], []⟩,
         ⟨(some 13), .mv (.t 5), none, [], []⟩,
         ⟨(some 14), .iaddr 1 (.t 12) (.t 13), none, [], []⟩,
         ⟨(some 15), .load false 1 (.t 14), none, [], []⟩,
         ⟨(some 16), .call (.t 11) [(.t 15)] false, none, [], []⟩])
       (.cond (.t 16)
        (.seq
         (.region [5] [⟨(some 17), .mv (.t 5), none, [], []⟩,
           ⟨(some 4), .mv (.t 17), none, [], []⟩])
         .ret)
        .skip))))
    (.region [0, 1, 7, 8] [⟨(some 18), .bin .add (.t 8) (.c (.int .i64 1)), none, [], []⟩,
      ⟨(some 8), .mv (.t 18), none, [], []⟩]))))
/-- slices.IndexFunc[[][]progeny/fast.block,[]progeny/fast.block] -/
def c77 : CFn := ⟨19, [.t 4],
 (.seq
  (.region [0, 1] [⟨(some 4), .mv (.c (.int .i64 0)), none, [], []⟩])
  (.seq
   (.seq
    (.region [0, 1] [⟨(some 6), .mv (.t 0), none, [], []⟩,
      ⟨(some 7), .len false (.t 6), none, [], []⟩,
      ⟨(some 8), .mv (.c (.int .i64 0)), none, [], []⟩])
    (.block 0
     (.loop c77_l0)))
   (.seq
    (.region [] [⟨(some 4), .mv (.c (.int .i64 (-1))), none, [], []⟩])
    .ret))), false, false⟩
/-- (*progeny/fast.Area).good$1 -/
def c78 : CFn := ⟨10, [.t 3],
 (.seq
  (.region [0, 1] [⟨(some 3), .mv (.c (.bool false)), none, [], []⟩])
  (.seq
   (.region [0, 1] [⟨(some 4), .mv (.t 0), none, [], []⟩,
     ⟨(some 5), .load false 1 (.t 1), none, [], []⟩,
     ⟨(some 6), .iaddr 2 (.t 4) (.t 5), none, [], []⟩,
     ⟨(some 7), .faddr 1 (.t 6), none, [], []⟩,
     ⟨(some 8), .load false 1 (.t 7), none, [], []⟩,
     ⟨(some 9), .un .not (.t 8), none, [], []⟩,
     ⟨(some 3), .mv (.t 9), none, [], []⟩])
   .ret)), false, false⟩
def c79_l0 : CC :=
 (.seq
  (.region [0, 1, 7, 8] [⟨(some 9), .bin .lss (.t 8) (.t 7), none, [], []⟩])
  (.seq
   (.cond (.t 9)
    .skip
    (.exit 0))
   (.seq
    (.block 1
     (.seq
      (.region [0, 1, 7, 8] [⟨(some 10), .mv (.t 8), none, [], []⟩,
        ⟨(some 5), .mv (.t 10), none, [], []⟩])
      (.seq
       (.region [0, 1, 5, 7, 8] [⟨(some 11), .mv (.t 1), none, [], []⟩,
         ⟨(some 12), .mv (.t 0), none, [], []⟩,
         ⟨(some 13), .mv (.t 5), none, [], []⟩,
         ⟨(some 14), .iaddr 1 (.t 12) (.t 13), none, [], []⟩,
         ⟨(some 15), .load false 1 (.t 14), none, [], []⟩,
         ⟨(some 16), .call (.t 11) [(.t 15)] false, none, [], []⟩])
       (.cond (.t 16)
        (.seq
         (.region [5] [⟨(some 17), .mv (.t 5), none, [], []⟩,
           ⟨(some 4), .mv (.t 17), none, [], []⟩])
         .ret)
        .skip))))
    (.region [0, 1, 7, 8] [⟨(some 18), .bin .add (.t 8) (.c (.int .i64 1)), none, [], []⟩,
      ⟨(some 8), .mv (.t 18), none, [], []⟩]))))
/-- slices.IndexFunc[[][]progeny/api.Fld,[]progeny/api.Fld] -/
def c79 : CFn := ⟨19, [.t 4],
 (.seq
  (.region [0, 1] [⟨(some 4), .mv (.c (.int .i64 0)), none, [], []⟩])
  (.seq
   (.seq
    (.region [0, 1] [⟨(some 6), .mv (.t 0), none, [], []⟩,
      ⟨(some 7), .len false (.t 6), none, [], []⟩,
      ⟨(some 8), .mv (.c (.int .i64 0)), none, [], []⟩])
    (.block 0
     (.loop c79_l0)))
   (.seq
    (.region [] [⟨(some 4), .mv (.c (.int .i64 (-1))), none, [], []⟩])
    .ret))), false, false⟩
def c80_l0 : CC :=
 (.seq
  (.region [0, 1, 7, 8] [⟨(some 9), .bin .lss (.t 8) (.t 7), none, [], []⟩])
  (.seq
   (.cond (.t 9)
    .skip
    (.exit 0))
   (.seq
    (.block 1
     (.seq
      (.region [0, 1, 7, 8] [⟨(some 10), .mv (.t 8), none, [], []⟩,
        ⟨(some 5), .mv (.t 10), none, [], []⟩])
      (.seq
       (.region [0, 1, 5, 7, 8] [⟨(some 11), .mv (.t 1), none, [], []⟩,
         ⟨(some 12), .mv (.t 0), none, [], []⟩,
         ⟨(some 13), .mv (.t 5), none, [], []⟩,
         ⟨(some 14), .iaddr 1 (.t 12) (.t 13), none, [], []⟩,
         ⟨(some 15), .load false 1 (.t 14), none, [], []⟩,
         ⟨(some 16), .bin .eql (.t 11) (.t 15), none, [], []⟩])
       (.cond (.t 16)
        (.seq
         (.region [5] [⟨(some 17), .mv (.t 5), none, [], []⟩,
           ⟨(some 4), .mv (.t 17), none, [], []⟩])
         .ret)
        .skip))))
    (.region [0, 1, 7, 8] [⟨(some 18), .bin .add (.t 8) (.c (.int .i64 1)), none, [], []⟩,
      ⟨(some 8), .mv (.t 18), none, [], []⟩]))))
/-- slices.Index[[]string,string] -/
def c80 : CFn := ⟨19, [.t 4],
 (.seq
  (.region [0, 1] [⟨(some 4), .mv (.c (.int .i64 0)), none, [], []⟩])
  (.seq
   (.seq
    (.region [0, 1] [⟨(some 6), .mv (.t 0), none, [], []⟩,
      ⟨(some 7), .len false (.t 6), none, [], []⟩,
      ⟨(some 8), .mv (.c (.int .i64 0)), none, [], []⟩])
    (.block 0
     (.loop c80_l0)))
   (.seq
    (.region [] [⟨(some 4), .mv (.c (.int .i64 (-1))), none, [], []⟩])
    .ret))), false, false⟩

def ctab : List (Nat × CFn) := [(3, c3), (4, c4), (5, c5), (6, c6), (7, c7), (8, c8), (9, c9), (10, c10), (11, c11), (12, c12), (13, c13), (14, c14), (15, c15), (16, c16), (17, c17), (18, c18), (19, c19), (20, c20), (21, c21), (22, c22), (23, c23), (24, c24), (25, c25), (26, c26), (27, c27), (28, c28), (29, c29), (30, c30), (31, c31), (32, c32), (33, c33), (34, c34), (35, c35), (36, c36), (37, c37), (38, c38), (39, c39), (40, c40), (41, c41), (42, c42), (43, c43), (44, c44), (45, c45), (46, c46), (47, c47), (48, c48), (49, c49), (50, c50), (51, c51), (52, c52), (53, c53), (54, c54), (55, c55), (56, c56), (57, c57), (58, c58), (59, c59), (60, c60), (61, c61), (62, c62), (63, c63), (64, c64), (65, c65), (66, c66), (67, c67), (68, c68), (69, c69), (70, c70), (71, c71), (72, c72), (73, c73), (74, c74), (75, c75), (76, c76), (77, c77), (78, c78), (79, c79), (80, c80)]
def cprog (f : Nat) : Option CFn := (ctab.find? fun p => p.1 == f).map (·.2)
theorem ok_all : ctab.all (fun p => okFn Go.Proofs.Try.prog p.1 p.2) = true := by kernel_rfl
theorem cprog_ok {f : Nat} {c : CFn} (h : cprog f = some c) : okFn Go.Proofs.Try.prog f c = true := by
  unfold cprog at h
  cases hf : ctab.find? fun p => p.1 == f with
  | none => simp [hf] at h
  | some p =>
    simp only [hf, Option.map_some, Option.some.injEq] at h
    have h1 := List.mem_of_find?_eq_some hf
    have h2 := List.find?_some hf
    have h3 := List.all_eq_true.1 ok_all p h1
    simp only [beq_iff_eq] at h2
    rw [← h, ← h2]; exact h3
theorem at3 : cprog 3 = some c3 := rfl
theorem at4 : cprog 4 = some c4 := rfl
theorem at5 : cprog 5 = some c5 := rfl
theorem at6 : cprog 6 = some c6 := rfl
theorem at7 : cprog 7 = some c7 := rfl
theorem at8 : cprog 8 = some c8 := rfl
theorem at9 : cprog 9 = some c9 := rfl
theorem at10 : cprog 10 = some c10 := rfl
theorem at11 : cprog 11 = some c11 := rfl
theorem at12 : cprog 12 = some c12 := rfl
theorem at13 : cprog 13 = some c13 := rfl
theorem at14 : cprog 14 = some c14 := rfl
theorem at15 : cprog 15 = some c15 := rfl
theorem at16 : cprog 16 = some c16 := rfl
theorem at17 : cprog 17 = some c17 := rfl
theorem at18 : cprog 18 = some c18 := rfl
theorem at19 : cprog 19 = some c19 := rfl
theorem at20 : cprog 20 = some c20 := rfl
theorem at21 : cprog 21 = some c21 := rfl
theorem at22 : cprog 22 = some c22 := rfl
theorem at23 : cprog 23 = some c23 := rfl
theorem at24 : cprog 24 = some c24 := rfl
theorem at25 : cprog 25 = some c25 := rfl
theorem at26 : cprog 26 = some c26 := rfl
theorem at27 : cprog 27 = some c27 := rfl
theorem at28 : cprog 28 = some c28 := rfl
theorem at29 : cprog 29 = some c29 := rfl
theorem at30 : cprog 30 = some c30 := rfl
theorem at31 : cprog 31 = some c31 := rfl
theorem at32 : cprog 32 = some c32 := rfl
theorem at33 : cprog 33 = some c33 := rfl
theorem at34 : cprog 34 = some c34 := rfl
theorem at35 : cprog 35 = some c35 := rfl
theorem at36 : cprog 36 = some c36 := rfl
theorem at37 : cprog 37 = some c37 := rfl
theorem at38 : cprog 38 = some c38 := rfl
theorem at39 : cprog 39 = some c39 := rfl
theorem at40 : cprog 40 = some c40 := rfl
theorem at41 : cprog 41 = some c41 := rfl
theorem at42 : cprog 42 = some c42 := rfl
theorem at43 : cprog 43 = some c43 := rfl
theorem at44 : cprog 44 = some c44 := rfl
theorem at45 : cprog 45 = some c45 := rfl
theorem at46 : cprog 46 = some c46 := rfl
theorem at47 : cprog 47 = some c47 := rfl
theorem at48 : cprog 48 = some c48 := rfl
theorem at49 : cprog 49 = some c49 := rfl
theorem at50 : cprog 50 = some c50 := rfl
theorem at51 : cprog 51 = some c51 := rfl
theorem at52 : cprog 52 = some c52 := rfl
theorem at53 : cprog 53 = some c53 := rfl
theorem at54 : cprog 54 = some c54 := rfl
theorem at55 : cprog 55 = some c55 := rfl
theorem at56 : cprog 56 = some c56 := rfl
theorem at57 : cprog 57 = some c57 := rfl
theorem at58 : cprog 58 = some c58 := rfl
theorem at59 : cprog 59 = some c59 := rfl
theorem at60 : cprog 60 = some c60 := rfl
theorem at61 : cprog 61 = some c61 := rfl
theorem at62 : cprog 62 = some c62 := rfl
theorem at63 : cprog 63 = some c63 := rfl
theorem at64 : cprog 64 = some c64 := rfl
theorem at65 : cprog 65 = some c65 := rfl
theorem at66 : cprog 66 = some c66 := rfl
theorem at67 : cprog 67 = some c67 := rfl
theorem at68 : cprog 68 = some c68 := rfl
theorem at69 : cprog 69 = some c69 := rfl
theorem at70 : cprog 70 = some c70 := rfl
theorem at71 : cprog 71 = some c71 := rfl
theorem at72 : cprog 72 = some c72 := rfl
theorem at73 : cprog 73 = some c73 := rfl
theorem at74 : cprog 74 = some c74 := rfl
theorem at75 : cprog 75 = some c75 := rfl
theorem at76 : cprog 76 = some c76 := rfl
theorem at77 : cprog 77 = some c77 := rfl
theorem at78 : cprog 78 = some c78 := rfl
theorem at79 : cprog 79 = some c79 := rfl
theorem at80 : cprog 80 = some c80 := rfl
end Go.Proofs.Ytehcdcnghcbimaa.Code
