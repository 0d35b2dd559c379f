/- The code of the functions, its tables resolved; each held against the program by the kernel. -/
import Derived.Test.YtfokbedokggilaaDoorW2
import Derived.Test.YtfokbedokggilaaDoorProg
set_option linter.all false
section
/- The functions of this seat's translation, their tables resolved: written by a program of ours (res.lean). -/
namespace Go.Ab.C2
open Go.Proofs Go.Ab
set_option maxRecDepth 100000
def n2 : List (Nat × List Nat) := [(0, [])]
/-- gosem.cut.init -/
def c2 : RC :=
  .reg (some []) [
    ⟨(some 0), none, .call (.f 1) [] []⟩]
theorem ok2 : fnOf Tryd.prog 2 n2 = some ⟨1, [], c2⟩ := by kernel_rfl
def n3 : List (Nat × List Nat) := [(0, [0, 1, 2]), (1, [0, 1, 2]), (2, []), (3, [0, 1, 2]), (4, [0, 1, 2, 7, 8, 9]), (5, [2, 7, 8, 9, 10, 11, 12]), (6, [2, 7, 8, 9, 10, 11, 12, 13, 14]), (7, [2, 7, 8, 9, 10, 11, 12, 13, 14, 15, 16]), (8, [2, 7, 8, 9, 10, 11, 12, 13, 14, 15, 16, 17, 18]), (9, [7, 8, 9, 10, 11, 12, 13, 14, 15, 16, 17, 18, 19, 20])]
/-- mummer/mummerlaw02.RunesDecodes -/
def c3 : RC :=
  .seq (.reg (some [0, 1, 2]) [
    ⟨(some 6), none, .asg (.c (.sc (.bool false))) none⟩]) <|
  .seq (.seq (.reg (some [0, 1, 2]) [
    ⟨(some 21), none, .mv (.t 0)⟩,
    ⟨(some 22), none, .lnL (.t 21)⟩,
    ⟨(some 23), none, .bin .gtr (.t 22) (.c (.sc (.int .i64 200)))⟩]) <|
  .cond (.t 23)
    (.seq (.reg (some []) [
      ⟨(some 24), none, .call (.f 10) [] []⟩,
      ⟨(some 6), none, .asg (.t 24) none⟩]) <|
    .ret)
    (.skip)) <|
  .seq (.reg (some [0, 1, 2]) [
    ⟨(some 26), none, .mv (.t 0)⟩,
    ⟨(some 27), none, .mv (.t 1)⟩,
    ⟨(some 28), none, .call (.f 11) [(.t 26), (.t 27)] [[(some 1)], [none]]⟩,
    ⟨(some 25), none, .mv (.t 28)⟩,
    ⟨(some 29), none, .ext (.t 25) 0⟩,
    ⟨(some 30), none, .ext (.t 25) 1⟩,
    ⟨(some 31), none, .ext (.t 25) 2⟩,
    ⟨(some 7), none, .asg (.t 29) none⟩,
    ⟨(some 8), none, .asg (.t 30) none⟩,
    ⟨(some 9), none, .asg (.t 31) none⟩]) <|
  .seq (.reg (some [0, 1, 2, 7, 8, 9]) [
    ⟨(some 33), none, .mv (.t 0)⟩,
    ⟨(some 34), none, .mv (.t 1)⟩,
    ⟨(some 35), none, .call (.f 12) [(.t 33), (.t 34)] [[(some 1)], [none]]⟩,
    ⟨(some 32), none, .mv (.t 35)⟩,
    ⟨(some 36), none, .ext (.t 32) 0⟩,
    ⟨(some 37), none, .ext (.t 32) 1⟩,
    ⟨(some 38), none, .ext (.t 32) 2⟩,
    ⟨(some 10), none, .asg (.t 36) none⟩,
    ⟨(some 11), none, .asg (.t 37) none⟩,
    ⟨(some 12), none, .asg (.t 38) none⟩]) <|
  .seq (.reg (some [2, 7, 8, 9, 10, 11, 12]) [
    ⟨(some 40), none, .mv (.t 2)⟩,
    ⟨(some 41), none, .call (.f 13) [(.t 40)] [[none]]⟩,
    ⟨(some 39), none, .mv (.t 41)⟩,
    ⟨(some 42), none, .ext (.t 39) 0⟩,
    ⟨(some 43), none, .ext (.t 39) 1⟩,
    ⟨(some 13), none, .asg (.t 42) (some 1)⟩,
    ⟨(some 14), none, .asg (.t 43) none⟩]) <|
  .seq (.reg (some [2, 7, 8, 9, 10, 11, 12, 13, 14]) [
    ⟨(some 45), none, .mv (.t 2)⟩,
    ⟨(some 46), none, .call (.f 14) [(.t 45)] [[none]]⟩,
    ⟨(some 44), none, .mv (.t 46)⟩,
    ⟨(some 47), none, .ext (.t 44) 0⟩,
    ⟨(some 48), none, .ext (.t 44) 1⟩,
    ⟨(some 15), none, .asg (.t 47) (some 1)⟩,
    ⟨(some 16), none, .asg (.t 48) none⟩]) <|
  .seq (.reg (some [2, 7, 8, 9, 10, 11, 12, 13, 14, 15, 16]) [
    ⟨(some 50), none, .mv (.t 2)⟩,
    ⟨(some 51), none, .call (.f 15) [(.t 50)] [[none]]⟩,
    ⟨(some 49), none, .mv (.t 51)⟩,
    ⟨(some 52), none, .ext (.t 49) 0⟩,
    ⟨(some 53), none, .ext (.t 49) 1⟩,
    ⟨(some 17), none, .asg (.t 52) none⟩,
    ⟨(some 18), none, .asg (.t 53) none⟩]) <|
  .seq (.reg (some [2, 7, 8, 9, 10, 11, 12, 13, 14, 15, 16, 17, 18]) [
    ⟨(some 55), none, .mv (.t 2)⟩,
    ⟨(some 56), none, .call (.f 16) [(.t 55)] [[none]]⟩,
    ⟨(some 54), none, .mv (.t 56)⟩,
    ⟨(some 57), none, .ext (.t 54) 0⟩,
    ⟨(some 58), none, .ext (.t 54) 1⟩,
    ⟨(some 19), none, .asg (.t 57) none⟩,
    ⟨(some 20), none, .asg (.t 58) none⟩]) <|
  .seq (.reg (some [7, 8, 9, 10, 11, 12, 13, 14, 15, 16, 17, 18, 19, 20]) [
    ⟨(some 59), none, .mv (.t 7)⟩,
    ⟨(some 60), none, .mv (.t 10)⟩,
    ⟨(some 61), none, .bin .eql (.t 59) (.t 60)⟩,
    ⟨(some 62), none, .mv (.t 61)⟩,
    ⟨(some 63), some (62, true), .mv (.t 8)⟩,
    ⟨(some 64), some (62, true), .mv (.t 11)⟩,
    ⟨(some 65), some (62, true), .bin .eql (.t 63) (.t 64)⟩,
    ⟨(some 66), none, .pick (.t 62) (.t 65) (.c (.sc (.bool false)))⟩,
    ⟨(some 67), none, .mv (.t 66)⟩,
    ⟨(some 68), some (67, true), .mv (.t 9)⟩,
    ⟨(some 69), some (67, true), .mv (.t 12)⟩,
    ⟨(some 70), some (67, true), .bin .eql (.t 68) (.t 69)⟩,
    ⟨(some 71), none, .pick (.t 67) (.t 70) (.c (.sc (.bool false)))⟩,
    ⟨(some 72), none, .mv (.t 71)⟩,
    ⟨(some 73), some (72, true), .mv (.t 13)⟩,
    ⟨(some 74), some (72, true), .bs (.t 73)⟩,
    ⟨(some 75), some (72, true), .mv (.t 15)⟩,
    ⟨(some 76), some (72, true), .bs (.t 75)⟩,
    ⟨(some 77), some (72, true), .bin .eql (.t 74) (.t 76)⟩,
    ⟨(some 78), none, .pick (.t 72) (.t 77) (.c (.sc (.bool false)))⟩,
    ⟨(some 79), none, .mv (.t 78)⟩,
    ⟨(some 80), some (79, true), .mv (.t 14)⟩,
    ⟨(some 81), some (79, true), .mv (.t 16)⟩,
    ⟨(some 82), some (79, true), .bin .eql (.t 80) (.t 81)⟩,
    ⟨(some 83), none, .pick (.t 79) (.t 82) (.c (.sc (.bool false)))⟩,
    ⟨(some 84), none, .mv (.t 83)⟩,
    ⟨(some 85), some (84, true), .mv (.t 17)⟩,
    ⟨(some 86), some (84, true), .mv (.t 19)⟩,
    ⟨(some 87), some (84, true), .bin .eql (.t 85) (.t 86)⟩,
    ⟨(some 88), none, .pick (.t 84) (.t 87) (.c (.sc (.bool false)))⟩,
    ⟨(some 89), none, .mv (.t 88)⟩,
    ⟨(some 90), some (89, true), .mv (.t 18)⟩,
    ⟨(some 91), some (89, true), .mv (.t 20)⟩,
    ⟨(some 92), some (89, true), .bin .eql (.t 90) (.t 91)⟩,
    ⟨(some 93), none, .pick (.t 89) (.t 92) (.c (.sc (.bool false)))⟩,
    ⟨(some 94), none, .mv (.t 93)⟩,
    ⟨(some 95), some (94, true), .call (.f 10) [] []⟩,
    ⟨(some 96), none, .pick (.t 94) (.t 95) (.c (.sc (.bool false)))⟩,
    ⟨(some 6), none, .asg (.t 96) none⟩]) <|
  .ret
theorem ok3 : fnOf Tryd.prog 3 n3 = some ⟨97, [.t 6], c3⟩ := by kernel_rfl
def n4 : List (Nat × List Nat) := [(0, [0]), (1, [0]), (2, [0, 3, 4]), (3, [0, 3, 4, 6]), (4, []), (5, [0, 3, 4]), (6, [3, 4]), (7, [0, 3]), (8, [0, 3, 7]), (9, [0, 3, 7, 8]), (11, [0, 3, 7, 8]), (12, [0, 3, 7, 8, 9]), (13, [0, 3, 7, 8, 9, 10]), (15, [0, 3, 7, 8, 9, 10]), (14, [0, 3, 7, 8, 9, 10]), (16, [0, 3, 7, 8, 9]), (17, []), (10, [0, 3, 7, 8]), (18, [])]
/-- mummer/mummerlaw02.RunesClasses -/
def c4 : RC :=
  .seq (.reg (some [0]) [
    ⟨(some 2), none, .asg (.c (.sc (.bool false))) none⟩]) <|
  .seq (.reg (some [0]) [
    ⟨(some 12), none, .mv (.t 0)⟩,
    ⟨(some 13), none, .call (.f 15) [(.t 12)] [[none]]⟩,
    ⟨(some 11), none, .mv (.t 13)⟩,
    ⟨(some 14), none, .ext (.t 11) 0⟩,
    ⟨(some 15), none, .ext (.t 11) 1⟩,
    ⟨(some 3), none, .asg (.t 14) none⟩,
    ⟨(some 4), none, .asg (.t 15) none⟩]) <|
  .seq (.reg (some [0, 3, 4]) [
    ⟨(some 17), none, .mv (.t 0)⟩,
    ⟨(some 18), none, .call (.f 13) [(.t 17)] [[none]]⟩,
    ⟨(some 16), none, .mv (.t 18)⟩,
    ⟨(some 19), none, .ext (.t 16) 0⟩,
    ⟨(some 20), none, .ext (.t 16) 1⟩,
    ⟨(some 5), none, .asg (.t 19) (some 1)⟩,
    ⟨(some 6), none, .asg (.t 20) none⟩]) <|
  .seq (.seq (.reg (some [0, 3, 4, 6]) [
    ⟨(some 21), none, .mv (.t 4)⟩,
    ⟨(some 22), none, .mv (.t 6)⟩,
    ⟨(some 23), none, .bin .neq (.t 21) (.t 22)⟩,
    ⟨(some 24), none, .mv (.t 23)⟩,
    ⟨(some 25), some (24, false), .mv (.t 4)⟩,
    ⟨(some 26), some (24, false), .bin .eql (.t 25) (.c (.sc (.int .i64 0)))⟩,
    ⟨(some 27), some (24, false), .mv (.t 3)⟩,
    ⟨(some 28), some (24, false), .bin .geq (.t 27) (.c (.sc (.int .i64 1)))⟩,
    ⟨(some 29), some (24, false), .mv (.t 28)⟩,
    ⟨(some 30), some (29, true), .mv (.t 3)⟩,
    ⟨(some 31), some (29, true), .bin .leq (.t 30) (.c (.sc (.int .i64 10)))⟩,
    ⟨(some 32), some (24, false), .pick (.t 29) (.t 31) (.c (.sc (.bool false)))⟩,
    ⟨(some 33), some (24, false), .eqT true false [0] (.t 26) (.t 32)⟩,
    ⟨(some 34), none, .pick (.t 24) (.c (.sc (.bool true))) (.t 33)⟩]) <|
  .cond (.t 34)
    (.seq (.reg (some []) [
      ⟨(some 2), none, .asg (.c (.sc (.bool false))) none⟩]) <|
    .ret)
    (.skip)) <|
  .seq (.seq (.reg (some [0, 3, 4]) [
    ⟨(some 35), none, .mv (.t 4)⟩,
    ⟨(some 36), none, .bin .neq (.t 35) (.c (.sc (.int .i64 0)))⟩,
    ⟨(some 37), none, .mv (.t 36)⟩,
    ⟨(some 38), some (37, false), .mv (.t 0)⟩,
    ⟨(some 39), some (37, false), .bin .geq (.t 38) (.c (.sc (.int .i32 161)))⟩,
    ⟨(some 40), none, .pick (.t 37) (.c (.sc (.bool true))) (.t 39)⟩]) <|
  .cond (.t 40)
    (.seq (.reg (some [3, 4]) [
      ⟨(some 41), none, .mv (.t 4)⟩,
      ⟨(some 42), none, .bin .neq (.t 41) (.c (.sc (.int .i64 0)))⟩,
      ⟨(some 43), none, .mv (.t 42)⟩,
      ⟨(some 44), some (43, false), .mv (.t 3)⟩,
      ⟨(some 45), some (43, false), .bin .eql (.t 44) (.c (.sc (.int .i64 9)))⟩,
      ⟨(some 46), none, .pick (.t 43) (.c (.sc (.bool true))) (.t 45)⟩,
      ⟨(some 47), none, .mv (.t 46)⟩,
      ⟨(some 48), some (47, true), .call (.f 10) [] []⟩,
      ⟨(some 49), none, .pick (.t 47) (.t 48) (.c (.sc (.bool false)))⟩,
      ⟨(some 2), none, .asg (.t 49) none⟩]) <|
    .ret)
    (.skip)) <|
  .seq (.reg (some [0, 3]) [
    ⟨(some 50), none, .bld [((1, 1), (.c (.sc (.string ⟨#[9, 10, 13, 32]⟩)))), ((2, 1), (.c (.sc (.string ⟨#[40, 91]⟩)))), ((3, 1), (.c (.sc (.string ⟨#[93, 41]⟩)))), ((4, 1), (.c (.sc (.string ⟨#[39]⟩)))), ((5, 1), (.c (.sc (.string ⟨#[35]⟩)))), ((6, 1), (.c (.sc (.string ⟨#[59]⟩)))), ((7, 1), (.c (.sc (.string ⟨#[48, 49, 50, 51, 52, 53, 54, 55, 56, 57]⟩)))), ((8, 1), (.c (.sc (.string ⟨#[45, 43]⟩)))), ((9, 1), (.c (.sc (.string ⟨#[97, 98, 99, 100, 101, 102, 103, 104, 105, 106, 107, 108, 109, 110, 111, 112, 113, 114, 115, 116, 117, 118, 119, 120, 121, 122, 65, 66, 67, 68, 69, 70, 71, 72, 73, 74, 75, 76, 77, 78, 79, 80, 81, 82, 83, 84, 85, 86, 87, 88, 89, 90, 33, 36, 37, 38, 42, 47, 58, 60, 61, 62, 63, 94, 95, 126, 46, 64]⟩))))] [(.sc (.string ⟨#[]⟩)), (.sc (.string ⟨#[]⟩)), (.sc (.string ⟨#[]⟩)), (.sc (.string ⟨#[]⟩)), (.sc (.string ⟨#[]⟩)), (.sc (.string ⟨#[]⟩)), (.sc (.string ⟨#[]⟩)), (.sc (.string ⟨#[]⟩)), (.sc (.string ⟨#[]⟩)), (.sc (.string ⟨#[]⟩))]⟩,
    ⟨(some 7), none, .al [none, none, none, none, none, none, none, none, none, none] [(.sc (.string ⟨#[]⟩)), (.sc (.string ⟨#[]⟩)), (.sc (.string ⟨#[]⟩)), (.sc (.string ⟨#[]⟩)), (.sc (.string ⟨#[]⟩)), (.sc (.string ⟨#[]⟩)), (.sc (.string ⟨#[]⟩)), (.sc (.string ⟨#[]⟩)), (.sc (.string ⟨#[]⟩)), (.sc (.string ⟨#[]⟩))]⟩,
    ⟨none, none, .st 10 [none, none, none, none, none, none, none, none, none, none] (.t 7) (.t 50)⟩]) <|
  .seq (.seq (.reg (some [0, 3, 7]) [
    ⟨(some 8), none, .asg (.c (.sc (.int .i64 1))) none⟩]) <|
  .block 0 <|
   .loop <|
    .seq (.seq (.reg (some [0, 3, 7, 8]) [
      ⟨(some 51), none, .mv (.t 8)⟩,
      ⟨(some 52), none, .bin .lss (.t 51) (.c (.sc (.int .i64 10)))⟩]) <|
    .cond (.t 52)
      (.skip)
      (.exit 0)) <|
    .seq (.block 1 <|
     .seq (.reg (some [0, 3, 7, 8]) [
       ⟨(some 9), none, .asg (.c (.sc (.bool false))) none⟩]) <|
     .seq (.seq (.reg (some [0, 3, 7, 8, 9]) [
       ⟨(some 10), none, .asg (.c (.sc (.int .i64 0))) none⟩]) <|
     .block 2 <|
      .loop <|
       .seq (.seq (.reg (some [0, 3, 7, 8, 9, 10]) [
         ⟨(some 55), none, .mv (.t 10)⟩,
         ⟨(some 56), none, .mv (.t 8)⟩,
         ⟨(some 57), none, .iaA 10 1 (.t 7) (.t 56)⟩,
         ⟨(some 58), none, .ld false 1 (.t 57)⟩,
         ⟨(some 59), none, .lnS (.t 58)⟩,
         ⟨(some 60), none, .bin .lss (.t 55) (.t 59)⟩]) <|
       .cond (.t 60)
         (.skip)
         (.exit 2)) <|
       .seq (.block 3 <|
        .reg (some [0, 3, 7, 8, 9, 10]) [
          ⟨(some 63), none, .mv (.t 9)⟩,
          ⟨(some 64), none, .mv (.t 63)⟩,
          ⟨(some 65), some (64, false), .mv (.t 8)⟩,
          ⟨(some 66), some (64, false), .iaA 10 1 (.t 7) (.t 65)⟩,
          ⟨(some 67), some (64, false), .ld false 1 (.t 66)⟩,
          ⟨(some 68), some (64, false), .mv (.t 10)⟩,
          ⟨(some 69), some (64, false), .ixS (.t 67) (.t 68)⟩,
          ⟨(some 70), some (64, false), .cv .i32 (.t 69)⟩,
          ⟨(some 71), some (64, false), .mv (.t 0)⟩,
          ⟨(some 72), some (64, false), .bin .eql (.t 70) (.t 71)⟩,
          ⟨(some 73), none, .pick (.t 64) (.c (.sc (.bool true))) (.t 72)⟩,
          ⟨(some 9), none, .asg (.t 73) none⟩]) <|
       .reg (some [0, 3, 7, 8, 9, 10]) [
         ⟨(some 61), none, .mv (.t 10)⟩,
         ⟨(some 62), none, .bin .add (.t 61) (.c (.sc (.int .i64 1)))⟩,
         ⟨(some 10), none, .asg (.t 62) none⟩]) <|
     .seq (.reg (some [0, 3, 7, 8, 9]) [
       ⟨(some 74), none, .mv (.t 9)⟩,
       ⟨(some 75), none, .mv (.t 3)⟩,
       ⟨(some 76), none, .mv (.t 8)⟩,
       ⟨(some 77), none, .bin .eql (.t 75) (.t 76)⟩,
       ⟨(some 78), none, .eqT true false [0] (.t 74) (.t 77)⟩]) <|
     .cond (.t 78)
       (.seq (.reg (some []) [
         ⟨(some 2), none, .asg (.c (.sc (.bool false))) none⟩]) <|
       .ret)
       (.skip)) <|
    .reg (some [0, 3, 7, 8]) [
      ⟨(some 53), none, .mv (.t 8)⟩,
      ⟨(some 54), none, .bin .add (.t 53) (.c (.sc (.int .i64 1)))⟩,
      ⟨(some 8), none, .asg (.t 54) none⟩]) <|
  .seq (.reg (some []) [
    ⟨(some 79), none, .call (.f 10) [] []⟩,
    ⟨(some 2), none, .asg (.t 79) none⟩]) <|
  .ret
theorem ok4 : fnOf Tryd.prog 4 n4 = some ⟨80, [.t 2], c4⟩ := by kernel_rfl
def n5 : List (Nat × List Nat) := [(0, [0, 1]), (1, [0, 1]), (2, []), (3, [0, 1]), (4, [0, 1, 5, 6]), (5, [0, 1, 5, 6, 7, 8]), (6, [0, 1, 5, 6, 7, 8, 9, 10]), (7, [0, 1, 5, 6, 7, 8, 9, 10, 11, 12]), (8, [0, 1, 5, 6, 7, 8, 9, 10, 11, 12, 13, 14]), (9, [5, 6, 7, 8, 9, 10, 11, 12, 13, 14, 15, 16])]
/-- mummer/mummerlaw02.RunesStarts -/
def c5 : RC :=
  .seq (.reg (some [0, 1]) [
    ⟨(some 4), none, .asg (.c (.sc (.bool false))) none⟩]) <|
  .seq (.seq (.reg (some [0, 1]) [
    ⟨(some 17), none, .mv (.t 0)⟩,
    ⟨(some 18), none, .lnL (.t 17)⟩,
    ⟨(some 19), none, .bin .gtr (.t 18) (.c (.sc (.int .i64 200)))⟩,
    ⟨(some 20), none, .mv (.t 19)⟩,
    ⟨(some 21), some (20, true), .mv (.t 0)⟩,
    ⟨(some 22), some (20, true), .lnL (.t 21)⟩,
    ⟨(some 23), some (20, true), .bin .leq (.t 22) (.c (.sc (.int .i64 8000)))⟩,
    ⟨(some 24), none, .pick (.t 20) (.t 23) (.c (.sc (.bool false)))⟩,
    ⟨(some 25), none, .mv (.t 24)⟩,
    ⟨(some 26), some (25, false), .mv (.t 0)⟩,
    ⟨(some 27), some (25, false), .lnL (.t 26)⟩,
    ⟨(some 28), some (25, false), .bin .gtr (.t 27) (.c (.sc (.int .i64 8100)))⟩,
    ⟨(some 29), none, .pick (.t 25) (.c (.sc (.bool true))) (.t 28)⟩]) <|
  .cond (.t 29)
    (.seq (.reg (some []) [
      ⟨(some 30), none, .call (.f 10) [] []⟩,
      ⟨(some 4), none, .asg (.t 30) none⟩]) <|
    .ret)
    (.skip)) <|
  .seq (.reg (some [0, 1]) [
    ⟨(some 32), none, .mv (.t 0)⟩,
    ⟨(some 33), none, .call (.f 17) [(.t 32)] [[(some 1)]]⟩,
    ⟨(some 31), none, .mv (.t 33)⟩,
    ⟨(some 34), none, .ext (.t 31) 0⟩,
    ⟨(some 35), none, .ext (.t 31) 1⟩,
    ⟨(some 5), none, .asg (.t 34) (some 1)⟩,
    ⟨(some 6), none, .asg (.t 35) none⟩]) <|
  .seq (.reg (some [0, 1, 5, 6]) [
    ⟨(some 37), none, .mv (.t 0)⟩,
    ⟨(some 38), none, .call (.f 18) [(.t 37)] [[(some 1)]]⟩,
    ⟨(some 36), none, .mv (.t 38)⟩,
    ⟨(some 39), none, .ext (.t 36) 0⟩,
    ⟨(some 40), none, .ext (.t 36) 1⟩,
    ⟨(some 7), none, .asg (.t 39) (some 1)⟩,
    ⟨(some 8), none, .asg (.t 40) none⟩]) <|
  .seq (.reg (some [0, 1, 5, 6, 7, 8]) [
    ⟨(some 42), none, .mv (.t 0)⟩,
    ⟨(some 43), none, .mv (.t 1)⟩,
    ⟨(some 44), none, .call (.f 19) [(.t 42), (.t 43)] [[(some 1)], [none]]⟩,
    ⟨(some 41), none, .mv (.t 44)⟩,
    ⟨(some 45), none, .ext (.t 41) 0⟩,
    ⟨(some 46), none, .ext (.t 41) 1⟩,
    ⟨(some 9), none, .asg (.t 45) none⟩,
    ⟨(some 10), none, .asg (.t 46) none⟩]) <|
  .seq (.reg (some [0, 1, 5, 6, 7, 8, 9, 10]) [
    ⟨(some 48), none, .mv (.t 0)⟩,
    ⟨(some 49), none, .mv (.t 1)⟩,
    ⟨(some 50), none, .call (.f 20) [(.t 48), (.t 49)] [[(some 1)], [none]]⟩,
    ⟨(some 47), none, .mv (.t 50)⟩,
    ⟨(some 51), none, .ext (.t 47) 0⟩,
    ⟨(some 52), none, .ext (.t 47) 1⟩,
    ⟨(some 11), none, .asg (.t 51) none⟩,
    ⟨(some 12), none, .asg (.t 52) none⟩]) <|
  .seq (.reg (some [0, 1, 5, 6, 7, 8, 9, 10, 11, 12]) [
    ⟨(some 54), none, .mv (.t 0)⟩,
    ⟨(some 55), none, .mv (.t 1)⟩,
    ⟨(some 56), none, .call (.f 21) [(.t 54), (.t 55)] [[(some 1)], [none]]⟩,
    ⟨(some 53), none, .mv (.t 56)⟩,
    ⟨(some 57), none, .ext (.t 53) 0⟩,
    ⟨(some 58), none, .ext (.t 53) 1⟩,
    ⟨(some 13), none, .asg (.t 57) none⟩,
    ⟨(some 14), none, .asg (.t 58) none⟩]) <|
  .seq (.reg (some [0, 1, 5, 6, 7, 8, 9, 10, 11, 12, 13, 14]) [
    ⟨(some 60), none, .mv (.t 0)⟩,
    ⟨(some 61), none, .mv (.t 1)⟩,
    ⟨(some 62), none, .call (.f 22) [(.t 60), (.t 61)] [[(some 1)], [none]]⟩,
    ⟨(some 59), none, .mv (.t 62)⟩,
    ⟨(some 63), none, .ext (.t 59) 0⟩,
    ⟨(some 64), none, .ext (.t 59) 1⟩,
    ⟨(some 15), none, .asg (.t 63) none⟩,
    ⟨(some 16), none, .asg (.t 64) none⟩]) <|
  .seq (.reg (some [5, 6, 7, 8, 9, 10, 11, 12, 13, 14, 15, 16]) [
    ⟨(some 65), none, .mv (.t 5)⟩,
    ⟨(some 66), none, .mv (.t 7)⟩,
    ⟨(some 67), none, .call (.f 23) [(.t 65), (.t 66)] [[(some 1)], [(some 1)]]⟩,
    ⟨(some 68), none, .mv (.t 67)⟩,
    ⟨(some 69), some (68, true), .mv (.t 6)⟩,
    ⟨(some 70), some (68, true), .mv (.t 8)⟩,
    ⟨(some 71), some (68, true), .bin .eql (.t 69) (.t 70)⟩,
    ⟨(some 72), none, .pick (.t 68) (.t 71) (.c (.sc (.bool false)))⟩,
    ⟨(some 73), none, .mv (.t 72)⟩,
    ⟨(some 74), some (73, true), .mv (.t 9)⟩,
    ⟨(some 75), some (73, true), .mv (.t 11)⟩,
    ⟨(some 76), some (73, true), .eqT false false [0] (.t 74) (.t 75)⟩,
    ⟨(some 77), none, .pick (.t 73) (.t 76) (.c (.sc (.bool false)))⟩,
    ⟨(some 78), none, .mv (.t 77)⟩,
    ⟨(some 79), some (78, true), .mv (.t 10)⟩,
    ⟨(some 80), some (78, true), .mv (.t 12)⟩,
    ⟨(some 81), some (78, true), .bin .eql (.t 79) (.t 80)⟩,
    ⟨(some 82), none, .pick (.t 78) (.t 81) (.c (.sc (.bool false)))⟩,
    ⟨(some 83), none, .mv (.t 82)⟩,
    ⟨(some 84), some (83, true), .mv (.t 13)⟩,
    ⟨(some 85), some (83, true), .mv (.t 15)⟩,
    ⟨(some 86), some (83, true), .bin .eql (.t 84) (.t 85)⟩,
    ⟨(some 87), none, .pick (.t 83) (.t 86) (.c (.sc (.bool false)))⟩,
    ⟨(some 88), none, .mv (.t 87)⟩,
    ⟨(some 89), some (88, true), .mv (.t 14)⟩,
    ⟨(some 90), some (88, true), .mv (.t 16)⟩,
    ⟨(some 91), some (88, true), .bin .eql (.t 89) (.t 90)⟩,
    ⟨(some 92), none, .pick (.t 88) (.t 91) (.c (.sc (.bool false)))⟩,
    ⟨(some 93), none, .mv (.t 92)⟩,
    ⟨(some 94), some (93, true), .call (.f 10) [] []⟩,
    ⟨(some 95), none, .pick (.t 93) (.t 94) (.c (.sc (.bool false)))⟩,
    ⟨(some 4), none, .asg (.t 95) none⟩]) <|
  .ret
theorem ok5 : fnOf Tryd.prog 5 n5 = some ⟨96, [.t 4], c5⟩ := by kernel_rfl
def n6 : List (Nat × List Nat) := [(0, [0, 1, 2]), (1, [0, 1, 2]), (2, []), (3, [0, 1, 2]), (4, [0, 1, 2, 7, 8]), (5, [0, 1, 2, 7, 8, 9, 10]), (6, []), (7, [2]), (8, [2, 8, 11]), (9, []), (10, [2, 11]), (11, [2, 11, 12]), (12, [2, 11, 12, 13]), (14, [2, 11, 12, 13]), (15, [2, 11, 12, 13, 14, 15]), (16, [2, 11, 12, 13, 14, 15, 16, 17]), (17, [2, 11, 12, 13, 14, 15, 16, 17, 19]), (18, [2, 11, 12, 13, 14, 15, 16, 17, 19, 21]), (19, []), (20, [2, 11, 12, 13, 14]), (21, [2, 11, 12, 13]), (22, []), (23, [2, 11, 12, 13]), (13, [2, 11, 12, 13]), (24, [2, 11, 12]), (25, [8, 11, 12, 22])]
/-- mummer/mummerlaw02.RunesOrder -/
def c6 : RC :=
  .seq (.reg (some [0, 1, 2]) [
    ⟨(some 6), none, .asg (.c (.sc (.bool false))) none⟩]) <|
  .seq (.seq (.reg (some [0, 1, 2]) [
    ⟨(some 23), none, .mv (.t 2)⟩,
    ⟨(some 24), none, .lnL (.t 23)⟩,
    ⟨(some 25), none, .bin .gtr (.t 24) (.c (.sc (.int .i64 200)))⟩]) <|
  .cond (.t 25)
    (.seq (.reg (some []) [
      ⟨(some 26), none, .call (.f 10) [] []⟩,
      ⟨(some 6), none, .asg (.t 26) none⟩]) <|
    .ret)
    (.skip)) <|
  .seq (.reg (some [0, 1, 2]) [
    ⟨(some 28), none, .mv (.t 0)⟩,
    ⟨(some 29), none, .call (.f 13) [(.t 28)] [[none]]⟩,
    ⟨(some 27), none, .mv (.t 29)⟩,
    ⟨(some 30), none, .ext (.t 27) 0⟩,
    ⟨(some 31), none, .ext (.t 27) 1⟩,
    ⟨(some 7), none, .asg (.t 30) (some 1)⟩,
    ⟨(some 8), none, .asg (.t 31) none⟩]) <|
  .seq (.reg (some [0, 1, 2, 7, 8]) [
    ⟨(some 33), none, .mv (.t 1)⟩,
    ⟨(some 34), none, .call (.f 13) [(.t 33)] [[none]]⟩,
    ⟨(some 32), none, .mv (.t 34)⟩,
    ⟨(some 35), none, .ext (.t 32) 0⟩,
    ⟨(some 36), none, .ext (.t 32) 1⟩,
    ⟨(some 9), none, .asg (.t 35) (some 1)⟩,
    ⟨(some 10), none, .asg (.t 36) none⟩]) <|
  .seq (.seq (.reg (some [0, 1, 2, 7, 8, 9, 10]) [
    ⟨(some 37), none, .mv (.t 8)⟩,
    ⟨(some 38), none, .bin .eql (.t 37) (.c (.sc (.int .i64 0)))⟩,
    ⟨(some 39), none, .mv (.t 38)⟩,
    ⟨(some 40), some (39, true), .mv (.t 10)⟩,
    ⟨(some 41), some (39, true), .bin .eql (.t 40) (.c (.sc (.int .i64 0)))⟩,
    ⟨(some 42), none, .pick (.t 39) (.t 41) (.c (.sc (.bool false)))⟩,
    ⟨(some 43), none, .mv (.t 42)⟩,
    ⟨(some 44), some (43, true), .mv (.t 7)⟩,
    ⟨(some 45), some (43, true), .bs (.t 44)⟩,
    ⟨(some 46), some (43, true), .mv (.t 9)⟩,
    ⟨(some 47), some (43, true), .bs (.t 46)⟩,
    ⟨(some 48), some (43, true), .bin .lss (.t 45) (.t 47)⟩,
    ⟨(some 49), some (43, true), .mv (.t 0)⟩,
    ⟨(some 50), some (43, true), .mv (.t 1)⟩,
    ⟨(some 51), some (43, true), .bin .lss (.t 49) (.t 50)⟩,
    ⟨(some 52), some (43, true), .eqT true false [0] (.t 48) (.t 51)⟩,
    ⟨(some 53), some (43, true), .mv (.t 52)⟩,
    ⟨(some 54), some (53, false), .mv (.t 7)⟩,
    ⟨(some 55), some (53, false), .bs (.t 54)⟩,
    ⟨(some 56), some (53, false), .mv (.t 9)⟩,
    ⟨(some 57), some (53, false), .bs (.t 56)⟩,
    ⟨(some 58), some (53, false), .bin .eql (.t 55) (.t 57)⟩,
    ⟨(some 59), some (53, false), .mv (.t 0)⟩,
    ⟨(some 60), some (53, false), .mv (.t 1)⟩,
    ⟨(some 61), some (53, false), .bin .eql (.t 59) (.t 60)⟩,
    ⟨(some 62), some (53, false), .eqT true false [0] (.t 58) (.t 61)⟩,
    ⟨(some 63), some (43, true), .pick (.t 53) (.c (.sc (.bool true))) (.t 62)⟩,
    ⟨(some 64), none, .pick (.t 43) (.t 63) (.c (.sc (.bool false)))⟩]) <|
  .cond (.t 64)
    (.seq (.reg (some []) [
      ⟨(some 6), none, .asg (.c (.sc (.bool false))) none⟩]) <|
    .ret)
    (.skip)) <|
  .seq (.reg (some [2]) [
    ⟨(some 66), none, .mv (.t 2)⟩,
    ⟨(some 67), none, .call (.f 17) [(.t 66)] [[(some 1)]]⟩,
    ⟨(some 65), none, .mv (.t 67)⟩,
    ⟨(some 68), none, .ext (.t 65) 0⟩,
    ⟨(some 69), none, .ext (.t 65) 1⟩,
    ⟨(some 11), none, .asg (.t 68) (some 1)⟩,
    ⟨(some 8), none, .asg (.t 69) none⟩]) <|
  .seq (.seq (.reg (some [2, 8, 11]) [
    ⟨(some 70), none, .mv (.t 8)⟩,
    ⟨(some 71), none, .bin .neq (.t 70) (.c (.sc (.int .i64 0)))⟩]) <|
  .cond (.t 71)
    (.seq (.reg (some []) [
      ⟨(some 72), none, .call (.f 10) [] []⟩,
      ⟨(some 6), none, .asg (.t 72) none⟩]) <|
    .ret)
    (.skip)) <|
  .seq (.reg (some [2, 11]) [
    ⟨(some 12), none, .asg (.c (.sc (.int .i64 0))) none⟩]) <|
  .seq (.seq (.reg (some [2, 11, 12]) [
    ⟨(some 13), none, .asg (.c (.sc (.int .i64 0))) none⟩]) <|
  .block 0 <|
   .loop <|
    .seq (.seq (.reg (some [2, 11, 12, 13]) [
      ⟨(some 73), none, .mv (.t 13)⟩,
      ⟨(some 74), none, .mv (.t 2)⟩,
      ⟨(some 75), none, .lnL (.t 74)⟩,
      ⟨(some 76), none, .bin .leq (.t 73) (.t 75)⟩]) <|
    .cond (.t 76)
      (.skip)
      (.exit 0)) <|
    .seq (.block 1 <|
     .seq (.reg (some [2, 11, 12, 13]) [
       ⟨(some 80), none, .mv (.t 2)⟩,
       ⟨(some 81), none, .mv (.t 13)⟩,
       ⟨(some 82), none, .call (.f 19) [(.t 80), (.t 81)] [[(some 1)], [none]]⟩,
       ⟨(some 79), none, .mv (.t 82)⟩,
       ⟨(some 83), none, .ext (.t 79) 0⟩,
       ⟨(some 84), none, .ext (.t 79) 1⟩,
       ⟨(some 14), none, .asg (.t 83) none⟩,
       ⟨(some 15), none, .asg (.t 84) none⟩]) <|
     .seq (.reg (some [2, 11, 12, 13, 14, 15]) [
       ⟨(some 86), none, .mv (.t 2)⟩,
       ⟨(some 87), none, .mv (.t 13)⟩,
       ⟨(some 88), none, .call (.f 21) [(.t 86), (.t 87)] [[(some 1)], [none]]⟩,
       ⟨(some 85), none, .mv (.t 88)⟩,
       ⟨(some 89), none, .ext (.t 85) 0⟩,
       ⟨(some 90), none, .ext (.t 85) 1⟩,
       ⟨(some 16), none, .asg (.t 89) none⟩,
       ⟨(some 17), none, .asg (.t 90) none⟩]) <|
     .seq (.reg (some [2, 11, 12, 13, 14, 15, 16, 17]) [
       ⟨(some 92), none, .mv (.t 2)⟩,
       ⟨(some 93), none, .mv (.t 13)⟩,
       ⟨(some 94), none, .slc 1 (.t 92) none (some (.t 93)) none⟩,
       ⟨(some 95), none, .call (.f 24) [(.t 94)] [[(some 1)]]⟩,
       ⟨(some 91), none, .mv (.t 95)⟩,
       ⟨(some 96), none, .ext (.t 91) 0⟩,
       ⟨(some 97), none, .ext (.t 91) 1⟩,
       ⟨(some 18), none, .asg (.t 96) none⟩,
       ⟨(some 19), none, .asg (.t 97) none⟩]) <|
     .seq (.reg (some [2, 11, 12, 13, 14, 15, 16, 17, 19]) [
       ⟨(some 99), none, .mv (.t 2)⟩,
       ⟨(some 100), none, .mv (.t 13)⟩,
       ⟨(some 101), none, .slc 1 (.t 99) (some (.t 100)) none none⟩,
       ⟨(some 102), none, .call (.f 24) [(.t 101)] [[(some 1)]]⟩,
       ⟨(some 98), none, .mv (.t 102)⟩,
       ⟨(some 103), none, .ext (.t 98) 0⟩,
       ⟨(some 104), none, .ext (.t 98) 1⟩,
       ⟨(some 20), none, .asg (.t 103) none⟩,
       ⟨(some 21), none, .asg (.t 104) none⟩]) <|
     .seq (.seq (.reg (some [2, 11, 12, 13, 14, 15, 16, 17, 19, 21]) [
       ⟨(some 105), none, .mv (.t 15)⟩,
       ⟨(some 106), none, .bin .neq (.t 105) (.c (.sc (.int .i64 0)))⟩,
       ⟨(some 107), none, .mv (.t 106)⟩,
       ⟨(some 108), some (107, false), .mv (.t 17)⟩,
       ⟨(some 109), some (107, false), .bin .neq (.t 108) (.c (.sc (.int .i64 0)))⟩,
       ⟨(some 110), none, .pick (.t 107) (.c (.sc (.bool true))) (.t 109)⟩,
       ⟨(some 111), none, .mv (.t 110)⟩,
       ⟨(some 112), some (111, false), .mv (.t 14)⟩,
       ⟨(some 113), some (111, false), .mv (.t 19)⟩,
       ⟨(some 114), some (111, false), .bin .eql (.t 113) (.c (.sc (.int .i64 0)))⟩,
       ⟨(some 115), some (111, false), .mv (.t 114)⟩,
       ⟨(some 116), some (115, true), .mv (.t 21)⟩,
       ⟨(some 117), some (115, true), .bin .eql (.t 116) (.c (.sc (.int .i64 0)))⟩,
       ⟨(some 118), some (111, false), .pick (.t 115) (.t 117) (.c (.sc (.bool false)))⟩,
       ⟨(some 119), some (111, false), .eqT true false [0] (.t 112) (.t 118)⟩,
       ⟨(some 120), none, .pick (.t 111) (.c (.sc (.bool true))) (.t 119)⟩,
       ⟨(some 121), none, .mv (.t 120)⟩,
       ⟨(some 122), some (121, false), .mv (.t 14)⟩,
       ⟨(some 123), some (121, false), .mv (.t 16)⟩,
       ⟨(some 124), some (121, false), .mv (.t 13)⟩,
       ⟨(some 125), some (121, false), .bin .eql (.t 123) (.t 124)⟩,
       ⟨(some 126), some (121, false), .eqT true false [0] (.t 122) (.t 125)⟩,
       ⟨(some 127), none, .pick (.t 121) (.c (.sc (.bool true))) (.t 126)⟩,
       ⟨(some 128), none, .mv (.t 127)⟩,
       ⟨(some 129), some (128, false), .mv (.t 16)⟩,
       ⟨(some 130), some (128, false), .mv (.t 13)⟩,
       ⟨(some 131), some (128, false), .bin .gtr (.t 129) (.t 130)⟩,
       ⟨(some 132), none, .pick (.t 128) (.c (.sc (.bool true))) (.t 131)⟩,
       ⟨(some 133), none, .mv (.t 132)⟩,
       ⟨(some 134), some (133, false), .mv (.t 16)⟩,
       ⟨(some 135), some (133, false), .mv (.t 13)⟩,
       ⟨(some 136), some (133, false), .bin .sub (.t 135) (.c (.sc (.int .i64 3)))⟩,
       ⟨(some 137), some (133, false), .bin .lss (.t 134) (.t 136)⟩,
       ⟨(some 138), none, .pick (.t 133) (.c (.sc (.bool true))) (.t 137)⟩]) <|
     .cond (.t 138)
       (.seq (.reg (some []) [
         ⟨(some 6), none, .asg (.c (.sc (.bool false))) none⟩]) <|
       .ret)
       (.skip)) <|
     .seq (.reg (some [2, 11, 12, 13, 14]) [
       ⟨(some 139), none, .mv (.t 14)⟩]) <|
     .cond (.t 139)
       (.seq (.seq (.reg (some [2, 11, 12, 13]) [
         ⟨(some 140), none, .mv (.t 12)⟩,
         ⟨(some 141), none, .mv (.t 11)⟩,
         ⟨(some 142), none, .lnL (.t 141)⟩,
         ⟨(some 143), none, .bin .geq (.t 140) (.t 142)⟩,
         ⟨(some 144), none, .mv (.t 143)⟩,
         ⟨(some 145), some (144, false), .mv (.t 11)⟩,
         ⟨(some 146), some (144, false), .mv (.t 12)⟩,
         ⟨(some 147), some (144, false), .ia 1 (.t 145) (.t 146)⟩,
         ⟨(some 148), some (144, false), .ld false 1 (.t 147)⟩,
         ⟨(some 149), some (144, false), .mv (.t 13)⟩,
         ⟨(some 150), some (144, false), .bin .neq (.t 148) (.t 149)⟩,
         ⟨(some 151), none, .pick (.t 144) (.c (.sc (.bool true))) (.t 150)⟩]) <|
       .cond (.t 151)
         (.seq (.reg (some []) [
           ⟨(some 6), none, .asg (.c (.sc (.bool false))) none⟩]) <|
         .ret)
         (.skip)) <|
       .reg (some [2, 11, 12, 13]) [
         ⟨(some 152), none, .mv (.t 12)⟩,
         ⟨(some 153), none, .bin .add (.t 152) (.c (.sc (.int .i64 1)))⟩,
         ⟨(some 12), none, .asg (.t 153) none⟩])
       (.skip)) <|
    .reg (some [2, 11, 12, 13]) [
      ⟨(some 77), none, .mv (.t 13)⟩,
      ⟨(some 78), none, .bin .add (.t 77) (.c (.sc (.int .i64 1)))⟩,
      ⟨(some 13), none, .asg (.t 78) none⟩]) <|
  .seq (.reg (some [2, 11, 12]) [
    ⟨(some 155), none, .mv (.t 2)⟩,
    ⟨(some 156), none, .call (.f 25) [(.t 155)] [[(some 1)]]⟩,
    ⟨(some 154), none, .mv (.t 156)⟩,
    ⟨(some 157), none, .ext (.t 154) 0⟩,
    ⟨(some 158), none, .ext (.t 154) 1⟩,
    ⟨(some 22), none, .asg (.t 157) none⟩,
    ⟨(some 8), none, .asg (.t 158) none⟩]) <|
  .seq (.reg (some [8, 11, 12, 22]) [
    ⟨(some 159), none, .mv (.t 8)⟩,
    ⟨(some 160), none, .bin .eql (.t 159) (.c (.sc (.int .i64 0)))⟩,
    ⟨(some 161), none, .mv (.t 160)⟩,
    ⟨(some 162), some (161, true), .mv (.t 12)⟩,
    ⟨(some 163), some (161, true), .mv (.t 11)⟩,
    ⟨(some 164), some (161, true), .lnL (.t 163)⟩,
    ⟨(some 165), some (161, true), .bin .eql (.t 162) (.t 164)⟩,
    ⟨(some 166), none, .pick (.t 161) (.t 165) (.c (.sc (.bool false)))⟩,
    ⟨(some 167), none, .mv (.t 166)⟩,
    ⟨(some 168), some (167, true), .mv (.t 22)⟩,
    ⟨(some 169), some (167, true), .mv (.t 11)⟩,
    ⟨(some 170), some (167, true), .lnL (.t 169)⟩,
    ⟨(some 171), some (167, true), .bin .sub (.t 170) (.c (.sc (.int .i64 1)))⟩,
    ⟨(some 172), some (167, true), .bin .eql (.t 168) (.t 171)⟩,
    ⟨(some 173), none, .pick (.t 167) (.t 172) (.c (.sc (.bool false)))⟩,
    ⟨(some 174), none, .mv (.t 173)⟩,
    ⟨(some 175), some (174, true), .call (.f 10) [] []⟩,
    ⟨(some 176), none, .pick (.t 174) (.t 175) (.c (.sc (.bool false)))⟩,
    ⟨(some 6), none, .asg (.t 176) none⟩]) <|
  .ret
theorem ok6 : fnOf Tryd.prog 6 n6 = some ⟨177, [.t 6], c6⟩ := by kernel_rfl
def n7 : List (Nat × List Nat) := [(0, []), (1, []), (2, [1, 2]), (3, [1, 2, 3, 4]), (4, [1, 2, 3, 4, 5, 6]), (5, [1, 2, 3, 4, 5, 6, 8]), (6, [1, 2, 3, 4, 5, 6, 8, 10]), (7, [1, 2, 3, 4, 5, 6, 8, 10, 12]), (8, []), (9, []), (10, [2]), (11, [2, 4]), (12, [2, 4, 6, 13]), (13, [2, 4, 6, 8, 13, 14]), (14, [2, 4, 6, 8, 10, 13, 14, 15]), (15, [2, 4, 6, 8, 10, 12, 13, 14, 15, 16])]
/-- mummer/mummerlaw02.RunesKnown -/
def c7 : RC :=
  .seq (.reg (some []) [
    ⟨(some 0), none, .asg (.c (.sc (.bool false))) none⟩]) <|
  .seq (.reg (some []) [
    ⟨(some 18), none, .call (.f 13) [(.c (.sc (.int .i32 65)))] [[none]]⟩,
    ⟨(some 17), none, .mv (.t 18)⟩,
    ⟨(some 19), none, .ext (.t 17) 0⟩,
    ⟨(some 20), none, .ext (.t 17) 1⟩,
    ⟨(some 1), none, .asg (.t 19) (some 1)⟩,
    ⟨(some 2), none, .asg (.t 20) none⟩]) <|
  .seq (.reg (some [1, 2]) [
    ⟨(some 22), none, .call (.f 13) [(.c (.sc (.int .i32 233)))] [[none]]⟩,
    ⟨(some 21), none, .mv (.t 22)⟩,
    ⟨(some 23), none, .ext (.t 21) 0⟩,
    ⟨(some 24), none, .ext (.t 21) 1⟩,
    ⟨(some 3), none, .asg (.t 23) (some 1)⟩,
    ⟨(some 4), none, .asg (.t 24) none⟩]) <|
  .seq (.reg (some [1, 2, 3, 4]) [
    ⟨(some 26), none, .call (.f 13) [(.c (.sc (.int .i32 128512)))] [[none]]⟩,
    ⟨(some 25), none, .mv (.t 26)⟩,
    ⟨(some 27), none, .ext (.t 25) 0⟩,
    ⟨(some 28), none, .ext (.t 25) 1⟩,
    ⟨(some 5), none, .asg (.t 27) (some 1)⟩,
    ⟨(some 6), none, .asg (.t 28) none⟩]) <|
  .seq (.reg (some [1, 2, 3, 4, 5, 6]) [
    ⟨(some 30), none, .call (.f 13) [(.c (.sc (.int .i32 55296)))] [[none]]⟩,
    ⟨(some 29), none, .mv (.t 30)⟩,
    ⟨(some 31), none, .ext (.t 29) 0⟩,
    ⟨(some 32), none, .ext (.t 29) 1⟩,
    ⟨(some 7), none, .asg (.t 31) (some 1)⟩,
    ⟨(some 8), none, .asg (.t 32) none⟩]) <|
  .seq (.reg (some [1, 2, 3, 4, 5, 6, 8]) [
    ⟨(some 34), none, .call (.f 13) [(.c (.sc (.int .i32 1114112)))] [[none]]⟩,
    ⟨(some 33), none, .mv (.t 34)⟩,
    ⟨(some 35), none, .ext (.t 33) 0⟩,
    ⟨(some 36), none, .ext (.t 33) 1⟩,
    ⟨(some 9), none, .asg (.t 35) (some 1)⟩,
    ⟨(some 10), none, .asg (.t 36) none⟩]) <|
  .seq (.reg (some [1, 2, 3, 4, 5, 6, 8, 10]) [
    ⟨(some 38), none, .call (.f 13) [(.c (.sc (.int .i32 (-1))))] [[none]]⟩,
    ⟨(some 37), none, .mv (.t 38)⟩,
    ⟨(some 39), none, .ext (.t 37) 0⟩,
    ⟨(some 40), none, .ext (.t 37) 1⟩,
    ⟨(some 11), none, .asg (.t 39) (some 1)⟩,
    ⟨(some 12), none, .asg (.t 40) none⟩]) <|
  .seq (.seq (.reg (some [1, 2, 3, 4, 5, 6, 8, 10, 12]) [
    ⟨(some 41), none, .mv (.t 2)⟩,
    ⟨(some 42), none, .bin .neq (.t 41) (.c (.sc (.int .i64 0)))⟩,
    ⟨(some 43), none, .mv (.t 42)⟩,
    ⟨(some 44), some (43, false), .mv (.t 4)⟩,
    ⟨(some 45), some (43, false), .bin .neq (.t 44) (.c (.sc (.int .i64 0)))⟩,
    ⟨(some 46), none, .pick (.t 43) (.c (.sc (.bool true))) (.t 45)⟩,
    ⟨(some 47), none, .mv (.t 46)⟩,
    ⟨(some 48), some (47, false), .mv (.t 6)⟩,
    ⟨(some 49), some (47, false), .bin .neq (.t 48) (.c (.sc (.int .i64 0)))⟩,
    ⟨(some 50), none, .pick (.t 47) (.c (.sc (.bool true))) (.t 49)⟩,
    ⟨(some 51), none, .mv (.t 50)⟩,
    ⟨(some 52), some (51, false), .mv (.t 8)⟩,
    ⟨(some 53), some (51, false), .bin .neq (.t 52) (.c (.sc (.int .i64 7)))⟩,
    ⟨(some 54), none, .pick (.t 51) (.c (.sc (.bool true))) (.t 53)⟩,
    ⟨(some 55), none, .mv (.t 54)⟩,
    ⟨(some 56), some (55, false), .mv (.t 10)⟩,
    ⟨(some 57), some (55, false), .bin .neq (.t 56) (.c (.sc (.int .i64 7)))⟩,
    ⟨(some 58), none, .pick (.t 55) (.c (.sc (.bool true))) (.t 57)⟩,
    ⟨(some 59), none, .mv (.t 58)⟩,
    ⟨(some 60), some (59, false), .mv (.t 12)⟩,
    ⟨(some 61), some (59, false), .bin .neq (.t 60) (.c (.sc (.int .i64 7)))⟩,
    ⟨(some 62), none, .pick (.t 59) (.c (.sc (.bool true))) (.t 61)⟩,
    ⟨(some 63), none, .mv (.t 62)⟩,
    ⟨(some 64), some (63, false), .mv (.t 1)⟩,
    ⟨(some 65), some (63, false), .bs (.t 64)⟩,
    ⟨(some 66), some (63, false), .bin .neq (.t 65) (.c (.sc (.string ⟨#[65]⟩)))⟩,
    ⟨(some 67), none, .pick (.t 63) (.c (.sc (.bool true))) (.t 66)⟩,
    ⟨(some 68), none, .mv (.t 67)⟩,
    ⟨(some 69), some (68, false), .mv (.t 3)⟩,
    ⟨(some 70), some (68, false), .bs (.t 69)⟩,
    ⟨(some 71), some (68, false), .bin .neq (.t 70) (.c (.sc (.string ⟨#[195, 169]⟩)))⟩,
    ⟨(some 72), none, .pick (.t 68) (.c (.sc (.bool true))) (.t 71)⟩,
    ⟨(some 73), none, .mv (.t 72)⟩,
    ⟨(some 74), some (73, false), .mv (.t 5)⟩,
    ⟨(some 75), some (73, false), .bs (.t 74)⟩,
    ⟨(some 76), some (73, false), .bin .neq (.t 75) (.c (.sc (.string ⟨#[240, 159, 152, 128]⟩)))⟩,
    ⟨(some 77), none, .pick (.t 73) (.c (.sc (.bool true))) (.t 76)⟩]) <|
  .cond (.t 77)
    (.seq (.reg (some []) [
      ⟨(some 0), none, .asg (.c (.sc (.bool false))) none⟩]) <|
    .ret)
    (.skip)) <|
  .seq (.reg (some []) [
    ⟨(some 79), none, .bsl 1 [none] [(.c (.sc (.int .u8 169)))]⟩,
    ⟨(some 80), none, .call (.f 11) [(.t 79), (.c (.sc (.int .i64 0)))] [[(some 1)], [none]]⟩,
    ⟨(some 78), none, .mv (.t 80)⟩,
    ⟨(some 81), none, .ext (.t 78) 0⟩,
    ⟨(some 82), none, .ext (.t 78) 1⟩,
    ⟨(some 83), none, .ext (.t 78) 2⟩,
    ⟨(some 2), none, .asg (.t 83) none⟩]) <|
  .seq (.reg (some [2]) [
    ⟨(some 85), none, .bsl 1 [none] [(.c (.sc (.int .u8 192))), (.c (.sc (.int .u8 128)))]⟩,
    ⟨(some 86), none, .call (.f 11) [(.t 85), (.c (.sc (.int .i64 0)))] [[(some 1)], [none]]⟩,
    ⟨(some 84), none, .mv (.t 86)⟩,
    ⟨(some 87), none, .ext (.t 84) 0⟩,
    ⟨(some 88), none, .ext (.t 84) 1⟩,
    ⟨(some 89), none, .ext (.t 84) 2⟩,
    ⟨(some 4), none, .asg (.t 89) none⟩]) <|
  .seq (.reg (some [2, 4]) [
    ⟨(some 91), none, .bsl 1 [none] [(.c (.sc (.int .u8 97))), (.c (.sc (.int .u8 195))), (.c (.sc (.int .u8 169))), (.c (.sc (.int .u8 255)))]⟩,
    ⟨(some 92), none, .call (.f 24) [(.t 91)] [[(some 1)]]⟩,
    ⟨(some 90), none, .mv (.t 92)⟩,
    ⟨(some 93), none, .ext (.t 90) 0⟩,
    ⟨(some 94), none, .ext (.t 90) 1⟩,
    ⟨(some 13), none, .asg (.t 93) none⟩,
    ⟨(some 6), none, .asg (.t 94) none⟩]) <|
  .seq (.reg (some [2, 4, 6, 13]) [
    ⟨(some 96), none, .bsl 1 [none] [(.c (.sc (.int .u8 97))), (.c (.sc (.int .u8 195))), (.c (.sc (.int .u8 169)))]⟩,
    ⟨(some 97), none, .call (.f 25) [(.t 96)] [[(some 1)]]⟩,
    ⟨(some 95), none, .mv (.t 97)⟩,
    ⟨(some 98), none, .ext (.t 95) 0⟩,
    ⟨(some 99), none, .ext (.t 95) 1⟩,
    ⟨(some 14), none, .asg (.t 98) none⟩,
    ⟨(some 8), none, .asg (.t 99) none⟩]) <|
  .seq (.reg (some [2, 4, 6, 8, 13, 14]) [
    ⟨(some 101), none, .bsl 1 [none] [(.c (.sc (.int .u8 97))), (.c (.sc (.int .u8 195))), (.c (.sc (.int .u8 169)))]⟩,
    ⟨(some 102), none, .call (.f 19) [(.t 101), (.c (.sc (.int .i64 2)))] [[(some 1)], [none]]⟩,
    ⟨(some 100), none, .mv (.t 102)⟩,
    ⟨(some 103), none, .ext (.t 100) 0⟩,
    ⟨(some 104), none, .ext (.t 100) 1⟩,
    ⟨(some 15), none, .asg (.t 103) none⟩,
    ⟨(some 10), none, .asg (.t 104) none⟩]) <|
  .seq (.reg (some [2, 4, 6, 8, 10, 13, 14, 15]) [
    ⟨(some 106), none, .bsl 1 [none] [(.c (.sc (.int .u8 97))), (.c (.sc (.int .u8 195))), (.c (.sc (.int .u8 169)))]⟩,
    ⟨(some 107), none, .call (.f 21) [(.t 106), (.c (.sc (.int .i64 2)))] [[(some 1)], [none]]⟩,
    ⟨(some 105), none, .mv (.t 107)⟩,
    ⟨(some 108), none, .ext (.t 105) 0⟩,
    ⟨(some 109), none, .ext (.t 105) 1⟩,
    ⟨(some 16), none, .asg (.t 108) none⟩,
    ⟨(some 12), none, .asg (.t 109) none⟩]) <|
  .seq (.reg (some [2, 4, 6, 8, 10, 12, 13, 14, 15, 16]) [
    ⟨(some 110), none, .mv (.t 2)⟩,
    ⟨(some 111), none, .bin .eql (.t 110) (.c (.sc (.int .i64 6)))⟩,
    ⟨(some 112), none, .mv (.t 111)⟩,
    ⟨(some 113), some (112, true), .mv (.t 4)⟩,
    ⟨(some 114), some (112, true), .bin .eql (.t 113) (.c (.sc (.int .i64 6)))⟩,
    ⟨(some 115), none, .pick (.t 112) (.t 114) (.c (.sc (.bool false)))⟩,
    ⟨(some 116), none, .mv (.t 115)⟩,
    ⟨(some 117), some (116, true), .mv (.t 6)⟩,
    ⟨(some 118), some (116, true), .bin .eql (.t 117) (.c (.sc (.int .i64 6)))⟩,
    ⟨(some 119), none, .pick (.t 116) (.t 118) (.c (.sc (.bool false)))⟩,
    ⟨(some 120), none, .mv (.t 119)⟩,
    ⟨(some 121), some (120, true), .mv (.t 8)⟩,
    ⟨(some 122), some (120, true), .bin .eql (.t 121) (.c (.sc (.int .i64 0)))⟩,
    ⟨(some 123), none, .pick (.t 120) (.t 122) (.c (.sc (.bool false)))⟩,
    ⟨(some 124), none, .mv (.t 123)⟩,
    ⟨(some 125), some (124, true), .mv (.t 10)⟩,
    ⟨(some 126), some (124, true), .bin .eql (.t 125) (.c (.sc (.int .i64 0)))⟩,
    ⟨(some 127), none, .pick (.t 124) (.t 126) (.c (.sc (.bool false)))⟩,
    ⟨(some 128), none, .mv (.t 127)⟩,
    ⟨(some 129), some (128, true), .mv (.t 12)⟩,
    ⟨(some 130), some (128, true), .bin .eql (.t 129) (.c (.sc (.int .i64 0)))⟩,
    ⟨(some 131), none, .pick (.t 128) (.t 130) (.c (.sc (.bool false)))⟩,
    ⟨(some 132), none, .mv (.t 131)⟩,
    ⟨(some 133), some (132, true), .mv (.t 13)⟩,
    ⟨(some 134), some (132, true), .bin .eql (.t 133) (.c (.sc (.int .i64 3)))⟩,
    ⟨(some 135), none, .pick (.t 132) (.t 134) (.c (.sc (.bool false)))⟩,
    ⟨(some 136), none, .mv (.t 135)⟩,
    ⟨(some 137), some (136, true), .mv (.t 14)⟩,
    ⟨(some 138), some (136, true), .bin .eql (.t 137) (.c (.sc (.int .i64 2)))⟩,
    ⟨(some 139), none, .pick (.t 136) (.t 138) (.c (.sc (.bool false)))⟩,
    ⟨(some 140), none, .mv (.t 139)⟩,
    ⟨(some 141), some (140, true), .mv (.t 15)⟩,
    ⟨(some 142), some (140, true), .not (.t 141)⟩,
    ⟨(some 143), none, .pick (.t 140) (.t 142) (.c (.sc (.bool false)))⟩,
    ⟨(some 144), none, .mv (.t 143)⟩,
    ⟨(some 145), some (144, true), .mv (.t 16)⟩,
    ⟨(some 146), some (144, true), .bin .eql (.t 145) (.c (.sc (.int .i64 1)))⟩,
    ⟨(some 147), none, .pick (.t 144) (.t 146) (.c (.sc (.bool false)))⟩,
    ⟨(some 148), none, .mv (.t 147)⟩,
    ⟨(some 149), some (148, true), .call (.f 10) [] []⟩,
    ⟨(some 150), none, .pick (.t 148) (.t 149) (.c (.sc (.bool false)))⟩,
    ⟨(some 0), none, .asg (.t 150) none⟩]) <|
  .ret
theorem ok7 : fnOf Tryd.prog 7 n7 = some ⟨151, [.t 0], c7⟩ := by kernel_rfl
def n8 : List (Nat × List Nat) := [(0, [0, 1, 2]), (1, [0, 1, 2]), (2, []), (3, [0, 1, 2]), (4, [0, 1, 2, 7, 8]), (5, [0, 1, 2, 7]), (6, [0, 1, 2, 7, 9, 10, 11]), (7, []), (8, [1, 2, 7]), (9, [1, 2, 7, 12]), (11, [1, 2, 7, 12]), (12, [1, 2, 7, 12, 15]), (13, []), (10, [1, 2, 7, 12]), (14, [1, 2]), (15, [1, 2, 16]), (17, [1, 2, 16]), (18, [1, 2, 16, 17, 18, 19]), (19, [1, 2, 16, 17, 18]), (20, [1, 2, 16, 18, 20, 21]), (21, []), (16, [1, 2, 16]), (22, [1, 2]), (23, [1, 2, 8, 22]), (24, [1, 2, 22]), (25, [1, 2, 23, 25]), (26, []), (27, [2]), (28, [2, 8, 26]), (29, [2, 26]), (30, [2, 28, 29]), (31, []), (32, [])]
/-- mummer/mummerlaw02.RunesBack -/
def c8 : RC :=
  .seq (.reg (some [0, 1, 2]) [
    ⟨(some 6), none, .asg (.c (.sc (.bool false))) none⟩]) <|
  .seq (.seq (.reg (some [0, 1, 2]) [
    ⟨(some 30), none, .mv (.t 1)⟩,
    ⟨(some 31), none, .lnL (.t 30)⟩,
    ⟨(some 32), none, .bin .gtr (.t 31) (.c (.sc (.int .i64 200)))⟩,
    ⟨(some 33), none, .mv (.t 32)⟩,
    ⟨(some 34), some (33, false), .mv (.t 2)⟩,
    ⟨(some 35), some (33, false), .lnL (.t 34)⟩,
    ⟨(some 36), some (33, false), .bin .gtr (.t 35) (.c (.sc (.int .i64 100)))⟩,
    ⟨(some 37), none, .pick (.t 33) (.c (.sc (.bool true))) (.t 36)⟩]) <|
  .cond (.t 37)
    (.seq (.reg (some []) [
      ⟨(some 38), none, .call (.f 10) [] []⟩,
      ⟨(some 6), none, .asg (.t 38) none⟩]) <|
    .ret)
    (.skip)) <|
  .seq (.reg (some [0, 1, 2]) [
    ⟨(some 40), none, .mv (.t 0)⟩,
    ⟨(some 41), none, .call (.f 13) [(.t 40)] [[none]]⟩,
    ⟨(some 39), none, .mv (.t 41)⟩,
    ⟨(some 42), none, .ext (.t 39) 0⟩,
    ⟨(some 43), none, .ext (.t 39) 1⟩,
    ⟨(some 7), none, .asg (.t 42) (some 1)⟩,
    ⟨(some 8), none, .asg (.t 43) none⟩]) <|
  .seq (.seq (.reg (some [0, 1, 2, 7, 8]) [
    ⟨(some 44), none, .mv (.t 8)⟩,
    ⟨(some 45), none, .bin .eql (.t 44) (.c (.sc (.int .i64 0)))⟩]) <|
  .cond (.t 45)
    (.seq (.reg (some [0, 1, 2, 7]) [
      ⟨(some 47), none, .bsl 1 [none] []⟩,
      ⟨(some 48), none, .mv (.t 7)⟩,
      ⟨(some 49), none, .app 1 1 (.t 47) (.t 48)⟩,
      ⟨(some 50), none, .mv (.t 1)⟩,
      ⟨(some 51), none, .app 1 1 (.t 49) (.t 50)⟩,
      ⟨(some 52), none, .call (.f 11) [(.t 51), (.c (.sc (.int .i64 0)))] [[(some 1)], [none]]⟩,
      ⟨(some 46), none, .mv (.t 52)⟩,
      ⟨(some 53), none, .ext (.t 46) 0⟩,
      ⟨(some 54), none, .ext (.t 46) 1⟩,
      ⟨(some 55), none, .ext (.t 46) 2⟩,
      ⟨(some 9), none, .asg (.t 53) none⟩,
      ⟨(some 10), none, .asg (.t 54) none⟩,
      ⟨(some 11), none, .asg (.t 55) none⟩]) <|
    .seq (.seq (.reg (some [0, 1, 2, 7, 9, 10, 11]) [
      ⟨(some 56), none, .mv (.t 11)⟩,
      ⟨(some 57), none, .bin .neq (.t 56) (.c (.sc (.int .i64 0)))⟩,
      ⟨(some 58), none, .mv (.t 57)⟩,
      ⟨(some 59), some (58, false), .mv (.t 9)⟩,
      ⟨(some 60), some (58, false), .mv (.t 0)⟩,
      ⟨(some 61), some (58, false), .bin .neq (.t 59) (.t 60)⟩,
      ⟨(some 62), none, .pick (.t 58) (.c (.sc (.bool true))) (.t 61)⟩,
      ⟨(some 63), none, .mv (.t 62)⟩,
      ⟨(some 64), some (63, false), .mv (.t 10)⟩,
      ⟨(some 65), some (63, false), .mv (.t 7)⟩,
      ⟨(some 66), some (63, false), .lnL (.t 65)⟩,
      ⟨(some 67), some (63, false), .bin .neq (.t 64) (.t 66)⟩,
      ⟨(some 68), none, .pick (.t 63) (.c (.sc (.bool true))) (.t 67)⟩]) <|
    .cond (.t 68)
      (.seq (.reg (some []) [
        ⟨(some 6), none, .asg (.c (.sc (.bool false))) none⟩]) <|
      .ret)
      (.skip)) <|
    .seq (.reg (some [1, 2, 7]) [
      ⟨(some 12), none, .asg (.c (.sc (.int .i64 0))) none⟩]) <|
    .block 0 <|
     .loop <|
      .seq (.seq (.reg (some [1, 2, 7, 12]) [
        ⟨(some 69), none, .mv (.t 12)⟩,
        ⟨(some 70), none, .mv (.t 7)⟩,
        ⟨(some 71), none, .lnL (.t 70)⟩,
        ⟨(some 72), none, .bin .lss (.t 69) (.t 71)⟩]) <|
      .cond (.t 72)
        (.skip)
        (.exit 0)) <|
      .seq (.block 1 <|
       .seq (.reg (some [1, 2, 7, 12]) [
         ⟨(some 76), none, .mv (.t 7)⟩,
         ⟨(some 77), none, .mv (.t 12)⟩,
         ⟨(some 78), none, .slc 1 (.t 76) none (some (.t 77)) none⟩,
         ⟨(some 79), none, .call (.f 11) [(.t 78), (.c (.sc (.int .i64 0)))] [[(some 1)], [none]]⟩,
         ⟨(some 75), none, .mv (.t 79)⟩,
         ⟨(some 80), none, .ext (.t 75) 0⟩,
         ⟨(some 81), none, .ext (.t 75) 1⟩,
         ⟨(some 82), none, .ext (.t 75) 2⟩,
         ⟨(some 13), none, .asg (.t 80) none⟩,
         ⟨(some 14), none, .asg (.t 81) none⟩,
         ⟨(some 15), none, .asg (.t 82) none⟩]) <|
       .seq (.reg (some [1, 2, 7, 12, 15]) [
         ⟨(some 83), none, .mv (.t 12)⟩,
         ⟨(some 84), none, .bin .gtr (.t 83) (.c (.sc (.int .i64 0)))⟩,
         ⟨(some 85), none, .mv (.t 84)⟩,
         ⟨(some 86), some (85, true), .mv (.t 15)⟩,
         ⟨(some 87), some (85, true), .bin .neq (.t 86) (.c (.sc (.int .i64 320)))⟩,
         ⟨(some 88), none, .pick (.t 85) (.t 87) (.c (.sc (.bool false)))⟩,
         ⟨(some 89), none, .mv (.t 88)⟩,
         ⟨(some 90), some (89, false), .mv (.t 12)⟩,
         ⟨(some 91), some (89, false), .bin .eql (.t 90) (.c (.sc (.int .i64 0)))⟩,
         ⟨(some 92), some (89, false), .mv (.t 91)⟩,
         ⟨(some 93), some (92, true), .mv (.t 15)⟩,
         ⟨(some 94), some (92, true), .bin .neq (.t 93) (.c (.sc (.int .i64 7)))⟩,
         ⟨(some 95), some (89, false), .pick (.t 92) (.t 94) (.c (.sc (.bool false)))⟩,
         ⟨(some 96), none, .pick (.t 89) (.c (.sc (.bool true))) (.t 95)⟩]) <|
       .cond (.t 96)
         (.seq (.reg (some []) [
           ⟨(some 6), none, .asg (.c (.sc (.bool false))) none⟩]) <|
         .ret)
         (.skip)) <|
      .reg (some [1, 2, 7, 12]) [
        ⟨(some 73), none, .mv (.t 12)⟩,
        ⟨(some 74), none, .bin .add (.t 73) (.c (.sc (.int .i64 1)))⟩,
        ⟨(some 12), none, .asg (.t 74) none⟩])
    (.skip)) <|
  .seq (.seq (.reg (some [1, 2]) [
    ⟨(some 16), none, .asg (.c (.sc (.int .i64 0))) none⟩]) <|
  .block 2 <|
   .loop <|
    .seq (.seq (.reg (some [1, 2, 16]) [
      ⟨(some 97), none, .mv (.t 16)⟩,
      ⟨(some 98), none, .mv (.t 1)⟩,
      ⟨(some 99), none, .lnL (.t 98)⟩,
      ⟨(some 100), none, .bin .lss (.t 97) (.t 99)⟩]) <|
    .cond (.t 100)
      (.skip)
      (.exit 2)) <|
    .seq (.block 3 <|
     .seq (.reg (some [1, 2, 16]) [
       ⟨(some 104), none, .mv (.t 1)⟩,
       ⟨(some 105), none, .mv (.t 16)⟩,
       ⟨(some 106), none, .call (.f 11) [(.t 104), (.t 105)] [[(some 1)], [none]]⟩,
       ⟨(some 103), none, .mv (.t 106)⟩,
       ⟨(some 107), none, .ext (.t 103) 0⟩,
       ⟨(some 108), none, .ext (.t 103) 1⟩,
       ⟨(some 109), none, .ext (.t 103) 2⟩,
       ⟨(some 17), none, .asg (.t 107) none⟩,
       ⟨(some 18), none, .asg (.t 108) none⟩,
       ⟨(some 19), none, .asg (.t 109) none⟩]) <|
     .seq (.seq (.reg (some [1, 2, 16, 17, 18, 19]) [
       ⟨(some 110), none, .mv (.t 19)⟩,
       ⟨(some 111), none, .bin .neq (.t 110) (.c (.sc (.int .i64 0)))⟩]) <|
     .cond (.t 111)
       (.exit 3)
       (.skip)) <|
     .seq (.reg (some [1, 2, 16, 17, 18]) [
       ⟨(some 113), none, .mv (.t 17)⟩,
       ⟨(some 114), none, .call (.f 13) [(.t 113)] [[none]]⟩,
       ⟨(some 112), none, .mv (.t 114)⟩,
       ⟨(some 115), none, .ext (.t 112) 0⟩,
       ⟨(some 116), none, .ext (.t 112) 1⟩,
       ⟨(some 20), none, .asg (.t 115) (some 1)⟩,
       ⟨(some 21), none, .asg (.t 116) none⟩]) <|
     .seq (.drw (some [1, 2, 16, 18, 20, 21]) [
       ⟨(some 117), none, .mv (.t 21)⟩,
       ⟨(some 118), none, .bin .neq (.t 117) (.c (.sc (.int .i64 0)))⟩,
       ⟨(some 119), none, .mv (.t 118)⟩,
       ⟨(some 120), some (119, false), .mv (.t 18)⟩,
       ⟨(some 121), some (119, false), .mv (.t 20)⟩,
       ⟨(some 122), some (119, false), .lnL (.t 121)⟩,
       ⟨(some 123), some (119, false), .bin .neq (.t 120) (.t 122)⟩,
       ⟨(some 124), none, .pick (.t 119) (.c (.sc (.bool true))) (.t 123)⟩,
       ⟨(some 125), none, .mv (.t 124)⟩,
       ⟨(some 126), some (125, false), .mv (.t 20)⟩,
       ⟨(some 127), some (125, false), .bs (.t 126)⟩,
       ⟨(some 128), some (125, false), .mv (.t 1)⟩,
       ⟨(some 129), some (125, false), .mv (.t 16)⟩,
       ⟨(some 130), some (125, false), .mv (.t 16)⟩,
       ⟨(some 131), some (125, false), .mv (.t 18)⟩,
       ⟨(some 132), some (125, false), .bin .add (.t 130) (.t 131)⟩,
       ⟨(some 133), some (125, false), .slc 1 (.t 128) (some (.t 129)) (some (.t 132)) none⟩,
       ⟨(some 134), some (125, false), .bs (.t 133)⟩,
       ⟨(some 135), some (125, false), .bin .neq (.t 127) (.t 134)⟩,
       ⟨(some 136), none, .pick (.t 125) (.c (.sc (.bool true))) (.t 135)⟩]) <|
     .cond (.t 136)
       (.seq (.reg (some []) [
         ⟨(some 6), none, .asg (.c (.sc (.bool false))) none⟩]) <|
       .ret)
       (.skip)) <|
    .reg (some [1, 2, 16]) [
      ⟨(some 101), none, .mv (.t 16)⟩,
      ⟨(some 102), none, .bin .add (.t 101) (.c (.sc (.int .i64 1)))⟩,
      ⟨(some 16), none, .asg (.t 102) none⟩]) <|
  .seq (.reg (some [1, 2]) [
    ⟨(some 138), none, .mv (.t 1)⟩,
    ⟨(some 139), none, .call (.f 26) [(.t 138)] [[(some 1)]]⟩,
    ⟨(some 137), none, .mv (.t 139)⟩,
    ⟨(some 140), none, .ext (.t 137) 0⟩,
    ⟨(some 141), none, .ext (.t 137) 1⟩,
    ⟨(some 22), none, .asg (.t 140) (some 1)⟩,
    ⟨(some 8), none, .asg (.t 141) none⟩]) <|
  .seq (.seq (.reg (some [1, 2, 8, 22]) [
    ⟨(some 142), none, .mv (.t 8)⟩,
    ⟨(some 143), none, .bin .eql (.t 142) (.c (.sc (.int .i64 0)))⟩]) <|
  .cond (.t 143)
    (.seq (.reg (some [1, 2, 22]) [
      ⟨(some 145), none, .mv (.t 22)⟩,
      ⟨(some 146), none, .call (.f 27) [(.t 145)] [[(some 1)]]⟩,
      ⟨(some 144), none, .mv (.t 146)⟩,
      ⟨(some 147), none, .ext (.t 144) 0⟩,
      ⟨(some 148), none, .ext (.t 144) 1⟩,
      ⟨(some 149), none, .ext (.t 144) 2⟩,
      ⟨(some 23), none, .asg (.t 147) (some 1)⟩,
      ⟨(some 24), none, .asg (.t 148) none⟩,
      ⟨(some 25), none, .asg (.t 149) none⟩]) <|
    .seq (.reg (some [1, 2, 23, 25]) [
      ⟨(some 150), none, .mv (.t 25)⟩,
      ⟨(some 151), none, .bin .neq (.t 150) (.c (.sc (.int .i64 0)))⟩,
      ⟨(some 152), none, .mv (.t 151)⟩,
      ⟨(some 153), some (152, false), .mv (.t 23)⟩,
      ⟨(some 154), some (152, false), .bs (.t 153)⟩,
      ⟨(some 155), some (152, false), .mv (.t 1)⟩,
      ⟨(some 156), some (152, false), .bs (.t 155)⟩,
      ⟨(some 157), some (152, false), .bin .neq (.t 154) (.t 156)⟩,
      ⟨(some 158), none, .pick (.t 152) (.c (.sc (.bool true))) (.t 157)⟩]) <|
    .cond (.t 158)
      (.seq (.reg (some []) [
        ⟨(some 6), none, .asg (.c (.sc (.bool false))) none⟩]) <|
      .ret)
      (.skip))
    (.skip)) <|
  .seq (.reg (some [2]) [
    ⟨(some 160), none, .mv (.t 2)⟩,
    ⟨(some 161), none, .call (.f 27) [(.t 160)] [[(some 1)]]⟩,
    ⟨(some 159), none, .mv (.t 161)⟩,
    ⟨(some 162), none, .ext (.t 159) 0⟩,
    ⟨(some 163), none, .ext (.t 159) 1⟩,
    ⟨(some 164), none, .ext (.t 159) 2⟩,
    ⟨(some 26), none, .asg (.t 162) (some 1)⟩,
    ⟨(some 27), none, .asg (.t 163) none⟩,
    ⟨(some 8), none, .asg (.t 164) none⟩]) <|
  .seq (.seq (.reg (some [2, 8, 26]) [
    ⟨(some 165), none, .mv (.t 8)⟩,
    ⟨(some 166), none, .bin .eql (.t 165) (.c (.sc (.int .i64 0)))⟩]) <|
  .cond (.t 166)
    (.seq (.reg (some [2, 26]) [
      ⟨(some 168), none, .mv (.t 26)⟩,
      ⟨(some 169), none, .call (.f 26) [(.t 168)] [[(some 1)]]⟩,
      ⟨(some 167), none, .mv (.t 169)⟩,
      ⟨(some 170), none, .ext (.t 167) 0⟩,
      ⟨(some 171), none, .ext (.t 167) 1⟩,
      ⟨(some 28), none, .asg (.t 170) (some 1)⟩,
      ⟨(some 29), none, .asg (.t 171) none⟩]) <|
    .seq (.reg (some [2, 28, 29]) [
      ⟨(some 172), none, .mv (.t 29)⟩,
      ⟨(some 173), none, .bin .neq (.t 172) (.c (.sc (.int .i64 0)))⟩,
      ⟨(some 174), none, .mv (.t 173)⟩,
      ⟨(some 175), some (174, false), .mv (.t 28)⟩,
      ⟨(some 176), some (174, false), .mv (.t 2)⟩,
      ⟨(some 177), some (174, false), .call (.f 28) [(.t 175), (.t 176)] [[(some 1)], [(some 1)]]⟩,
      ⟨(some 178), some (174, false), .not (.t 177)⟩,
      ⟨(some 179), none, .pick (.t 174) (.c (.sc (.bool true))) (.t 178)⟩]) <|
    .cond (.t 179)
      (.seq (.reg (some []) [
        ⟨(some 6), none, .asg (.c (.sc (.bool false))) none⟩]) <|
      .ret)
      (.skip))
    (.skip)) <|
  .seq (.reg (some []) [
    ⟨(some 180), none, .call (.f 10) [] []⟩,
    ⟨(some 6), none, .asg (.t 180) none⟩]) <|
  .ret
theorem ok8 : fnOf Tryd.prog 8 n8 = some ⟨181, [.t 6], c8⟩ := by kernel_rfl
def n9 : List (Nat × List Nat) := [(0, [0, 1]), (1, [0, 1]), (2, []), (3, [0, 1]), (4, [0, 1, 5, 6]), (5, [0, 1, 5, 6, 7, 8]), (6, [0, 1, 5, 6, 7, 8, 9, 10]), (7, [0, 1, 5, 6, 7, 8, 9, 10, 11, 12]), (8, []), (9, [0, 1]), (10, [0, 1, 6, 13]), (11, [1, 6, 8, 13, 14]), (12, [1, 6, 8, 10, 13, 14, 15, 16]), (13, [6, 8, 10, 12, 13, 14, 15, 16, 17, 18])]
/-- mummer/mummerlaw02.RunesTexts -/
def c9 : RC :=
  .seq (.reg (some [0, 1]) [
    ⟨(some 4), none, .asg (.c (.sc (.bool false))) none⟩]) <|
  .seq (.seq (.reg (some [0, 1]) [
    ⟨(some 19), none, .mv (.t 0)⟩,
    ⟨(some 20), none, .lnL (.t 19)⟩,
    ⟨(some 21), none, .bin .gtr (.t 20) (.c (.sc (.int .i64 200)))⟩,
    ⟨(some 22), none, .mv (.t 21)⟩,
    ⟨(some 23), some (22, true), .mv (.t 0)⟩,
    ⟨(some 24), some (22, true), .lnL (.t 23)⟩,
    ⟨(some 25), some (22, true), .bin .leq (.t 24) (.c (.sc (.int .i64 8000)))⟩,
    ⟨(some 26), none, .pick (.t 22) (.t 25) (.c (.sc (.bool false)))⟩,
    ⟨(some 27), none, .mv (.t 26)⟩,
    ⟨(some 28), some (27, false), .mv (.t 0)⟩,
    ⟨(some 29), some (27, false), .lnL (.t 28)⟩,
    ⟨(some 30), some (27, false), .bin .gtr (.t 29) (.c (.sc (.int .i64 8100)))⟩,
    ⟨(some 31), none, .pick (.t 27) (.c (.sc (.bool true))) (.t 30)⟩,
    ⟨(some 32), none, .mv (.t 31)⟩,
    ⟨(some 33), some (32, false), .mv (.t 1)⟩,
    ⟨(some 34), some (32, false), .lnL (.t 33)⟩,
    ⟨(some 35), some (32, false), .bin .gtr (.t 34) (.c (.sc (.int .i64 100)))⟩,
    ⟨(some 36), some (32, false), .mv (.t 35)⟩,
    ⟨(some 37), some (36, true), .mv (.t 1)⟩,
    ⟨(some 38), some (36, true), .lnL (.t 37)⟩,
    ⟨(some 39), some (36, true), .bin .leq (.t 38) (.c (.sc (.int .i64 2000)))⟩,
    ⟨(some 40), some (32, false), .pick (.t 36) (.t 39) (.c (.sc (.bool false)))⟩,
    ⟨(some 41), none, .pick (.t 32) (.c (.sc (.bool true))) (.t 40)⟩,
    ⟨(some 42), none, .mv (.t 41)⟩,
    ⟨(some 43), some (42, false), .mv (.t 1)⟩,
    ⟨(some 44), some (42, false), .lnL (.t 43)⟩,
    ⟨(some 45), some (42, false), .bin .gtr (.t 44) (.c (.sc (.int .i64 8100)))⟩,
    ⟨(some 46), none, .pick (.t 42) (.c (.sc (.bool true))) (.t 45)⟩]) <|
  .cond (.t 46)
    (.seq (.reg (some []) [
      ⟨(some 47), none, .call (.f 10) [] []⟩,
      ⟨(some 4), none, .asg (.t 47) none⟩]) <|
    .ret)
    (.skip)) <|
  .seq (.reg (some [0, 1]) [
    ⟨(some 49), none, .mv (.t 0)⟩,
    ⟨(some 50), none, .call (.f 24) [(.t 49)] [[(some 1)]]⟩,
    ⟨(some 48), none, .mv (.t 50)⟩,
    ⟨(some 51), none, .ext (.t 48) 0⟩,
    ⟨(some 52), none, .ext (.t 48) 1⟩,
    ⟨(some 5), none, .asg (.t 51) none⟩,
    ⟨(some 6), none, .asg (.t 52) none⟩]) <|
  .seq (.reg (some [0, 1, 5, 6]) [
    ⟨(some 54), none, .mv (.t 0)⟩,
    ⟨(some 55), none, .call (.f 29) [(.t 54)] [[(some 1)]]⟩,
    ⟨(some 53), none, .mv (.t 55)⟩,
    ⟨(some 56), none, .ext (.t 53) 0⟩,
    ⟨(some 57), none, .ext (.t 53) 1⟩,
    ⟨(some 7), none, .asg (.t 56) none⟩,
    ⟨(some 8), none, .asg (.t 57) none⟩]) <|
  .seq (.reg (some [0, 1, 5, 6, 7, 8]) [
    ⟨(some 59), none, .mv (.t 0)⟩,
    ⟨(some 60), none, .call (.f 25) [(.t 59)] [[(some 1)]]⟩,
    ⟨(some 58), none, .mv (.t 60)⟩,
    ⟨(some 61), none, .ext (.t 58) 0⟩,
    ⟨(some 62), none, .ext (.t 58) 1⟩,
    ⟨(some 9), none, .asg (.t 61) none⟩,
    ⟨(some 10), none, .asg (.t 62) none⟩]) <|
  .seq (.reg (some [0, 1, 5, 6, 7, 8, 9, 10]) [
    ⟨(some 64), none, .mv (.t 0)⟩,
    ⟨(some 65), none, .call (.f 30) [(.t 64)] [[(some 1)]]⟩,
    ⟨(some 63), none, .mv (.t 65)⟩,
    ⟨(some 66), none, .ext (.t 63) 0⟩,
    ⟨(some 67), none, .ext (.t 63) 1⟩,
    ⟨(some 11), none, .asg (.t 66) none⟩,
    ⟨(some 12), none, .asg (.t 67) none⟩]) <|
  .seq (.seq (.reg (some [0, 1, 5, 6, 7, 8, 9, 10, 11, 12]) [
    ⟨(some 68), none, .mv (.t 5)⟩,
    ⟨(some 69), none, .mv (.t 7)⟩,
    ⟨(some 70), none, .bin .neq (.t 68) (.t 69)⟩,
    ⟨(some 71), none, .mv (.t 70)⟩,
    ⟨(some 72), some (71, false), .mv (.t 6)⟩,
    ⟨(some 73), some (71, false), .mv (.t 8)⟩,
    ⟨(some 74), some (71, false), .bin .neq (.t 72) (.t 73)⟩,
    ⟨(some 75), none, .pick (.t 71) (.c (.sc (.bool true))) (.t 74)⟩,
    ⟨(some 76), none, .mv (.t 75)⟩,
    ⟨(some 77), some (76, false), .mv (.t 9)⟩,
    ⟨(some 78), some (76, false), .mv (.t 11)⟩,
    ⟨(some 79), some (76, false), .bin .neq (.t 77) (.t 78)⟩,
    ⟨(some 80), none, .pick (.t 76) (.c (.sc (.bool true))) (.t 79)⟩,
    ⟨(some 81), none, .mv (.t 80)⟩,
    ⟨(some 82), some (81, false), .mv (.t 10)⟩,
    ⟨(some 83), some (81, false), .mv (.t 12)⟩,
    ⟨(some 84), some (81, false), .bin .neq (.t 82) (.t 83)⟩,
    ⟨(some 85), none, .pick (.t 81) (.c (.sc (.bool true))) (.t 84)⟩]) <|
  .cond (.t 85)
    (.seq (.reg (some []) [
      ⟨(some 4), none, .asg (.c (.sc (.bool false))) none⟩]) <|
    .ret)
    (.skip)) <|
  .seq (.reg (some [0, 1]) [
    ⟨(some 87), none, .mv (.t 0)⟩,
    ⟨(some 88), none, .call (.f 26) [(.t 87)] [[(some 1)]]⟩,
    ⟨(some 86), none, .mv (.t 88)⟩,
    ⟨(some 89), none, .ext (.t 86) 0⟩,
    ⟨(some 90), none, .ext (.t 86) 1⟩,
    ⟨(some 13), none, .asg (.t 89) (some 1)⟩,
    ⟨(some 6), none, .asg (.t 90) none⟩]) <|
  .seq (.reg (some [0, 1, 6, 13]) [
    ⟨(some 92), none, .mv (.t 0)⟩,
    ⟨(some 93), none, .call (.f 31) [(.t 92)] [[(some 1)]]⟩,
    ⟨(some 91), none, .mv (.t 93)⟩,
    ⟨(some 94), none, .ext (.t 91) 0⟩,
    ⟨(some 95), none, .ext (.t 91) 1⟩,
    ⟨(some 14), none, .asg (.t 94) (some 1)⟩,
    ⟨(some 8), none, .asg (.t 95) none⟩]) <|
  .seq (.reg (some [1, 6, 8, 13, 14]) [
    ⟨(some 97), none, .mv (.t 1)⟩,
    ⟨(some 98), none, .call (.f 27) [(.t 97)] [[(some 1)]]⟩,
    ⟨(some 96), none, .mv (.t 98)⟩,
    ⟨(some 99), none, .ext (.t 96) 0⟩,
    ⟨(some 100), none, .ext (.t 96) 1⟩,
    ⟨(some 101), none, .ext (.t 96) 2⟩,
    ⟨(some 15), none, .asg (.t 99) (some 1)⟩,
    ⟨(some 16), none, .asg (.t 100) none⟩,
    ⟨(some 10), none, .asg (.t 101) none⟩]) <|
  .seq (.reg (some [1, 6, 8, 10, 13, 14, 15, 16]) [
    ⟨(some 103), none, .mv (.t 1)⟩,
    ⟨(some 104), none, .call (.f 32) [(.t 103)] [[(some 1)]]⟩,
    ⟨(some 102), none, .mv (.t 104)⟩,
    ⟨(some 105), none, .ext (.t 102) 0⟩,
    ⟨(some 106), none, .ext (.t 102) 1⟩,
    ⟨(some 107), none, .ext (.t 102) 2⟩,
    ⟨(some 17), none, .asg (.t 105) (some 1)⟩,
    ⟨(some 18), none, .asg (.t 106) none⟩,
    ⟨(some 12), none, .asg (.t 107) none⟩]) <|
  .seq (.reg (some [6, 8, 10, 12, 13, 14, 15, 16, 17, 18]) [
    ⟨(some 108), none, .mv (.t 13)⟩,
    ⟨(some 109), none, .mv (.t 14)⟩,
    ⟨(some 110), none, .call (.f 28) [(.t 108), (.t 109)] [[(some 1)], [(some 1)]]⟩,
    ⟨(some 111), none, .mv (.t 110)⟩,
    ⟨(some 112), some (111, true), .mv (.t 6)⟩,
    ⟨(some 113), some (111, true), .mv (.t 8)⟩,
    ⟨(some 114), some (111, true), .bin .eql (.t 112) (.t 113)⟩,
    ⟨(some 115), none, .pick (.t 111) (.t 114) (.c (.sc (.bool false)))⟩,
    ⟨(some 116), none, .mv (.t 115)⟩,
    ⟨(some 117), some (116, true), .mv (.t 15)⟩,
    ⟨(some 118), some (116, true), .bs (.t 117)⟩,
    ⟨(some 119), some (116, true), .mv (.t 17)⟩,
    ⟨(some 120), some (116, true), .bs (.t 119)⟩,
    ⟨(some 121), some (116, true), .bin .eql (.t 118) (.t 120)⟩,
    ⟨(some 122), none, .pick (.t 116) (.t 121) (.c (.sc (.bool false)))⟩,
    ⟨(some 123), none, .mv (.t 122)⟩,
    ⟨(some 124), some (123, true), .mv (.t 16)⟩,
    ⟨(some 125), some (123, true), .mv (.t 18)⟩,
    ⟨(some 126), some (123, true), .bin .eql (.t 124) (.t 125)⟩,
    ⟨(some 127), none, .pick (.t 123) (.t 126) (.c (.sc (.bool false)))⟩,
    ⟨(some 128), none, .mv (.t 127)⟩,
    ⟨(some 129), some (128, true), .mv (.t 10)⟩,
    ⟨(some 130), some (128, true), .mv (.t 12)⟩,
    ⟨(some 131), some (128, true), .bin .eql (.t 129) (.t 130)⟩,
    ⟨(some 132), none, .pick (.t 128) (.t 131) (.c (.sc (.bool false)))⟩,
    ⟨(some 133), none, .mv (.t 132)⟩,
    ⟨(some 134), some (133, true), .call (.f 10) [] []⟩,
    ⟨(some 135), none, .pick (.t 133) (.t 134) (.c (.sc (.bool false)))⟩,
    ⟨(some 4), none, .asg (.t 135) none⟩]) <|
  .ret
theorem ok9 : fnOf Tryd.prog 9 n9 = some ⟨136, [.t 4], c9⟩ := by kernel_rfl
def n10 : List (Nat × List Nat) := [(0, []), (1, []), (2, [1, 2]), (3, [1, 2, 3, 4, 5]), (4, [1, 2, 3, 4, 5, 8]), (5, [1, 2, 3, 4, 5, 8, 11]), (6, [1, 2, 3, 4, 5, 8, 11, 12, 13]), (7, [1, 2, 3, 4, 5, 8, 11, 12, 13, 14, 15])]
/-- mummer/mummerlaw02.awake -/
def c10 : RC :=
  .seq (.reg (some []) [
    ⟨(some 0), none, .asg (.c (.sc (.bool false))) none⟩]) <|
  .seq (.reg (some []) [
    ⟨(some 17), none, .call (.f 13) [(.c (.sc (.int .i32 8364)))] [[none]]⟩,
    ⟨(some 16), none, .mv (.t 17)⟩,
    ⟨(some 18), none, .ext (.t 16) 0⟩,
    ⟨(some 19), none, .ext (.t 16) 1⟩,
    ⟨(some 1), none, .asg (.t 18) (some 1)⟩,
    ⟨(some 2), none, .asg (.t 19) none⟩]) <|
  .seq (.reg (some [1, 2]) [
    ⟨(some 21), none, .bsl 1 [none] [(.c (.sc (.int .u8 195))), (.c (.sc (.int .u8 169))), (.c (.sc (.int .u8 0)))]⟩,
    ⟨(some 22), none, .call (.f 11) [(.t 21), (.c (.sc (.int .i64 0)))] [[(some 1)], [none]]⟩,
    ⟨(some 20), none, .mv (.t 22)⟩,
    ⟨(some 23), none, .ext (.t 20) 0⟩,
    ⟨(some 24), none, .ext (.t 20) 1⟩,
    ⟨(some 25), none, .ext (.t 20) 2⟩,
    ⟨(some 3), none, .asg (.t 23) none⟩,
    ⟨(some 4), none, .asg (.t 24) none⟩,
    ⟨(some 5), none, .asg (.t 25) none⟩]) <|
  .seq (.reg (some [1, 2, 3, 4, 5]) [
    ⟨(some 27), none, .bsl 1 [none] [(.c (.sc (.int .u8 195)))]⟩,
    ⟨(some 28), none, .call (.f 11) [(.t 27), (.c (.sc (.int .i64 0)))] [[(some 1)], [none]]⟩,
    ⟨(some 26), none, .mv (.t 28)⟩,
    ⟨(some 29), none, .ext (.t 26) 0⟩,
    ⟨(some 30), none, .ext (.t 26) 1⟩,
    ⟨(some 31), none, .ext (.t 26) 2⟩,
    ⟨(some 6), none, .asg (.t 29) none⟩,
    ⟨(some 7), none, .asg (.t 30) none⟩,
    ⟨(some 8), none, .asg (.t 31) none⟩]) <|
  .seq (.reg (some [1, 2, 3, 4, 5, 8]) [
    ⟨(some 33), none, .bsl 1 [none] [(.c (.sc (.int .u8 237))), (.c (.sc (.int .u8 160))), (.c (.sc (.int .u8 128)))]⟩,
    ⟨(some 34), none, .call (.f 11) [(.t 33), (.c (.sc (.int .i64 0)))] [[(some 1)], [none]]⟩,
    ⟨(some 32), none, .mv (.t 34)⟩,
    ⟨(some 35), none, .ext (.t 32) 0⟩,
    ⟨(some 36), none, .ext (.t 32) 1⟩,
    ⟨(some 37), none, .ext (.t 32) 2⟩,
    ⟨(some 9), none, .asg (.t 35) none⟩,
    ⟨(some 10), none, .asg (.t 36) none⟩,
    ⟨(some 11), none, .asg (.t 37) none⟩]) <|
  .seq (.reg (some [1, 2, 3, 4, 5, 8, 11]) [
    ⟨(some 39), none, .bsl 1 [none] [(.c (.sc (.int .u8 97))), (.c (.sc (.int .u8 195))), (.c (.sc (.int .u8 169)))]⟩,
    ⟨(some 40), none, .call (.f 17) [(.t 39)] [[(some 1)]]⟩,
    ⟨(some 38), none, .mv (.t 40)⟩,
    ⟨(some 41), none, .ext (.t 38) 0⟩,
    ⟨(some 42), none, .ext (.t 38) 1⟩,
    ⟨(some 12), none, .asg (.t 41) (some 1)⟩,
    ⟨(some 13), none, .asg (.t 42) none⟩]) <|
  .seq (.reg (some [1, 2, 3, 4, 5, 8, 11, 12, 13]) [
    ⟨(some 44), none, .call (.f 15) [(.c (.sc (.int .i32 91)))] [[none]]⟩,
    ⟨(some 43), none, .mv (.t 44)⟩,
    ⟨(some 45), none, .ext (.t 43) 0⟩,
    ⟨(some 46), none, .ext (.t 43) 1⟩,
    ⟨(some 14), none, .asg (.t 45) none⟩,
    ⟨(some 15), none, .asg (.t 46) none⟩]) <|
  .seq (.reg (some [1, 2, 3, 4, 5, 8, 11, 12, 13, 14, 15]) [
    ⟨(some 47), none, .mv (.t 2)⟩,
    ⟨(some 48), none, .bin .eql (.t 47) (.c (.sc (.int .i64 0)))⟩,
    ⟨(some 49), none, .mv (.t 48)⟩,
    ⟨(some 50), some (49, true), .mv (.t 5)⟩,
    ⟨(some 51), some (49, true), .bin .eql (.t 50) (.c (.sc (.int .i64 0)))⟩,
    ⟨(some 52), none, .pick (.t 49) (.t 51) (.c (.sc (.bool false)))⟩,
    ⟨(some 53), none, .mv (.t 52)⟩,
    ⟨(some 54), some (53, true), .mv (.t 8)⟩,
    ⟨(some 55), some (53, true), .bin .eql (.t 54) (.c (.sc (.int .i64 320)))⟩,
    ⟨(some 56), none, .pick (.t 53) (.t 55) (.c (.sc (.bool false)))⟩,
    ⟨(some 57), none, .mv (.t 56)⟩,
    ⟨(some 58), some (57, true), .mv (.t 11)⟩,
    ⟨(some 59), some (57, true), .bin .eql (.t 58) (.c (.sc (.int .i64 6)))⟩,
    ⟨(some 60), none, .pick (.t 57) (.t 59) (.c (.sc (.bool false)))⟩,
    ⟨(some 61), none, .mv (.t 60)⟩,
    ⟨(some 62), some (61, true), .mv (.t 13)⟩,
    ⟨(some 63), some (61, true), .bin .eql (.t 62) (.c (.sc (.int .i64 0)))⟩,
    ⟨(some 64), none, .pick (.t 61) (.t 63) (.c (.sc (.bool false)))⟩,
    ⟨(some 65), none, .mv (.t 64)⟩,
    ⟨(some 66), some (65, true), .mv (.t 15)⟩,
    ⟨(some 67), some (65, true), .bin .eql (.t 66) (.c (.sc (.int .i64 0)))⟩,
    ⟨(some 68), none, .pick (.t 65) (.t 67) (.c (.sc (.bool false)))⟩,
    ⟨(some 69), none, .mv (.t 68)⟩,
    ⟨(some 70), some (69, true), .mv (.t 1)⟩,
    ⟨(some 71), some (69, true), .bs (.t 70)⟩,
    ⟨(some 72), some (69, true), .bin .eql (.t 71) (.c (.sc (.string ⟨#[226, 130, 172]⟩)))⟩,
    ⟨(some 73), none, .pick (.t 69) (.t 72) (.c (.sc (.bool false)))⟩,
    ⟨(some 74), none, .mv (.t 73)⟩,
    ⟨(some 75), some (74, true), .mv (.t 3)⟩,
    ⟨(some 76), some (74, true), .bin .eql (.t 75) (.c (.sc (.int .i32 233)))⟩,
    ⟨(some 77), none, .pick (.t 74) (.t 76) (.c (.sc (.bool false)))⟩,
    ⟨(some 78), none, .mv (.t 77)⟩,
    ⟨(some 79), some (78, true), .mv (.t 4)⟩,
    ⟨(some 80), some (78, true), .bin .eql (.t 79) (.c (.sc (.int .i64 2)))⟩,
    ⟨(some 81), none, .pick (.t 78) (.t 80) (.c (.sc (.bool false)))⟩,
    ⟨(some 82), none, .mv (.t 81)⟩,
    ⟨(some 83), some (82, true), .mv (.t 12)⟩,
    ⟨(some 84), some (82, true), .bsl 1 [none] [(.c (.sc (.int .i64 0))), (.c (.sc (.int .i64 1))), (.c (.sc (.int .i64 3)))]⟩,
    ⟨(some 85), some (82, true), .call (.f 23) [(.t 83), (.t 84)] [[(some 1)], [(some 1)]]⟩,
    ⟨(some 86), none, .pick (.t 82) (.t 85) (.c (.sc (.bool false)))⟩,
    ⟨(some 87), none, .mv (.t 86)⟩,
    ⟨(some 88), some (87, true), .mv (.t 14)⟩,
    ⟨(some 89), some (87, true), .bin .eql (.t 88) (.c (.sc (.int .i64 2)))⟩,
    ⟨(some 90), none, .pick (.t 87) (.t 89) (.c (.sc (.bool false)))⟩,
    ⟨(some 0), none, .asg (.t 90) none⟩]) <|
  .ret
theorem ok10 : fnOf Tryd.prog 10 n10 = some ⟨91, [.t 0], c10⟩ := by kernel_rfl
def n11 : List (Nat × List Nat) := [(0, [0, 1]), (1, [0, 1]), (2, []), (3, [0, 1]), (4, [0, 1, 4, 5]), (5, [4, 5]), (6, [0, 1]), (7, []), (8, [])]
/-- mummer/runes.Decode -/
def c11 : RC :=
  .seq (.reg (some [0, 1]) [
    ⟨(some 4), none, .asg (.c (.sc (.int .i32 0))) none⟩,
    ⟨(some 5), none, .asg (.c (.sc (.int .i64 0))) none⟩,
    ⟨(some 6), none, .asg (.c (.sc (.int .i64 0))) none⟩]) <|
  .seq (.seq (.reg (some [0, 1]) [
    ⟨(some 7), none, .mv (.t 1)⟩,
    ⟨(some 8), none, .bin .lss (.t 7) (.c (.sc (.int .i64 0)))⟩,
    ⟨(some 9), none, .mv (.t 8)⟩,
    ⟨(some 10), some (9, false), .mv (.t 1)⟩,
    ⟨(some 11), some (9, false), .mv (.t 0)⟩,
    ⟨(some 12), some (9, false), .lnL (.t 11)⟩,
    ⟨(some 13), some (9, false), .bin .geq (.t 10) (.t 12)⟩,
    ⟨(some 14), none, .pick (.t 9) (.c (.sc (.bool true))) (.t 13)⟩]) <|
  .cond (.t 14)
    (.seq (.reg (some []) [
      ⟨(some 4), none, .asg (.c (.sc (.int .i32 0))) none⟩,
      ⟨(some 5), none, .asg (.c (.sc (.int .i64 0))) none⟩,
      ⟨(some 6), none, .asg (.c (.sc (.int .i64 7))) none⟩]) <|
    .ret)
    (.skip)) <|
  .seq (.reg (some [0, 1]) [
    ⟨(some 16), none, .mv (.t 0)⟩,
    ⟨(some 17), none, .mv (.t 1)⟩,
    ⟨(some 18), none, .slc 1 (.t 16) (some (.t 17)) none none⟩,
    ⟨(some 19), none, .call (.f 33) [(.t 18)] [[(some 1)]]⟩,
    ⟨(some 15), none, .mv (.t 19)⟩,
    ⟨(some 20), none, .ext (.t 15) 0⟩,
    ⟨(some 21), none, .ext (.t 15) 1⟩,
    ⟨(some 4), none, .asg (.t 20) none⟩,
    ⟨(some 5), none, .asg (.t 21) none⟩]) <|
  .seq (.block 0 <|
   .seq (.reg (some [0, 1, 4, 5]) [
     ⟨(some 23), none, .mv (.t 4)⟩,
     ⟨(some 24), none, .bin .neq (.t 23) (.c (.sc (.int .i32 65533)))⟩,
     ⟨(some 25), none, .mv (.t 24)⟩,
     ⟨(some 26), some (25, false), .mv (.t 5)⟩,
     ⟨(some 27), some (25, false), .bin .gtr (.t 26) (.c (.sc (.int .i64 1)))⟩,
     ⟨(some 28), none, .pick (.t 25) (.c (.sc (.bool true))) (.t 27)⟩,
     ⟨(some 22), none, .asg (.t 28) none⟩]) <|
   .cond (.t 22)
     (.seq (.reg (some [4, 5]) [
       ⟨(some 29), none, .mv (.t 4)⟩,
       ⟨(some 30), none, .mv (.t 5)⟩,
       ⟨(some 4), none, .asg (.t 29) none⟩,
       ⟨(some 5), none, .asg (.t 30) none⟩,
       ⟨(some 6), none, .asg (.c (.sc (.int .i64 0))) none⟩]) <|
     .ret)
     (.seq (.reg (some [0, 1]) [
       ⟨(some 32), none, .mv (.t 0)⟩,
       ⟨(some 33), none, .mv (.t 1)⟩,
       ⟨(some 34), none, .slc 1 (.t 32) (some (.t 33)) none none⟩,
       ⟨(some 35), none, .call (.f 34) [(.t 34)] [[(some 1)]]⟩,
       ⟨(some 36), none, .not (.t 35)⟩,
       ⟨(some 31), none, .asg (.t 36) none⟩]) <|
     .cond (.t 31)
       (.seq (.reg (some []) [
         ⟨(some 4), none, .asg (.c (.sc (.int .i32 0))) none⟩,
         ⟨(some 5), none, .asg (.c (.sc (.int .i64 0))) none⟩,
         ⟨(some 6), none, .asg (.c (.sc (.int .i64 320))) none⟩]) <|
       .ret)
       (.skip))) <|
  .seq (.reg (some []) [
    ⟨(some 4), none, .asg (.c (.sc (.int .i32 0))) none⟩,
    ⟨(some 5), none, .asg (.c (.sc (.int .i64 0))) none⟩,
    ⟨(some 6), none, .asg (.c (.sc (.int .i64 6))) none⟩]) <|
  .ret
theorem ok11 : fnOf Tryd.prog 11 n11 = some ⟨37, [.t 4, .t 5, .t 6], c11⟩ := by kernel_rfl
def n12 : List (Nat × List Nat) := [(0, [0, 1]), (1, [0, 1]), (2, []), (3, [0, 1]), (4, [0, 1, 7]), (6, [0, 1, 7]), (7, [0, 1, 7, 8, 9]), (8, [7, 8]), (5, [0, 1, 7]), (9, [0, 1]), (10, []), (11, [])]
/-- mummer/mummerref02.Decode -/
def c12 : RC :=
  .seq (.reg (some [0, 1]) [
    ⟨(some 4), none, .asg (.c (.sc (.int .i32 0))) none⟩,
    ⟨(some 5), none, .asg (.c (.sc (.int .i64 0))) none⟩,
    ⟨(some 6), none, .asg (.c (.sc (.int .i64 0))) none⟩]) <|
  .seq (.seq (.reg (some [0, 1]) [
    ⟨(some 10), none, .mv (.t 1)⟩,
    ⟨(some 11), none, .bin .lss (.t 10) (.c (.sc (.int .i64 0)))⟩,
    ⟨(some 12), none, .mv (.t 11)⟩,
    ⟨(some 13), some (12, false), .mv (.t 1)⟩,
    ⟨(some 14), some (12, false), .mv (.t 0)⟩,
    ⟨(some 15), some (12, false), .lnL (.t 14)⟩,
    ⟨(some 16), some (12, false), .bin .geq (.t 13) (.t 15)⟩,
    ⟨(some 17), none, .pick (.t 12) (.c (.sc (.bool true))) (.t 16)⟩]) <|
  .cond (.t 17)
    (.seq (.reg (some []) [
      ⟨(some 4), none, .asg (.c (.sc (.int .i32 0))) none⟩,
      ⟨(some 5), none, .asg (.c (.sc (.int .i64 0))) none⟩,
      ⟨(some 6), none, .asg (.c (.sc (.int .i64 7))) none⟩]) <|
    .ret)
    (.skip)) <|
  .seq (.seq (.reg (some [0, 1]) [
    ⟨(some 7), none, .asg (.c (.sc (.int .i64 1))) none⟩]) <|
  .block 0 <|
   .loop <|
    .seq (.seq (.reg (some [0, 1, 7]) [
      ⟨(some 18), none, .mv (.t 7)⟩,
      ⟨(some 19), none, .bin .leq (.t 18) (.c (.sc (.int .i64 4)))⟩,
      ⟨(some 20), none, .mv (.t 19)⟩,
      ⟨(some 21), some (20, true), .mv (.t 1)⟩,
      ⟨(some 22), some (20, true), .mv (.t 7)⟩,
      ⟨(some 23), some (20, true), .bin .add (.t 21) (.t 22)⟩,
      ⟨(some 24), some (20, true), .mv (.t 0)⟩,
      ⟨(some 25), some (20, true), .lnL (.t 24)⟩,
      ⟨(some 26), some (20, true), .bin .leq (.t 23) (.t 25)⟩,
      ⟨(some 27), none, .pick (.t 20) (.t 26) (.c (.sc (.bool false)))⟩]) <|
    .cond (.t 27)
      (.skip)
      (.exit 0)) <|
    .seq (.block 1 <|
     .seq (.reg (some [0, 1, 7]) [
       ⟨(some 31), none, .mv (.t 0)⟩,
       ⟨(some 32), none, .mv (.t 1)⟩,
       ⟨(some 33), none, .mv (.t 1)⟩,
       ⟨(some 34), none, .mv (.t 7)⟩,
       ⟨(some 35), none, .bin .add (.t 33) (.t 34)⟩,
       ⟨(some 36), none, .slc 1 (.t 31) (some (.t 32)) (some (.t 35)) none⟩,
       ⟨(some 37), none, .call (.f 35) [(.t 36)] [[(some 1)]]⟩,
       ⟨(some 30), none, .mv (.t 37)⟩,
       ⟨(some 38), none, .ext (.t 30) 0⟩,
       ⟨(some 39), none, .ext (.t 30) 1⟩,
       ⟨(some 8), none, .asg (.t 38) none⟩,
       ⟨(some 9), none, .asg (.t 39) none⟩]) <|
     .seq (.reg (some [0, 1, 7, 8, 9]) [
       ⟨(some 40), none, .mv (.t 9)⟩]) <|
     .cond (.t 40)
       (.seq (.reg (some [7, 8]) [
         ⟨(some 41), none, .mv (.t 8)⟩,
         ⟨(some 42), none, .mv (.t 7)⟩,
         ⟨(some 4), none, .asg (.t 41) none⟩,
         ⟨(some 5), none, .asg (.t 42) none⟩,
         ⟨(some 6), none, .asg (.c (.sc (.int .i64 0))) none⟩]) <|
       .ret)
       (.skip)) <|
    .reg (some [0, 1, 7]) [
      ⟨(some 28), none, .mv (.t 7)⟩,
      ⟨(some 29), none, .bin .add (.t 28) (.c (.sc (.int .i64 1)))⟩,
      ⟨(some 7), none, .asg (.t 29) none⟩]) <|
  .seq (.seq (.reg (some [0, 1]) [
    ⟨(some 43), none, .mv (.t 0)⟩,
    ⟨(some 44), none, .lnL (.t 43)⟩,
    ⟨(some 45), none, .mv (.t 1)⟩,
    ⟨(some 46), none, .bin .sub (.t 44) (.t 45)⟩,
    ⟨(some 47), none, .bin .lss (.t 46) (.c (.sc (.int .i64 4)))⟩,
    ⟨(some 48), none, .mv (.t 47)⟩,
    ⟨(some 49), some (48, true), .mv (.t 0)⟩,
    ⟨(some 50), some (48, true), .mv (.t 1)⟩,
    ⟨(some 51), some (48, true), .slc 1 (.t 49) (some (.t 50)) none none⟩,
    ⟨(some 52), some (48, true), .call (.f 36) [(.t 51)] [[(some 1)]]⟩,
    ⟨(some 53), none, .pick (.t 48) (.t 52) (.c (.sc (.bool false)))⟩]) <|
  .cond (.t 53)
    (.seq (.reg (some []) [
      ⟨(some 4), none, .asg (.c (.sc (.int .i32 0))) none⟩,
      ⟨(some 5), none, .asg (.c (.sc (.int .i64 0))) none⟩,
      ⟨(some 6), none, .asg (.c (.sc (.int .i64 320))) none⟩]) <|
    .ret)
    (.skip)) <|
  .seq (.reg (some []) [
    ⟨(some 4), none, .asg (.c (.sc (.int .i32 0))) none⟩,
    ⟨(some 5), none, .asg (.c (.sc (.int .i64 0))) none⟩,
    ⟨(some 6), none, .asg (.c (.sc (.int .i64 6))) none⟩]) <|
  .ret
theorem ok12 : fnOf Tryd.prog 12 n12 = some ⟨54, [.t 4, .t 5, .t 6], c12⟩ := by kernel_rfl
def n13 : List (Nat × List Nat) := [(0, [0]), (1, [0]), (2, []), (3, [0]), (4, [0, 4]), (5, [0, 4, 5]), (6, [0, 4, 5, 6]), (7, [0, 4, 5, 6, 12]), (8, [0, 4, 5, 6, 12]), (9, [0, 4, 5, 6, 12]), (10, [0, 4, 5, 6, 12]), (11, [0, 4, 5, 6]), (12, [0, 4, 5, 6]), (13, [0, 4, 5, 6]), (14, [0, 4, 5, 6]), (15, [0, 4, 5, 6]), (16, [0, 4, 5, 6]), (17, [0, 4, 5, 6]), (18, [0, 4, 5, 6]), (19, [0, 4, 5, 6]), (20, [4, 5])]
/-- mummer/runes.Encode -/
def c13 : RC :=
  .seq (.reg (some [0]) [
    ⟨(some 2), none, .asg (.c .nil) (some 1)⟩,
    ⟨(some 3), none, .asg (.c (.sc (.int .i64 0))) none⟩]) <|
  .seq (.seq (.reg (some [0]) [
    ⟨(some 7), none, .mv (.t 0)⟩,
    ⟨(some 8), none, .call (.f 37) [(.t 7)] [[none]]⟩,
    ⟨(some 9), none, .not (.t 8)⟩]) <|
  .cond (.t 9)
    (.seq (.reg (some []) [
      ⟨(some 2), none, .asg (.c .nil) (some 1)⟩,
      ⟨(some 3), none, .asg (.c (.sc (.int .i64 7))) none⟩]) <|
    .ret)
    (.skip)) <|
  .seq (.reg (some [0]) [
    ⟨(some 4), none, .al [none, none, none, none] [(.sc (.int .u8 0)), (.sc (.int .u8 0)), (.sc (.int .u8 0)), (.sc (.int .u8 0))]⟩]) <|
  .seq (.reg (some [0, 4]) [
    ⟨(some 5), none, .al [none] [(.sc (.int .i64 0))]⟩,
    ⟨none, none, .st 1 [none] (.t 5) (.c (.sc (.int .i64 0)))⟩]) <|
  .seq (.reg (some [0, 4, 5]) [
    ⟨(some 10), none, .mkf 38 [] [(.t 4), (.t 5)]⟩,
    ⟨(some 6), none, .asg (.t 10) none⟩]) <|
  .seq (.seq (.reg (some [0, 4, 5, 6]) [
    ⟨(some 11), none, .mv (.t 0)⟩,
    ⟨(some 12), none, .call (.f 39) [(.t 11)] [[none]]⟩]) <|
  .block 0 <|
   .seq (.block 4 <|
    .seq (.block 3 <|
     .seq (.block 2 <|
      .seq (.block 1 <|
       .seq (.seq (.seq (.reg (some [0, 4, 5, 6, 12]) [
         ⟨(some 14), none, .bin .eql (.t 12) (.c (.sc (.int .i64 1)))⟩,
         ⟨(some 13), none, .asg (.t 14) none⟩]) <|
       .cond (.t 13)
         (.exit 1)
         (.skip)) <|
       .seq (.seq (.reg (some [0, 4, 5, 6, 12]) [
         ⟨(some 16), none, .bin .eql (.t 12) (.c (.sc (.int .i64 4)))⟩,
         ⟨(some 15), none, .asg (.t 16) none⟩]) <|
       .cond (.t 15)
         (.exit 2)
         (.skip)) <|
       .seq (.seq (.reg (some [0, 4, 5, 6, 12]) [
         ⟨(some 18), none, .bin .eql (.t 12) (.c (.sc (.int .i64 3)))⟩,
         ⟨(some 17), none, .asg (.t 18) none⟩]) <|
       .cond (.t 17)
         (.exit 3)
         (.skip)) <|
       .seq (.reg (some [0, 4, 5, 6, 12]) [
         ⟨(some 20), none, .bin .eql (.t 12) (.c (.sc (.int .i64 2)))⟩,
         ⟨(some 19), none, .asg (.t 20) none⟩]) <|
       .cond (.t 19)
         (.exit 4)
         (.skip)) <|
       .exit 0) <|
      .seq (.reg (some [0, 4, 5, 6]) [
        ⟨(some 21), none, .mv (.t 6)⟩,
        ⟨(some 22), none, .mv (.t 0)⟩,
        ⟨(some 23), none, .call (.t 21) [(.t 22)] [[none]]⟩]) <|
      .exit 0) <|
     .reg (some [0, 4, 5, 6]) [
       ⟨(some 24), none, .mv (.t 6)⟩,
       ⟨(some 25), none, .mv (.t 0)⟩,
       ⟨(some 26), none, .bin .shr (.t 25) (.c (.sc (.int .u64 18)))⟩,
       ⟨(some 27), none, .bin .or (.c (.sc (.int .i32 240))) (.t 26)⟩,
       ⟨(some 28), none, .call (.t 24) [(.t 27)] [[none]]⟩]) <|
    .seq (.reg (some [0, 4, 5, 6]) [
      ⟨(some 29), none, .ld false 1 (.t 5)⟩,
      ⟨(some 30), none, .bin .eql (.t 29) (.c (.sc (.int .i64 0)))⟩]) <|
    .cond (.t 30)
      (.reg (some [0, 4, 5, 6]) [
        ⟨(some 31), none, .mv (.t 6)⟩,
        ⟨(some 32), none, .mv (.t 0)⟩,
        ⟨(some 33), none, .bin .shr (.t 32) (.c (.sc (.int .u64 12)))⟩,
        ⟨(some 34), none, .bin .or (.c (.sc (.int .i32 224))) (.t 33)⟩,
        ⟨(some 35), none, .call (.t 31) [(.t 34)] [[none]]⟩])
      (.reg (some [0, 4, 5, 6]) [
        ⟨(some 36), none, .mv (.t 6)⟩,
        ⟨(some 37), none, .mv (.t 0)⟩,
        ⟨(some 38), none, .bin .shr (.t 37) (.c (.sc (.int .u64 12)))⟩,
        ⟨(some 39), none, .bin .and (.t 38) (.c (.sc (.int .i32 63)))⟩,
        ⟨(some 40), none, .bin .or (.c (.sc (.int .i32 128))) (.t 39)⟩,
        ⟨(some 41), none, .call (.t 36) [(.t 40)] [[none]]⟩])) <|
   .seq (.seq (.seq (.reg (some [0, 4, 5, 6]) [
     ⟨(some 42), none, .ld false 1 (.t 5)⟩,
     ⟨(some 43), none, .bin .eql (.t 42) (.c (.sc (.int .i64 0)))⟩]) <|
   .cond (.t 43)
     (.reg (some [0, 4, 5, 6]) [
       ⟨(some 44), none, .mv (.t 6)⟩,
       ⟨(some 45), none, .mv (.t 0)⟩,
       ⟨(some 46), none, .bin .shr (.t 45) (.c (.sc (.int .u64 6)))⟩,
       ⟨(some 47), none, .bin .or (.c (.sc (.int .i32 192))) (.t 46)⟩,
       ⟨(some 48), none, .call (.t 44) [(.t 47)] [[none]]⟩])
     (.reg (some [0, 4, 5, 6]) [
       ⟨(some 49), none, .mv (.t 6)⟩,
       ⟨(some 50), none, .mv (.t 0)⟩,
       ⟨(some 51), none, .bin .shr (.t 50) (.c (.sc (.int .u64 6)))⟩,
       ⟨(some 52), none, .bin .and (.t 51) (.c (.sc (.int .i32 63)))⟩,
       ⟨(some 53), none, .bin .or (.c (.sc (.int .i32 128))) (.t 52)⟩,
       ⟨(some 54), none, .call (.t 49) [(.t 53)] [[none]]⟩])) <|
   .reg (some [0, 4, 5, 6]) [
     ⟨(some 55), none, .mv (.t 6)⟩,
     ⟨(some 56), none, .mv (.t 0)⟩,
     ⟨(some 57), none, .bin .and (.t 56) (.c (.sc (.int .i32 63)))⟩,
     ⟨(some 58), none, .bin .or (.c (.sc (.int .i32 128))) (.t 57)⟩,
     ⟨(some 59), none, .call (.t 55) [(.t 58)] [[none]]⟩]) <|
   .exit 0) <|
  .seq (.reg (some [4, 5]) [
    ⟨(some 60), none, .ld false 1 (.t 5)⟩,
    ⟨(some 61), none, .slcA 4 (.t 4) none (some (.t 60))⟩,
    ⟨(some 2), none, .asg (.t 61) (some 1)⟩,
    ⟨(some 3), none, .asg (.c (.sc (.int .i64 0))) none⟩]) <|
  .ret
theorem ok13 : fnOf Tryd.prog 13 n13 = some ⟨62, [.t 2, .t 3], c13⟩ := by kernel_rfl
def n14 : List (Nat × List Nat) := [(0, [0]), (1, [0]), (2, []), (3, [0]), (4, [0]), (5, [0]), (6, [0]), (7, [0]), (8, [0]), (9, [0])]
/-- mummer/mummerref02.Encode -/
def c14 : RC :=
  .seq (.reg (some [0]) [
    ⟨(some 2), none, .asg (.c .nil) (some 1)⟩,
    ⟨(some 3), none, .asg (.c (.sc (.int .i64 0))) none⟩]) <|
  .seq (.seq (.reg (some [0]) [
    ⟨(some 4), none, .mv (.t 0)⟩,
    ⟨(some 5), none, .call (.f 40) [(.t 4)] [[none]]⟩,
    ⟨(some 6), none, .not (.t 5)⟩]) <|
  .cond (.t 6)
    (.seq (.reg (some []) [
      ⟨(some 2), none, .asg (.c .nil) (some 1)⟩,
      ⟨(some 3), none, .asg (.c (.sc (.int .i64 7))) none⟩]) <|
    .ret)
    (.skip)) <|
  .seq (.seq (.reg (some [0]) [
    ⟨(some 7), none, .mv (.t 0)⟩,
    ⟨(some 8), none, .bin .lss (.t 7) (.c (.sc (.int .i32 128)))⟩]) <|
  .cond (.t 8)
    (.seq (.reg (some [0]) [
      ⟨(some 9), none, .mv (.t 0)⟩,
      ⟨(some 10), none, .cv .u8 (.t 9)⟩,
      ⟨(some 11), none, .bsl 1 [none] [(.t 10)]⟩,
      ⟨(some 2), none, .asg (.t 11) (some 1)⟩,
      ⟨(some 3), none, .asg (.c (.sc (.int .i64 0))) none⟩]) <|
    .ret)
    (.skip)) <|
  .seq (.seq (.reg (some [0]) [
    ⟨(some 12), none, .mv (.t 0)⟩,
    ⟨(some 13), none, .bin .lss (.t 12) (.c (.sc (.int .i32 2048)))⟩]) <|
  .cond (.t 13)
    (.seq (.reg (some [0]) [
      ⟨(some 14), none, .mv (.t 0)⟩,
      ⟨(some 15), none, .bin .quo (.t 14) (.c (.sc (.int .i32 64)))⟩,
      ⟨(some 16), none, .bin .add (.c (.sc (.int .i32 192))) (.t 15)⟩,
      ⟨(some 17), none, .cv .u8 (.t 16)⟩,
      ⟨(some 18), none, .mv (.t 0)⟩,
      ⟨(some 19), none, .bin .rem (.t 18) (.c (.sc (.int .i32 64)))⟩,
      ⟨(some 20), none, .bin .add (.c (.sc (.int .i32 128))) (.t 19)⟩,
      ⟨(some 21), none, .cv .u8 (.t 20)⟩,
      ⟨(some 22), none, .bsl 1 [none] [(.t 17), (.t 21)]⟩,
      ⟨(some 2), none, .asg (.t 22) (some 1)⟩,
      ⟨(some 3), none, .asg (.c (.sc (.int .i64 0))) none⟩]) <|
    .ret)
    (.skip)) <|
  .seq (.seq (.reg (some [0]) [
    ⟨(some 23), none, .mv (.t 0)⟩,
    ⟨(some 24), none, .bin .lss (.t 23) (.c (.sc (.int .i32 65536)))⟩]) <|
  .cond (.t 24)
    (.seq (.reg (some [0]) [
      ⟨(some 25), none, .mv (.t 0)⟩,
      ⟨(some 26), none, .bin .quo (.t 25) (.c (.sc (.int .i32 4096)))⟩,
      ⟨(some 27), none, .bin .add (.c (.sc (.int .i32 224))) (.t 26)⟩,
      ⟨(some 28), none, .cv .u8 (.t 27)⟩,
      ⟨(some 29), none, .mv (.t 0)⟩,
      ⟨(some 30), none, .bin .quo (.t 29) (.c (.sc (.int .i32 64)))⟩,
      ⟨(some 31), none, .bin .rem (.t 30) (.c (.sc (.int .i32 64)))⟩,
      ⟨(some 32), none, .bin .add (.c (.sc (.int .i32 128))) (.t 31)⟩,
      ⟨(some 33), none, .cv .u8 (.t 32)⟩,
      ⟨(some 34), none, .mv (.t 0)⟩,
      ⟨(some 35), none, .bin .rem (.t 34) (.c (.sc (.int .i32 64)))⟩,
      ⟨(some 36), none, .bin .add (.c (.sc (.int .i32 128))) (.t 35)⟩,
      ⟨(some 37), none, .cv .u8 (.t 36)⟩,
      ⟨(some 38), none, .bsl 1 [none] [(.t 28), (.t 33), (.t 37)]⟩,
      ⟨(some 2), none, .asg (.t 38) (some 1)⟩,
      ⟨(some 3), none, .asg (.c (.sc (.int .i64 0))) none⟩]) <|
    .ret)
    (.skip)) <|
  .seq (.reg (some [0]) [
    ⟨(some 39), none, .mv (.t 0)⟩,
    ⟨(some 40), none, .bin .quo (.t 39) (.c (.sc (.int .i32 262144)))⟩,
    ⟨(some 41), none, .bin .add (.c (.sc (.int .i32 240))) (.t 40)⟩,
    ⟨(some 42), none, .cv .u8 (.t 41)⟩,
    ⟨(some 43), none, .mv (.t 0)⟩,
    ⟨(some 44), none, .bin .quo (.t 43) (.c (.sc (.int .i32 4096)))⟩,
    ⟨(some 45), none, .bin .rem (.t 44) (.c (.sc (.int .i32 64)))⟩,
    ⟨(some 46), none, .bin .add (.c (.sc (.int .i32 128))) (.t 45)⟩,
    ⟨(some 47), none, .cv .u8 (.t 46)⟩,
    ⟨(some 48), none, .mv (.t 0)⟩,
    ⟨(some 49), none, .bin .quo (.t 48) (.c (.sc (.int .i32 64)))⟩,
    ⟨(some 50), none, .bin .rem (.t 49) (.c (.sc (.int .i32 64)))⟩,
    ⟨(some 51), none, .bin .add (.c (.sc (.int .i32 128))) (.t 50)⟩,
    ⟨(some 52), none, .cv .u8 (.t 51)⟩,
    ⟨(some 53), none, .mv (.t 0)⟩,
    ⟨(some 54), none, .bin .rem (.t 53) (.c (.sc (.int .i32 64)))⟩,
    ⟨(some 55), none, .bin .add (.c (.sc (.int .i32 128))) (.t 54)⟩,
    ⟨(some 56), none, .cv .u8 (.t 55)⟩,
    ⟨(some 57), none, .bsl 1 [none] [(.t 42), (.t 47), (.t 52), (.t 56)]⟩,
    ⟨(some 2), none, .asg (.t 57) (some 1)⟩,
    ⟨(some 3), none, .asg (.c (.sc (.int .i64 0))) none⟩]) <|
  .ret
theorem ok14 : fnOf Tryd.prog 14 n14 = some ⟨58, [.t 2, .t 3], c14⟩ := by kernel_rfl
def n15 : List (Nat × List Nat) := [(0, [0]), (1, [0]), (2, []), (3, [0]), (4, []), (5, [0]), (6, [0]), (7, [0]), (8, []), (9, [0]), (10, [0, 32, 33]), (11, [0, 32, 33]), (12, [0, 4, 5, 32, 33]), (13, [4]), (14, [0, 32, 33]), (15, [])]
/-- mummer/runes.Class -/
def c15 : RC :=
  .seq (.reg (some [0]) [
    ⟨(some 2), none, .asg (.c (.sc (.int .i64 0))) none⟩,
    ⟨(some 3), none, .asg (.c (.sc (.int .i64 0))) none⟩]) <|
  .seq (.block 0 <|
   .seq (.reg (some [0]) [
     ⟨(some 7), none, .mv (.t 0)⟩,
     ⟨(some 8), none, .call (.f 37) [(.t 7)] [[none]]⟩,
     ⟨(some 9), none, .not (.t 8)⟩,
     ⟨(some 6), none, .asg (.t 9) none⟩]) <|
   .cond (.t 6)
     (.seq (.reg (some []) [
       ⟨(some 2), none, .asg (.c (.sc (.int .i64 0))) none⟩,
       ⟨(some 3), none, .asg (.c (.sc (.int .i64 7))) none⟩]) <|
     .ret)
     (.seq (.reg (some [0]) [
       ⟨(some 11), none, .mv (.t 0)⟩,
       ⟨(some 12), none, .bin .geq (.t 11) (.c (.sc (.int .i32 48)))⟩,
       ⟨(some 13), none, .mv (.t 12)⟩,
       ⟨(some 14), some (13, true), .mv (.t 0)⟩,
       ⟨(some 15), some (13, true), .bin .leq (.t 14) (.c (.sc (.int .i32 57)))⟩,
       ⟨(some 16), none, .pick (.t 13) (.t 15) (.c (.sc (.bool false)))⟩,
       ⟨(some 10), none, .asg (.t 16) none⟩]) <|
     .cond (.t 10)
       (.seq (.reg (some []) [
         ⟨(some 2), none, .asg (.c (.sc (.int .i64 7))) none⟩,
         ⟨(some 3), none, .asg (.c (.sc (.int .i64 0))) none⟩]) <|
       .ret)
       (.seq (.seq (.reg (some [0]) [
         ⟨(some 18), none, .mv (.t 0)⟩,
         ⟨(some 19), none, .bin .geq (.t 18) (.c (.sc (.int .i32 97)))⟩,
         ⟨(some 20), none, .mv (.t 19)⟩,
         ⟨(some 21), some (20, true), .mv (.t 0)⟩,
         ⟨(some 22), some (20, true), .bin .leq (.t 21) (.c (.sc (.int .i32 122)))⟩,
         ⟨(some 23), none, .pick (.t 20) (.t 22) (.c (.sc (.bool false)))⟩,
         ⟨(some 17), none, .asg (.t 23) none⟩]) <|
       .cond (.t 17)
         (.skip)
         (.seq (.reg (some [0]) [
           ⟨(some 24), none, .mv (.t 0)⟩,
           ⟨(some 25), none, .bin .geq (.t 24) (.c (.sc (.int .i32 65)))⟩,
           ⟨(some 26), none, .mv (.t 25)⟩,
           ⟨(some 27), some (26, true), .mv (.t 0)⟩,
           ⟨(some 28), some (26, true), .bin .leq (.t 27) (.c (.sc (.int .i32 90)))⟩,
           ⟨(some 29), none, .pick (.t 26) (.t 28) (.c (.sc (.bool false)))⟩,
           ⟨(some 17), none, .asg (.t 29) none⟩]) <|
         .cond (.t 17)
           (.skip)
           (.reg (some [0]) [
             ⟨(some 30), none, .mv (.t 0)⟩,
             ⟨(some 31), none, .bin .gtr (.t 30) (.c (.sc (.int .i32 160)))⟩,
             ⟨(some 17), none, .asg (.t 31) none⟩]))) <|
       .cond (.t 17)
         (.seq (.reg (some []) [
           ⟨(some 2), none, .asg (.c (.sc (.int .i64 9))) none⟩,
           ⟨(some 3), none, .asg (.c (.sc (.int .i64 0))) none⟩]) <|
         .ret)
         (.skip)))) <|
  .seq (.seq (.reg (some [0]) [
    ⟨(some 32), none, .call (.f 41) [] []⟩,
    ⟨(some 33), none, .mv (.c (.sc (.int .i64 0)))⟩]) <|
  .block 1 <|
   .loop <|
    .seq (.reg (some [0, 32, 33]) [
      ⟨(some 34), none, .bin .lss (.t 33) (.c (.sc (.int .i64 10)))⟩]) <|
    .seq (.cond (.t 34)
      (.skip)
      (.exit 1)) <|
    .seq (.block 2 <|
     .seq (.reg (some [0, 32, 33]) [
       ⟨(some 35), none, .mv (.t 33)⟩,
       ⟨(some 36), none, .ixA 10 (.t 32) (.t 33)⟩,
       ⟨(some 4), none, .asg (.t 35) none⟩,
       ⟨(some 5), none, .asg (.t 36) none⟩]) <|
     .seq (.reg (some [0, 4, 5, 32, 33]) [
       ⟨(some 37), none, .mv (.t 5)⟩,
       ⟨(some 38), none, .mv (.t 0)⟩,
       ⟨(some 39), none, .call (.f 42) [(.t 37), (.t 38)] [[none], [none]]⟩]) <|
     .cond (.t 39)
       (.seq (.reg (some [4]) [
         ⟨(some 40), none, .mv (.t 4)⟩,
         ⟨(some 2), none, .asg (.t 40) none⟩,
         ⟨(some 3), none, .asg (.c (.sc (.int .i64 0))) none⟩]) <|
       .ret)
       (.skip)) <|
    .reg (some [0, 32, 33]) [
      ⟨(some 41), none, .bin .add (.t 33) (.c (.sc (.int .i64 1)))⟩,
      ⟨(some 33), none, .mv (.t 41)⟩]) <|
  .seq (.reg (some []) [
    ⟨(some 2), none, .asg (.c (.sc (.int .i64 10))) none⟩,
    ⟨(some 3), none, .asg (.c (.sc (.int .i64 0))) none⟩]) <|
  .ret
theorem ok15 : fnOf Tryd.prog 15 n15 = some ⟨42, [.t 2, .t 3], c15⟩ := by kernel_rfl
def n16 : List (Nat × List Nat) := [(0, [0]), (1, [0]), (2, []), (3, [0]), (4, []), (5, [0]), (6, []), (7, [0]), (8, []), (9, [0]), (10, []), (11, [0]), (12, []), (13, [0]), (14, []), (15, [0]), (16, []), (17, [0]), (18, []), (19, [0]), (20, []), (21, [])]
/-- mummer/mummerref02.Class -/
def c16 : RC :=
  .seq (.reg (some [0]) [
    ⟨(some 2), none, .asg (.c (.sc (.int .i64 0))) none⟩,
    ⟨(some 3), none, .asg (.c (.sc (.int .i64 0))) none⟩]) <|
  .seq (.seq (.reg (some [0]) [
    ⟨(some 4), none, .mv (.t 0)⟩,
    ⟨(some 5), none, .call (.f 40) [(.t 4)] [[none]]⟩,
    ⟨(some 6), none, .not (.t 5)⟩]) <|
  .cond (.t 6)
    (.seq (.reg (some []) [
      ⟨(some 2), none, .asg (.c (.sc (.int .i64 0))) none⟩,
      ⟨(some 3), none, .asg (.c (.sc (.int .i64 7))) none⟩]) <|
    .ret)
    (.skip)) <|
  .seq (.seq (.reg (some [0]) [
    ⟨(some 7), none, .mv (.t 0)⟩,
    ⟨(some 8), none, .call (.f 43) [(.t 7), (.c (.sc (.string ⟨#[9, 10, 13, 32]⟩)))] [[none], [none]]⟩]) <|
  .cond (.t 8)
    (.seq (.reg (some []) [
      ⟨(some 2), none, .asg (.c (.sc (.int .i64 1))) none⟩,
      ⟨(some 3), none, .asg (.c (.sc (.int .i64 0))) none⟩]) <|
    .ret)
    (.skip)) <|
  .seq (.seq (.reg (some [0]) [
    ⟨(some 9), none, .mv (.t 0)⟩,
    ⟨(some 10), none, .call (.f 43) [(.t 9), (.c (.sc (.string ⟨#[40, 91]⟩)))] [[none], [none]]⟩]) <|
  .cond (.t 10)
    (.seq (.reg (some []) [
      ⟨(some 2), none, .asg (.c (.sc (.int .i64 2))) none⟩,
      ⟨(some 3), none, .asg (.c (.sc (.int .i64 0))) none⟩]) <|
    .ret)
    (.skip)) <|
  .seq (.seq (.reg (some [0]) [
    ⟨(some 11), none, .mv (.t 0)⟩,
    ⟨(some 12), none, .call (.f 43) [(.t 11), (.c (.sc (.string ⟨#[41, 93]⟩)))] [[none], [none]]⟩]) <|
  .cond (.t 12)
    (.seq (.reg (some []) [
      ⟨(some 2), none, .asg (.c (.sc (.int .i64 3))) none⟩,
      ⟨(some 3), none, .asg (.c (.sc (.int .i64 0))) none⟩]) <|
    .ret)
    (.skip)) <|
  .seq (.seq (.reg (some [0]) [
    ⟨(some 13), none, .mv (.t 0)⟩,
    ⟨(some 14), none, .bin .eql (.t 13) (.c (.sc (.int .i32 39)))⟩]) <|
  .cond (.t 14)
    (.seq (.reg (some []) [
      ⟨(some 2), none, .asg (.c (.sc (.int .i64 4))) none⟩,
      ⟨(some 3), none, .asg (.c (.sc (.int .i64 0))) none⟩]) <|
    .ret)
    (.skip)) <|
  .seq (.seq (.reg (some [0]) [
    ⟨(some 15), none, .mv (.t 0)⟩,
    ⟨(some 16), none, .bin .eql (.t 15) (.c (.sc (.int .i32 35)))⟩]) <|
  .cond (.t 16)
    (.seq (.reg (some []) [
      ⟨(some 2), none, .asg (.c (.sc (.int .i64 5))) none⟩,
      ⟨(some 3), none, .asg (.c (.sc (.int .i64 0))) none⟩]) <|
    .ret)
    (.skip)) <|
  .seq (.seq (.reg (some [0]) [
    ⟨(some 17), none, .mv (.t 0)⟩,
    ⟨(some 18), none, .bin .eql (.t 17) (.c (.sc (.int .i32 59)))⟩]) <|
  .cond (.t 18)
    (.seq (.reg (some []) [
      ⟨(some 2), none, .asg (.c (.sc (.int .i64 6))) none⟩,
      ⟨(some 3), none, .asg (.c (.sc (.int .i64 0))) none⟩]) <|
    .ret)
    (.skip)) <|
  .seq (.seq (.reg (some [0]) [
    ⟨(some 19), none, .mv (.t 0)⟩,
    ⟨(some 20), none, .bin .geq (.t 19) (.c (.sc (.int .i32 48)))⟩,
    ⟨(some 21), none, .mv (.t 20)⟩,
    ⟨(some 22), some (21, true), .mv (.t 0)⟩,
    ⟨(some 23), some (21, true), .bin .leq (.t 22) (.c (.sc (.int .i32 57)))⟩,
    ⟨(some 24), none, .pick (.t 21) (.t 23) (.c (.sc (.bool false)))⟩]) <|
  .cond (.t 24)
    (.seq (.reg (some []) [
      ⟨(some 2), none, .asg (.c (.sc (.int .i64 7))) none⟩,
      ⟨(some 3), none, .asg (.c (.sc (.int .i64 0))) none⟩]) <|
    .ret)
    (.skip)) <|
  .seq (.seq (.reg (some [0]) [
    ⟨(some 25), none, .mv (.t 0)⟩,
    ⟨(some 26), none, .bin .eql (.t 25) (.c (.sc (.int .i32 43)))⟩,
    ⟨(some 27), none, .mv (.t 26)⟩,
    ⟨(some 28), some (27, false), .mv (.t 0)⟩,
    ⟨(some 29), some (27, false), .bin .eql (.t 28) (.c (.sc (.int .i32 45)))⟩,
    ⟨(some 30), none, .pick (.t 27) (.c (.sc (.bool true))) (.t 29)⟩]) <|
  .cond (.t 30)
    (.seq (.reg (some []) [
      ⟨(some 2), none, .asg (.c (.sc (.int .i64 8))) none⟩,
      ⟨(some 3), none, .asg (.c (.sc (.int .i64 0))) none⟩]) <|
    .ret)
    (.skip)) <|
  .seq (.seq (.reg (some [0]) [
    ⟨(some 31), none, .mv (.t 0)⟩,
    ⟨(some 32), none, .bin .geq (.t 31) (.c (.sc (.int .i32 97)))⟩,
    ⟨(some 33), none, .mv (.t 32)⟩,
    ⟨(some 34), some (33, true), .mv (.t 0)⟩,
    ⟨(some 35), some (33, true), .bin .leq (.t 34) (.c (.sc (.int .i32 122)))⟩,
    ⟨(some 36), none, .pick (.t 33) (.t 35) (.c (.sc (.bool false)))⟩,
    ⟨(some 37), none, .mv (.t 36)⟩,
    ⟨(some 38), some (37, false), .mv (.t 0)⟩,
    ⟨(some 39), some (37, false), .bin .geq (.t 38) (.c (.sc (.int .i32 65)))⟩,
    ⟨(some 40), some (37, false), .mv (.t 39)⟩,
    ⟨(some 41), some (40, true), .mv (.t 0)⟩,
    ⟨(some 42), some (40, true), .bin .leq (.t 41) (.c (.sc (.int .i32 90)))⟩,
    ⟨(some 43), some (37, false), .pick (.t 40) (.t 42) (.c (.sc (.bool false)))⟩,
    ⟨(some 44), none, .pick (.t 37) (.c (.sc (.bool true))) (.t 43)⟩,
    ⟨(some 45), none, .mv (.t 44)⟩,
    ⟨(some 46), some (45, false), .mv (.t 0)⟩,
    ⟨(some 47), some (45, false), .bin .geq (.t 46) (.c (.sc (.int .i32 161)))⟩,
    ⟨(some 48), none, .pick (.t 45) (.c (.sc (.bool true))) (.t 47)⟩,
    ⟨(some 49), none, .mv (.t 48)⟩,
    ⟨(some 50), some (49, false), .mv (.t 0)⟩,
    ⟨(some 51), some (49, false), .call (.f 43) [(.t 50), (.c (.sc (.string ⟨#[33, 36, 37, 38, 42, 47, 58, 60, 61, 62, 63, 94, 95, 126, 46, 64]⟩)))] [[none], [none]]⟩,
    ⟨(some 52), none, .pick (.t 49) (.c (.sc (.bool true))) (.t 51)⟩]) <|
  .cond (.t 52)
    (.seq (.reg (some []) [
      ⟨(some 2), none, .asg (.c (.sc (.int .i64 9))) none⟩,
      ⟨(some 3), none, .asg (.c (.sc (.int .i64 0))) none⟩]) <|
    .ret)
    (.skip)) <|
  .seq (.reg (some []) [
    ⟨(some 2), none, .asg (.c (.sc (.int .i64 10))) none⟩,
    ⟨(some 3), none, .asg (.c (.sc (.int .i64 0))) none⟩]) <|
  .ret
theorem ok16 : fnOf Tryd.prog 16 n16 = some ⟨53, [.t 2, .t 3], c16⟩ := by kernel_rfl
def n17 : List (Nat × List Nat) := [(0, [0, 7, 18, 20, 21, 22, 23]), (1, [0, 2, 3, 7, 18, 20, 21, 22, 23]), (2, [0, 2, 3, 5, 7, 18, 20, 21, 22, 23]), (3, [5]), (4, [0, 2, 3, 7, 18, 20, 21, 22, 23]), (5, [0, 2, 3, 6, 7, 18, 20, 21, 22, 23]), (8, [0, 6])]
/-- mummer/runes.Starts -/
def c17 : RC :=
  .seq (.reg (some [0, 7, 18, 20, 21, 22, 23]) [
    ⟨(some 2), none, .asg (.c .nil) (some 1)⟩,
    ⟨(some 3), none, .asg (.c (.sc (.int .i64 0))) none⟩]) <|
  .seq (.seq (.reg (some [0, 2, 3, 7, 18, 20, 21, 22, 23]) [
    ⟨(some 9), none, .mv (.t 0)⟩,
    ⟨(some 10), none, .call (.f 24) [(.t 9)] [[(some 1)]]⟩,
    ⟨(some 8), none, .mv (.t 10)⟩,
    ⟨(some 11), none, .ext (.t 8) 0⟩,
    ⟨(some 12), none, .ext (.t 8) 1⟩,
    ⟨(some 4), none, .asg (.t 11) none⟩,
    ⟨(some 5), none, .asg (.t 12) none⟩]) <|
  .seq (.reg (some [0, 2, 3, 5, 7, 18, 20, 21, 22, 23]) [
    ⟨(some 13), none, .mv (.t 5)⟩,
    ⟨(some 14), none, .bin .neq (.t 13) (.c (.sc (.int .i64 0)))⟩]) <|
  .cond (.t 14)
    (.seq (.reg (some [5]) [
      ⟨(some 15), none, .mv (.t 5)⟩,
      ⟨(some 2), none, .asg (.c .nil) (some 1)⟩,
      ⟨(some 3), none, .asg (.t 15) none⟩]) <|
    .ret)
    (.skip)) <|
  .seq (.reg (some [0, 2, 3, 7, 18, 20, 21, 22, 23]) [
    ⟨(some 6), none, .al [(some 1)] [.nil]⟩]) <|
  .seq (.seq (.reg (some [0, 2, 3, 6, 7, 18, 20, 21, 22, 23]) [
    ⟨(some 16), none, .mv (.t 0)⟩,
    ⟨(some 17), none, .call (.f 44) [(.t 16)] [[(some 1)]]⟩]) <|
  .block 0 <|
   .rfun (.t 17) [18, 19]
     (.reg none [
       ⟨(some 7), none, .asg (.t 18) none⟩])
     (.block 1 <|
      .reg none [
        ⟨(some 20), none, .ld false 1 (.t 6)⟩,
        ⟨(some 21), none, .mv (.t 7)⟩,
        ⟨(some 22), none, .bsl 1 [none] [(.t 21)]⟩,
        ⟨(some 23), none, .app 1 8 (.t 20) (.t 22)⟩,
        ⟨none, none, .st 1 [(some 1)] (.t 6) (.t 23)⟩])) <|
  .seq (.reg (some [0, 6]) [
    ⟨(some 24), none, .ld false 1 (.t 6)⟩,
    ⟨(some 25), none, .mv (.t 0)⟩,
    ⟨(some 26), none, .lnL (.t 25)⟩,
    ⟨(some 27), none, .bsl 1 [none] [(.t 26)]⟩,
    ⟨(some 28), none, .app 1 8 (.t 24) (.t 27)⟩,
    ⟨(some 2), none, .asg (.t 28) (some 1)⟩,
    ⟨(some 3), none, .asg (.c (.sc (.int .i64 0))) none⟩]) <|
  .ret
theorem ok17 : fnOf Tryd.prog 17 n17 = some ⟨29, [.t 2, .t 3], c17⟩ := by kernel_rfl
def n18 : List (Nat × List Nat) := [(0, [0]), (1, [0]), (2, [0, 5]), (3, [5]), (4, [0]), (5, [0, 6]), (6, [0, 6, 7]), (7, [0, 6, 7]), (8, [0, 6, 7]), (9, [0, 6, 7, 9]), (10, [6, 7])]
/-- mummer/mummerref02.Starts -/
def c18 : RC :=
  .seq (.reg (some [0]) [
    ⟨(some 2), none, .asg (.c .nil) (some 1)⟩,
    ⟨(some 3), none, .asg (.c (.sc (.int .i64 0))) none⟩]) <|
  .seq (.reg (some [0]) [
    ⟨(some 12), none, .mv (.t 0)⟩,
    ⟨(some 13), none, .call (.f 29) [(.t 12)] [[(some 1)]]⟩,
    ⟨(some 11), none, .mv (.t 13)⟩,
    ⟨(some 14), none, .ext (.t 11) 0⟩,
    ⟨(some 15), none, .ext (.t 11) 1⟩,
    ⟨(some 4), none, .asg (.t 14) none⟩,
    ⟨(some 5), none, .asg (.t 15) none⟩]) <|
  .seq (.seq (.reg (some [0, 5]) [
    ⟨(some 16), none, .mv (.t 5)⟩,
    ⟨(some 17), none, .bin .neq (.t 16) (.c (.sc (.int .i64 0)))⟩]) <|
  .cond (.t 17)
    (.seq (.reg (some [5]) [
      ⟨(some 18), none, .mv (.t 5)⟩,
      ⟨(some 2), none, .asg (.c .nil) (some 1)⟩,
      ⟨(some 3), none, .asg (.t 18) none⟩]) <|
    .ret)
    (.skip)) <|
  .seq (.reg (some [0]) [
    ⟨(some 6), none, .asg (.c .nil) (some 1)⟩]) <|
  .seq (.reg (some [0, 6]) [
    ⟨(some 7), none, .asg (.c (.sc (.int .i64 0))) none⟩]) <|
  .seq (.block 0 <|
   .loop <|
    .seq (.seq (.reg (some [0, 6, 7]) [
      ⟨(some 19), none, .mv (.t 7)⟩,
      ⟨(some 20), none, .mv (.t 0)⟩,
      ⟨(some 21), none, .lnL (.t 20)⟩,
      ⟨(some 22), none, .bin .lss (.t 19) (.t 21)⟩]) <|
    .cond (.t 22)
      (.skip)
      (.exit 0)) <|
    .block 1 <|
     .seq (.reg (some [0, 6, 7]) [
       ⟨(some 23), none, .mv (.t 6)⟩,
       ⟨(some 24), none, .mv (.t 7)⟩,
       ⟨(some 25), none, .bsl 1 [none] [(.t 24)]⟩,
       ⟨(some 26), none, .app 1 8 (.t 23) (.t 25)⟩,
       ⟨(some 6), none, .asg (.t 26) (some 1)⟩]) <|
     .seq (.reg (some [0, 6, 7]) [
       ⟨(some 28), none, .mv (.t 0)⟩,
       ⟨(some 29), none, .mv (.t 7)⟩,
       ⟨(some 30), none, .call (.f 12) [(.t 28), (.t 29)] [[(some 1)], [none]]⟩,
       ⟨(some 27), none, .mv (.t 30)⟩,
       ⟨(some 31), none, .ext (.t 27) 0⟩,
       ⟨(some 32), none, .ext (.t 27) 1⟩,
       ⟨(some 33), none, .ext (.t 27) 2⟩,
       ⟨(some 8), none, .asg (.t 31) none⟩,
       ⟨(some 9), none, .asg (.t 32) none⟩,
       ⟨(some 10), none, .asg (.t 33) none⟩]) <|
     .reg (some [0, 6, 7, 9]) [
       ⟨(some 34), none, .mv (.t 7)⟩,
       ⟨(some 35), none, .mv (.t 9)⟩,
       ⟨(some 36), none, .bin .add (.t 34) (.t 35)⟩,
       ⟨(some 7), none, .asg (.t 36) none⟩]) <|
  .seq (.reg (some [6, 7]) [
    ⟨(some 37), none, .mv (.t 6)⟩,
    ⟨(some 38), none, .mv (.t 7)⟩,
    ⟨(some 39), none, .bsl 1 [none] [(.t 38)]⟩,
    ⟨(some 40), none, .app 1 8 (.t 37) (.t 39)⟩,
    ⟨(some 2), none, .asg (.t 40) (some 1)⟩,
    ⟨(some 3), none, .asg (.c (.sc (.int .i64 0))) none⟩]) <|
  .ret
theorem ok18 : fnOf Tryd.prog 18 n18 = some ⟨41, [.t 2, .t 3], c18⟩ := by kernel_rfl
def n19 : List (Nat × List Nat) := [(0, [0, 1]), (1, [0, 1]), (2, [1, 6, 7])]
/-- mummer/runes.On -/
def c19 : RC :=
  .seq (.reg (some [0, 1]) [
    ⟨(some 4), none, .asg (.c (.sc (.bool false))) none⟩,
    ⟨(some 5), none, .asg (.c (.sc (.int .i64 0))) none⟩]) <|
  .seq (.reg (some [0, 1]) [
    ⟨(some 9), none, .mv (.t 0)⟩,
    ⟨(some 10), none, .mv (.t 1)⟩,
    ⟨(some 11), none, .call (.f 21) [(.t 9), (.t 10)] [[(some 1)], [none]]⟩,
    ⟨(some 8), none, .mv (.t 11)⟩,
    ⟨(some 12), none, .ext (.t 8) 0⟩,
    ⟨(some 13), none, .ext (.t 8) 1⟩,
    ⟨(some 6), none, .asg (.t 12) none⟩,
    ⟨(some 7), none, .asg (.t 13) none⟩]) <|
  .seq (.reg (some [1, 6, 7]) [
    ⟨(some 14), none, .mv (.t 7)⟩,
    ⟨(some 15), none, .bin .eql (.t 14) (.c (.sc (.int .i64 0)))⟩,
    ⟨(some 16), none, .mv (.t 15)⟩,
    ⟨(some 17), some (16, true), .mv (.t 6)⟩,
    ⟨(some 18), some (16, true), .mv (.t 1)⟩,
    ⟨(some 19), some (16, true), .bin .eql (.t 17) (.t 18)⟩,
    ⟨(some 20), none, .pick (.t 16) (.t 19) (.c (.sc (.bool false)))⟩,
    ⟨(some 21), none, .mv (.t 7)⟩,
    ⟨(some 4), none, .asg (.t 20) none⟩,
    ⟨(some 5), none, .asg (.t 21) none⟩]) <|
  .ret
theorem ok19 : fnOf Tryd.prog 19 n19 = some ⟨22, [.t 4, .t 5], c19⟩ := by kernel_rfl
def n20 : List (Nat × List Nat) := [(0, [0, 1]), (1, [0, 1]), (2, [1, 6, 7])]
/-- mummer/mummerref02.On -/
def c20 : RC :=
  .seq (.reg (some [0, 1]) [
    ⟨(some 4), none, .asg (.c (.sc (.bool false))) none⟩,
    ⟨(some 5), none, .asg (.c (.sc (.int .i64 0))) none⟩]) <|
  .seq (.reg (some [0, 1]) [
    ⟨(some 9), none, .mv (.t 0)⟩,
    ⟨(some 10), none, .mv (.t 1)⟩,
    ⟨(some 11), none, .call (.f 22) [(.t 9), (.t 10)] [[(some 1)], [none]]⟩,
    ⟨(some 8), none, .mv (.t 11)⟩,
    ⟨(some 12), none, .ext (.t 8) 0⟩,
    ⟨(some 13), none, .ext (.t 8) 1⟩,
    ⟨(some 6), none, .asg (.t 12) none⟩,
    ⟨(some 7), none, .asg (.t 13) none⟩]) <|
  .seq (.reg (some [1, 6, 7]) [
    ⟨(some 14), none, .mv (.t 7)⟩,
    ⟨(some 15), none, .bin .eql (.t 14) (.c (.sc (.int .i64 0)))⟩,
    ⟨(some 16), none, .mv (.t 15)⟩,
    ⟨(some 17), some (16, true), .mv (.t 6)⟩,
    ⟨(some 18), some (16, true), .mv (.t 1)⟩,
    ⟨(some 19), some (16, true), .bin .eql (.t 17) (.t 18)⟩,
    ⟨(some 20), none, .pick (.t 16) (.t 19) (.c (.sc (.bool false)))⟩,
    ⟨(some 21), none, .mv (.t 7)⟩,
    ⟨(some 4), none, .asg (.t 20) none⟩,
    ⟨(some 5), none, .asg (.t 21) none⟩]) <|
  .ret
theorem ok20 : fnOf Tryd.prog 20 n20 = some ⟨22, [.t 4, .t 5], c20⟩ := by kernel_rfl
def n21 : List (Nat × List Nat) := [(0, [0, 1]), (1, [0, 1]), (2, [0, 1, 7]), (3, [7]), (4, [0, 1]), (5, []), (6, [0, 1]), (7, [0, 1]), (8, [1])]
/-- mummer/runes.Back -/
def c21 : RC :=
  .seq (.reg (some [0, 1]) [
    ⟨(some 4), none, .asg (.c (.sc (.int .i64 0))) none⟩,
    ⟨(some 5), none, .asg (.c (.sc (.int .i64 0))) none⟩]) <|
  .seq (.seq (.reg (some [0, 1]) [
    ⟨(some 9), none, .mv (.t 0)⟩,
    ⟨(some 10), none, .call (.f 24) [(.t 9)] [[(some 1)]]⟩,
    ⟨(some 8), none, .mv (.t 10)⟩,
    ⟨(some 11), none, .ext (.t 8) 0⟩,
    ⟨(some 12), none, .ext (.t 8) 1⟩,
    ⟨(some 6), none, .asg (.t 11) none⟩,
    ⟨(some 7), none, .asg (.t 12) none⟩]) <|
  .seq (.reg (some [0, 1, 7]) [
    ⟨(some 13), none, .mv (.t 7)⟩,
    ⟨(some 14), none, .bin .neq (.t 13) (.c (.sc (.int .i64 0)))⟩]) <|
  .cond (.t 14)
    (.seq (.reg (some [7]) [
      ⟨(some 15), none, .mv (.t 7)⟩,
      ⟨(some 4), none, .asg (.c (.sc (.int .i64 0))) none⟩,
      ⟨(some 5), none, .asg (.t 15) none⟩]) <|
    .ret)
    (.skip)) <|
  .seq (.seq (.reg (some [0, 1]) [
    ⟨(some 16), none, .mv (.t 1)⟩,
    ⟨(some 17), none, .bin .lss (.t 16) (.c (.sc (.int .i64 0)))⟩,
    ⟨(some 18), none, .mv (.t 17)⟩,
    ⟨(some 19), some (18, false), .mv (.t 1)⟩,
    ⟨(some 20), some (18, false), .mv (.t 0)⟩,
    ⟨(some 21), some (18, false), .lnL (.t 20)⟩,
    ⟨(some 22), some (18, false), .bin .gtr (.t 19) (.t 21)⟩,
    ⟨(some 23), none, .pick (.t 18) (.c (.sc (.bool true))) (.t 22)⟩]) <|
  .cond (.t 23)
    (.seq (.reg (some []) [
      ⟨(some 4), none, .asg (.c (.sc (.int .i64 0))) none⟩,
      ⟨(some 5), none, .asg (.c (.sc (.int .i64 7))) none⟩]) <|
    .ret)
    (.skip)) <|
  .seq (.block 0 <|
   .loop <|
    .seq (.seq (.reg (some [0, 1]) [
      ⟨(some 24), none, .mv (.t 1)⟩,
      ⟨(some 25), none, .mv (.t 0)⟩,
      ⟨(some 26), none, .lnL (.t 25)⟩,
      ⟨(some 27), none, .bin .lss (.t 24) (.t 26)⟩,
      ⟨(some 28), none, .mv (.t 27)⟩,
      ⟨(some 29), some (28, true), .mv (.t 1)⟩,
      ⟨(some 30), some (28, true), .bin .gtr (.t 29) (.c (.sc (.int .i64 0)))⟩,
      ⟨(some 31), none, .pick (.t 28) (.t 30) (.c (.sc (.bool false)))⟩,
      ⟨(some 32), none, .mv (.t 31)⟩,
      ⟨(some 33), some (32, true), .mv (.t 0)⟩,
      ⟨(some 34), some (32, true), .mv (.t 1)⟩,
      ⟨(some 35), some (32, true), .ia 1 (.t 33) (.t 34)⟩,
      ⟨(some 36), some (32, true), .ld false 1 (.t 35)⟩,
      ⟨(some 37), some (32, true), .call (.f 45) [(.t 36)] [[none]]⟩,
      ⟨(some 38), some (32, true), .not (.t 37)⟩,
      ⟨(some 39), none, .pick (.t 32) (.t 38) (.c (.sc (.bool false)))⟩]) <|
    .cond (.t 39)
      (.skip)
      (.exit 0)) <|
    .block 1 <|
     .reg (some [0, 1]) [
       ⟨(some 40), none, .mv (.t 1)⟩,
       ⟨(some 41), none, .bin .sub (.t 40) (.c (.sc (.int .i64 1)))⟩,
       ⟨(some 1), none, .asg (.t 41) none⟩]) <|
  .seq (.reg (some [1]) [
    ⟨(some 42), none, .mv (.t 1)⟩,
    ⟨(some 4), none, .asg (.t 42) none⟩,
    ⟨(some 5), none, .asg (.c (.sc (.int .i64 0))) none⟩]) <|
  .ret
theorem ok21 : fnOf Tryd.prog 21 n21 = some ⟨43, [.t 4, .t 5], c21⟩ := by kernel_rfl
def n22 : List (Nat × List Nat) := [(0, [0, 1]), (1, [0, 1]), (2, [0, 1, 6, 7]), (3, [1, 6]), (4, [1, 6, 7]), (5, [7]), (6, [1, 6]), (7, [1, 6, 8]), (8, [1, 6, 8, 9]), (10, [1, 6, 8, 9]), (11, [1, 6, 9]), (9, [1, 6, 8, 9]), (12, [8])]
/-- mummer/mummerref02.Back -/
def c22 : RC :=
  .seq (.reg (some [0, 1]) [
    ⟨(some 4), none, .asg (.c (.sc (.int .i64 0))) none⟩,
    ⟨(some 5), none, .asg (.c (.sc (.int .i64 0))) none⟩]) <|
  .seq (.reg (some [0, 1]) [
    ⟨(some 11), none, .mv (.t 0)⟩,
    ⟨(some 12), none, .call (.f 18) [(.t 11)] [[(some 1)]]⟩,
    ⟨(some 10), none, .mv (.t 12)⟩,
    ⟨(some 13), none, .ext (.t 10) 0⟩,
    ⟨(some 14), none, .ext (.t 10) 1⟩,
    ⟨(some 6), none, .asg (.t 13) (some 1)⟩,
    ⟨(some 7), none, .asg (.t 14) none⟩]) <|
  .seq (.seq (.reg (some [0, 1, 6, 7]) [
    ⟨(some 15), none, .mv (.t 7)⟩,
    ⟨(some 16), none, .bin .eql (.t 15) (.c (.sc (.int .i64 0)))⟩,
    ⟨(some 17), none, .mv (.t 16)⟩,
    ⟨(some 18), some (17, true), .mv (.t 1)⟩,
    ⟨(some 19), some (17, true), .bin .lss (.t 18) (.c (.sc (.int .i64 0)))⟩,
    ⟨(some 20), some (17, true), .mv (.t 19)⟩,
    ⟨(some 21), some (20, false), .mv (.t 1)⟩,
    ⟨(some 22), some (20, false), .mv (.t 0)⟩,
    ⟨(some 23), some (20, false), .lnL (.t 22)⟩,
    ⟨(some 24), some (20, false), .bin .gtr (.t 21) (.t 23)⟩,
    ⟨(some 25), some (17, true), .pick (.t 20) (.c (.sc (.bool true))) (.t 24)⟩,
    ⟨(some 26), none, .pick (.t 17) (.t 25) (.c (.sc (.bool false)))⟩]) <|
  .cond (.t 26)
    (.reg (some [1, 6]) [
      ⟨(some 7), none, .asg (.c (.sc (.int .i64 7))) none⟩])
    (.skip)) <|
  .seq (.seq (.reg (some [1, 6, 7]) [
    ⟨(some 27), none, .mv (.t 7)⟩,
    ⟨(some 28), none, .bin .neq (.t 27) (.c (.sc (.int .i64 0)))⟩]) <|
  .cond (.t 28)
    (.seq (.reg (some [7]) [
      ⟨(some 29), none, .mv (.t 7)⟩,
      ⟨(some 4), none, .asg (.c (.sc (.int .i64 0))) none⟩,
      ⟨(some 5), none, .asg (.t 29) none⟩]) <|
    .ret)
    (.skip)) <|
  .seq (.reg (some [1, 6]) [
    ⟨(some 8), none, .asg (.c (.sc (.int .i64 0))) none⟩]) <|
  .seq (.seq (.reg (some [1, 6, 8]) [
    ⟨(some 9), none, .asg (.c (.sc (.int .i64 0))) none⟩]) <|
  .block 0 <|
   .loop <|
    .seq (.seq (.reg (some [1, 6, 8, 9]) [
      ⟨(some 30), none, .mv (.t 9)⟩,
      ⟨(some 31), none, .mv (.t 6)⟩,
      ⟨(some 32), none, .lnL (.t 31)⟩,
      ⟨(some 33), none, .bin .lss (.t 30) (.t 32)⟩]) <|
    .cond (.t 33)
      (.skip)
      (.exit 0)) <|
    .seq (.block 1 <|
     .seq (.reg (some [1, 6, 8, 9]) [
       ⟨(some 36), none, .mv (.t 6)⟩,
       ⟨(some 37), none, .mv (.t 9)⟩,
       ⟨(some 38), none, .ia 1 (.t 36) (.t 37)⟩,
       ⟨(some 39), none, .ld false 1 (.t 38)⟩,
       ⟨(some 40), none, .mv (.t 1)⟩,
       ⟨(some 41), none, .bin .leq (.t 39) (.t 40)⟩]) <|
     .cond (.t 41)
       (.reg (some [1, 6, 9]) [
         ⟨(some 42), none, .mv (.t 6)⟩,
         ⟨(some 43), none, .mv (.t 9)⟩,
         ⟨(some 44), none, .ia 1 (.t 42) (.t 43)⟩,
         ⟨(some 45), none, .ld false 1 (.t 44)⟩,
         ⟨(some 8), none, .asg (.t 45) none⟩])
       (.skip)) <|
    .reg (some [1, 6, 8, 9]) [
      ⟨(some 34), none, .mv (.t 9)⟩,
      ⟨(some 35), none, .bin .add (.t 34) (.c (.sc (.int .i64 1)))⟩,
      ⟨(some 9), none, .asg (.t 35) none⟩]) <|
  .seq (.reg (some [8]) [
    ⟨(some 46), none, .mv (.t 8)⟩,
    ⟨(some 4), none, .asg (.t 46) none⟩,
    ⟨(some 5), none, .asg (.c (.sc (.int .i64 0))) none⟩]) <|
  .ret
theorem ok22 : fnOf Tryd.prog 22 n22 = some ⟨47, [.t 4, .t 5], c22⟩ := by kernel_rfl
def n23 : List (Nat × List Nat) := [(0, [0, 1]), (1, [0, 1]), (2, []), (3, [0, 1]), (4, [0, 1, 5]), (6, [0, 1, 5]), (7, []), (5, [0, 1, 5]), (8, [])]
/-- mummer/mummerref02.SameInts -/
def c23 : RC :=
  .seq (.reg (some [0, 1]) [
    ⟨(some 4), none, .asg (.c (.sc (.bool false))) none⟩]) <|
  .seq (.seq (.reg (some [0, 1]) [
    ⟨(some 6), none, .mv (.t 0)⟩,
    ⟨(some 7), none, .lnL (.t 6)⟩,
    ⟨(some 8), none, .mv (.t 1)⟩,
    ⟨(some 9), none, .lnL (.t 8)⟩,
    ⟨(some 10), none, .bin .neq (.t 7) (.t 9)⟩]) <|
  .cond (.t 10)
    (.seq (.reg (some []) [
      ⟨(some 4), none, .asg (.c (.sc (.bool false))) none⟩]) <|
    .ret)
    (.skip)) <|
  .seq (.seq (.reg (some [0, 1]) [
    ⟨(some 5), none, .asg (.c (.sc (.int .i64 0))) none⟩]) <|
  .block 0 <|
   .loop <|
    .seq (.seq (.reg (some [0, 1, 5]) [
      ⟨(some 11), none, .mv (.t 5)⟩,
      ⟨(some 12), none, .mv (.t 0)⟩,
      ⟨(some 13), none, .lnL (.t 12)⟩,
      ⟨(some 14), none, .bin .lss (.t 11) (.t 13)⟩]) <|
    .cond (.t 14)
      (.skip)
      (.exit 0)) <|
    .seq (.block 1 <|
     .seq (.drw (some [0, 1, 5]) [
       ⟨(some 17), none, .mv (.t 0)⟩,
       ⟨(some 18), none, .mv (.t 5)⟩,
       ⟨(some 19), none, .ia 1 (.t 17) (.t 18)⟩,
       ⟨(some 20), none, .ld false 1 (.t 19)⟩,
       ⟨(some 21), none, .mv (.t 1)⟩,
       ⟨(some 22), none, .mv (.t 5)⟩,
       ⟨(some 23), none, .ia 1 (.t 21) (.t 22)⟩,
       ⟨(some 24), none, .ld false 1 (.t 23)⟩,
       ⟨(some 25), none, .bin .neq (.t 20) (.t 24)⟩]) <|
     .cond (.t 25)
       (.seq (.reg (some []) [
         ⟨(some 4), none, .asg (.c (.sc (.bool false))) none⟩]) <|
       .ret)
       (.skip)) <|
    .reg (some [0, 1, 5]) [
      ⟨(some 15), none, .mv (.t 5)⟩,
      ⟨(some 16), none, .bin .add (.t 15) (.c (.sc (.int .i64 1)))⟩,
      ⟨(some 5), none, .asg (.t 16) none⟩]) <|
  .seq (.reg (some []) [
    ⟨(some 4), none, .asg (.c (.sc (.bool true))) none⟩]) <|
  .ret
theorem ok23 : fnOf Tryd.prog 23 n23 = some ⟨26, [.t 4], c23⟩ := by kernel_rfl
def n24 : List (Nat × List Nat) := [(0, [0, 4, 5, 11, 12, 13, 14, 15, 16]), (1, [0, 2, 3, 4, 5, 11, 12, 13, 14, 15, 16]), (2, [2]), (3, [0, 2, 3, 4, 5, 11, 12, 13, 14, 15, 16]), (7, [0, 2, 3]), (8, [0, 2]), (9, [2, 3])]
/-- mummer/runes.Check -/
def c24 : RC :=
  .seq (.reg (some [0, 4, 5, 11, 12, 13, 14, 15, 16]) [
    ⟨(some 2), none, .al [none] [(.sc (.int .i64 0))]⟩,
    ⟨(some 3), none, .asg (.c (.sc (.int .i64 0))) none⟩]) <|
  .seq (.seq (.reg (some [0, 2, 3, 4, 5, 11, 12, 13, 14, 15, 16]) [
    ⟨(some 6), none, .mv (.t 0)⟩,
    ⟨(some 7), none, .lnL (.t 6)⟩,
    ⟨(some 8), none, .bin .gtr (.t 7) (.c (.sc (.int .i64 8000)))⟩]) <|
  .cond (.t 8)
    (.seq (.reg (some [2]) [
      ⟨none, none, .st 1 [none] (.t 2) (.c (.sc (.int .i64 0)))⟩,
      ⟨(some 3), none, .asg (.c (.sc (.int .i64 3))) none⟩]) <|
    .ret)
    (.skip)) <|
  .seq (.seq (.reg (some [0, 2, 3, 4, 5, 11, 12, 13, 14, 15, 16]) [
    ⟨(some 9), none, .mv (.t 0)⟩,
    ⟨(some 10), none, .call (.f 44) [(.t 9)] [[(some 1)]]⟩]) <|
  .block 0 <|
   .rfun (.t 10) [11, 12]
     (.seq (.reg none [
       ⟨(some 4), none, .asg (.t 11) none⟩]) <|
     .reg none [
       ⟨(some 5), none, .asg (.t 12) none⟩])
     (.block 1 <|
      .reg none [
        ⟨(some 13), none, .mv (.t 4)⟩,
        ⟨(some 14), none, .mv (.t 5)⟩,
        ⟨(some 15), none, .call (.f 39) [(.t 14)] [[none]]⟩,
        ⟨(some 16), none, .bin .add (.t 13) (.t 15)⟩,
        ⟨none, none, .st 1 [none] (.t 2) (.t 16)⟩])) <|
  .seq (.seq (.reg (some [0, 2, 3]) [
    ⟨(some 17), none, .ld false 1 (.t 2)⟩,
    ⟨(some 18), none, .mv (.t 0)⟩,
    ⟨(some 19), none, .lnL (.t 18)⟩,
    ⟨(some 20), none, .bin .lss (.t 17) (.t 19)⟩]) <|
  .cond (.t 20)
    (.reg (some [0, 2]) [
      ⟨(some 22), none, .mv (.t 0)⟩,
      ⟨(some 23), none, .ld false 1 (.t 2)⟩,
      ⟨(some 24), none, .call (.f 11) [(.t 22), (.t 23)] [[(some 1)], [none]]⟩,
      ⟨(some 21), none, .mv (.t 24)⟩,
      ⟨(some 25), none, .ext (.t 21) 0⟩,
      ⟨(some 26), none, .ext (.t 21) 1⟩,
      ⟨(some 27), none, .ext (.t 21) 2⟩,
      ⟨(some 3), none, .asg (.t 27) none⟩])
    (.skip)) <|
  .seq (.reg (some [2, 3]) [
    ⟨(some 28), none, .ld false 1 (.t 2)⟩,
    ⟨(some 29), none, .mv (.t 3)⟩,
    ⟨none, none, .st 1 [none] (.t 2) (.t 28)⟩,
    ⟨(some 3), none, .asg (.t 29) none⟩]) <|
  .ret
theorem ok24 : fnOf Tryd.prog 24 n24 = some ⟨30, [.c 2 false 1, .t 3], c24⟩ := by kernel_rfl
def n25 : List (Nat × List Nat) := [(0, [0]), (1, [0]), (2, [4, 5])]
/-- mummer/runes.Count -/
def c25 : RC :=
  .seq (.reg (some [0]) [
    ⟨(some 2), none, .asg (.c (.sc (.int .i64 0))) none⟩,
    ⟨(some 3), none, .asg (.c (.sc (.int .i64 0))) none⟩]) <|
  .seq (.reg (some [0]) [
    ⟨(some 7), none, .mv (.t 0)⟩,
    ⟨(some 8), none, .call (.f 26) [(.t 7)] [[(some 1)]]⟩,
    ⟨(some 6), none, .mv (.t 8)⟩,
    ⟨(some 9), none, .ext (.t 6) 0⟩,
    ⟨(some 10), none, .ext (.t 6) 1⟩,
    ⟨(some 4), none, .asg (.t 9) (some 1)⟩,
    ⟨(some 5), none, .asg (.t 10) none⟩]) <|
  .seq (.reg (some [4, 5]) [
    ⟨(some 11), none, .mv (.t 4)⟩,
    ⟨(some 12), none, .lnL (.t 11)⟩,
    ⟨(some 13), none, .mv (.t 5)⟩,
    ⟨(some 2), none, .asg (.t 12) none⟩,
    ⟨(some 3), none, .asg (.t 13) none⟩]) <|
  .ret
theorem ok25 : fnOf Tryd.prog 25 n25 = some ⟨14, [.t 2, .t 3], c25⟩ := by kernel_rfl
def n26 : List (Nat × List Nat) := [(0, [0, 8, 20, 21, 22, 23, 24]), (1, [0, 2, 3, 8, 20, 21, 22, 23, 24]), (2, [0, 2, 3, 5, 8, 20, 21, 22, 23, 24]), (3, [5]), (4, [0, 2, 3, 8, 20, 21, 22, 23, 24]), (5, [0, 2, 3, 6, 8, 20, 21, 22, 23, 24]), (8, [6])]
/-- mummer/runes.Runes -/
def c26 : RC :=
  .seq (.reg (some [0, 8, 20, 21, 22, 23, 24]) [
    ⟨(some 2), none, .asg (.c .nil) (some 1)⟩,
    ⟨(some 3), none, .asg (.c (.sc (.int .i64 0))) none⟩]) <|
  .seq (.seq (.reg (some [0, 2, 3, 8, 20, 21, 22, 23, 24]) [
    ⟨(some 10), none, .mv (.t 0)⟩,
    ⟨(some 11), none, .call (.f 24) [(.t 10)] [[(some 1)]]⟩,
    ⟨(some 9), none, .mv (.t 11)⟩,
    ⟨(some 12), none, .ext (.t 9) 0⟩,
    ⟨(some 13), none, .ext (.t 9) 1⟩,
    ⟨(some 4), none, .asg (.t 12) none⟩,
    ⟨(some 5), none, .asg (.t 13) none⟩]) <|
  .seq (.reg (some [0, 2, 3, 5, 8, 20, 21, 22, 23, 24]) [
    ⟨(some 14), none, .mv (.t 5)⟩,
    ⟨(some 15), none, .bin .neq (.t 14) (.c (.sc (.int .i64 0)))⟩]) <|
  .cond (.t 15)
    (.seq (.reg (some [5]) [
      ⟨(some 16), none, .mv (.t 5)⟩,
      ⟨(some 2), none, .asg (.c .nil) (some 1)⟩,
      ⟨(some 3), none, .asg (.t 16) none⟩]) <|
    .ret)
    (.skip)) <|
  .seq (.reg (some [0, 2, 3, 8, 20, 21, 22, 23, 24]) [
    ⟨(some 6), none, .al [(some 1)] [.nil]⟩]) <|
  .seq (.seq (.reg (some [0, 2, 3, 6, 8, 20, 21, 22, 23, 24]) [
    ⟨(some 17), none, .mv (.t 0)⟩,
    ⟨(some 18), none, .call (.f 44) [(.t 17)] [[(some 1)]]⟩]) <|
  .block 0 <|
   .rfun (.t 18) [19, 20]
     (.reg none [
       ⟨(some 8), none, .asg (.t 20) none⟩])
     (.block 1 <|
      .reg none [
        ⟨(some 21), none, .ld false 1 (.t 6)⟩,
        ⟨(some 22), none, .mv (.t 8)⟩,
        ⟨(some 23), none, .bsl 1 [none] [(.t 22)]⟩,
        ⟨(some 24), none, .app 1 4 (.t 21) (.t 23)⟩,
        ⟨none, none, .st 1 [(some 1)] (.t 6) (.t 24)⟩])) <|
  .seq (.reg (some [6]) [
    ⟨(some 25), none, .ld false 1 (.t 6)⟩,
    ⟨(some 2), none, .asg (.t 25) (some 1)⟩,
    ⟨(some 3), none, .asg (.c (.sc (.int .i64 0))) none⟩]) <|
  .ret
theorem ok26 : fnOf Tryd.prog 26 n26 = some ⟨26, [.t 2, .t 3], c26⟩ := by kernel_rfl
def n27 : List (Nat × List Nat) := [(0, [0]), (1, [0, 2]), (2, [0, 2, 5]), (3, [5]), (4, [0, 2]), (5, [2, 13, 14, 15]), (6, [2, 13, 14, 15]), (7, [2, 7, 13, 14, 15]), (8, [2, 13, 14, 15]), (9, []), (10, [2, 13, 14, 15]), (11, [2])]
/-- mummer/runes.Bytes -/
def c27 : RC :=
  .seq (.reg (some [0]) [
    ⟨(some 2), none, .asg (.c .nil) (some 1)⟩,
    ⟨(some 3), none, .asg (.c (.sc (.int .i64 0))) none⟩,
    ⟨(some 4), none, .asg (.c (.sc (.int .i64 0))) none⟩]) <|
  .seq (.seq (.reg (some [0, 2]) [
    ⟨(some 8), none, .mv (.t 0)⟩,
    ⟨(some 9), none, .call (.f 46) [(.t 8), (.f 47)] [[(some 1)], [none]]⟩,
    ⟨(some 5), none, .asg (.t 9) none⟩]) <|
  .seq (.reg (some [0, 2, 5]) [
    ⟨(some 10), none, .mv (.t 5)⟩,
    ⟨(some 11), none, .bin .geq (.t 10) (.c (.sc (.int .i64 0)))⟩]) <|
  .cond (.t 11)
    (.seq (.reg (some [5]) [
      ⟨(some 12), none, .mv (.t 5)⟩,
      ⟨(some 2), none, .asg (.c .nil) (some 1)⟩,
      ⟨(some 3), none, .asg (.t 12) none⟩,
      ⟨(some 4), none, .asg (.c (.sc (.int .i64 7))) none⟩]) <|
    .ret)
    (.skip)) <|
  .seq (.seq (.reg (some [0, 2]) [
    ⟨(some 13), none, .mv (.t 0)⟩,
    ⟨(some 14), none, .lnL (.t 13)⟩,
    ⟨(some 15), none, .mv (.c (.sc (.int .i64 0)))⟩]) <|
  .block 0 <|
   .loop <|
    .seq (.reg (some [2, 13, 14, 15]) [
      ⟨(some 16), none, .bin .lss (.t 15) (.t 14)⟩]) <|
    .seq (.cond (.t 16)
      (.skip)
      (.exit 0)) <|
    .seq (.block 1 <|
     .seq (.reg (some [2, 13, 14, 15]) [
       ⟨(some 17), none, .ia 1 (.t 13) (.t 15)⟩,
       ⟨(some 18), none, .ld false 1 (.t 17)⟩,
       ⟨(some 7), none, .asg (.t 18) none⟩]) <|
     .seq (.reg (some [2, 7, 13, 14, 15]) [
       ⟨(some 19), none, .mv (.t 2)⟩,
       ⟨(some 20), none, .mv (.t 7)⟩,
       ⟨(some 21), none, .call (.f 48) [(.t 19), (.t 20)] [[(some 1)], [none]]⟩,
       ⟨(some 2), none, .asg (.t 21) (some 1)⟩]) <|
     .seq (.reg (some [2, 13, 14, 15]) [
       ⟨(some 22), none, .mv (.t 2)⟩,
       ⟨(some 23), none, .lnL (.t 22)⟩,
       ⟨(some 24), none, .bin .gtr (.t 23) (.c (.sc (.int .i64 8000)))⟩]) <|
     .cond (.t 24)
       (.seq (.reg (some []) [
         ⟨(some 2), none, .asg (.c .nil) (some 1)⟩,
         ⟨(some 3), none, .asg (.c (.sc (.int .i64 0))) none⟩,
         ⟨(some 4), none, .asg (.c (.sc (.int .i64 3))) none⟩]) <|
       .ret)
       (.skip)) <|
    .reg (some [2, 13, 14, 15]) [
      ⟨(some 25), none, .bin .add (.t 15) (.c (.sc (.int .i64 1)))⟩,
      ⟨(some 15), none, .mv (.t 25)⟩]) <|
  .seq (.reg (some [2]) [
    ⟨(some 26), none, .mv (.t 2)⟩,
    ⟨(some 2), none, .asg (.t 26) (some 1)⟩,
    ⟨(some 3), none, .asg (.c (.sc (.int .i64 0))) none⟩,
    ⟨(some 4), none, .asg (.c (.sc (.int .i64 0))) none⟩]) <|
  .ret
theorem ok27 : fnOf Tryd.prog 27 n27 = some ⟨27, [.t 2, .t 3, .t 4], c27⟩ := by kernel_rfl
def n28 : List (Nat × List Nat) := [(0, [0, 1]), (1, [0, 1]), (2, []), (3, [0, 1]), (4, [0, 1, 5]), (6, [0, 1, 5]), (7, []), (5, [0, 1, 5]), (8, [])]
/-- mummer/mummerref02.Same -/
def c28 : RC :=
  .seq (.reg (some [0, 1]) [
    ⟨(some 4), none, .asg (.c (.sc (.bool false))) none⟩]) <|
  .seq (.seq (.reg (some [0, 1]) [
    ⟨(some 6), none, .mv (.t 0)⟩,
    ⟨(some 7), none, .lnL (.t 6)⟩,
    ⟨(some 8), none, .mv (.t 1)⟩,
    ⟨(some 9), none, .lnL (.t 8)⟩,
    ⟨(some 10), none, .bin .neq (.t 7) (.t 9)⟩]) <|
  .cond (.t 10)
    (.seq (.reg (some []) [
      ⟨(some 4), none, .asg (.c (.sc (.bool false))) none⟩]) <|
    .ret)
    (.skip)) <|
  .seq (.seq (.reg (some [0, 1]) [
    ⟨(some 5), none, .asg (.c (.sc (.int .i64 0))) none⟩]) <|
  .block 0 <|
   .loop <|
    .seq (.seq (.reg (some [0, 1, 5]) [
      ⟨(some 11), none, .mv (.t 5)⟩,
      ⟨(some 12), none, .mv (.t 0)⟩,
      ⟨(some 13), none, .lnL (.t 12)⟩,
      ⟨(some 14), none, .bin .lss (.t 11) (.t 13)⟩]) <|
    .cond (.t 14)
      (.skip)
      (.exit 0)) <|
    .seq (.block 1 <|
     .seq (.drw (some [0, 1, 5]) [
       ⟨(some 17), none, .mv (.t 0)⟩,
       ⟨(some 18), none, .mv (.t 5)⟩,
       ⟨(some 19), none, .ia 1 (.t 17) (.t 18)⟩,
       ⟨(some 20), none, .ld false 1 (.t 19)⟩,
       ⟨(some 21), none, .mv (.t 1)⟩,
       ⟨(some 22), none, .mv (.t 5)⟩,
       ⟨(some 23), none, .ia 1 (.t 21) (.t 22)⟩,
       ⟨(some 24), none, .ld false 1 (.t 23)⟩,
       ⟨(some 25), none, .bin .neq (.t 20) (.t 24)⟩]) <|
     .cond (.t 25)
       (.seq (.reg (some []) [
         ⟨(some 4), none, .asg (.c (.sc (.bool false))) none⟩]) <|
       .ret)
       (.skip)) <|
    .reg (some [0, 1, 5]) [
      ⟨(some 15), none, .mv (.t 5)⟩,
      ⟨(some 16), none, .bin .add (.t 15) (.c (.sc (.int .i64 1)))⟩,
      ⟨(some 5), none, .asg (.t 16) none⟩]) <|
  .seq (.reg (some []) [
    ⟨(some 4), none, .asg (.c (.sc (.bool true))) none⟩]) <|
  .ret
theorem ok28 : fnOf Tryd.prog 28 n28 = some ⟨26, [.t 4], c28⟩ := by kernel_rfl
def n29 : List (Nat × List Nat) := [(0, [0]), (1, [0]), (2, []), (3, [0]), (4, [0, 4]), (5, [0, 4]), (6, [0, 4, 6, 7]), (7, [4, 7]), (8, [0, 4, 6]), (9, [4])]
/-- mummer/mummerref02.Check -/
def c29 : RC :=
  .seq (.reg (some [0]) [
    ⟨(some 2), none, .asg (.c (.sc (.int .i64 0))) none⟩,
    ⟨(some 3), none, .asg (.c (.sc (.int .i64 0))) none⟩]) <|
  .seq (.seq (.reg (some [0]) [
    ⟨(some 8), none, .mv (.t 0)⟩,
    ⟨(some 9), none, .lnL (.t 8)⟩,
    ⟨(some 10), none, .bin .gtr (.t 9) (.c (.sc (.int .i64 8000)))⟩]) <|
  .cond (.t 10)
    (.seq (.reg (some []) [
      ⟨(some 2), none, .asg (.c (.sc (.int .i64 0))) none⟩,
      ⟨(some 3), none, .asg (.c (.sc (.int .i64 3))) none⟩]) <|
    .ret)
    (.skip)) <|
  .seq (.reg (some [0]) [
    ⟨(some 4), none, .asg (.c (.sc (.int .i64 0))) none⟩]) <|
  .seq (.block 0 <|
   .loop <|
    .seq (.seq (.reg (some [0, 4]) [
      ⟨(some 11), none, .mv (.t 4)⟩,
      ⟨(some 12), none, .mv (.t 0)⟩,
      ⟨(some 13), none, .lnL (.t 12)⟩,
      ⟨(some 14), none, .bin .lss (.t 11) (.t 13)⟩]) <|
    .cond (.t 14)
      (.skip)
      (.exit 0)) <|
    .block 1 <|
     .seq (.reg (some [0, 4]) [
       ⟨(some 16), none, .mv (.t 0)⟩,
       ⟨(some 17), none, .mv (.t 4)⟩,
       ⟨(some 18), none, .call (.f 12) [(.t 16), (.t 17)] [[(some 1)], [none]]⟩,
       ⟨(some 15), none, .mv (.t 18)⟩,
       ⟨(some 19), none, .ext (.t 15) 0⟩,
       ⟨(some 20), none, .ext (.t 15) 1⟩,
       ⟨(some 21), none, .ext (.t 15) 2⟩,
       ⟨(some 5), none, .asg (.t 19) none⟩,
       ⟨(some 6), none, .asg (.t 20) none⟩,
       ⟨(some 7), none, .asg (.t 21) none⟩]) <|
     .seq (.seq (.reg (some [0, 4, 6, 7]) [
       ⟨(some 22), none, .mv (.t 7)⟩,
       ⟨(some 23), none, .bin .neq (.t 22) (.c (.sc (.int .i64 0)))⟩]) <|
     .cond (.t 23)
       (.seq (.reg (some [4, 7]) [
         ⟨(some 24), none, .mv (.t 4)⟩,
         ⟨(some 25), none, .mv (.t 7)⟩,
         ⟨(some 2), none, .asg (.t 24) none⟩,
         ⟨(some 3), none, .asg (.t 25) none⟩]) <|
       .ret)
       (.skip)) <|
     .reg (some [0, 4, 6]) [
       ⟨(some 26), none, .mv (.t 4)⟩,
       ⟨(some 27), none, .mv (.t 6)⟩,
       ⟨(some 28), none, .bin .add (.t 26) (.t 27)⟩,
       ⟨(some 4), none, .asg (.t 28) none⟩]) <|
  .seq (.reg (some [4]) [
    ⟨(some 29), none, .mv (.t 4)⟩,
    ⟨(some 2), none, .asg (.t 29) none⟩,
    ⟨(some 3), none, .asg (.c (.sc (.int .i64 0))) none⟩]) <|
  .ret
theorem ok29 : fnOf Tryd.prog 29 n29 = some ⟨30, [.t 2, .t 3], c29⟩ := by kernel_rfl
def n30 : List (Nat × List Nat) := [(0, [0]), (1, [0]), (2, [4, 5])]
/-- mummer/mummerref02.Count -/
def c30 : RC :=
  .seq (.reg (some [0]) [
    ⟨(some 2), none, .asg (.c (.sc (.int .i64 0))) none⟩,
    ⟨(some 3), none, .asg (.c (.sc (.int .i64 0))) none⟩]) <|
  .seq (.reg (some [0]) [
    ⟨(some 7), none, .mv (.t 0)⟩,
    ⟨(some 8), none, .call (.f 31) [(.t 7)] [[(some 1)]]⟩,
    ⟨(some 6), none, .mv (.t 8)⟩,
    ⟨(some 9), none, .ext (.t 6) 0⟩,
    ⟨(some 10), none, .ext (.t 6) 1⟩,
    ⟨(some 4), none, .asg (.t 9) (some 1)⟩,
    ⟨(some 5), none, .asg (.t 10) none⟩]) <|
  .seq (.reg (some [4, 5]) [
    ⟨(some 11), none, .mv (.t 4)⟩,
    ⟨(some 12), none, .lnL (.t 11)⟩,
    ⟨(some 13), none, .mv (.t 5)⟩,
    ⟨(some 2), none, .asg (.t 12) none⟩,
    ⟨(some 3), none, .asg (.t 13) none⟩]) <|
  .ret
theorem ok30 : fnOf Tryd.prog 30 n30 = some ⟨14, [.t 2, .t 3], c30⟩ := by kernel_rfl
def n31 : List (Nat × List Nat) := [(0, [0]), (1, [0]), (2, [0, 5]), (3, [5]), (4, [0]), (5, [0, 6]), (6, [0, 6, 7]), (7, [0, 6, 7]), (8, [0, 6, 7, 8, 9]), (9, [0, 6, 7, 9]), (10, [6])]
/-- mummer/mummerref02.Runes -/
def c31 : RC :=
  .seq (.reg (some [0]) [
    ⟨(some 2), none, .asg (.c .nil) (some 1)⟩,
    ⟨(some 3), none, .asg (.c (.sc (.int .i64 0))) none⟩]) <|
  .seq (.reg (some [0]) [
    ⟨(some 12), none, .mv (.t 0)⟩,
    ⟨(some 13), none, .call (.f 29) [(.t 12)] [[(some 1)]]⟩,
    ⟨(some 11), none, .mv (.t 13)⟩,
    ⟨(some 14), none, .ext (.t 11) 0⟩,
    ⟨(some 15), none, .ext (.t 11) 1⟩,
    ⟨(some 4), none, .asg (.t 14) none⟩,
    ⟨(some 5), none, .asg (.t 15) none⟩]) <|
  .seq (.seq (.reg (some [0, 5]) [
    ⟨(some 16), none, .mv (.t 5)⟩,
    ⟨(some 17), none, .bin .neq (.t 16) (.c (.sc (.int .i64 0)))⟩]) <|
  .cond (.t 17)
    (.seq (.reg (some [5]) [
      ⟨(some 18), none, .mv (.t 5)⟩,
      ⟨(some 2), none, .asg (.c .nil) (some 1)⟩,
      ⟨(some 3), none, .asg (.t 18) none⟩]) <|
    .ret)
    (.skip)) <|
  .seq (.reg (some [0]) [
    ⟨(some 6), none, .asg (.c .nil) (some 1)⟩]) <|
  .seq (.seq (.reg (some [0, 6]) [
    ⟨(some 7), none, .asg (.c (.sc (.int .i64 0))) none⟩]) <|
  .block 0 <|
   .loop <|
    .seq (.seq (.reg (some [0, 6, 7]) [
      ⟨(some 19), none, .mv (.t 7)⟩,
      ⟨(some 20), none, .mv (.t 0)⟩,
      ⟨(some 21), none, .lnL (.t 20)⟩,
      ⟨(some 22), none, .bin .lss (.t 19) (.t 21)⟩]) <|
    .cond (.t 22)
      (.skip)
      (.exit 0)) <|
    .block 1 <|
     .seq (.reg (some [0, 6, 7]) [
       ⟨(some 24), none, .mv (.t 0)⟩,
       ⟨(some 25), none, .mv (.t 7)⟩,
       ⟨(some 26), none, .call (.f 12) [(.t 24), (.t 25)] [[(some 1)], [none]]⟩,
       ⟨(some 23), none, .mv (.t 26)⟩,
       ⟨(some 27), none, .ext (.t 23) 0⟩,
       ⟨(some 28), none, .ext (.t 23) 1⟩,
       ⟨(some 29), none, .ext (.t 23) 2⟩,
       ⟨(some 8), none, .asg (.t 27) none⟩,
       ⟨(some 9), none, .asg (.t 28) none⟩,
       ⟨(some 10), none, .asg (.t 29) none⟩]) <|
     .seq (.reg (some [0, 6, 7, 8, 9]) [
       ⟨(some 30), none, .mv (.t 6)⟩,
       ⟨(some 31), none, .mv (.t 8)⟩,
       ⟨(some 32), none, .bsl 1 [none] [(.t 31)]⟩,
       ⟨(some 33), none, .app 1 4 (.t 30) (.t 32)⟩,
       ⟨(some 6), none, .asg (.t 33) (some 1)⟩]) <|
     .reg (some [0, 6, 7, 9]) [
       ⟨(some 34), none, .mv (.t 7)⟩,
       ⟨(some 35), none, .mv (.t 9)⟩,
       ⟨(some 36), none, .bin .add (.t 34) (.t 35)⟩,
       ⟨(some 7), none, .asg (.t 36) none⟩]) <|
  .seq (.reg (some [6]) [
    ⟨(some 37), none, .mv (.t 6)⟩,
    ⟨(some 2), none, .asg (.t 37) (some 1)⟩,
    ⟨(some 3), none, .asg (.c (.sc (.int .i64 0))) none⟩]) <|
  .ret
theorem ok31 : fnOf Tryd.prog 31 n31 = some ⟨38, [.t 2, .t 3], c31⟩ := by kernel_rfl
def n32 : List (Nat × List Nat) := [(0, [0]), (1, [0]), (2, [0, 5]), (4, [0, 5]), (5, [5]), (3, [0, 5]), (6, [0]), (7, [0, 6]), (8, [0, 6, 7]), (10, [0, 6, 7]), (11, [0, 6, 7, 8]), (12, [0, 6, 7]), (13, []), (9, [0, 6, 7]), (14, [6])]
/-- mummer/mummerref02.Bytes -/
def c32 : RC :=
  .seq (.reg (some [0]) [
    ⟨(some 2), none, .asg (.c .nil) (some 1)⟩,
    ⟨(some 3), none, .asg (.c (.sc (.int .i64 0))) none⟩,
    ⟨(some 4), none, .asg (.c (.sc (.int .i64 0))) none⟩]) <|
  .seq (.seq (.reg (some [0]) [
    ⟨(some 5), none, .asg (.c (.sc (.int .i64 0))) none⟩]) <|
  .block 0 <|
   .loop <|
    .seq (.seq (.reg (some [0, 5]) [
      ⟨(some 10), none, .mv (.t 5)⟩,
      ⟨(some 11), none, .mv (.t 0)⟩,
      ⟨(some 12), none, .lnL (.t 11)⟩,
      ⟨(some 13), none, .bin .lss (.t 10) (.t 12)⟩]) <|
    .cond (.t 13)
      (.skip)
      (.exit 0)) <|
    .seq (.block 1 <|
     .seq (.reg (some [0, 5]) [
       ⟨(some 16), none, .mv (.t 0)⟩,
       ⟨(some 17), none, .mv (.t 5)⟩,
       ⟨(some 18), none, .ia 1 (.t 16) (.t 17)⟩,
       ⟨(some 19), none, .ld false 1 (.t 18)⟩,
       ⟨(some 20), none, .call (.f 40) [(.t 19)] [[none]]⟩,
       ⟨(some 21), none, .not (.t 20)⟩]) <|
     .cond (.t 21)
       (.seq (.reg (some [5]) [
         ⟨(some 22), none, .mv (.t 5)⟩,
         ⟨(some 2), none, .asg (.c .nil) (some 1)⟩,
         ⟨(some 3), none, .asg (.t 22) none⟩,
         ⟨(some 4), none, .asg (.c (.sc (.int .i64 7))) none⟩]) <|
       .ret)
       (.skip)) <|
    .reg (some [0, 5]) [
      ⟨(some 14), none, .mv (.t 5)⟩,
      ⟨(some 15), none, .bin .add (.t 14) (.c (.sc (.int .i64 1)))⟩,
      ⟨(some 5), none, .asg (.t 15) none⟩]) <|
  .seq (.reg (some [0]) [
    ⟨(some 6), none, .asg (.c .nil) (some 1)⟩]) <|
  .seq (.seq (.reg (some [0, 6]) [
    ⟨(some 7), none, .asg (.c (.sc (.int .i64 0))) none⟩]) <|
  .block 2 <|
   .loop <|
    .seq (.seq (.reg (some [0, 6, 7]) [
      ⟨(some 23), none, .mv (.t 7)⟩,
      ⟨(some 24), none, .mv (.t 0)⟩,
      ⟨(some 25), none, .lnL (.t 24)⟩,
      ⟨(some 26), none, .bin .lss (.t 23) (.t 25)⟩]) <|
    .cond (.t 26)
      (.skip)
      (.exit 2)) <|
    .seq (.block 3 <|
     .seq (.reg (some [0, 6, 7]) [
       ⟨(some 30), none, .mv (.t 0)⟩,
       ⟨(some 31), none, .mv (.t 7)⟩,
       ⟨(some 32), none, .ia 1 (.t 30) (.t 31)⟩,
       ⟨(some 33), none, .ld false 1 (.t 32)⟩,
       ⟨(some 34), none, .call (.f 14) [(.t 33)] [[none]]⟩,
       ⟨(some 29), none, .mv (.t 34)⟩,
       ⟨(some 35), none, .ext (.t 29) 0⟩,
       ⟨(some 36), none, .ext (.t 29) 1⟩,
       ⟨(some 8), none, .asg (.t 35) (some 1)⟩,
       ⟨(some 9), none, .asg (.t 36) none⟩]) <|
     .seq (.reg (some [0, 6, 7, 8]) [
       ⟨(some 37), none, .mv (.t 6)⟩,
       ⟨(some 38), none, .mv (.t 8)⟩,
       ⟨(some 39), none, .app 1 1 (.t 37) (.t 38)⟩,
       ⟨(some 6), none, .asg (.t 39) (some 1)⟩]) <|
     .seq (.reg (some [0, 6, 7]) [
       ⟨(some 40), none, .mv (.t 6)⟩,
       ⟨(some 41), none, .lnL (.t 40)⟩,
       ⟨(some 42), none, .bin .gtr (.t 41) (.c (.sc (.int .i64 8000)))⟩]) <|
     .cond (.t 42)
       (.seq (.reg (some []) [
         ⟨(some 2), none, .asg (.c .nil) (some 1)⟩,
         ⟨(some 3), none, .asg (.c (.sc (.int .i64 0))) none⟩,
         ⟨(some 4), none, .asg (.c (.sc (.int .i64 3))) none⟩]) <|
       .ret)
       (.skip)) <|
    .reg (some [0, 6, 7]) [
      ⟨(some 27), none, .mv (.t 7)⟩,
      ⟨(some 28), none, .bin .add (.t 27) (.c (.sc (.int .i64 1)))⟩,
      ⟨(some 7), none, .asg (.t 28) none⟩]) <|
  .seq (.reg (some [6]) [
    ⟨(some 43), none, .mv (.t 6)⟩,
    ⟨(some 2), none, .asg (.t 43) (some 1)⟩,
    ⟨(some 3), none, .asg (.c (.sc (.int .i64 0))) none⟩,
    ⟨(some 4), none, .asg (.c (.sc (.int .i64 0))) none⟩]) <|
  .ret
theorem ok32 : fnOf Tryd.prog 32 n32 = some ⟨44, [.t 2, .t 3, .t 4], c32⟩ := by kernel_rfl
def n33 : List (Nat × List Nat) := [(0, [0]), (1, [0]), (2, [0, 6, 7, 8]), (3, [0, 6, 8]), (4, [0, 5]), (5, [5]), (6, [0, 6, 7, 8]), (7, [0])]
/-- unicode/utf8.DecodeRune -/
def c33 : RC :=
  .seq (.reg (some [0]) [
    ⟨(some 2), none, .asg (.c (.sc (.int .i32 0))) none⟩,
    ⟨(some 3), none, .asg (.c (.sc (.int .i64 0))) none⟩]) <|
  .seq (.seq (.reg (some [0]) [
    ⟨(some 6), none, .mv (.t 0)⟩,
    ⟨(some 7), none, .lnL (.t 6)⟩,
    ⟨(some 8), none, .mv (.c (.sc (.int .i64 0)))⟩]) <|
  .block 0 <|
   .loop <|
    .seq (.reg (some [0, 6, 7, 8]) [
      ⟨(some 9), none, .bin .lss (.t 8) (.t 7)⟩]) <|
    .seq (.cond (.t 9)
      (.skip)
      (.exit 0)) <|
    .seq (.block 1 <|
     .seq (.reg (some [0, 6, 8]) [
       ⟨(some 10), none, .ia 1 (.t 6) (.t 8)⟩,
       ⟨(some 11), none, .ld false 1 (.t 10)⟩,
       ⟨(some 5), none, .asg (.t 11) none⟩]) <|
     .seq (.seq (.reg (some [0, 5]) [
       ⟨(some 12), none, .mv (.t 5)⟩,
       ⟨(some 13), none, .bin .lss (.t 12) (.c (.sc (.int .u8 128)))⟩]) <|
     .cond (.t 13)
       (.seq (.reg (some [5]) [
         ⟨(some 14), none, .mv (.t 5)⟩,
         ⟨(some 15), none, .cv .i32 (.t 14)⟩,
         ⟨(some 2), none, .asg (.t 15) none⟩,
         ⟨(some 3), none, .asg (.c (.sc (.int .i64 1))) none⟩]) <|
       .ret)
       (.skip)) <|
     .exit 0) <|
    .reg (some [0, 6, 7, 8]) [
      ⟨(some 16), none, .bin .add (.t 8) (.c (.sc (.int .i64 1)))⟩,
      ⟨(some 8), none, .mv (.t 16)⟩]) <|
  .seq (.reg (some [0]) [
    ⟨(some 18), none, .mv (.t 0)⟩,
    ⟨(some 19), none, .call (.f 49) [(.t 18)] [[(some 1)]]⟩,
    ⟨(some 17), none, .mv (.t 19)⟩,
    ⟨(some 20), none, .ext (.t 17) 0⟩,
    ⟨(some 21), none, .ext (.t 17) 1⟩,
    ⟨(some 2), none, .asg (.t 20) none⟩,
    ⟨(some 3), none, .asg (.t 21) none⟩]) <|
  .ret
theorem ok33 : fnOf Tryd.prog 33 n33 = some ⟨22, [.t 2, .t 3], c33⟩ := by kernel_rfl
def n34 : List (Nat × List Nat) := [(0, [0]), (1, [0]), (2, [0, 3]), (3, []), (4, [0, 3]), (5, [0, 3, 4]), (6, []), (7, [0, 3, 4]), (8, [0, 3, 5]), (9, []), (10, [0, 3]), (11, []), (12, [])]
/-- unicode/utf8.FullRune -/
def c34 : RC :=
  .seq (.reg (some [0]) [
    ⟨(some 2), none, .asg (.c (.sc (.bool false))) none⟩]) <|
  .seq (.reg (some [0]) [
    ⟨(some 6), none, .mv (.t 0)⟩,
    ⟨(some 7), none, .lnL (.t 6)⟩,
    ⟨(some 3), none, .asg (.t 7) none⟩]) <|
  .seq (.seq (.reg (some [0, 3]) [
    ⟨(some 8), none, .mv (.t 3)⟩,
    ⟨(some 9), none, .bin .eql (.t 8) (.c (.sc (.int .i64 0)))⟩]) <|
  .cond (.t 9)
    (.seq (.reg (some []) [
      ⟨(some 2), none, .asg (.c (.sc (.bool false))) none⟩]) <|
    .ret)
    (.skip)) <|
  .seq (.reg (some [0, 3]) [
    ⟨(some 10), none, .mv (.t 0)⟩,
    ⟨(some 11), none, .ia 1 (.t 10) (.c (.sc (.int .i64 0)))⟩,
    ⟨(some 12), none, .ld false 1 (.t 11)⟩,
    ⟨(some 13), none, .iaA 256 1 (.g 0) (.t 12)⟩,
    ⟨(some 14), none, .ld false 1 (.t 13)⟩,
    ⟨(some 4), none, .asg (.t 14) none⟩]) <|
  .seq (.seq (.reg (some [0, 3, 4]) [
    ⟨(some 15), none, .mv (.t 3)⟩,
    ⟨(some 16), none, .mv (.t 4)⟩,
    ⟨(some 17), none, .bin .and (.t 16) (.c (.sc (.int .u8 7)))⟩,
    ⟨(some 18), none, .cv .i64 (.t 17)⟩,
    ⟨(some 19), none, .bin .geq (.t 15) (.t 18)⟩]) <|
  .cond (.t 19)
    (.seq (.reg (some []) [
      ⟨(some 2), none, .asg (.c (.sc (.bool true))) none⟩]) <|
    .ret)
    (.skip)) <|
  .seq (.reg (some [0, 3, 4]) [
    ⟨(some 20), none, .mv (.t 4)⟩,
    ⟨(some 21), none, .bin .shr (.t 20) (.c (.sc (.int .u64 4)))⟩,
    ⟨(some 22), none, .iaA 16 2 (.g 1) (.t 21)⟩,
    ⟨(some 23), none, .ld true 2 (.t 22)⟩,
    ⟨(some 5), none, .al [none, none] [(.sc (.int .u8 0)), (.sc (.int .u8 0))]⟩,
    ⟨none, none, .st 2 [none, none] (.t 5) (.t 23)⟩]) <|
  .seq (.seq (.drw (some [0, 3, 5]) [
    ⟨(some 24), none, .mv (.t 3)⟩,
    ⟨(some 25), none, .bin .gtr (.t 24) (.c (.sc (.int .i64 1)))⟩,
    ⟨(some 26), none, .mv (.t 25)⟩,
    ⟨(some 27), some (26, true), .mv (.t 0)⟩,
    ⟨(some 28), some (26, true), .ia 1 (.t 27) (.c (.sc (.int .i64 1)))⟩,
    ⟨(some 29), some (26, true), .ld false 1 (.t 28)⟩,
    ⟨(some 30), some (26, true), .fa 0 (.t 5)⟩,
    ⟨(some 31), some (26, true), .ld false 1 (.t 30)⟩,
    ⟨(some 32), some (26, true), .bin .lss (.t 29) (.t 31)⟩,
    ⟨(some 33), some (26, true), .mv (.t 32)⟩,
    ⟨(some 34), some (33, false), .fa 1 (.t 5)⟩,
    ⟨(some 35), some (33, false), .ld false 1 (.t 34)⟩,
    ⟨(some 36), some (33, false), .mv (.t 0)⟩,
    ⟨(some 37), some (33, false), .ia 1 (.t 36) (.c (.sc (.int .i64 1)))⟩,
    ⟨(some 38), some (33, false), .ld false 1 (.t 37)⟩,
    ⟨(some 39), some (33, false), .bin .lss (.t 35) (.t 38)⟩,
    ⟨(some 40), some (26, true), .pick (.t 33) (.c (.sc (.bool true))) (.t 39)⟩,
    ⟨(some 41), none, .pick (.t 26) (.t 40) (.c (.sc (.bool false)))⟩]) <|
  .cond (.t 41)
    (.seq (.reg (some []) [
      ⟨(some 2), none, .asg (.c (.sc (.bool true))) none⟩]) <|
    .ret)
    (.seq (.reg (some [0, 3]) [
      ⟨(some 42), none, .mv (.t 3)⟩,
      ⟨(some 43), none, .bin .gtr (.t 42) (.c (.sc (.int .i64 2)))⟩,
      ⟨(some 44), none, .mv (.t 43)⟩,
      ⟨(some 45), some (44, true), .mv (.t 0)⟩,
      ⟨(some 46), some (44, true), .ia 1 (.t 45) (.c (.sc (.int .i64 2)))⟩,
      ⟨(some 47), some (44, true), .ld false 1 (.t 46)⟩,
      ⟨(some 48), some (44, true), .bin .lss (.t 47) (.c (.sc (.int .u8 128)))⟩,
      ⟨(some 49), some (44, true), .mv (.t 48)⟩,
      ⟨(some 50), some (49, false), .mv (.t 0)⟩,
      ⟨(some 51), some (49, false), .ia 1 (.t 50) (.c (.sc (.int .i64 2)))⟩,
      ⟨(some 52), some (49, false), .ld false 1 (.t 51)⟩,
      ⟨(some 53), some (49, false), .bin .lss (.c (.sc (.int .u8 191))) (.t 52)⟩,
      ⟨(some 54), some (44, true), .pick (.t 49) (.c (.sc (.bool true))) (.t 53)⟩,
      ⟨(some 55), none, .pick (.t 44) (.t 54) (.c (.sc (.bool false)))⟩]) <|
    .cond (.t 55)
      (.seq (.reg (some []) [
        ⟨(some 2), none, .asg (.c (.sc (.bool true))) none⟩]) <|
      .ret)
      (.skip))) <|
  .seq (.reg (some []) [
    ⟨(some 2), none, .asg (.c (.sc (.bool false))) none⟩]) <|
  .ret
theorem ok34 : fnOf Tryd.prog 34 n34 = some ⟨56, [.t 2], c34⟩ := by kernel_rfl
def n35 : List (Nat × List Nat) := [(0, [0]), (1, [0]), (2, [0, 4]), (3, []), (4, [0, 4]), (5, [0, 4, 5])]
/-- mummer/mummerref02.stands -/
def c35 : RC :=
  .seq (.reg (some [0]) [
    ⟨(some 2), none, .asg (.c (.sc (.int .i32 0))) none⟩,
    ⟨(some 3), none, .asg (.c (.sc (.bool false))) none⟩]) <|
  .seq (.reg (some [0]) [
    ⟨(some 7), none, .mv (.t 0)⟩,
    ⟨(some 8), none, .call (.f 50) [(.t 7)] [[(some 1)]]⟩,
    ⟨(some 4), none, .asg (.t 8) none⟩]) <|
  .seq (.seq (.reg (some [0, 4]) [
    ⟨(some 9), none, .mv (.t 4)⟩,
    ⟨(some 10), none, .call (.f 40) [(.t 9)] [[none]]⟩,
    ⟨(some 11), none, .not (.t 10)⟩]) <|
  .cond (.t 11)
    (.seq (.reg (some []) [
      ⟨(some 2), none, .asg (.c (.sc (.int .i32 0))) none⟩,
      ⟨(some 3), none, .asg (.c (.sc (.bool false))) none⟩]) <|
    .ret)
    (.skip)) <|
  .seq (.reg (some [0, 4]) [
    ⟨(some 13), none, .mv (.t 4)⟩,
    ⟨(some 14), none, .call (.f 14) [(.t 13)] [[none]]⟩,
    ⟨(some 12), none, .mv (.t 14)⟩,
    ⟨(some 15), none, .ext (.t 12) 0⟩,
    ⟨(some 16), none, .ext (.t 12) 1⟩,
    ⟨(some 5), none, .asg (.t 15) (some 1)⟩,
    ⟨(some 6), none, .asg (.t 16) none⟩]) <|
  .seq (.drw (some [0, 4, 5]) [
    ⟨(some 17), none, .mv (.t 4)⟩,
    ⟨(some 18), none, .mv (.t 0)⟩,
    ⟨(some 19), none, .bs (.t 18)⟩,
    ⟨(some 20), none, .mv (.t 5)⟩,
    ⟨(some 21), none, .bs (.t 20)⟩,
    ⟨(some 22), none, .bin .eql (.t 19) (.t 21)⟩,
    ⟨(some 2), none, .asg (.t 17) none⟩,
    ⟨(some 3), none, .asg (.t 22) none⟩]) <|
  .ret
theorem ok35 : fnOf Tryd.prog 35 n35 = some ⟨23, [.t 2, .t 3], c35⟩ := by kernel_rfl
def n36 : List (Nat × List Nat) := [(0, [0]), (1, [0]), (2, [0, 3]), (3, [0, 3, 4]), (4, [0]), (5, [0, 3, 4]), (6, [0]), (7, [0, 3, 4]), (8, [0]), (9, [0, 3]), (10, []), (11, [0, 3]), (12, [0, 3, 5]), (14, [0, 3, 5]), (15, [0, 3, 5, 6]), (16, [0, 3, 5, 6]), (17, [0, 3, 5, 6]), (18, [0, 3, 5, 8]), (19, []), (13, [0, 3, 5]), (20, [])]
/-- mummer/mummerref02.begins -/
def c36 : RC :=
  .seq (.reg (some [0]) [
    ⟨(some 2), none, .asg (.c (.sc (.bool false))) none⟩]) <|
  .seq (.reg (some [0]) [
    ⟨(some 3), none, .asg (.c (.sc (.int .i64 0))) none⟩]) <|
  .seq (.reg (some [0, 3]) [
    ⟨(some 9), none, .mv (.t 0)⟩,
    ⟨(some 10), none, .ia 1 (.t 9) (.c (.sc (.int .i64 0)))⟩,
    ⟨(some 11), none, .ld false 1 (.t 10)⟩,
    ⟨(some 12), none, .cv .i32 (.t 11)⟩,
    ⟨(some 4), none, .asg (.t 12) none⟩]) <|
  .seq (.block 0 <|
   .seq (.reg (some [0, 3, 4]) [
     ⟨(some 14), none, .mv (.t 4)⟩,
     ⟨(some 15), none, .bin .geq (.t 14) (.c (.sc (.int .i32 192)))⟩,
     ⟨(some 16), none, .mv (.t 15)⟩,
     ⟨(some 17), some (16, true), .mv (.t 4)⟩,
     ⟨(some 18), some (16, true), .bin .lss (.t 17) (.c (.sc (.int .i32 224)))⟩,
     ⟨(some 19), none, .pick (.t 16) (.t 18) (.c (.sc (.bool false)))⟩,
     ⟨(some 13), none, .asg (.t 19) none⟩]) <|
   .cond (.t 13)
     (.reg (some [0]) [
       ⟨(some 3), none, .asg (.c (.sc (.int .i64 2))) none⟩])
     (.seq (.reg (some [0, 3, 4]) [
       ⟨(some 21), none, .mv (.t 4)⟩,
       ⟨(some 22), none, .bin .geq (.t 21) (.c (.sc (.int .i32 224)))⟩,
       ⟨(some 23), none, .mv (.t 22)⟩,
       ⟨(some 24), some (23, true), .mv (.t 4)⟩,
       ⟨(some 25), some (23, true), .bin .lss (.t 24) (.c (.sc (.int .i32 240)))⟩,
       ⟨(some 26), none, .pick (.t 23) (.t 25) (.c (.sc (.bool false)))⟩,
       ⟨(some 20), none, .asg (.t 26) none⟩]) <|
     .cond (.t 20)
       (.reg (some [0]) [
         ⟨(some 3), none, .asg (.c (.sc (.int .i64 3))) none⟩])
       (.seq (.reg (some [0, 3, 4]) [
         ⟨(some 28), none, .mv (.t 4)⟩,
         ⟨(some 29), none, .bin .geq (.t 28) (.c (.sc (.int .i32 240)))⟩,
         ⟨(some 30), none, .mv (.t 29)⟩,
         ⟨(some 31), some (30, true), .mv (.t 4)⟩,
         ⟨(some 32), some (30, true), .bin .lss (.t 31) (.c (.sc (.int .i32 248)))⟩,
         ⟨(some 33), none, .pick (.t 30) (.t 32) (.c (.sc (.bool false)))⟩,
         ⟨(some 27), none, .asg (.t 33) none⟩]) <|
       .cond (.t 27)
         (.reg (some [0]) [
           ⟨(some 3), none, .asg (.c (.sc (.int .i64 4))) none⟩])
         (.skip)))) <|
  .seq (.seq (.reg (some [0, 3]) [
    ⟨(some 34), none, .mv (.t 0)⟩,
    ⟨(some 35), none, .lnL (.t 34)⟩,
    ⟨(some 36), none, .mv (.t 3)⟩,
    ⟨(some 37), none, .bin .geq (.t 35) (.t 36)⟩]) <|
  .cond (.t 37)
    (.seq (.reg (some []) [
      ⟨(some 2), none, .asg (.c (.sc (.bool false))) none⟩]) <|
    .ret)
    (.skip)) <|
  .seq (.seq (.reg (some [0, 3]) [
    ⟨(some 5), none, .asg (.c (.sc (.int .i64 128))) none⟩]) <|
  .block 1 <|
   .loop <|
    .seq (.seq (.reg (some [0, 3, 5]) [
      ⟨(some 38), none, .mv (.t 5)⟩,
      ⟨(some 39), none, .bin .leq (.t 38) (.c (.sc (.int .i64 191)))⟩]) <|
    .cond (.t 39)
      (.skip)
      (.exit 1)) <|
    .seq (.block 2 <|
     .seq (.reg (some [0, 3, 5]) [
       ⟨(some 42), none, .bsl 1 [none] []⟩,
       ⟨(some 43), none, .mv (.t 0)⟩,
       ⟨(some 44), none, .app 1 1 (.t 42) (.t 43)⟩,
       ⟨(some 6), none, .asg (.t 44) (some 1)⟩]) <|
     .seq (.block 3 <|
      .loop <|
       .seq (.seq (.reg (some [0, 3, 5, 6]) [
         ⟨(some 45), none, .mv (.t 6)⟩,
         ⟨(some 46), none, .lnL (.t 45)⟩,
         ⟨(some 47), none, .mv (.t 3)⟩,
         ⟨(some 48), none, .bin .lss (.t 46) (.t 47)⟩]) <|
       .cond (.t 48)
         (.skip)
         (.exit 3)) <|
       .block 4 <|
        .reg (some [0, 3, 5, 6]) [
          ⟨(some 49), none, .mv (.t 6)⟩,
          ⟨(some 50), none, .mv (.t 5)⟩,
          ⟨(some 51), none, .cv .u8 (.t 50)⟩,
          ⟨(some 52), none, .bsl 1 [none] [(.t 51)]⟩,
          ⟨(some 53), none, .app 1 1 (.t 49) (.t 52)⟩,
          ⟨(some 6), none, .asg (.t 53) (some 1)⟩]) <|
     .seq (.reg (some [0, 3, 5, 6]) [
       ⟨(some 55), none, .mv (.t 6)⟩,
       ⟨(some 56), none, .call (.f 35) [(.t 55)] [[(some 1)]]⟩,
       ⟨(some 54), none, .mv (.t 56)⟩,
       ⟨(some 57), none, .ext (.t 54) 0⟩,
       ⟨(some 58), none, .ext (.t 54) 1⟩,
       ⟨(some 7), none, .asg (.t 57) none⟩,
       ⟨(some 8), none, .asg (.t 58) none⟩]) <|
     .seq (.reg (some [0, 3, 5, 8]) [
       ⟨(some 59), none, .mv (.t 8)⟩]) <|
     .cond (.t 59)
       (.seq (.reg (some []) [
         ⟨(some 2), none, .asg (.c (.sc (.bool true))) none⟩]) <|
       .ret)
       (.skip)) <|
    .reg (some [0, 3, 5]) [
      ⟨(some 40), none, .mv (.t 5)⟩,
      ⟨(some 41), none, .bin .add (.t 40) (.c (.sc (.int .i64 63)))⟩,
      ⟨(some 5), none, .asg (.t 41) none⟩]) <|
  .seq (.reg (some []) [
    ⟨(some 2), none, .asg (.c (.sc (.bool false))) none⟩]) <|
  .ret
theorem ok36 : fnOf Tryd.prog 36 n36 = some ⟨60, [.t 2], c36⟩ := by kernel_rfl
def n37 : List (Nat × List Nat) := [(0, [0]), (1, [0])]
/-- mummer/runes.is -/
def c37 : RC :=
  .seq (.reg (some [0]) [
    ⟨(some 2), none, .asg (.c (.sc (.bool false))) none⟩]) <|
  .seq (.reg (some [0]) [
    ⟨(some 3), none, .mv (.t 0)⟩,
    ⟨(some 4), none, .call (.f 51) [(.t 3)] [[none]]⟩,
    ⟨(some 2), none, .asg (.t 4) none⟩]) <|
  .ret
theorem ok37 : fnOf Tryd.prog 37 n37 = some ⟨5, [.t 2], c37⟩ := by kernel_rfl
def n38 : List (Nat × List Nat) := [(0, [0, 1, 2]), (1, [2])]
/-- mummer/runes.Encode$1 -/
def c38 : RC :=
  .seq (.reg (some [0, 1, 2]) [
    ⟨(some 4), none, .ld false 1 (.t 2)⟩,
    ⟨(some 5), none, .mv (.t 0)⟩,
    ⟨(some 6), none, .cv .u8 (.t 5)⟩,
    ⟨(some 7), none, .iaA 4 1 (.t 1) (.t 4)⟩,
    ⟨none, none, .st 1 [none] (.t 7) (.t 6)⟩]) <|
  .reg (some [2]) [
    ⟨(some 8), none, .ld false 1 (.t 2)⟩,
    ⟨(some 9), none, .bin .add (.t 8) (.c (.sc (.int .i64 1)))⟩,
    ⟨none, none, .st 1 [none] (.t 2) (.t 9)⟩]
theorem ok38 : fnOf Tryd.prog 38 n38 = some ⟨10, [], c38⟩ := by kernel_rfl
def n39 : List (Nat × List Nat) := [(0, [0]), (1, [0]), (2, []), (3, [0]), (4, []), (5, [0]), (6, []), (7, [0]), (8, []), (9, [0]), (10, []), (11, [0]), (12, []), (13, [])]
/-- unicode/utf8.RuneLen -/
def c39 : RC :=
  .seq (.reg (some [0]) [
    ⟨(some 2), none, .asg (.c (.sc (.int .i64 0))) none⟩]) <|
  .seq (.block 0 <|
   .seq (.reg (some [0]) [
     ⟨(some 4), none, .mv (.t 0)⟩,
     ⟨(some 5), none, .bin .lss (.t 4) (.c (.sc (.int .i32 0)))⟩,
     ⟨(some 3), none, .asg (.t 5) none⟩]) <|
   .cond (.t 3)
     (.seq (.reg (some []) [
       ⟨(some 2), none, .asg (.c (.sc (.int .i64 (-1)))) none⟩]) <|
     .ret)
     (.seq (.reg (some [0]) [
       ⟨(some 7), none, .mv (.t 0)⟩,
       ⟨(some 8), none, .bin .leq (.t 7) (.c (.sc (.int .i32 127)))⟩,
       ⟨(some 6), none, .asg (.t 8) none⟩]) <|
     .cond (.t 6)
       (.seq (.reg (some []) [
         ⟨(some 2), none, .asg (.c (.sc (.int .i64 1))) none⟩]) <|
       .ret)
       (.seq (.reg (some [0]) [
         ⟨(some 10), none, .mv (.t 0)⟩,
         ⟨(some 11), none, .bin .leq (.t 10) (.c (.sc (.int .i32 2047)))⟩,
         ⟨(some 9), none, .asg (.t 11) none⟩]) <|
       .cond (.t 9)
         (.seq (.reg (some []) [
           ⟨(some 2), none, .asg (.c (.sc (.int .i64 2))) none⟩]) <|
         .ret)
         (.seq (.reg (some [0]) [
           ⟨(some 13), none, .mv (.t 0)⟩,
           ⟨(some 14), none, .bin .leq (.c (.sc (.int .i32 55296))) (.t 13)⟩,
           ⟨(some 15), none, .mv (.t 14)⟩,
           ⟨(some 16), some (15, true), .mv (.t 0)⟩,
           ⟨(some 17), some (15, true), .bin .leq (.t 16) (.c (.sc (.int .i32 57343)))⟩,
           ⟨(some 18), none, .pick (.t 15) (.t 17) (.c (.sc (.bool false)))⟩,
           ⟨(some 12), none, .asg (.t 18) none⟩]) <|
         .cond (.t 12)
           (.seq (.reg (some []) [
             ⟨(some 2), none, .asg (.c (.sc (.int .i64 (-1)))) none⟩]) <|
           .ret)
           (.seq (.reg (some [0]) [
             ⟨(some 20), none, .mv (.t 0)⟩,
             ⟨(some 21), none, .bin .leq (.t 20) (.c (.sc (.int .i32 65535)))⟩,
             ⟨(some 19), none, .asg (.t 21) none⟩]) <|
           .cond (.t 19)
             (.seq (.reg (some []) [
               ⟨(some 2), none, .asg (.c (.sc (.int .i64 3))) none⟩]) <|
             .ret)
             (.seq (.reg (some [0]) [
               ⟨(some 23), none, .mv (.t 0)⟩,
               ⟨(some 24), none, .bin .leq (.t 23) (.c (.sc (.int .i32 1114111)))⟩,
               ⟨(some 22), none, .asg (.t 24) none⟩]) <|
             .cond (.t 22)
               (.seq (.reg (some []) [
                 ⟨(some 2), none, .asg (.c (.sc (.int .i64 4))) none⟩]) <|
               .ret)
               (.skip))))))) <|
  .seq (.reg (some []) [
    ⟨(some 2), none, .asg (.c (.sc (.int .i64 (-1)))) none⟩]) <|
  .ret
theorem ok39 : fnOf Tryd.prog 39 n39 = some ⟨25, [.t 2], c39⟩ := by kernel_rfl
def n40 : List (Nat × List Nat) := [(0, [0]), (1, [0])]
/-- mummer/mummerref02.Is -/
def c40 : RC :=
  .seq (.reg (some [0]) [
    ⟨(some 2), none, .asg (.c (.sc (.bool false))) none⟩]) <|
  .seq (.reg (some [0]) [
    ⟨(some 3), none, .mv (.t 0)⟩,
    ⟨(some 4), none, .bin .geq (.t 3) (.c (.sc (.int .i32 0)))⟩,
    ⟨(some 5), none, .mv (.t 4)⟩,
    ⟨(some 6), some (5, true), .mv (.t 0)⟩,
    ⟨(some 7), some (5, true), .bin .leq (.t 6) (.c (.sc (.int .i32 1114111)))⟩,
    ⟨(some 8), none, .pick (.t 5) (.t 7) (.c (.sc (.bool false)))⟩,
    ⟨(some 9), none, .mv (.t 8)⟩,
    ⟨(some 10), some (9, true), .mv (.t 0)⟩,
    ⟨(some 11), some (9, true), .bin .lss (.t 10) (.c (.sc (.int .i32 55296)))⟩,
    ⟨(some 12), some (9, true), .mv (.t 11)⟩,
    ⟨(some 13), some (12, false), .mv (.t 0)⟩,
    ⟨(some 14), some (12, false), .bin .gtr (.t 13) (.c (.sc (.int .i32 57343)))⟩,
    ⟨(some 15), some (9, true), .pick (.t 12) (.c (.sc (.bool true))) (.t 14)⟩,
    ⟨(some 16), none, .pick (.t 9) (.t 15) (.c (.sc (.bool false)))⟩,
    ⟨(some 2), none, .asg (.t 16) none⟩]) <|
  .ret
theorem ok40 : fnOf Tryd.prog 40 n40 = some ⟨17, [.t 2], c40⟩ := by kernel_rfl
def n41 : List (Nat × List Nat) := [(0, []), (1, [0])]
/-- mummer/runes.classes -/
def c41 : RC :=
  .seq (.reg (some []) [
    ⟨(some 0), none, .al [none, none, none, none, none, none, none, none, none, none] [(.sc (.string ⟨#[]⟩)), (.sc (.string ⟨#[]⟩)), (.sc (.string ⟨#[]⟩)), (.sc (.string ⟨#[]⟩)), (.sc (.string ⟨#[]⟩)), (.sc (.string ⟨#[]⟩)), (.sc (.string ⟨#[]⟩)), (.sc (.string ⟨#[]⟩)), (.sc (.string ⟨#[]⟩)), (.sc (.string ⟨#[]⟩))]⟩]) <|
  .seq (.reg (some [0]) [
    ⟨(some 1), none, .bld [((1, 1), (.c (.sc (.string ⟨#[9, 10, 13, 32]⟩)))), ((2, 1), (.c (.sc (.string ⟨#[40, 91]⟩)))), ((3, 1), (.c (.sc (.string ⟨#[41, 93]⟩)))), ((4, 1), (.c (.sc (.string ⟨#[39]⟩)))), ((5, 1), (.c (.sc (.string ⟨#[35]⟩)))), ((6, 1), (.c (.sc (.string ⟨#[59]⟩)))), ((8, 1), (.c (.sc (.string ⟨#[43, 45]⟩)))), ((9, 1), (.c (.sc (.string ⟨#[33, 36, 37, 38, 42, 47, 58, 60, 61, 62, 63, 94, 95, 126, 46, 64]⟩))))] [(.sc (.string ⟨#[]⟩)), (.sc (.string ⟨#[]⟩)), (.sc (.string ⟨#[]⟩)), (.sc (.string ⟨#[]⟩)), (.sc (.string ⟨#[]⟩)), (.sc (.string ⟨#[]⟩)), (.sc (.string ⟨#[]⟩)), (.sc (.string ⟨#[]⟩)), (.sc (.string ⟨#[]⟩)), (.sc (.string ⟨#[]⟩))]⟩,
    ⟨none, none, .st 10 [none, none, none, none, none, none, none, none, none, none] (.t 0) (.t 1)⟩]) <|
  .ret
theorem ok41 : fnOf Tryd.prog 41 n41 = some ⟨2, [.c 0 true 10], c41⟩ := by kernel_rfl
def n42 : List (Nat × List Nat) := [(0, [0, 1]), (1, [0, 1]), (2, [1, 8]), (3, [1, 8, 9]), (4, [1, 6, 8]), (5, []), (6, [])]
/-- mummer/runes.hasRune -/
def c42 : RC :=
  .seq (.reg (some [0, 1]) [
    ⟨(some 4), none, .asg (.c (.sc (.bool false))) none⟩]) <|
  .seq (.seq (.reg (some [0, 1]) [
    ⟨(some 7), none, .mv (.t 0)⟩,
    ⟨(some 8), none, .rngS (.t 7)⟩]) <|
  .block 0 <|
   .loop <|
    .seq (.reg (some [1, 8]) [
      ⟨(some 9), none, .nxtS (.t 8)⟩,
      ⟨(some 10), none, .ext (.t 9) 0⟩]) <|
    .seq (.cond (.t 10)
      (.skip)
      (.exit 0)) <|
    .block 1 <|
     .seq (.reg (some [1, 8, 9]) [
       ⟨(some 11), none, .ext (.t 9) 2⟩,
       ⟨(some 6), none, .asg (.t 11) none⟩]) <|
     .seq (.reg (some [1, 6, 8]) [
       ⟨(some 12), none, .mv (.t 6)⟩,
       ⟨(some 13), none, .mv (.t 1)⟩,
       ⟨(some 14), none, .bin .eql (.t 12) (.t 13)⟩]) <|
     .cond (.t 14)
       (.seq (.reg (some []) [
         ⟨(some 4), none, .asg (.c (.sc (.bool true))) none⟩]) <|
       .ret)
       (.skip)) <|
  .seq (.reg (some []) [
    ⟨(some 4), none, .asg (.c (.sc (.bool false))) none⟩]) <|
  .ret
theorem ok42 : fnOf Tryd.prog 42 n42 = some ⟨15, [.t 4], c42⟩ := by kernel_rfl
def n43 : List (Nat × List Nat) := [(0, [0, 1]), (1, [0, 1]), (2, [0, 1, 5]), (4, [0, 1, 5]), (5, []), (3, [0, 1, 5]), (6, [])]
/-- mummer/mummerref02.one -/
def c43 : RC :=
  .seq (.reg (some [0, 1]) [
    ⟨(some 4), none, .asg (.c (.sc (.bool false))) none⟩]) <|
  .seq (.seq (.reg (some [0, 1]) [
    ⟨(some 5), none, .asg (.c (.sc (.int .i64 0))) none⟩]) <|
  .block 0 <|
   .loop <|
    .seq (.seq (.reg (some [0, 1, 5]) [
      ⟨(some 6), none, .mv (.t 5)⟩,
      ⟨(some 7), none, .mv (.t 1)⟩,
      ⟨(some 8), none, .lnS (.t 7)⟩,
      ⟨(some 9), none, .bin .lss (.t 6) (.t 8)⟩]) <|
    .cond (.t 9)
      (.skip)
      (.exit 0)) <|
    .seq (.block 1 <|
     .seq (.reg (some [0, 1, 5]) [
       ⟨(some 12), none, .mv (.t 1)⟩,
       ⟨(some 13), none, .mv (.t 5)⟩,
       ⟨(some 14), none, .ixS (.t 12) (.t 13)⟩,
       ⟨(some 15), none, .cv .i32 (.t 14)⟩,
       ⟨(some 16), none, .mv (.t 0)⟩,
       ⟨(some 17), none, .bin .eql (.t 15) (.t 16)⟩]) <|
     .cond (.t 17)
       (.seq (.reg (some []) [
         ⟨(some 4), none, .asg (.c (.sc (.bool true))) none⟩]) <|
       .ret)
       (.skip)) <|
    .reg (some [0, 1, 5]) [
      ⟨(some 10), none, .mv (.t 5)⟩,
      ⟨(some 11), none, .bin .add (.t 10) (.c (.sc (.int .i64 1)))⟩,
      ⟨(some 5), none, .asg (.t 11) none⟩]) <|
  .seq (.reg (some []) [
    ⟨(some 4), none, .asg (.c (.sc (.bool false))) none⟩]) <|
  .ret
theorem ok43 : fnOf Tryd.prog 43 n43 = some ⟨18, [.t 4], c43⟩ := by kernel_rfl
def n44 : List (Nat × List Nat) := [(0, [0]), (1, [1])]
/-- mummer/runes.all -/
def c44 : RC :=
  .seq (.reg (some [0]) [
    ⟨(some 1), none, .box [(some 1)] (.t 0)⟩,
    ⟨(some 2), none, .asg (.c (.sc .nilFunc)) none⟩]) <|
  .seq (.reg (some [1]) [
    ⟨(some 3), none, .mkf 52 [] [(.t 1)]⟩,
    ⟨(some 2), none, .asg (.t 3) none⟩]) <|
  .ret
theorem ok44 : fnOf Tryd.prog 44 n44 = some ⟨4, [.t 2], c44⟩ := by kernel_rfl
def n45 : List (Nat × List Nat) := [(0, [0]), (1, [0])]
/-- unicode/utf8.RuneStart -/
def c45 : RC :=
  .seq (.reg (some [0]) [
    ⟨(some 2), none, .asg (.c (.sc (.bool false))) none⟩]) <|
  .seq (.reg (some [0]) [
    ⟨(some 3), none, .mv (.t 0)⟩,
    ⟨(some 4), none, .bin .and (.t 3) (.c (.sc (.int .u8 192)))⟩,
    ⟨(some 5), none, .bin .neq (.t 4) (.c (.sc (.int .u8 128)))⟩,
    ⟨(some 2), none, .asg (.t 5) none⟩]) <|
  .ret
theorem ok45 : fnOf Tryd.prog 45 n45 = some ⟨6, [.t 2], c45⟩ := by kernel_rfl
def n46 : List (Nat × List Nat) := [(0, [0, 1]), (1, [0, 1]), (2, [0, 1, 7, 8]), (3, [0, 1, 7, 8]), (4, [0, 1, 5, 7, 8]), (5, [5]), (6, [0, 1, 7, 8]), (7, [])]
/-- slices.IndexFunc[[]int32,int32] -/
def c46 : RC :=
  .seq (.reg (some [0, 1]) [
    ⟨(some 4), none, .asg (.c (.sc (.int .i64 0))) none⟩]) <|
  .seq (.seq (.reg (some [0, 1]) [
    ⟨(some 6), none, .mv (.t 0)⟩,
    ⟨(some 7), none, .lnL (.t 6)⟩,
    ⟨(some 8), none, .mv (.c (.sc (.int .i64 0)))⟩]) <|
  .block 0 <|
   .loop <|
    .seq (.reg (some [0, 1, 7, 8]) [
      ⟨(some 9), none, .bin .lss (.t 8) (.t 7)⟩]) <|
    .seq (.cond (.t 9)
      (.skip)
      (.exit 0)) <|
    .seq (.block 1 <|
     .seq (.reg (some [0, 1, 7, 8]) [
       ⟨(some 10), none, .mv (.t 8)⟩,
       ⟨(some 5), none, .asg (.t 10) none⟩]) <|
     .seq (.reg (some [0, 1, 5, 7, 8]) [
       ⟨(some 11), none, .mv (.t 1)⟩,
       ⟨(some 12), none, .mv (.t 0)⟩,
       ⟨(some 13), none, .mv (.t 5)⟩,
       ⟨(some 14), none, .ia 1 (.t 12) (.t 13)⟩,
       ⟨(some 15), none, .ld false 1 (.t 14)⟩,
       ⟨(some 16), none, .call (.t 11) [(.t 15)] [[none]]⟩]) <|
     .cond (.t 16)
       (.seq (.reg (some [5]) [
         ⟨(some 17), none, .mv (.t 5)⟩,
         ⟨(some 4), none, .asg (.t 17) none⟩]) <|
       .ret)
       (.skip)) <|
    .reg (some [0, 1, 7, 8]) [
      ⟨(some 18), none, .bin .add (.t 8) (.c (.sc (.int .i64 1)))⟩,
      ⟨(some 8), none, .mv (.t 18)⟩]) <|
  .seq (.reg (some []) [
    ⟨(some 4), none, .asg (.c (.sc (.int .i64 (-1)))) none⟩]) <|
  .ret
theorem ok46 : fnOf Tryd.prog 46 n46 = some ⟨19, [.t 4], c46⟩ := by kernel_rfl
def n47 : List (Nat × List Nat) := [(0, [0]), (1, [0])]
/-- mummer/runes.Bytes$1 -/
def c47 : RC :=
  .seq (.reg (some [0]) [
    ⟨(some 2), none, .asg (.c (.sc (.bool false))) none⟩]) <|
  .seq (.reg (some [0]) [
    ⟨(some 3), none, .mv (.t 0)⟩,
    ⟨(some 4), none, .call (.f 37) [(.t 3)] [[none]]⟩,
    ⟨(some 5), none, .not (.t 4)⟩,
    ⟨(some 2), none, .asg (.t 5) none⟩]) <|
  .ret
theorem ok47 : fnOf Tryd.prog 47 n47 = some ⟨6, [.t 2], c47⟩ := by kernel_rfl
def n48 : List (Nat × List Nat) := [(0, [0, 1]), (1, [0, 1]), (2, [0, 1]), (3, [0, 1])]
/-- unicode/utf8.AppendRune -/
def c48 : RC :=
  .seq (.reg (some [0, 1]) [
    ⟨(some 4), none, .asg (.c .nil) (some 1)⟩]) <|
  .seq (.seq (.reg (some [0, 1]) [
    ⟨(some 5), none, .mv (.t 1)⟩,
    ⟨(some 6), none, .cv .u32 (.t 5)⟩,
    ⟨(some 7), none, .bin .leq (.t 6) (.c (.sc (.int .u32 127)))⟩]) <|
  .cond (.t 7)
    (.seq (.reg (some [0, 1]) [
      ⟨(some 8), none, .mv (.t 0)⟩,
      ⟨(some 9), none, .mv (.t 1)⟩,
      ⟨(some 10), none, .cv .u8 (.t 9)⟩,
      ⟨(some 11), none, .bsl 1 [none] [(.t 10)]⟩,
      ⟨(some 12), none, .app 1 1 (.t 8) (.t 11)⟩,
      ⟨(some 4), none, .asg (.t 12) (some 1)⟩]) <|
    .ret)
    (.skip)) <|
  .seq (.reg (some [0, 1]) [
    ⟨(some 13), none, .mv (.t 0)⟩,
    ⟨(some 14), none, .mv (.t 1)⟩,
    ⟨(some 15), none, .call (.f 53) [(.t 13), (.t 14)] [[(some 1)], [none]]⟩,
    ⟨(some 4), none, .asg (.t 15) (some 1)⟩]) <|
  .ret
theorem ok48 : fnOf Tryd.prog 48 n48 = some ⟨16, [.t 4], c48⟩ := by kernel_rfl
def n49 : List (Nat × List Nat) := [(0, [0]), (1, [0]), (2, [0, 4]), (3, []), (4, [0, 4]), (5, [0, 4, 5]), (6, [0, 4, 5, 6]), (7, [0, 6]), (8, [0, 7]), (9, [0, 4, 5, 6]), (10, [0, 4, 5, 6, 8]), (11, [0, 4, 5, 8, 9]), (12, []), (13, [0, 5, 8, 9]), (14, [0, 5, 8, 9, 10]), (15, []), (16, [0, 5, 8, 10]), (17, [5, 10]), (18, [0, 5, 8, 10]), (19, [0, 5, 8, 10, 11]), (20, []), (21, [0, 5, 8, 10, 11]), (22, [5, 10, 11]), (23, [0, 5, 10, 11]), (24, [5, 10, 11, 12]), (25, []), (26, [5, 10, 11, 12])]
/-- unicode/utf8.decodeRuneSlow -/
def c49 : RC :=
  .seq (.reg (some [0]) [
    ⟨(some 2), none, .asg (.c (.sc (.int .i32 0))) none⟩,
    ⟨(some 3), none, .asg (.c (.sc (.int .i64 0))) none⟩]) <|
  .seq (.reg (some [0]) [
    ⟨(some 13), none, .mv (.t 0)⟩,
    ⟨(some 14), none, .lnL (.t 13)⟩,
    ⟨(some 4), none, .asg (.t 14) none⟩]) <|
  .seq (.seq (.reg (some [0, 4]) [
    ⟨(some 15), none, .mv (.t 4)⟩,
    ⟨(some 16), none, .bin .lss (.t 15) (.c (.sc (.int .i64 1)))⟩]) <|
  .cond (.t 16)
    (.seq (.reg (some []) [
      ⟨(some 2), none, .asg (.c (.sc (.int .i32 65533))) none⟩,
      ⟨(some 3), none, .asg (.c (.sc (.int .i64 0))) none⟩]) <|
    .ret)
    (.skip)) <|
  .seq (.reg (some [0, 4]) [
    ⟨(some 17), none, .mv (.t 0)⟩,
    ⟨(some 18), none, .ia 1 (.t 17) (.c (.sc (.int .i64 0)))⟩,
    ⟨(some 19), none, .ld false 1 (.t 18)⟩,
    ⟨(some 5), none, .asg (.t 19) none⟩]) <|
  .seq (.reg (some [0, 4, 5]) [
    ⟨(some 20), none, .mv (.t 5)⟩,
    ⟨(some 21), none, .iaA 256 1 (.g 0) (.t 20)⟩,
    ⟨(some 22), none, .ld false 1 (.t 21)⟩,
    ⟨(some 6), none, .asg (.t 22) none⟩]) <|
  .seq (.seq (.reg (some [0, 4, 5, 6]) [
    ⟨(some 23), none, .mv (.t 6)⟩,
    ⟨(some 24), none, .bin .geq (.t 23) (.c (.sc (.int .u8 240)))⟩]) <|
  .cond (.t 24)
    (.seq (.reg (some [0, 6]) [
      ⟨(some 25), none, .mv (.t 6)⟩,
      ⟨(some 26), none, .cv .i32 (.t 25)⟩,
      ⟨(some 27), none, .bin .shl (.t 26) (.c (.sc (.int .u64 31)))⟩,
      ⟨(some 28), none, .bin .shr (.t 27) (.c (.sc (.int .u64 31)))⟩,
      ⟨(some 7), none, .asg (.t 28) none⟩]) <|
    .seq (.reg (some [0, 7]) [
      ⟨(some 29), none, .mv (.t 0)⟩,
      ⟨(some 30), none, .ia 1 (.t 29) (.c (.sc (.int .i64 0)))⟩,
      ⟨(some 31), none, .ld false 1 (.t 30)⟩,
      ⟨(some 32), none, .cv .i32 (.t 31)⟩,
      ⟨(some 33), none, .mv (.t 7)⟩,
      ⟨(some 34), none, .bin .andNot (.t 32) (.t 33)⟩,
      ⟨(some 35), none, .mv (.t 7)⟩,
      ⟨(some 36), none, .bin .and (.c (.sc (.int .i32 65533))) (.t 35)⟩,
      ⟨(some 37), none, .bin .or (.t 34) (.t 36)⟩,
      ⟨(some 2), none, .asg (.t 37) none⟩,
      ⟨(some 3), none, .asg (.c (.sc (.int .i64 1))) none⟩]) <|
    .ret)
    (.skip)) <|
  .seq (.reg (some [0, 4, 5, 6]) [
    ⟨(some 38), none, .mv (.t 6)⟩,
    ⟨(some 39), none, .bin .and (.t 38) (.c (.sc (.int .u8 7)))⟩,
    ⟨(some 40), none, .cv .i64 (.t 39)⟩,
    ⟨(some 8), none, .asg (.t 40) none⟩]) <|
  .seq (.reg (some [0, 4, 5, 6, 8]) [
    ⟨(some 41), none, .mv (.t 6)⟩,
    ⟨(some 42), none, .bin .shr (.t 41) (.c (.sc (.int .u64 4)))⟩,
    ⟨(some 43), none, .iaA 16 2 (.g 1) (.t 42)⟩,
    ⟨(some 44), none, .ld true 2 (.t 43)⟩,
    ⟨(some 9), none, .al [none, none] [(.sc (.int .u8 0)), (.sc (.int .u8 0))]⟩,
    ⟨none, none, .st 2 [none, none] (.t 9) (.t 44)⟩]) <|
  .seq (.seq (.reg (some [0, 4, 5, 8, 9]) [
    ⟨(some 45), none, .mv (.t 4)⟩,
    ⟨(some 46), none, .mv (.t 8)⟩,
    ⟨(some 47), none, .bin .lss (.t 45) (.t 46)⟩]) <|
  .cond (.t 47)
    (.seq (.reg (some []) [
      ⟨(some 2), none, .asg (.c (.sc (.int .i32 65533))) none⟩,
      ⟨(some 3), none, .asg (.c (.sc (.int .i64 1))) none⟩]) <|
    .ret)
    (.skip)) <|
  .seq (.reg (some [0, 5, 8, 9]) [
    ⟨(some 48), none, .mv (.t 0)⟩,
    ⟨(some 49), none, .ia 1 (.t 48) (.c (.sc (.int .i64 1)))⟩,
    ⟨(some 50), none, .ld false 1 (.t 49)⟩,
    ⟨(some 10), none, .asg (.t 50) none⟩]) <|
  .seq (.seq (.reg (some [0, 5, 8, 9, 10]) [
    ⟨(some 51), none, .mv (.t 10)⟩,
    ⟨(some 52), none, .fa 0 (.t 9)⟩,
    ⟨(some 53), none, .ld false 1 (.t 52)⟩,
    ⟨(some 54), none, .bin .lss (.t 51) (.t 53)⟩,
    ⟨(some 55), none, .mv (.t 54)⟩,
    ⟨(some 56), some (55, false), .fa 1 (.t 9)⟩,
    ⟨(some 57), some (55, false), .ld false 1 (.t 56)⟩,
    ⟨(some 58), some (55, false), .mv (.t 10)⟩,
    ⟨(some 59), some (55, false), .bin .lss (.t 57) (.t 58)⟩,
    ⟨(some 60), none, .pick (.t 55) (.c (.sc (.bool true))) (.t 59)⟩]) <|
  .cond (.t 60)
    (.seq (.reg (some []) [
      ⟨(some 2), none, .asg (.c (.sc (.int .i32 65533))) none⟩,
      ⟨(some 3), none, .asg (.c (.sc (.int .i64 1))) none⟩]) <|
    .ret)
    (.skip)) <|
  .seq (.seq (.reg (some [0, 5, 8, 10]) [
    ⟨(some 61), none, .mv (.t 8)⟩,
    ⟨(some 62), none, .bin .leq (.t 61) (.c (.sc (.int .i64 2)))⟩]) <|
  .cond (.t 62)
    (.seq (.reg (some [5, 10]) [
      ⟨(some 63), none, .mv (.t 5)⟩,
      ⟨(some 64), none, .bin .and (.t 63) (.c (.sc (.int .u8 31)))⟩,
      ⟨(some 65), none, .cv .i32 (.t 64)⟩,
      ⟨(some 66), none, .bin .shl (.t 65) (.c (.sc (.int .u64 6)))⟩,
      ⟨(some 67), none, .mv (.t 10)⟩,
      ⟨(some 68), none, .bin .and (.t 67) (.c (.sc (.int .u8 63)))⟩,
      ⟨(some 69), none, .cv .i32 (.t 68)⟩,
      ⟨(some 70), none, .bin .or (.t 66) (.t 69)⟩,
      ⟨(some 2), none, .asg (.t 70) none⟩,
      ⟨(some 3), none, .asg (.c (.sc (.int .i64 2))) none⟩]) <|
    .ret)
    (.skip)) <|
  .seq (.reg (some [0, 5, 8, 10]) [
    ⟨(some 71), none, .mv (.t 0)⟩,
    ⟨(some 72), none, .ia 1 (.t 71) (.c (.sc (.int .i64 2)))⟩,
    ⟨(some 73), none, .ld false 1 (.t 72)⟩,
    ⟨(some 11), none, .asg (.t 73) none⟩]) <|
  .seq (.seq (.reg (some [0, 5, 8, 10, 11]) [
    ⟨(some 74), none, .mv (.t 11)⟩,
    ⟨(some 75), none, .bin .lss (.t 74) (.c (.sc (.int .u8 128)))⟩,
    ⟨(some 76), none, .mv (.t 75)⟩,
    ⟨(some 77), some (76, false), .mv (.t 11)⟩,
    ⟨(some 78), some (76, false), .bin .lss (.c (.sc (.int .u8 191))) (.t 77)⟩,
    ⟨(some 79), none, .pick (.t 76) (.c (.sc (.bool true))) (.t 78)⟩]) <|
  .cond (.t 79)
    (.seq (.reg (some []) [
      ⟨(some 2), none, .asg (.c (.sc (.int .i32 65533))) none⟩,
      ⟨(some 3), none, .asg (.c (.sc (.int .i64 1))) none⟩]) <|
    .ret)
    (.skip)) <|
  .seq (.seq (.reg (some [0, 5, 8, 10, 11]) [
    ⟨(some 80), none, .mv (.t 8)⟩,
    ⟨(some 81), none, .bin .leq (.t 80) (.c (.sc (.int .i64 3)))⟩]) <|
  .cond (.t 81)
    (.seq (.reg (some [5, 10, 11]) [
      ⟨(some 82), none, .mv (.t 5)⟩,
      ⟨(some 83), none, .bin .and (.t 82) (.c (.sc (.int .u8 15)))⟩,
      ⟨(some 84), none, .cv .i32 (.t 83)⟩,
      ⟨(some 85), none, .bin .shl (.t 84) (.c (.sc (.int .u64 12)))⟩,
      ⟨(some 86), none, .mv (.t 10)⟩,
      ⟨(some 87), none, .bin .and (.t 86) (.c (.sc (.int .u8 63)))⟩,
      ⟨(some 88), none, .cv .i32 (.t 87)⟩,
      ⟨(some 89), none, .bin .shl (.t 88) (.c (.sc (.int .u64 6)))⟩,
      ⟨(some 90), none, .bin .or (.t 85) (.t 89)⟩,
      ⟨(some 91), none, .mv (.t 11)⟩,
      ⟨(some 92), none, .bin .and (.t 91) (.c (.sc (.int .u8 63)))⟩,
      ⟨(some 93), none, .cv .i32 (.t 92)⟩,
      ⟨(some 94), none, .bin .or (.t 90) (.t 93)⟩,
      ⟨(some 2), none, .asg (.t 94) none⟩,
      ⟨(some 3), none, .asg (.c (.sc (.int .i64 3))) none⟩]) <|
    .ret)
    (.skip)) <|
  .seq (.reg (some [0, 5, 10, 11]) [
    ⟨(some 95), none, .mv (.t 0)⟩,
    ⟨(some 96), none, .ia 1 (.t 95) (.c (.sc (.int .i64 3)))⟩,
    ⟨(some 97), none, .ld false 1 (.t 96)⟩,
    ⟨(some 12), none, .asg (.t 97) none⟩]) <|
  .seq (.seq (.reg (some [5, 10, 11, 12]) [
    ⟨(some 98), none, .mv (.t 12)⟩,
    ⟨(some 99), none, .bin .lss (.t 98) (.c (.sc (.int .u8 128)))⟩,
    ⟨(some 100), none, .mv (.t 99)⟩,
    ⟨(some 101), some (100, false), .mv (.t 12)⟩,
    ⟨(some 102), some (100, false), .bin .lss (.c (.sc (.int .u8 191))) (.t 101)⟩,
    ⟨(some 103), none, .pick (.t 100) (.c (.sc (.bool true))) (.t 102)⟩]) <|
  .cond (.t 103)
    (.seq (.reg (some []) [
      ⟨(some 2), none, .asg (.c (.sc (.int .i32 65533))) none⟩,
      ⟨(some 3), none, .asg (.c (.sc (.int .i64 1))) none⟩]) <|
    .ret)
    (.skip)) <|
  .seq (.reg (some [5, 10, 11, 12]) [
    ⟨(some 104), none, .mv (.t 5)⟩,
    ⟨(some 105), none, .bin .and (.t 104) (.c (.sc (.int .u8 7)))⟩,
    ⟨(some 106), none, .cv .i32 (.t 105)⟩,
    ⟨(some 107), none, .bin .shl (.t 106) (.c (.sc (.int .u64 18)))⟩,
    ⟨(some 108), none, .mv (.t 10)⟩,
    ⟨(some 109), none, .bin .and (.t 108) (.c (.sc (.int .u8 63)))⟩,
    ⟨(some 110), none, .cv .i32 (.t 109)⟩,
    ⟨(some 111), none, .bin .shl (.t 110) (.c (.sc (.int .u64 12)))⟩,
    ⟨(some 112), none, .bin .or (.t 107) (.t 111)⟩,
    ⟨(some 113), none, .mv (.t 11)⟩,
    ⟨(some 114), none, .bin .and (.t 113) (.c (.sc (.int .u8 63)))⟩,
    ⟨(some 115), none, .cv .i32 (.t 114)⟩,
    ⟨(some 116), none, .bin .shl (.t 115) (.c (.sc (.int .u64 6)))⟩,
    ⟨(some 117), none, .bin .or (.t 112) (.t 116)⟩,
    ⟨(some 118), none, .mv (.t 12)⟩,
    ⟨(some 119), none, .bin .and (.t 118) (.c (.sc (.int .u8 63)))⟩,
    ⟨(some 120), none, .cv .i32 (.t 119)⟩,
    ⟨(some 121), none, .bin .or (.t 117) (.t 120)⟩,
    ⟨(some 2), none, .asg (.t 121) none⟩,
    ⟨(some 3), none, .asg (.c (.sc (.int .i64 4))) none⟩]) <|
  .ret
theorem ok49 : fnOf Tryd.prog 49 n49 = some ⟨122, [.t 2, .t 3], c49⟩ := by kernel_rfl
def n50 : List (Nat × List Nat) := [(0, [0]), (1, [0]), (2, [0, 3]), (3, [0, 3, 4]), (4, [0, 3, 4, 5]), (6, [0, 3, 4, 5]), (7, [0, 3, 4, 5, 6]), (8, [0, 3, 4, 5]), (9, [0, 5, 7]), (10, [0, 5, 7, 8]), (12, [0, 5, 7, 8]), (13, []), (14, [0, 5, 7, 8]), (11, [0, 5, 7, 8]), (15, [7]), (5, [0, 3, 4, 5]), (16, [0, 3]), (17, [3]), (18, [])]
/-- mummer/mummerref02.number -/
def c50 : RC :=
  .seq (.reg (some [0]) [
    ⟨(some 2), none, .asg (.c (.sc (.int .i32 0))) none⟩]) <|
  .seq (.reg (some [0]) [
    ⟨(some 9), none, .mv (.t 0)⟩,
    ⟨(some 10), none, .ia 1 (.t 9) (.c (.sc (.int .i64 0)))⟩,
    ⟨(some 11), none, .ld false 1 (.t 10)⟩,
    ⟨(some 12), none, .cv .i32 (.t 11)⟩,
    ⟨(some 3), none, .asg (.t 12) none⟩]) <|
  .seq (.reg (some [0, 3]) [
    ⟨(some 13), none, .bld [((0, 1), (.c (.sc (.int .i32 0)))), ((1, 1), (.c (.sc (.int .i32 0)))), ((2, 1), (.c (.sc (.int .i32 192)))), ((3, 1), (.c (.sc (.int .i32 224)))), ((4, 1), (.c (.sc (.int .i32 240))))] [(.sc (.int .i32 0)), (.sc (.int .i32 0)), (.sc (.int .i32 0)), (.sc (.int .i32 0)), (.sc (.int .i32 0))]⟩,
    ⟨(some 4), none, .al [none, none, none, none, none] [(.sc (.int .i32 0)), (.sc (.int .i32 0)), (.sc (.int .i32 0)), (.sc (.int .i32 0)), (.sc (.int .i32 0))]⟩,
    ⟨none, none, .st 5 [none, none, none, none, none] (.t 4) (.t 13)⟩]) <|
  .seq (.seq (.reg (some [0, 3, 4]) [
    ⟨(some 5), none, .asg (.c (.sc (.int .i64 2))) none⟩]) <|
  .block 0 <|
   .loop <|
    .seq (.seq (.reg (some [0, 3, 4, 5]) [
      ⟨(some 14), none, .mv (.t 5)⟩,
      ⟨(some 15), none, .bin .leq (.t 14) (.c (.sc (.int .i64 4)))⟩]) <|
    .cond (.t 15)
      (.skip)
      (.exit 0)) <|
    .seq (.block 1 <|
     .seq (.reg (some [0, 3, 4, 5]) [
       ⟨(some 18), none, .mv (.t 5)⟩,
       ⟨(some 19), none, .iaA 5 1 (.t 4) (.t 18)⟩,
       ⟨(some 20), none, .ld false 1 (.t 19)⟩,
       ⟨(some 21), none, .mv (.t 5)⟩,
       ⟨(some 22), none, .cv .u64 (.t 21)⟩,
       ⟨(some 23), none, .bin .shr (.c (.sc (.int .i32 64))) (.t 22)⟩,
       ⟨(some 24), none, .bin .mul (.t 23) (.c (.sc (.int .i32 2)))⟩,
       ⟨(some 25), none, .bin .add (.t 20) (.t 24)⟩,
       ⟨(some 6), none, .asg (.t 25) none⟩]) <|
     .seq (.seq (.reg (some [0, 3, 4, 5, 6]) [
       ⟨(some 26), none, .mv (.t 0)⟩,
       ⟨(some 27), none, .lnL (.t 26)⟩,
       ⟨(some 28), none, .mv (.t 5)⟩,
       ⟨(some 29), none, .bin .neq (.t 27) (.t 28)⟩,
       ⟨(some 30), none, .mv (.t 29)⟩,
       ⟨(some 31), some (30, false), .mv (.t 3)⟩,
       ⟨(some 32), some (30, false), .mv (.t 5)⟩,
       ⟨(some 33), some (30, false), .iaA 5 1 (.t 4) (.t 32)⟩,
       ⟨(some 34), some (30, false), .ld false 1 (.t 33)⟩,
       ⟨(some 35), some (30, false), .bin .lss (.t 31) (.t 34)⟩,
       ⟨(some 36), none, .pick (.t 30) (.c (.sc (.bool true))) (.t 35)⟩,
       ⟨(some 37), none, .mv (.t 36)⟩,
       ⟨(some 38), some (37, false), .mv (.t 3)⟩,
       ⟨(some 39), some (37, false), .mv (.t 6)⟩,
       ⟨(some 40), some (37, false), .bin .geq (.t 38) (.t 39)⟩,
       ⟨(some 41), none, .pick (.t 37) (.c (.sc (.bool true))) (.t 40)⟩]) <|
     .cond (.t 41)
       (.exit 1)
       (.skip)) <|
     .seq (.reg (some [0, 3, 4, 5]) [
       ⟨(some 42), none, .mv (.t 3)⟩,
       ⟨(some 43), none, .mv (.t 5)⟩,
       ⟨(some 44), none, .iaA 5 1 (.t 4) (.t 43)⟩,
       ⟨(some 45), none, .ld false 1 (.t 44)⟩,
       ⟨(some 46), none, .bin .sub (.t 42) (.t 45)⟩,
       ⟨(some 7), none, .asg (.t 46) none⟩]) <|
     .seq (.seq (.reg (some [0, 5, 7]) [
       ⟨(some 8), none, .asg (.c (.sc (.int .i64 1))) none⟩]) <|
     .block 2 <|
      .loop <|
       .seq (.seq (.reg (some [0, 5, 7, 8]) [
         ⟨(some 47), none, .mv (.t 8)⟩,
         ⟨(some 48), none, .mv (.t 5)⟩,
         ⟨(some 49), none, .bin .lss (.t 47) (.t 48)⟩]) <|
       .cond (.t 49)
         (.skip)
         (.exit 2)) <|
       .seq (.block 3 <|
        .seq (.seq (.reg (some [0, 5, 7, 8]) [
          ⟨(some 52), none, .mv (.t 0)⟩,
          ⟨(some 53), none, .mv (.t 8)⟩,
          ⟨(some 54), none, .ia 1 (.t 52) (.t 53)⟩,
          ⟨(some 55), none, .ld false 1 (.t 54)⟩,
          ⟨(some 56), none, .bin .lss (.t 55) (.c (.sc (.int .u8 128)))⟩,
          ⟨(some 57), none, .mv (.t 56)⟩,
          ⟨(some 58), some (57, false), .mv (.t 0)⟩,
          ⟨(some 59), some (57, false), .mv (.t 8)⟩,
          ⟨(some 60), some (57, false), .ia 1 (.t 58) (.t 59)⟩,
          ⟨(some 61), some (57, false), .ld false 1 (.t 60)⟩,
          ⟨(some 62), some (57, false), .bin .geq (.t 61) (.c (.sc (.int .u8 192)))⟩,
          ⟨(some 63), none, .pick (.t 57) (.c (.sc (.bool true))) (.t 62)⟩]) <|
        .cond (.t 63)
          (.seq (.reg (some []) [
            ⟨(some 2), none, .asg (.c (.sc (.int .i32 (-1)))) none⟩]) <|
          .ret)
          (.skip)) <|
        .reg (some [0, 5, 7, 8]) [
          ⟨(some 64), none, .mv (.t 7)⟩,
          ⟨(some 65), none, .bin .mul (.c (.sc (.int .i32 64))) (.t 64)⟩,
          ⟨(some 66), none, .mv (.t 0)⟩,
          ⟨(some 67), none, .mv (.t 8)⟩,
          ⟨(some 68), none, .ia 1 (.t 66) (.t 67)⟩,
          ⟨(some 69), none, .ld false 1 (.t 68)⟩,
          ⟨(some 70), none, .cv .i32 (.t 69)⟩,
          ⟨(some 71), none, .bin .add (.t 65) (.t 70)⟩,
          ⟨(some 72), none, .bin .sub (.t 71) (.c (.sc (.int .i32 128)))⟩,
          ⟨(some 7), none, .asg (.t 72) none⟩]) <|
       .reg (some [0, 5, 7, 8]) [
         ⟨(some 50), none, .mv (.t 8)⟩,
         ⟨(some 51), none, .bin .add (.t 50) (.c (.sc (.int .i64 1)))⟩,
         ⟨(some 8), none, .asg (.t 51) none⟩]) <|
     .seq (.reg (some [7]) [
       ⟨(some 73), none, .mv (.t 7)⟩,
       ⟨(some 2), none, .asg (.t 73) none⟩]) <|
     .ret) <|
    .reg (some [0, 3, 4, 5]) [
      ⟨(some 16), none, .mv (.t 5)⟩,
      ⟨(some 17), none, .bin .add (.t 16) (.c (.sc (.int .i64 1)))⟩,
      ⟨(some 5), none, .asg (.t 17) none⟩]) <|
  .seq (.seq (.reg (some [0, 3]) [
    ⟨(some 74), none, .mv (.t 0)⟩,
    ⟨(some 75), none, .lnL (.t 74)⟩,
    ⟨(some 76), none, .bin .eql (.t 75) (.c (.sc (.int .i64 1)))⟩,
    ⟨(some 77), none, .mv (.t 76)⟩,
    ⟨(some 78), some (77, true), .mv (.t 3)⟩,
    ⟨(some 79), some (77, true), .bin .lss (.t 78) (.c (.sc (.int .i32 128)))⟩,
    ⟨(some 80), none, .pick (.t 77) (.t 79) (.c (.sc (.bool false)))⟩]) <|
  .cond (.t 80)
    (.seq (.reg (some [3]) [
      ⟨(some 81), none, .mv (.t 3)⟩,
      ⟨(some 2), none, .asg (.t 81) none⟩]) <|
    .ret)
    (.skip)) <|
  .seq (.reg (some []) [
    ⟨(some 2), none, .asg (.c (.sc (.int .i32 (-1)))) none⟩]) <|
  .ret
theorem ok50 : fnOf Tryd.prog 50 n50 = some ⟨82, [.t 2], c50⟩ := by kernel_rfl
def n51 : List (Nat × List Nat) := [(0, [0]), (1, [0]), (2, []), (3, [0]), (4, []), (5, [])]
/-- unicode/utf8.ValidRune -/
def c51 : RC :=
  .seq (.reg (some [0]) [
    ⟨(some 2), none, .asg (.c (.sc (.bool false))) none⟩]) <|
  .seq (.block 0 <|
   .seq (.reg (some [0]) [
     ⟨(some 4), none, .mv (.t 0)⟩,
     ⟨(some 5), none, .bin .leq (.c (.sc (.int .i32 0))) (.t 4)⟩,
     ⟨(some 6), none, .mv (.t 5)⟩,
     ⟨(some 7), some (6, true), .mv (.t 0)⟩,
     ⟨(some 8), some (6, true), .bin .lss (.t 7) (.c (.sc (.int .i32 55296)))⟩,
     ⟨(some 9), none, .pick (.t 6) (.t 8) (.c (.sc (.bool false)))⟩,
     ⟨(some 3), none, .asg (.t 9) none⟩]) <|
   .cond (.t 3)
     (.seq (.reg (some []) [
       ⟨(some 2), none, .asg (.c (.sc (.bool true))) none⟩]) <|
     .ret)
     (.seq (.reg (some [0]) [
       ⟨(some 11), none, .mv (.t 0)⟩,
       ⟨(some 12), none, .bin .lss (.c (.sc (.int .i32 57343))) (.t 11)⟩,
       ⟨(some 13), none, .mv (.t 12)⟩,
       ⟨(some 14), some (13, true), .mv (.t 0)⟩,
       ⟨(some 15), some (13, true), .bin .leq (.t 14) (.c (.sc (.int .i32 1114111)))⟩,
       ⟨(some 16), none, .pick (.t 13) (.t 15) (.c (.sc (.bool false)))⟩,
       ⟨(some 10), none, .asg (.t 16) none⟩]) <|
     .cond (.t 10)
       (.seq (.reg (some []) [
         ⟨(some 2), none, .asg (.c (.sc (.bool true))) none⟩]) <|
       .ret)
       (.skip))) <|
  .seq (.reg (some []) [
    ⟨(some 2), none, .asg (.c (.sc (.bool false))) none⟩]) <|
  .ret
theorem ok51 : fnOf Tryd.prog 51 n51 = some ⟨17, [.t 2], c51⟩ := by kernel_rfl
def n52 : List (Nat × List Nat) := [(0, [0, 1]), (1, [0, 1, 3]), (2, [0, 1, 3]), (3, [0, 1, 3, 4, 5, 6]), (4, [0, 1, 3, 5])]
/-- mummer/runes.all$1 -/
def c52 : RC :=
  .seq (.reg (some [0, 1]) [
    ⟨(some 3), none, .asg (.c (.sc (.int .i64 0))) none⟩]) <|
  .block 0 <|
   .loop <|
    .seq (.seq (.reg (some [0, 1, 3]) [
      ⟨(some 7), none, .mv (.t 3)⟩,
      ⟨(some 8), none, .ld false 1 (.t 1)⟩,
      ⟨(some 9), none, .lnL (.t 8)⟩,
      ⟨(some 10), none, .bin .lss (.t 7) (.t 9)⟩]) <|
    .cond (.t 10)
      (.skip)
      (.exit 0)) <|
    .block 1 <|
     .seq (.reg (some [0, 1, 3]) [
       ⟨(some 12), none, .ld false 1 (.t 1)⟩,
       ⟨(some 13), none, .mv (.t 3)⟩,
       ⟨(some 14), none, .call (.f 11) [(.t 12), (.t 13)] [[(some 1)], [none]]⟩,
       ⟨(some 11), none, .mv (.t 14)⟩,
       ⟨(some 15), none, .ext (.t 11) 0⟩,
       ⟨(some 16), none, .ext (.t 11) 1⟩,
       ⟨(some 17), none, .ext (.t 11) 2⟩,
       ⟨(some 4), none, .asg (.t 15) none⟩,
       ⟨(some 5), none, .asg (.t 16) none⟩,
       ⟨(some 6), none, .asg (.t 17) none⟩]) <|
     .seq (.seq (.reg (some [0, 1, 3, 4, 5, 6]) [
       ⟨(some 18), none, .mv (.t 6)⟩,
       ⟨(some 19), none, .bin .neq (.t 18) (.c (.sc (.int .i64 0)))⟩,
       ⟨(some 20), none, .mv (.t 19)⟩,
       ⟨(some 21), some (20, false), .mv (.t 0)⟩,
       ⟨(some 22), some (20, false), .mv (.t 3)⟩,
       ⟨(some 23), some (20, false), .mv (.t 4)⟩,
       ⟨(some 24), some (20, false), .call (.t 21) [(.t 22), (.t 23)] [[none], [none]]⟩,
       ⟨(some 25), some (20, false), .not (.t 24)⟩,
       ⟨(some 26), none, .pick (.t 20) (.c (.sc (.bool true))) (.t 25)⟩]) <|
     .cond (.t 26)
       (.ret)
       (.skip)) <|
     .reg (some [0, 1, 3, 5]) [
       ⟨(some 27), none, .mv (.t 3)⟩,
       ⟨(some 28), none, .mv (.t 5)⟩,
       ⟨(some 29), none, .bin .add (.t 27) (.t 28)⟩,
       ⟨(some 3), none, .asg (.t 29) none⟩]
theorem ok52 : fnOf Tryd.prog 52 n52 = some ⟨30, [], c52⟩ := by kernel_rfl
def n53 : List (Nat × List Nat) := [(0, [0, 1]), (1, [0, 1]), (3, [0, 1, 5]), (4, [0, 1]), (5, [0, 1, 5]), (6, [0, 1, 5]), (7, [0, 1]), (8, [0, 1, 5]), (9, [0, 1]), (2, [0])]
/-- unicode/utf8.appendRuneNonASCII -/
def c53 : RC :=
  .seq (.reg (some [0, 1]) [
    ⟨(some 4), none, .asg (.c .nil) (some 1)⟩]) <|
  .seq (.reg (some [0, 1]) [
    ⟨(some 6), none, .mv (.t 1)⟩,
    ⟨(some 7), none, .cv .u32 (.t 6)⟩,
    ⟨(some 5), none, .asg (.t 7) none⟩]) <|
  .block 0 <|
   .seq (.reg (some [0, 1, 5]) [
     ⟨(some 12), none, .mv (.t 5)⟩,
     ⟨(some 13), none, .bin .leq (.t 12) (.c (.sc (.int .u32 2047)))⟩,
     ⟨(some 11), none, .asg (.t 13) none⟩]) <|
   .cond (.t 11)
     (.seq (.reg (some [0, 1]) [
       ⟨(some 14), none, .mv (.t 0)⟩,
       ⟨(some 15), none, .mv (.t 1)⟩,
       ⟨(some 16), none, .bin .shr (.t 15) (.c (.sc (.int .u64 6)))⟩,
       ⟨(some 17), none, .cv .u8 (.t 16)⟩,
       ⟨(some 18), none, .bin .or (.c (.sc (.int .u8 192))) (.t 17)⟩,
       ⟨(some 19), none, .mv (.t 1)⟩,
       ⟨(some 20), none, .cv .u8 (.t 19)⟩,
       ⟨(some 21), none, .bin .and (.t 20) (.c (.sc (.int .u8 63)))⟩,
       ⟨(some 22), none, .bin .or (.c (.sc (.int .u8 128))) (.t 21)⟩,
       ⟨(some 23), none, .bsl 1 [none] [(.t 18), (.t 22)]⟩,
       ⟨(some 24), none, .app 1 1 (.t 14) (.t 23)⟩,
       ⟨(some 4), none, .asg (.t 24) (some 1)⟩]) <|
     .ret)
     (.seq (.seq (.reg (some [0, 1, 5]) [
       ⟨(some 26), none, .mv (.t 5)⟩,
       ⟨(some 27), none, .bin .lss (.t 26) (.c (.sc (.int .u32 55296)))⟩,
       ⟨(some 25), none, .asg (.t 27) none⟩]) <|
     .cond (.t 25)
       (.skip)
       (.reg (some [0, 1, 5]) [
         ⟨(some 28), none, .mv (.t 5)⟩,
         ⟨(some 29), none, .bin .lss (.c (.sc (.int .u32 57343))) (.t 28)⟩,
         ⟨(some 30), none, .mv (.t 29)⟩,
         ⟨(some 31), some (30, true), .mv (.t 5)⟩,
         ⟨(some 32), some (30, true), .bin .leq (.t 31) (.c (.sc (.int .u32 65535)))⟩,
         ⟨(some 33), none, .pick (.t 30) (.t 32) (.c (.sc (.bool false)))⟩,
         ⟨(some 25), none, .asg (.t 33) none⟩])) <|
     .cond (.t 25)
       (.seq (.reg (some [0, 1]) [
         ⟨(some 34), none, .mv (.t 0)⟩,
         ⟨(some 35), none, .mv (.t 1)⟩,
         ⟨(some 36), none, .bin .shr (.t 35) (.c (.sc (.int .u64 12)))⟩,
         ⟨(some 37), none, .cv .u8 (.t 36)⟩,
         ⟨(some 38), none, .bin .or (.c (.sc (.int .u8 224))) (.t 37)⟩,
         ⟨(some 39), none, .mv (.t 1)⟩,
         ⟨(some 40), none, .bin .shr (.t 39) (.c (.sc (.int .u64 6)))⟩,
         ⟨(some 41), none, .cv .u8 (.t 40)⟩,
         ⟨(some 42), none, .bin .and (.t 41) (.c (.sc (.int .u8 63)))⟩,
         ⟨(some 43), none, .bin .or (.c (.sc (.int .u8 128))) (.t 42)⟩,
         ⟨(some 44), none, .mv (.t 1)⟩,
         ⟨(some 45), none, .cv .u8 (.t 44)⟩,
         ⟨(some 46), none, .bin .and (.t 45) (.c (.sc (.int .u8 63)))⟩,
         ⟨(some 47), none, .bin .or (.c (.sc (.int .u8 128))) (.t 46)⟩,
         ⟨(some 48), none, .bsl 1 [none] [(.t 38), (.t 43), (.t 47)]⟩,
         ⟨(some 49), none, .app 1 1 (.t 34) (.t 48)⟩,
         ⟨(some 4), none, .asg (.t 49) (some 1)⟩]) <|
       .ret)
       (.seq (.reg (some [0, 1, 5]) [
         ⟨(some 51), none, .mv (.t 5)⟩,
         ⟨(some 52), none, .bin .gtr (.t 51) (.c (.sc (.int .u32 65535)))⟩,
         ⟨(some 53), none, .mv (.t 52)⟩,
         ⟨(some 54), some (53, true), .mv (.t 5)⟩,
         ⟨(some 55), some (53, true), .bin .leq (.t 54) (.c (.sc (.int .u32 1114111)))⟩,
         ⟨(some 56), none, .pick (.t 53) (.t 55) (.c (.sc (.bool false)))⟩,
         ⟨(some 50), none, .asg (.t 56) none⟩]) <|
       .cond (.t 50)
         (.seq (.reg (some [0, 1]) [
           ⟨(some 57), none, .mv (.t 0)⟩,
           ⟨(some 58), none, .mv (.t 1)⟩,
           ⟨(some 59), none, .bin .shr (.t 58) (.c (.sc (.int .u64 18)))⟩,
           ⟨(some 60), none, .cv .u8 (.t 59)⟩,
           ⟨(some 61), none, .bin .or (.c (.sc (.int .u8 240))) (.t 60)⟩,
           ⟨(some 62), none, .mv (.t 1)⟩,
           ⟨(some 63), none, .bin .shr (.t 62) (.c (.sc (.int .u64 12)))⟩,
           ⟨(some 64), none, .cv .u8 (.t 63)⟩,
           ⟨(some 65), none, .bin .and (.t 64) (.c (.sc (.int .u8 63)))⟩,
           ⟨(some 66), none, .bin .or (.c (.sc (.int .u8 128))) (.t 65)⟩,
           ⟨(some 67), none, .mv (.t 1)⟩,
           ⟨(some 68), none, .bin .shr (.t 67) (.c (.sc (.int .u64 6)))⟩,
           ⟨(some 69), none, .cv .u8 (.t 68)⟩,
           ⟨(some 70), none, .bin .and (.t 69) (.c (.sc (.int .u8 63)))⟩,
           ⟨(some 71), none, .bin .or (.c (.sc (.int .u8 128))) (.t 70)⟩,
           ⟨(some 72), none, .mv (.t 1)⟩,
           ⟨(some 73), none, .cv .u8 (.t 72)⟩,
           ⟨(some 74), none, .bin .and (.t 73) (.c (.sc (.int .u8 63)))⟩,
           ⟨(some 75), none, .bin .or (.c (.sc (.int .u8 128))) (.t 74)⟩,
           ⟨(some 76), none, .bsl 1 [none] [(.t 61), (.t 66), (.t 71), (.t 75)]⟩,
           ⟨(some 77), none, .app 1 1 (.t 57) (.t 76)⟩,
           ⟨(some 4), none, .asg (.t 77) (some 1)⟩]) <|
         .ret)
         (.seq (.reg (some [0]) [
           ⟨(some 8), none, .mv (.t 0)⟩,
           ⟨(some 9), none, .bsl 1 [none] [(.c (.sc (.int .u8 239))), (.c (.sc (.int .u8 191))), (.c (.sc (.int .u8 189)))]⟩,
           ⟨(some 10), none, .app 1 1 (.t 8) (.t 9)⟩,
           ⟨(some 4), none, .asg (.t 10) (some 1)⟩]) <|
         .ret)))
theorem ok53 : fnOf Tryd.prog 53 n53 = some ⟨78, [.t 4], c53⟩ := by kernel_rfl
def n74 : List (Nat × List Nat) := [(0, [])]
/-- gosem.cut.vars -/
def c74 : RC :=
  .reg (some []) [
    ⟨(some 0), none, .bld [((0, 1), (.c (.sc (.int .u8 128)))), ((1, 1), (.c (.sc (.int .u8 191))))] [(.sc (.int .u8 0)), (.sc (.int .u8 0))]⟩,
    ⟨(some 1), none, .bld [((0, 1), (.c (.sc (.int .u8 160)))), ((1, 1), (.c (.sc (.int .u8 191))))] [(.sc (.int .u8 0)), (.sc (.int .u8 0))]⟩,
    ⟨(some 2), none, .bld [((0, 1), (.c (.sc (.int .u8 128)))), ((1, 1), (.c (.sc (.int .u8 159))))] [(.sc (.int .u8 0)), (.sc (.int .u8 0))]⟩,
    ⟨(some 3), none, .bld [((0, 1), (.c (.sc (.int .u8 144)))), ((1, 1), (.c (.sc (.int .u8 191))))] [(.sc (.int .u8 0)), (.sc (.int .u8 0))]⟩,
    ⟨(some 4), none, .bld [((0, 1), (.c (.sc (.int .u8 128)))), ((1, 1), (.c (.sc (.int .u8 143))))] [(.sc (.int .u8 0)), (.sc (.int .u8 0))]⟩,
    ⟨(some 5), none, .bld [((0, 2), (.t 0)), ((2, 2), (.t 1)), ((4, 2), (.t 2)), ((6, 2), (.t 3)), ((8, 2), (.t 4))] [(.sc (.int .u8 0)), (.sc (.int .u8 0)), (.sc (.int .u8 0)), (.sc (.int .u8 0)), (.sc (.int .u8 0)), (.sc (.int .u8 0)), (.sc (.int .u8 0)), (.sc (.int .u8 0)), (.sc (.int .u8 0)), (.sc (.int .u8 0)), (.sc (.int .u8 0)), (.sc (.int .u8 0)), (.sc (.int .u8 0)), (.sc (.int .u8 0)), (.sc (.int .u8 0)), (.sc (.int .u8 0)), (.sc (.int .u8 0)), (.sc (.int .u8 0)), (.sc (.int .u8 0)), (.sc (.int .u8 0)), (.sc (.int .u8 0)), (.sc (.int .u8 0)), (.sc (.int .u8 0)), (.sc (.int .u8 0)), (.sc (.int .u8 0)), (.sc (.int .u8 0)), (.sc (.int .u8 0)), (.sc (.int .u8 0)), (.sc (.int .u8 0)), (.sc (.int .u8 0)), (.sc (.int .u8 0)), (.sc (.int .u8 0))]⟩,
    ⟨none, none, .st 32 [none, none, none, none, none, none, none, none, none, none, none, none, none, none, none, none, none, none, none, none, none, none, none, none, none, none, none, none, none, none, none, none] (.g 1) (.t 5)⟩]
theorem ok74 : fnOf Tryd.prog 74 n74 = some ⟨6, [], c74⟩ := by kernel_rfl
end Go.Ab.C2
end
