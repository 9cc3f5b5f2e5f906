/-
  The program's code, abstractly: printed by a program of ours out of the functions' print.
-/
import Derived.Test.YthbekoofiienjaaDoorAbKRun
namespace Go.Ab

/-- wishbook/wishbooklaw09.ClaimTruths -/
def a3 : F := ⟨[.tmp 6],
 (.seq (.ops [
  ⟨(some 3), .box (.t 0), none⟩,
  ⟨(some 4), .box (.t 1), none⟩,
  ⟨(some 6), .mv (.c (.bool false)), none⟩])
 (.seq (.ops [
  ⟨(some 13), .load 6 true (.t 3), none⟩,
  ⟨(some 14), .iarr 2 1 (.t 4) (.c (.int .i64 0)), none⟩,
  ⟨(some 15), .load 1 false (.t 14), none⟩,
  ⟨(some 16), .iarr 2 1 (.t 4) (.c (.int .i64 1)), none⟩,
  ⟨(some 17), .load 1 false (.t 16), none⟩,
  ⟨(some 18), .pcall (.f 13) [(.t 13), (.t 15), (.t 17)], none⟩,
  ⟨(some 12), .mv (.t 18), none⟩,
  ⟨(some 19), .ext (.t 12) 0, none⟩,
  ⟨(some 20), .ext (.t 12) 1, none⟩,
  ⟨(some 7), .mv (.t 19), none⟩,
  ⟨(some 8), .mv (.t 20), none⟩])
 (.seq (.ops [
  ⟨(some 22), .load 6 true (.t 3), none⟩,
  ⟨(some 23), .iarr 2 1 (.t 4) (.c (.int .i64 0)), none⟩,
  ⟨(some 24), .load 1 false (.t 23), none⟩,
  ⟨(some 25), .iarr 2 1 (.t 4) (.c (.int .i64 1)), none⟩,
  ⟨(some 26), .load 1 false (.t 25), none⟩,
  ⟨(some 27), .pcall (.f 14) [(.t 22), (.t 24), (.t 26)], none⟩,
  ⟨(some 21), .mv (.t 27), none⟩,
  ⟨(some 28), .ext (.t 21) 0, none⟩,
  ⟨(some 29), .ext (.t 21) 1, none⟩,
  ⟨(some 9), .mv (.t 28), none⟩,
  ⟨(some 10), .mv (.t 29), none⟩])
 (.seq (.seq (.ops [
  ⟨(some 30), .mv (.t 7), none⟩,
  ⟨(some 31), .mv (.t 9), none⟩,
  ⟨(some 32), .eq true (.s .bool) (.t 30) (.t 31), none⟩,
  ⟨(some 33), .mv (.t 32), none⟩,
  ⟨(some 34), .mv (.t 8), (some (33, false))⟩,
  ⟨(some 35), .mv (.t 10), (some (33, false))⟩,
  ⟨(some 36), .bin .neq (.t 34) (.t 35), (some (33, false))⟩,
  ⟨(some 37), .pick (.t 33) (.c (.bool true)) (.t 36), none⟩,
  ⟨(some 38), .mv (.t 37), none⟩,
  ⟨(some 39), .load 6 true (.t 3), (some (38, false))⟩,
  ⟨(some 40), .pcall (.f 15) [(.t 39)], (some (38, false))⟩,
  ⟨(some 41), .load 6 true (.t 3), (some (38, false))⟩,
  ⟨(some 42), .pcall (.f 16) [(.t 41)], (some (38, false))⟩,
  ⟨(some 43), .bin .neq (.t 40) (.t 42), (some (38, false))⟩,
  ⟨(some 44), .pick (.t 38) (.c (.bool true)) (.t 43), none⟩])
 (.cond (.t 44)
  (.seq (.ops [
  ⟨(some 6), .mv (.c (.bool false)), none⟩])
 .ret)
  .skip))
 (.seq (.ops [
  ⟨(some 46), .load 6 true (.t 3), none⟩,
  ⟨(some 47), .mv (.t 2), none⟩,
  ⟨(some 48), .pcall (.f 17) [(.t 46), (.t 47)], none⟩,
  ⟨(some 45), .mv (.t 48), none⟩,
  ⟨(some 49), .ext (.t 45) 0, none⟩,
  ⟨(some 50), .ext (.t 45) 1, none⟩,
  ⟨(some 7), .mv (.t 49), none⟩,
  ⟨(some 8), .mv (.t 50), none⟩])
 (.seq (.ops [
  ⟨(some 52), .load 6 true (.t 3), none⟩,
  ⟨(some 53), .mv (.t 2), none⟩,
  ⟨(some 54), .pcall (.f 18) [(.t 52), (.t 53)], none⟩,
  ⟨(some 51), .mv (.t 54), none⟩,
  ⟨(some 55), .ext (.t 51) 0, none⟩,
  ⟨(some 56), .ext (.t 51) 1, none⟩,
  ⟨(some 9), .mv (.t 55), none⟩,
  ⟨(some 10), .mv (.t 56), none⟩])
 (.seq (.seq (.ops [
  ⟨(some 57), .mv (.t 7), none⟩,
  ⟨(some 58), .mv (.t 9), none⟩,
  ⟨(some 59), .eq true (.s .bool) (.t 57) (.t 58), none⟩,
  ⟨(some 60), .mv (.t 59), none⟩,
  ⟨(some 61), .mv (.t 8), (some (60, false))⟩,
  ⟨(some 62), .mv (.t 10), (some (60, false))⟩,
  ⟨(some 63), .bin .neq (.t 61) (.t 62), (some (60, false))⟩,
  ⟨(some 64), .pick (.t 60) (.c (.bool true)) (.t 63), none⟩])
 (.cond (.t 64)
  (.seq (.ops [
  ⟨(some 6), .mv (.c (.bool false)), none⟩])
 .ret)
  .skip))
 (.seq (.ops [
  ⟨(some 66), .load 6 true (.t 3), none⟩,
  ⟨(some 67), .pcall (.f 19) [(.t 66)], none⟩,
  ⟨(some 65), .mv (.t 67), none⟩,
  ⟨(some 68), .ext (.t 65) 0, none⟩,
  ⟨(some 69), .ext (.t 65) 1, none⟩,
  ⟨(some 11), .mv (.t 68), none⟩,
  ⟨(some 8), .mv (.t 69), none⟩])
 (.seq (.ops [
  ⟨(some 70), .load 6 true (.t 3), none⟩,
  ⟨(some 71), .pcall (.f 20) [(.t 70)], none⟩,
  ⟨(some 10), .mv (.t 71), none⟩])
 (.seq (.seq (.ops [
  ⟨(some 72), .mv (.t 8), none⟩,
  ⟨(some 73), .mv (.t 10), none⟩,
  ⟨(some 74), .bin .neq (.t 72) (.t 73), none⟩])
 (.cond (.t 74)
  (.seq (.ops [
  ⟨(some 6), .mv (.c (.bool false)), none⟩])
 .ret)
  .skip))
 (.seq (.seq (.ops [
  ⟨(some 75), .mv (.t 10), none⟩,
  ⟨(some 76), .bin .neq (.t 75) (.c (.int .i64 0)), none⟩])
 (.cond (.t 76)
  (.seq (.ops [
  ⟨(some 77), .mv (.t 11), none⟩,
  ⟨(some 78), .len (.t 77), none⟩,
  ⟨(some 79), .bin .eql (.t 78) (.c (.int .i64 0)), none⟩,
  ⟨(some 80), .mv (.t 79), none⟩,
  ⟨(some 81), .pcall (.f 21) [], (some (80, true))⟩,
  ⟨(some 82), .pick (.t 80) (.t 81) (.c (.bool false)), none⟩,
  ⟨(some 6), .mv (.t 82), none⟩])
 .ret)
  .skip))
 (.seq (.ops [
  ⟨(some 84), .load 6 true (.t 3), none⟩,
  ⟨(some 85), .mv (.t 11), none⟩,
  ⟨(some 86), .pcall (.f 18) [(.t 84), (.t 85)], none⟩,
  ⟨(some 83), .mv (.t 86), none⟩,
  ⟨(some 87), .ext (.t 83) 0, none⟩,
  ⟨(some 88), .ext (.t 83) 1, none⟩,
  ⟨(some 7), .mv (.t 87), none⟩])
 (.seq (.ops [
  ⟨(some 89), .mv (.t 7), none⟩,
  ⟨(some 90), .mv (.t 89), none⟩,
  ⟨(some 91), .pcall (.f 21) [], (some (90, true))⟩,
  ⟨(some 92), .pick (.t 90) (.t 91) (.c (.bool false)), none⟩,
  ⟨(some 6), .mv (.t 92), none⟩])
 .ret))))))))))))), false, 3⟩

/-- wishbook/wishbooklaw09.ClaimBoxes -/
def a4 : F := ⟨[.tmp 4],
 (.seq (.ops [
  ⟨(some 2), .box (.t 0), none⟩,
  ⟨(some 4), .mv (.c (.bool false)), none⟩])
 (.seq (.ops [
  ⟨(some 12), .load 6 true (.t 2), none⟩,
  ⟨(some 13), .mv (.t 1), none⟩,
  ⟨(some 14), .pcall (.f 22) [(.t 12), (.t 13)], none⟩,
  ⟨(some 11), .mv (.t 14), none⟩,
  ⟨(some 15), .ext (.t 11) 0, none⟩,
  ⟨(some 16), .ext (.t 11) 1, none⟩,
  ⟨(some 5), .mv (.t 15), none⟩,
  ⟨(some 6), .mv (.t 16), none⟩])
 (.seq (.ops [
  ⟨(some 18), .load 6 true (.t 2), none⟩,
  ⟨(some 19), .mv (.t 1), none⟩,
  ⟨(some 20), .pcall (.f 23) [(.t 18), (.t 19)], none⟩,
  ⟨(some 17), .mv (.t 20), none⟩,
  ⟨(some 21), .ext (.t 17) 0, none⟩,
  ⟨(some 22), .ext (.t 17) 1, none⟩,
  ⟨(some 7), .mv (.t 21), none⟩,
  ⟨(some 8), .mv (.t 22), none⟩])
 (.seq (.seq (.ops [
  ⟨(some 23), .mv (.t 5), none⟩,
  ⟨(some 24), .mv (.t 7), none⟩,
  ⟨(some 25), .pcall (.f 24) [(.t 23), (.t 24)], none⟩,
  ⟨(some 26), .not (.t 25), none⟩,
  ⟨(some 27), .mv (.t 26), none⟩,
  ⟨(some 28), .mv (.t 6), (some (27, false))⟩,
  ⟨(some 29), .mv (.t 8), (some (27, false))⟩,
  ⟨(some 30), .bin .neq (.t 28) (.t 29), (some (27, false))⟩,
  ⟨(some 31), .pick (.t 27) (.c (.bool true)) (.t 30), none⟩])
 (.cond (.t 31)
  (.seq (.ops [
  ⟨(some 4), .mv (.c (.bool false)), none⟩])
 .ret)
  .skip))
 (.seq (.ops [
  ⟨(some 33), .load 6 true (.t 2), none⟩,
  ⟨(some 34), .mv (.t 1), none⟩,
  ⟨(some 35), .pcall (.f 25) [(.t 33), (.t 34)], none⟩,
  ⟨(some 32), .mv (.t 35), none⟩,
  ⟨(some 36), .ext (.t 32) 0, none⟩,
  ⟨(some 37), .ext (.t 32) 1, none⟩,
  ⟨(some 9), .mv (.t 36), none⟩,
  ⟨(some 6), .mv (.t 37), none⟩])
 (.seq (.ops [
  ⟨(some 39), .load 6 true (.t 2), none⟩,
  ⟨(some 40), .mv (.t 1), none⟩,
  ⟨(some 41), .pcall (.f 26) [(.t 39), (.t 40)], none⟩,
  ⟨(some 38), .mv (.t 41), none⟩,
  ⟨(some 42), .ext (.t 38) 0, none⟩,
  ⟨(some 43), .ext (.t 38) 1, none⟩,
  ⟨(some 10), .mv (.t 42), none⟩,
  ⟨(some 8), .mv (.t 43), none⟩])
 (.seq (.ops [
  ⟨(some 44), .mv (.t 9), none⟩,
  ⟨(some 45), .mv (.t 10), none⟩,
  ⟨(some 46), .bin .eql (.t 44) (.t 45), none⟩,
  ⟨(some 47), .mv (.t 46), none⟩,
  ⟨(some 48), .mv (.t 6), (some (47, true))⟩,
  ⟨(some 49), .mv (.t 8), (some (47, true))⟩,
  ⟨(some 50), .bin .eql (.t 48) (.t 49), (some (47, true))⟩,
  ⟨(some 51), .pick (.t 47) (.t 50) (.c (.bool false)), none⟩,
  ⟨(some 52), .mv (.t 51), none⟩,
  ⟨(some 53), .pcall (.f 21) [], (some (52, true))⟩,
  ⟨(some 54), .pick (.t 52) (.t 53) (.c (.bool false)), none⟩,
  ⟨(some 4), .mv (.t 54), none⟩])
 .ret))))))), false, 2⟩

/-- wishbook/wishbooklaw09.ClaimBacks -/
def a5 : F := ⟨[.tmp 2],
 (.seq (.ops [
  ⟨(some 1), .box (.t 0), none⟩,
  ⟨(some 2), .mv (.c (.bool false)), none⟩])
 (.seq (.ops [
  ⟨(some 12), .load 6 true (.t 1), none⟩,
  ⟨(some 13), .pcall (.f 27) [(.t 12)], none⟩,
  ⟨(some 11), .mv (.t 13), none⟩,
  ⟨(some 14), .ext (.t 11) 0, none⟩,
  ⟨(some 15), .ext (.t 11) 1, none⟩,
  ⟨(some 16), .ext (.t 11) 2, none⟩,
  ⟨(some 3), .mv (.t 14), none⟩,
  ⟨(some 4), .mv (.t 15), none⟩,
  ⟨(some 5), .mv (.t 16), none⟩])
 (.seq (.ops [
  ⟨(some 18), .load 6 true (.t 1), none⟩,
  ⟨(some 19), .pcall (.f 28) [(.t 18)], none⟩,
  ⟨(some 17), .mv (.t 19), none⟩,
  ⟨(some 20), .ext (.t 17) 0, none⟩,
  ⟨(some 21), .ext (.t 17) 1, none⟩,
  ⟨(some 22), .ext (.t 17) 2, none⟩,
  ⟨(some 6), .mv (.t 20), none⟩,
  ⟨(some 7), .mv (.t 21), none⟩,
  ⟨(some 8), .mv (.t 22), none⟩])
 (.seq (.seq (.ops [
  ⟨(some 23), .mv (.t 3), none⟩,
  ⟨(some 24), .mv (.t 6), none⟩,
  ⟨(some 25), .pcall (.f 24) [(.t 23), (.t 24)], none⟩,
  ⟨(some 26), .not (.t 25), none⟩,
  ⟨(some 27), .mv (.t 26), none⟩,
  ⟨(some 28), .mv (.t 4), (some (27, false))⟩,
  ⟨(some 29), .mv (.t 7), (some (27, false))⟩,
  ⟨(some 30), .pcall (.f 24) [(.t 28), (.t 29)], (some (27, false))⟩,
  ⟨(some 31), .not (.t 30), (some (27, false))⟩,
  ⟨(some 32), .pick (.t 27) (.c (.bool true)) (.t 31), none⟩,
  ⟨(some 33), .mv (.t 32), none⟩,
  ⟨(some 34), .mv (.t 5), (some (33, false))⟩,
  ⟨(some 35), .mv (.t 8), (some (33, false))⟩,
  ⟨(some 36), .bin .neq (.t 34) (.t 35), (some (33, false))⟩,
  ⟨(some 37), .pick (.t 33) (.c (.bool true)) (.t 36), none⟩])
 (.cond (.t 37)
  (.seq (.ops [
  ⟨(some 2), .mv (.c (.bool false)), none⟩])
 .ret)
  .skip))
 (.seq (.ops [
  ⟨(some 39), .load 6 true (.t 1), none⟩,
  ⟨(some 40), .pcall (.f 29) [(.t 39)], none⟩,
  ⟨(some 38), .mv (.t 40), none⟩,
  ⟨(some 41), .ext (.t 38) 0, none⟩,
  ⟨(some 42), .ext (.t 38) 1, none⟩,
  ⟨(some 9), .alloc [(.int .i64 0), (.int .i64 0)], none⟩,
  ⟨none, .store 2 (.t 9) (.t 41), none⟩,
  ⟨(some 5), .mv (.t 42), none⟩])
 (.seq (.ops [
  ⟨(some 44), .load 6 true (.t 1), none⟩,
  ⟨(some 45), .pcall (.f 30) [(.t 44)], none⟩,
  ⟨(some 43), .mv (.t 45), none⟩,
  ⟨(some 46), .ext (.t 43) 0, none⟩,
  ⟨(some 47), .ext (.t 43) 1, none⟩,
  ⟨(some 10), .alloc [(.int .i64 0), (.int .i64 0)], none⟩,
  ⟨none, .store 2 (.t 10) (.t 46), none⟩,
  ⟨(some 8), .mv (.t 47), none⟩])
 (.seq (.ops [
  ⟨(some 48), .load 2 true (.t 9), none⟩,
  ⟨(some 49), .load 2 true (.t 10), none⟩,
  ⟨(some 50), .eq false (.agg [.int, .int]) (.t 48) (.t 49), none⟩,
  ⟨(some 51), .mv (.t 50), none⟩,
  ⟨(some 52), .mv (.t 5), (some (51, true))⟩,
  ⟨(some 53), .mv (.t 8), (some (51, true))⟩,
  ⟨(some 54), .bin .eql (.t 52) (.t 53), (some (51, true))⟩,
  ⟨(some 55), .pick (.t 51) (.t 54) (.c (.bool false)), none⟩,
  ⟨(some 56), .mv (.t 55), none⟩,
  ⟨(some 57), .pcall (.f 21) [], (some (56, true))⟩,
  ⟨(some 58), .pick (.t 56) (.t 57) (.c (.bool false)), none⟩,
  ⟨(some 2), .mv (.t 58), none⟩])
 .ret))))))), false, 1⟩

/-- wishbook/wishbooklaw09.ClaimWrongs -/
def a6 : F := ⟨[.tmp 2],
 (.seq (.ops [
  ⟨(some 1), .box (.t 0), none⟩,
  ⟨(some 2), .mv (.c (.bool false)), none⟩])
 (.seq (.ops [
  ⟨(some 10), .load 6 true (.t 1), none⟩,
  ⟨(some 11), .pcall (.f 31) [(.t 10)], none⟩,
  ⟨(some 9), .mv (.t 11), none⟩,
  ⟨(some 12), .ext (.t 9) 0, none⟩,
  ⟨(some 13), .ext (.t 9) 1, none⟩,
  ⟨(some 3), .mv (.t 12), none⟩,
  ⟨(some 4), .mv (.t 13), none⟩])
 (.seq (.ops [
  ⟨(some 15), .load 6 true (.t 1), none⟩,
  ⟨(some 16), .pcall (.f 32) [(.t 15)], none⟩,
  ⟨(some 14), .mv (.t 16), none⟩,
  ⟨(some 17), .ext (.t 14) 0, none⟩,
  ⟨(some 18), .ext (.t 14) 1, none⟩,
  ⟨(some 5), .mv (.t 17), none⟩,
  ⟨(some 6), .mv (.t 18), none⟩])
 (.seq (.seq (.ops [
  ⟨(some 19), .mv (.t 3), none⟩,
  ⟨(some 20), .mv (.t 5), none⟩,
  ⟨(some 21), .bin .neq (.t 19) (.t 20), none⟩,
  ⟨(some 22), .mv (.t 21), none⟩,
  ⟨(some 23), .mv (.t 4), (some (22, false))⟩,
  ⟨(some 24), .mv (.t 6), (some (22, false))⟩,
  ⟨(some 25), .bin .neq (.t 23) (.t 24), (some (22, false))⟩,
  ⟨(some 26), .pick (.t 22) (.c (.bool true)) (.t 25), none⟩])
 (.cond (.t 26)
  (.seq (.ops [
  ⟨(some 2), .mv (.c (.bool false)), none⟩])
 .ret)
  .skip))
 (.seq (.ops [
  ⟨(some 28), .load 6 true (.t 1), none⟩,
  ⟨(some 29), .pcall (.f 33) [(.t 28)], none⟩,
  ⟨(some 27), .mv (.t 29), none⟩,
  ⟨(some 30), .ext (.t 27) 0, none⟩,
  ⟨(some 31), .ext (.t 27) 1, none⟩,
  ⟨(some 7), .mv (.t 30), none⟩,
  ⟨(some 4), .mv (.t 31), none⟩])
 (.seq (.ops [
  ⟨(some 33), .load 6 true (.t 1), none⟩,
  ⟨(some 34), .pcall (.f 34) [(.t 33)], none⟩,
  ⟨(some 32), .mv (.t 34), none⟩,
  ⟨(some 35), .ext (.t 32) 0, none⟩,
  ⟨(some 36), .ext (.t 32) 1, none⟩,
  ⟨(some 8), .mv (.t 35), none⟩,
  ⟨(some 6), .mv (.t 36), none⟩])
 (.seq (.ops [
  ⟨(some 37), .mv (.t 7), none⟩,
  ⟨(some 38), .mv (.t 8), none⟩,
  ⟨(some 39), .pcall (.f 24) [(.t 37), (.t 38)], none⟩,
  ⟨(some 40), .mv (.t 39), none⟩,
  ⟨(some 41), .mv (.t 4), (some (40, true))⟩,
  ⟨(some 42), .mv (.t 6), (some (40, true))⟩,
  ⟨(some 43), .bin .eql (.t 41) (.t 42), (some (40, true))⟩,
  ⟨(some 44), .pick (.t 40) (.t 43) (.c (.bool false)), none⟩,
  ⟨(some 45), .mv (.t 44), none⟩,
  ⟨(some 46), .pcall (.f 21) [], (some (45, true))⟩,
  ⟨(some 47), .pick (.t 45) (.t 46) (.c (.bool false)), none⟩,
  ⟨(some 2), .mv (.t 47), none⟩])
 .ret))))))), false, 1⟩

def a7_L1 : C := (.seq (.seq (.ops [
  ⟨(some 81), .mv (.t 18), none⟩,
  ⟨(some 82), .mv (.t 6), none⟩,
  ⟨(some 83), .len (.t 82), none⟩,
  ⟨(some 84), .bin .lss (.t 81) (.t 83), none⟩])
 (.cond (.t 84)
  .skip
  (.exit 0)))
 (.seq (.block 1
  (.seq (.ops [
  ⟨(some 88), .load 6 true (.t 5), none⟩,
  ⟨(some 89), .mv (.t 18), none⟩,
  ⟨(some 90), .pcall (.f 22) [(.t 88), (.t 89)], none⟩,
  ⟨(some 87), .mv (.t 90), none⟩,
  ⟨(some 91), .ext (.t 87) 0, none⟩,
  ⟨(some 92), .ext (.t 87) 1, none⟩,
  ⟨(some 19), .mv (.t 91), none⟩,
  ⟨(some 20), .mv (.t 92), none⟩])
 (.seq (.ops [
  ⟨(some 94), .load 6 true (.t 5), none⟩,
  ⟨(some 95), .mv (.t 18), none⟩,
  ⟨(some 96), .pcall (.f 25) [(.t 94), (.t 95)], none⟩,
  ⟨(some 93), .mv (.t 96), none⟩,
  ⟨(some 97), .ext (.t 93) 0, none⟩,
  ⟨(some 98), .ext (.t 93) 1, none⟩,
  ⟨(some 21), .mv (.t 97), none⟩,
  ⟨(some 22), .mv (.t 98), none⟩])
 (.seq (.seq (.ops [
  ⟨(some 99), .mv (.t 20), none⟩,
  ⟨(some 100), .bin .neq (.t 99) (.c (.int .i64 0)), none⟩,
  ⟨(some 101), .mv (.t 100), none⟩,
  ⟨(some 102), .mv (.t 22), (some (101, false))⟩,
  ⟨(some 103), .bin .neq (.t 102) (.c (.int .i64 0)), (some (101, false))⟩,
  ⟨(some 104), .pick (.t 101) (.c (.bool true)) (.t 103), none⟩,
  ⟨(some 105), .mv (.t 104), none⟩,
  ⟨(some 106), .mv (.t 19), (some (105, false))⟩,
  ⟨(some 107), .fad 4 (.t 5), (some (105, false))⟩,
  ⟨(some 108), .load 1 false (.t 107), (some (105, false))⟩,
  ⟨(some 109), .len (.t 108), (some (105, false))⟩,
  ⟨(some 110), .pcall (.f 37) [(.t 106), (.t 109)], (some (105, false))⟩,
  ⟨(some 111), .not (.t 110), (some (105, false))⟩,
  ⟨(some 112), .pick (.t 105) (.c (.bool true)) (.t 111), none⟩,
  ⟨(some 113), .mv (.t 112), none⟩,
  ⟨(some 114), .mv (.t 21), (some (113, false))⟩,
  ⟨(some 115), .pcall (.f 38) [(.t 114), (.c (.int .i64 0)), (.c (.int .i64 2))], (some (113, false))⟩,
  ⟨(some 116), .not (.t 115), (some (113, false))⟩,
  ⟨(some 117), .pick (.t 113) (.c (.bool true)) (.t 116), none⟩])
 (.cond (.t 117)
  (.seq (.ops [
  ⟨(some 4), .mv (.c (.bool false)), none⟩])
 .ret)
  .skip))
 (.seq (.seq (.ops [
  ⟨(some 118), .mv (.t 6), none⟩,
  ⟨(some 119), .mv (.t 18), none⟩,
  ⟨(some 120), .iad 1 (.t 118) (.t 119), none⟩,
  ⟨(some 121), .load 1 false (.t 120), none⟩,
  ⟨(some 122), .bin .lss (.t 121) (.c (.int .i64 0)), none⟩])
 (.cond (.t 122)
  (.seq (.seq (.ops [
  ⟨(some 123), .mv (.t 21), none⟩,
  ⟨(some 124), .bin .eql (.t 123) (.c (.int .i64 1)), none⟩])
 (.cond (.t 124)
  (.seq (.ops [
  ⟨(some 4), .mv (.c (.bool false)), none⟩])
 .ret)
  .skip))
 (.exit 1))
  .skip))
 (.seq (.seq (.ops [
  ⟨(some 125), .mv (.t 21), none⟩,
  ⟨(some 126), .bin .eql (.t 125) (.c (.int .i64 0)), none⟩,
  ⟨(some 127), .mv (.t 126), none⟩,
  ⟨(some 128), .mv (.t 19), (some (127, false))⟩,
  ⟨(some 129), .mv (.t 6), (some (127, false))⟩,
  ⟨(some 130), .mv (.t 18), (some (127, false))⟩,
  ⟨(some 131), .iad 1 (.t 129) (.t 130), (some (127, false))⟩,
  ⟨(some 132), .load 1 false (.t 131), (some (127, false))⟩,
  ⟨(some 133), .pcall (.f 39) [(.t 128), (.t 132)], (some (127, false))⟩,
  ⟨(some 134), .bin .lss (.t 133) (.c (.int .i64 0)), (some (127, false))⟩,
  ⟨(some 135), .pick (.t 127) (.c (.bool true)) (.t 134), none⟩])
 (.cond (.t 135)
  (.seq (.ops [
  ⟨(some 4), .mv (.c (.bool false)), none⟩])
 .ret)
  .skip))
 (.ops [
  ⟨(some 136), .mv (.t 16), none⟩,
  ⟨(some 137), .fad 4 (.t 5), none⟩,
  ⟨(some 138), .load 1 false (.t 137), none⟩,
  ⟨(some 139), .mv (.t 6), none⟩,
  ⟨(some 140), .mv (.t 18), none⟩,
  ⟨(some 141), .iad 1 (.t 139) (.t 140), none⟩,
  ⟨(some 142), .load 1 false (.t 141), none⟩,
  ⟨(some 143), .iad 4 (.t 138) (.t 142), none⟩,
  ⟨(some 144), .fad 3 (.t 143), none⟩,
  ⟨(some 145), .load 1 false (.t 144), none⟩,
  ⟨(some 146), .bin .add (.t 136) (.t 145), none⟩,
  ⟨(some 147), .mv (.t 17), none⟩,
  ⟨(some 148), .mv (.t 6), none⟩,
  ⟨(some 149), .mv (.t 18), none⟩,
  ⟨(some 150), .iad 1 (.t 148) (.t 149), none⟩,
  ⟨(some 151), .load 1 false (.t 150), none⟩,
  ⟨(some 152), .bin .shl (.c (.int .i64 1)) (.t 151), none⟩,
  ⟨(some 153), .bin .or (.t 147) (.t 152), none⟩,
  ⟨(some 16), .mv (.t 146), none⟩,
  ⟨(some 17), .mv (.t 153), none⟩])))))))
 (.ops [
  ⟨(some 85), .mv (.t 18), none⟩,
  ⟨(some 86), .bin .add (.t 85) (.c (.int .i64 1)), none⟩,
  ⟨(some 18), .mv (.t 86), none⟩])))
def a7_L2 : C := (.seq (.seq (.ops [
  ⟨(some 154), .mv (.t 23), none⟩,
  ⟨(some 155), .fad 4 (.t 5), none⟩,
  ⟨(some 156), .load 1 false (.t 155), none⟩,
  ⟨(some 157), .len (.t 156), none⟩,
  ⟨(some 158), .bin .lss (.t 154) (.t 157), none⟩])
 (.cond (.t 158)
  .skip
  (.exit 2)))
 (.seq (.block 3
  (.seq (.ops [
  ⟨(some 161), .mv (.t 9), none⟩,
  ⟨(some 162), .mv (.t 23), none⟩,
  ⟨(some 163), .pcall (.f 39) [(.t 161), (.t 162)], none⟩,
  ⟨(some 164), .bin .geq (.t 163) (.c (.int .i64 0)), none⟩,
  ⟨(some 165), .mv (.t 164), none⟩,
  ⟨(some 166), .mv (.t 17), (some (165, true))⟩,
  ⟨(some 167), .mv (.t 23), (some (165, true))⟩,
  ⟨(some 168), .pcall (.f 40) [(.t 166), (.t 167)], (some (165, true))⟩,
  ⟨(some 169), .not (.t 168), (some (165, true))⟩,
  ⟨(some 170), .pick (.t 165) (.t 169) (.c (.bool false)), none⟩,
  ⟨(some 171), .mv (.t 170), none⟩,
  ⟨(some 172), .mv (.t 17), (some (171, false))⟩,
  ⟨(some 173), .mv (.t 23), (some (171, false))⟩,
  ⟨(some 174), .pcall (.f 40) [(.t 172), (.t 173)], (some (171, false))⟩,
  ⟨(some 175), .mv (.t 174), (some (171, false))⟩,
  ⟨(some 176), .mv (.t 9), (some (175, true))⟩,
  ⟨(some 177), .mv (.t 23), (some (175, true))⟩,
  ⟨(some 178), .pcall (.f 39) [(.t 176), (.t 177)], (some (175, true))⟩,
  ⟨(some 179), .bin .lss (.t 178) (.c (.int .i64 0)), (some (175, true))⟩,
  ⟨(some 180), .pick (.t 175) (.t 179) (.c (.bool false)), (some (171, false))⟩,
  ⟨(some 181), .mv (.t 180), (some (171, false))⟩,
  ⟨(some 182), .mv (.t 10), (some (181, true))⟩,
  ⟨(some 183), .mv (.t 23), (some (181, true))⟩,
  ⟨(some 184), .pcall (.f 39) [(.t 182), (.t 183)], (some (181, true))⟩,
  ⟨(some 185), .bin .lss (.t 184) (.c (.int .i64 0)), (some (181, true))⟩,
  ⟨(some 186), .pick (.t 181) (.t 185) (.c (.bool false)), (some (171, false))⟩,
  ⟨(some 187), .pick (.t 171) (.c (.bool true)) (.t 186), none⟩,
  ⟨(some 188), .mv (.t 187), none⟩,
  ⟨(some 189), .mv (.t 9), (some (188, false))⟩,
  ⟨(some 190), .mv (.t 23), (some (188, false))⟩,
  ⟨(some 191), .pcall (.f 39) [(.t 189), (.t 190)], (some (188, false))⟩,
  ⟨(some 192), .bin .geq (.t 191) (.c (.int .i64 0)), (some (188, false))⟩,
  ⟨(some 193), .mv (.t 192), (some (188, false))⟩,
  ⟨(some 194), .mv (.t 10), (some (193, true))⟩,
  ⟨(some 195), .mv (.t 23), (some (193, true))⟩,
  ⟨(some 196), .pcall (.f 39) [(.t 194), (.t 195)], (some (193, true))⟩,
  ⟨(some 197), .bin .geq (.t 196) (.c (.int .i64 0)), (some (193, true))⟩,
  ⟨(some 198), .pick (.t 193) (.t 197) (.c (.bool false)), (some (188, false))⟩,
  ⟨(some 199), .pick (.t 188) (.c (.bool true)) (.t 198), none⟩])
 (.cond (.t 199)
  (.seq (.ops [
  ⟨(some 4), .mv (.c (.bool false)), none⟩])
 .ret)
  .skip)))
 (.ops [
  ⟨(some 159), .mv (.t 23), none⟩,
  ⟨(some 160), .bin .add (.t 159) (.c (.int .i64 1)), none⟩,
  ⟨(some 23), .mv (.t 160), none⟩])))
/-- wishbook/wishbooklaw09.ClaimTrue -/
def a7 : F := ⟨[.tmp 4],
 (.seq (.ops [
  ⟨(some 2), .box (.t 0), none⟩,
  ⟨(some 4), .mv (.c (.bool false)), none⟩])
 (.seq (.seq (.ops [
  ⟨(some 26), .load 6 true (.t 2), none⟩,
  ⟨(some 27), .pcall (.f 35) [(.t 26)], none⟩,
  ⟨(some 28), .not (.t 27), none⟩])
 (.cond (.t 28)
  (.seq (.ops [
  ⟨(some 29), .pcall (.f 21) [], none⟩,
  ⟨(some 4), .mv (.t 29), none⟩])
 .ret)
  .skip))
 (.seq (.ops [
  ⟨(some 31), .load 6 true (.t 2), none⟩,
  ⟨(some 32), .mv (.t 1), none⟩,
  ⟨(some 33), .pcall (.f 36) [(.t 31), (.t 32)], none⟩,
  ⟨(some 30), .mv (.t 33), none⟩,
  ⟨(some 34), .ext (.t 30) 0, none⟩,
  ⟨(some 35), .ext (.t 30) 1, none⟩,
  ⟨(some 5), .alloc [(.int .i64 0), (.int .i64 0), (.int .i64 0), (.int .i64 0), (.sl [] .nil), (.sl [] .nil)], none⟩,
  ⟨none, .store 6 (.t 5) (.t 34), none⟩,
  ⟨(some 6), .mv (.t 35), none⟩])
 (.seq (.ops [
  ⟨(some 37), .load 6 true (.t 5), none⟩,
  ⟨(some 38), .mv (.t 6), none⟩,
  ⟨(some 39), .pcall (.f 17) [(.t 37), (.t 38)], none⟩,
  ⟨(some 36), .mv (.t 39), none⟩,
  ⟨(some 40), .ext (.t 36) 0, none⟩,
  ⟨(some 41), .ext (.t 36) 1, none⟩,
  ⟨(some 7), .mv (.t 40), none⟩,
  ⟨(some 8), .mv (.t 41), none⟩])
 (.seq (.ops [
  ⟨(some 43), .load 6 true (.t 5), none⟩,
  ⟨(some 44), .pcall (.f 27) [(.t 43)], none⟩,
  ⟨(some 42), .mv (.t 44), none⟩,
  ⟨(some 45), .ext (.t 42) 0, none⟩,
  ⟨(some 46), .ext (.t 42) 1, none⟩,
  ⟨(some 47), .ext (.t 42) 2, none⟩,
  ⟨(some 9), .mv (.t 45), none⟩,
  ⟨(some 10), .mv (.t 46), none⟩,
  ⟨(some 11), .mv (.t 47), none⟩])
 (.seq (.ops [
  ⟨(some 49), .load 6 true (.t 5), none⟩,
  ⟨(some 50), .pcall (.f 29) [(.t 49)], none⟩,
  ⟨(some 48), .mv (.t 50), none⟩,
  ⟨(some 51), .ext (.t 48) 0, none⟩,
  ⟨(some 52), .ext (.t 48) 1, none⟩,
  ⟨(some 12), .alloc [(.int .i64 0), (.int .i64 0)], none⟩,
  ⟨none, .store 2 (.t 12) (.t 51), none⟩,
  ⟨(some 13), .mv (.t 52), none⟩])
 (.seq (.ops [
  ⟨(some 54), .load 6 true (.t 5), none⟩,
  ⟨(some 55), .pcall (.f 33) [(.t 54)], none⟩,
  ⟨(some 53), .mv (.t 55), none⟩,
  ⟨(some 56), .ext (.t 53) 0, none⟩,
  ⟨(some 57), .ext (.t 53) 1, none⟩,
  ⟨(some 14), .mv (.t 56), none⟩,
  ⟨(some 15), .mv (.t 57), none⟩])
 (.seq (.seq (.ops [
  ⟨(some 58), .mv (.t 8), none⟩,
  ⟨(some 59), .bin .neq (.t 58) (.c (.int .i64 0)), none⟩,
  ⟨(some 60), .mv (.t 59), none⟩,
  ⟨(some 61), .mv (.t 11), (some (60, false))⟩,
  ⟨(some 62), .bin .neq (.t 61) (.c (.int .i64 0)), (some (60, false))⟩,
  ⟨(some 63), .pick (.t 60) (.c (.bool true)) (.t 62), none⟩,
  ⟨(some 64), .mv (.t 63), none⟩,
  ⟨(some 65), .mv (.t 13), (some (64, false))⟩,
  ⟨(some 66), .bin .neq (.t 65) (.c (.int .i64 0)), (some (64, false))⟩,
  ⟨(some 67), .pick (.t 64) (.c (.bool true)) (.t 66), none⟩,
  ⟨(some 68), .mv (.t 67), none⟩,
  ⟨(some 69), .mv (.t 15), (some (68, false))⟩,
  ⟨(some 70), .bin .neq (.t 69) (.c (.int .i64 0)), (some (68, false))⟩,
  ⟨(some 71), .pick (.t 68) (.c (.bool true)) (.t 70), none⟩,
  ⟨(some 72), .mv (.t 71), none⟩,
  ⟨(some 73), .mv (.t 7), (some (72, false))⟩,
  ⟨(some 74), .not (.t 73), (some (72, false))⟩,
  ⟨(some 75), .pick (.t 72) (.c (.bool true)) (.t 74), none⟩,
  ⟨(some 76), .mv (.t 75), none⟩,
  ⟨(some 77), .mv (.t 14), (some (76, false))⟩,
  ⟨(some 78), .len (.t 77), (some (76, false))⟩,
  ⟨(some 79), .bin .neq (.t 78) (.c (.int .i64 0)), (some (76, false))⟩,
  ⟨(some 80), .pick (.t 76) (.c (.bool true)) (.t 79), none⟩])
 (.cond (.t 80)
  (.seq (.ops [
  ⟨(some 4), .mv (.c (.bool false)), none⟩])
 .ret)
  .skip))
 (.seq (.ops [
  ⟨(some 16), .mv (.c (.int .i64 0)), none⟩,
  ⟨(some 17), .mv (.c (.int .i64 0)), none⟩])
 (.seq (.seq (.ops [
  ⟨(some 18), .mv (.c (.int .i64 0)), none⟩])
 (.block 0
  (.loop [4, 5, 6, 9, 10, 12, 16, 17, 18] a7_L1)))
 (.seq (.seq (.ops [
  ⟨(some 23), .mv (.c (.int .i64 0)), none⟩])
 (.block 2
  (.loop [4, 5, 9, 10, 12, 16, 17, 23] a7_L2)))
 (.seq (.ops [
  ⟨(some 201), .load 6 true (.t 5), none⟩,
  ⟨(some 202), .pcall (.f 31) [(.t 201)], none⟩,
  ⟨(some 200), .mv (.t 202), none⟩,
  ⟨(some 203), .ext (.t 200) 0, none⟩,
  ⟨(some 204), .ext (.t 200) 1, none⟩,
  ⟨(some 24), .mv (.t 203), none⟩,
  ⟨(some 25), .mv (.t 204), none⟩])
 (.seq (.ops [
  ⟨(some 205), .mv (.t 25), none⟩,
  ⟨(some 206), .bin .eql (.t 205) (.c (.int .i64 0)), none⟩,
  ⟨(some 207), .mv (.t 206), none⟩,
  ⟨(some 208), .mv (.t 24), (some (207, true))⟩,
  ⟨(some 209), .fad 3 (.t 5), (some (207, true))⟩,
  ⟨(some 210), .load 1 false (.t 209), (some (207, true))⟩,
  ⟨(some 211), .bin .leq (.t 208) (.t 210), (some (207, true))⟩,
  ⟨(some 212), .pick (.t 207) (.t 211) (.c (.bool false)), none⟩,
  ⟨(some 213), .mv (.t 212), none⟩,
  ⟨(some 214), .load 2 true (.t 12), (some (213, true))⟩,
  ⟨(some 215), .mv (.t 16), (some (213, true))⟩,
  ⟨(some 216), .pcall (.f 41) [(.t 214), (.t 215)], (some (213, true))⟩,
  ⟨(some 217), .pick (.t 213) (.t 216) (.c (.bool false)), none⟩,
  ⟨(some 218), .mv (.t 217), none⟩,
  ⟨(some 219), .mv (.t 9), (some (218, true))⟩,
  ⟨(some 220), .fad 4 (.t 5), (some (218, true))⟩,
  ⟨(some 221), .load 1 false (.t 220), (some (218, true))⟩,
  ⟨(some 222), .len (.t 221), (some (218, true))⟩,
  ⟨(some 223), .pcall (.f 37) [(.t 219), (.t 222)], (some (218, true))⟩,
  ⟨(some 224), .pick (.t 218) (.t 223) (.c (.bool false)), none⟩,
  ⟨(some 225), .mv (.t 224), none⟩,
  ⟨(some 226), .mv (.t 10), (some (225, true))⟩,
  ⟨(some 227), .fad 4 (.t 5), (some (225, true))⟩,
  ⟨(some 228), .load 1 false (.t 227), (some (225, true))⟩,
  ⟨(some 229), .len (.t 228), (some (225, true))⟩,
  ⟨(some 230), .pcall (.f 37) [(.t 226), (.t 229)], (some (225, true))⟩,
  ⟨(some 231), .pick (.t 225) (.t 230) (.c (.bool false)), none⟩,
  ⟨(some 232), .mv (.t 231), none⟩,
  ⟨(some 233), .pcall (.f 21) [], (some (232, true))⟩,
  ⟨(some 234), .pick (.t 232) (.t 233) (.c (.bool false)), none⟩,
  ⟨(some 4), .mv (.t 234), none⟩])
 .ret))))))))))))), false, 2⟩

def a8_L1 : C := (.seq (.seq (.ops [
  ⟨(some 73), .mv (.t 14), none⟩,
  ⟨(some 74), .fad 4 (.t 2), none⟩,
  ⟨(some 75), .load 1 false (.t 74), none⟩,
  ⟨(some 76), .len (.t 75), none⟩,
  ⟨(some 77), .bin .lss (.t 73) (.t 76), none⟩])
 (.cond (.t 77)
  .skip
  (.exit 0)))
 (.seq (.block 1
  (.seq (.ops [
  ⟨(some 81), .load 6 true (.t 2), none⟩,
  ⟨(some 82), .mv (.t 5), none⟩,
  ⟨(some 83), .mv (.t 14), none⟩,
  ⟨(some 84), .pcall (.f 13) [(.t 81), (.t 82), (.t 83)], none⟩,
  ⟨(some 80), .mv (.t 84), none⟩,
  ⟨(some 85), .ext (.t 80) 0, none⟩,
  ⟨(some 86), .ext (.t 80) 1, none⟩,
  ⟨(some 15), .mv (.t 85), none⟩,
  ⟨(some 16), .mv (.t 86), none⟩])
 (.seq (.ops [
  ⟨(some 88), .load 6 true (.t 2), none⟩,
  ⟨(some 89), .mv (.t 5), none⟩,
  ⟨(some 90), .mv (.t 14), none⟩,
  ⟨(some 91), .pcall (.f 44) [(.t 88), (.t 89), (.t 90)], none⟩,
  ⟨(some 92), .pcall (.f 29) [(.t 91)], none⟩,
  ⟨(some 87), .mv (.t 92), none⟩,
  ⟨(some 93), .ext (.t 87) 0, none⟩,
  ⟨(some 94), .ext (.t 87) 1, none⟩,
  ⟨(some 17), .alloc [(.int .i64 0), (.int .i64 0)], none⟩,
  ⟨none, .store 2 (.t 17) (.t 93), none⟩,
  ⟨(some 18), .mv (.t 94), none⟩])
 (.seq (.seq (.ops [
  ⟨(some 95), .mv (.t 16), none⟩,
  ⟨(some 96), .bin .neq (.t 95) (.c (.int .i64 0)), none⟩,
  ⟨(some 97), .mv (.t 96), none⟩,
  ⟨(some 98), .mv (.t 18), (some (97, false))⟩,
  ⟨(some 99), .bin .neq (.t 98) (.c (.int .i64 0)), (some (97, false))⟩,
  ⟨(some 100), .mv (.t 99), (some (97, false))⟩,
  ⟨(some 101), .mv (.t 18), (some (100, true))⟩,
  ⟨(some 102), .bin .neq (.t 101) (.c (.int .i64 92)), (some (100, true))⟩,
  ⟨(some 103), .pick (.t 100) (.t 102) (.c (.bool false)), (some (97, false))⟩,
  ⟨(some 104), .pick (.t 97) (.c (.bool true)) (.t 103), none⟩,
  ⟨(some 105), .mv (.t 104), none⟩,
  ⟨(some 106), .mv (.t 15), (some (105, false))⟩,
  ⟨(some 107), .mv (.t 106), (some (105, false))⟩,
  ⟨(some 108), .mv (.t 18), (some (107, true))⟩,
  ⟨(some 109), .bin .eql (.t 108) (.c (.int .i64 0)), (some (107, true))⟩,
  ⟨(some 110), .pick (.t 107) (.t 109) (.c (.bool false)), (some (105, false))⟩,
  ⟨(some 111), .mv (.t 6), (some (105, false))⟩,
  ⟨(some 112), .mv (.t 14), (some (105, false))⟩,
  ⟨(some 113), .pcall (.f 39) [(.t 111), (.t 112)], (some (105, false))⟩,
  ⟨(some 114), .bin .geq (.t 113) (.c (.int .i64 0)), (some (105, false))⟩,
  ⟨(some 115), .eq true (.s .bool) (.t 110) (.t 114), (some (105, false))⟩,
  ⟨(some 116), .pick (.t 105) (.c (.bool true)) (.t 115), none⟩])
 (.cond (.t 116)
  (.seq (.ops [
  ⟨(some 4), .mv (.c (.bool false)), none⟩])
 .ret)
  .skip))
 (.seq (.seq (.ops [
  ⟨(some 117), .mv (.t 15), none⟩,
  ⟨(some 118), .not (.t 117), none⟩,
  ⟨(some 119), .mv (.t 118), none⟩,
  ⟨(some 120), .mv (.t 18), (some (119, false))⟩,
  ⟨(some 121), .bin .neq (.t 120) (.c (.int .i64 0)), (some (119, false))⟩,
  ⟨(some 122), .pick (.t 119) (.c (.bool true)) (.t 121), none⟩])
 (.cond (.t 122)
  (.exit 1)
  .skip))
 (.seq (.ops [
  ⟨(some 123), .fad 0 (.t 17), none⟩,
  ⟨(some 124), .load 1 false (.t 123), none⟩,
  ⟨(some 125), .fad 4 (.t 2), none⟩,
  ⟨(some 126), .load 1 false (.t 125), none⟩,
  ⟨(some 127), .mv (.t 14), none⟩,
  ⟨(some 128), .iad 4 (.t 126) (.t 127), none⟩,
  ⟨(some 129), .fad 3 (.t 128), none⟩,
  ⟨(some 130), .load 1 false (.t 129), none⟩,
  ⟨(some 131), .bin .add (.t 124) (.t 130), none⟩,
  ⟨(some 132), .fad 1 (.t 17), none⟩,
  ⟨(some 133), .load 1 false (.t 132), none⟩,
  ⟨(some 134), .fad 4 (.t 2), none⟩,
  ⟨(some 135), .load 1 false (.t 134), none⟩,
  ⟨(some 136), .mv (.t 14), none⟩,
  ⟨(some 137), .iad 4 (.t 135) (.t 136), none⟩,
  ⟨(some 138), .fad 3 (.t 137), none⟩,
  ⟨(some 139), .load 1 false (.t 138), none⟩,
  ⟨(some 140), .bin .add (.t 133) (.t 139), none⟩,
  ⟨(some 141), .pcall (.f 43) [(.t 131), (.t 140)], none⟩,
  ⟨none, .store 2 (.t 17) (.t 141), none⟩])
 (.seq (.seq (.ops [
  ⟨(some 142), .mv (.t 12), none⟩,
  ⟨(some 143), .not (.t 142), none⟩])
 (.cond (.t 143)
  (.ops [
  ⟨(some 144), .load 2 true (.t 17), none⟩,
  ⟨(some 12), .mv (.c (.bool true)), none⟩,
  ⟨none, .store 2 (.t 13) (.t 144), none⟩])
  .skip))
 (.ops [
  ⟨(some 145), .fad 0 (.t 13), none⟩,
  ⟨(some 146), .load 1 false (.t 145), none⟩,
  ⟨(some 147), .fad 0 (.t 17), none⟩,
  ⟨(some 148), .load 1 false (.t 147), none⟩,
  ⟨(some 149), .mn (.t 146) [(.t 148)], none⟩,
  ⟨(some 150), .fad 1 (.t 13), none⟩,
  ⟨(some 151), .load 1 false (.t 150), none⟩,
  ⟨(some 152), .fad 1 (.t 17), none⟩,
  ⟨(some 153), .load 1 false (.t 152), none⟩,
  ⟨(some 154), .mx (.t 151) [(.t 153)], none⟩,
  ⟨(some 155), .pcall (.f 43) [(.t 149), (.t 154)], none⟩,
  ⟨none, .store 2 (.t 13) (.t 155), none⟩]))))))))
 (.ops [
  ⟨(some 78), .mv (.t 14), none⟩,
  ⟨(some 79), .bin .add (.t 78) (.c (.int .i64 1)), none⟩,
  ⟨(some 14), .mv (.t 79), none⟩])))
/-- wishbook/wishbooklaw09.ClaimEach -/
def a8 : F := ⟨[.tmp 4],
 (.seq (.ops [
  ⟨(some 2), .box (.t 0), none⟩,
  ⟨(some 4), .mv (.c (.bool false)), none⟩])
 (.seq (.seq (.ops [
  ⟨(some 24), .load 6 true (.t 2), none⟩,
  ⟨(some 25), .pcall (.f 35) [(.t 24)], none⟩,
  ⟨(some 26), .not (.t 25), none⟩,
  ⟨(some 27), .mv (.t 26), none⟩,
  ⟨(some 28), .fad 5 (.t 2), (some (27, false))⟩,
  ⟨(some 29), .load 1 false (.t 28), (some (27, false))⟩,
  ⟨(some 30), .len (.t 29), (some (27, false))⟩,
  ⟨(some 31), .bin .eql (.t 30) (.c (.int .i64 0)), (some (27, false))⟩,
  ⟨(some 32), .pick (.t 27) (.c (.bool true)) (.t 31), none⟩])
 (.cond (.t 32)
  (.seq (.ops [
  ⟨(some 33), .pcall (.f 21) [], none⟩,
  ⟨(some 4), .mv (.t 33), none⟩])
 .ret)
  .skip))
 (.seq (.ops [
  ⟨(some 34), .mv (.t 1), none⟩,
  ⟨(some 35), .fad 5 (.t 2), none⟩,
  ⟨(some 36), .load 1 false (.t 35), none⟩,
  ⟨(some 37), .len (.t 36), none⟩,
  ⟨(some 38), .pcall (.f 42) [(.t 34), (.t 37)], none⟩,
  ⟨(some 5), .mv (.t 38), none⟩])
 (.seq (.ops [
  ⟨(some 40), .load 6 true (.t 2), none⟩,
  ⟨(some 41), .mv (.t 5), none⟩,
  ⟨(some 42), .pcall (.f 22) [(.t 40), (.t 41)], none⟩,
  ⟨(some 39), .mv (.t 42), none⟩,
  ⟨(some 43), .ext (.t 39) 0, none⟩,
  ⟨(some 44), .ext (.t 39) 1, none⟩,
  ⟨(some 6), .mv (.t 43), none⟩,
  ⟨(some 7), .mv (.t 44), none⟩])
 (.seq (.ops [
  ⟨(some 46), .load 6 true (.t 2), none⟩,
  ⟨(some 47), .mv (.t 5), none⟩,
  ⟨(some 48), .pcall (.f 25) [(.t 46), (.t 47)], none⟩,
  ⟨(some 45), .mv (.t 48), none⟩,
  ⟨(some 49), .ext (.t 45) 0, none⟩,
  ⟨(some 50), .ext (.t 45) 1, none⟩,
  ⟨(some 8), .mv (.t 49), none⟩,
  ⟨(some 9), .mv (.t 50), none⟩])
 (.seq (.ops [
  ⟨(some 52), .load 6 true (.t 2), none⟩,
  ⟨(some 53), .pcall (.f 29) [(.t 52)], none⟩,
  ⟨(some 51), .mv (.t 53), none⟩,
  ⟨(some 54), .ext (.t 51) 0, none⟩,
  ⟨(some 55), .ext (.t 51) 1, none⟩,
  ⟨(some 10), .alloc [(.int .i64 0), (.int .i64 0)], none⟩,
  ⟨none, .store 2 (.t 10) (.t 54), none⟩,
  ⟨(some 11), .mv (.t 55), none⟩])
 (.seq (.seq (.ops [
  ⟨(some 56), .mv (.t 9), none⟩,
  ⟨(some 57), .mv (.t 7), none⟩,
  ⟨(some 58), .bin .neq (.t 56) (.t 57), none⟩,
  ⟨(some 59), .mv (.t 58), none⟩,
  ⟨(some 60), .mv (.t 11), (some (59, false))⟩,
  ⟨(some 61), .mv (.t 7), (some (59, false))⟩,
  ⟨(some 62), .bin .neq (.t 60) (.t 61), (some (59, false))⟩,
  ⟨(some 63), .pick (.t 59) (.c (.bool true)) (.t 62), none⟩,
  ⟨(some 64), .mv (.t 63), none⟩,
  ⟨(some 65), .mv (.t 7), (some (64, false))⟩,
  ⟨(some 66), .bin .neq (.t 65) (.c (.int .i64 0)), (some (64, false))⟩,
  ⟨(some 67), .mv (.t 66), (some (64, false))⟩,
  ⟨(some 68), .mv (.t 7), (some (67, true))⟩,
  ⟨(some 69), .bin .neq (.t 68) (.c (.int .i64 92)), (some (67, true))⟩,
  ⟨(some 70), .pick (.t 67) (.t 69) (.c (.bool false)), (some (64, false))⟩,
  ⟨(some 71), .pick (.t 64) (.c (.bool true)) (.t 70), none⟩])
 (.cond (.t 71)
  (.seq (.ops [
  ⟨(some 4), .mv (.c (.bool false)), none⟩])
 .ret)
  .skip))
 (.seq (.ops [
  ⟨(some 72), .pcall (.f 43) [(.c (.int .i64 0)), (.c (.int .i64 0))], none⟩,
  ⟨(some 13), .alloc [(.int .i64 0), (.int .i64 0)], none⟩,
  ⟨(some 12), .mv (.c (.bool false)), none⟩,
  ⟨none, .store 2 (.t 13) (.t 72), none⟩])
 (.seq (.seq (.ops [
  ⟨(some 14), .mv (.c (.int .i64 0)), none⟩])
 (.block 0
  (.loop [2, 4, 5, 6, 7, 8, 10, 12, 13, 14] a8_L1)))
 (.seq (.ops [
  ⟨(some 156), .mv (.t 12), none⟩,
  ⟨(some 19), .mv (.t 156), none⟩])
 (.seq (.ops [
  ⟨(some 20), .mv (.c (.bool false)), none⟩])
 (.seq (.seq (.ops [
  ⟨(some 157), .fad 5 (.t 2), none⟩,
  ⟨(some 158), .load 1 false (.t 157), none⟩,
  ⟨(some 159), .mv (.t 5), none⟩,
  ⟨(some 160), .iad 5 (.t 158) (.t 159), none⟩,
  ⟨(some 161), .fad 4 (.t 160), none⟩,
  ⟨(some 162), .load 1 false (.t 161), none⟩,
  ⟨(some 163), .not (.t 162), none⟩,
  ⟨(some 164), .mv (.t 163), none⟩,
  ⟨(some 165), .fad 3 (.t 2), (some (164, true))⟩,
  ⟨(some 166), .load 1 false (.t 165), (some (164, true))⟩,
  ⟨(some 167), .bin .gtr (.t 166) (.c (.int .i64 0)), (some (164, true))⟩,
  ⟨(some 168), .pick (.t 164) (.t 167) (.c (.bool false)), none⟩])
 (.cond (.t 168)
  (.seq (.ops [
  ⟨(some 170), .load 6 true (.t 2), none⟩,
  ⟨(some 171), .fad 3 (.t 2), none⟩,
  ⟨(some 172), .load 1 false (.t 171), none⟩,
  ⟨(some 173), .bin .sub (.t 172) (.c (.int .i64 1)), none⟩,
  ⟨(some 174), .pcall (.f 45) [(.t 170), (.t 173)], none⟩,
  ⟨(some 175), .mv (.t 5), none⟩,
  ⟨(some 176), .pcall (.f 44) [(.t 174), (.t 175), (.c (.int .i64 (-1)))], none⟩,
  ⟨(some 177), .pcall (.f 29) [(.t 176)], none⟩,
  ⟨(some 169), .mv (.t 177), none⟩,
  ⟨(some 178), .ext (.t 169) 0, none⟩,
  ⟨(some 179), .ext (.t 169) 1, none⟩,
  ⟨(some 21), .alloc [(.int .i64 0), (.int .i64 0)], none⟩,
  ⟨none, .store 2 (.t 21) (.t 178), none⟩,
  ⟨(some 22), .mv (.t 179), none⟩])
 (.seq (.ops [
  ⟨(some 180), .mv (.t 22), none⟩,
  ⟨(some 181), .bin .eql (.t 180) (.c (.int .i64 0)), none⟩,
  ⟨(some 20), .mv (.t 181), none⟩])
 (.seq (.seq (.ops [
  ⟨(some 182), .mv (.t 20), none⟩,
  ⟨(some 183), .mv (.t 182), none⟩,
  ⟨(some 184), .mv (.t 12), (some (183, true))⟩,
  ⟨(some 185), .not (.t 184), (some (183, true))⟩,
  ⟨(some 186), .pick (.t 183) (.t 185) (.c (.bool false)), none⟩])
 (.cond (.t 186)
  (.ops [
  ⟨(some 187), .load 2 true (.t 21), none⟩,
  ⟨(some 12), .mv (.c (.bool true)), none⟩,
  ⟨none, .store 2 (.t 13) (.t 187), none⟩])
  .skip))
 (.seq (.ops [
  ⟨(some 188), .mv (.t 20), none⟩])
 (.cond (.t 188)
  (.ops [
  ⟨(some 189), .fad 0 (.t 13), none⟩,
  ⟨(some 190), .load 1 false (.t 189), none⟩,
  ⟨(some 191), .fad 0 (.t 21), none⟩,
  ⟨(some 192), .load 1 false (.t 191), none⟩,
  ⟨(some 193), .mn (.t 190) [(.t 192)], none⟩,
  ⟨(some 194), .fad 1 (.t 13), none⟩,
  ⟨(some 195), .load 1 false (.t 194), none⟩,
  ⟨(some 196), .fad 1 (.t 21), none⟩,
  ⟨(some 197), .load 1 false (.t 196), none⟩,
  ⟨(some 198), .mx (.t 195) [(.t 197)], none⟩,
  ⟨(some 199), .pcall (.f 43) [(.t 193), (.t 198)], none⟩,
  ⟨none, .store 2 (.t 13) (.t 199), none⟩])
  .skip)))))
  .skip))
 (.seq (.seq (.ops [
  ⟨(some 200), .mv (.t 12), none⟩,
  ⟨(some 201), .mv (.t 7), none⟩,
  ⟨(some 202), .bin .eql (.t 201) (.c (.int .i64 0)), none⟩,
  ⟨(some 203), .eq true (.s .bool) (.t 200) (.t 202), none⟩])
 (.cond (.t 203)
  (.seq (.ops [
  ⟨(some 4), .mv (.c (.bool false)), none⟩])
 .ret)
  .skip))
 (.seq (.seq (.ops [
  ⟨(some 204), .mv (.t 7), none⟩,
  ⟨(some 205), .bin .neq (.t 204) (.c (.int .i64 0)), none⟩])
 (.cond (.t 205)
  (.seq (.ops [
  ⟨(some 206), .mv (.t 6), none⟩,
  ⟨(some 207), .len (.t 206), none⟩,
  ⟨(some 208), .bin .eql (.t 207) (.c (.int .i64 0)), none⟩,
  ⟨(some 209), .mv (.t 208), none⟩,
  ⟨(some 210), .mv (.t 8), (some (209, true))⟩,
  ⟨(some 211), .bin .eql (.t 210) (.c (.int .i64 0)), (some (209, true))⟩,
  ⟨(some 212), .pick (.t 209) (.t 211) (.c (.bool false)), none⟩,
  ⟨(some 213), .mv (.t 212), none⟩,
  ⟨(some 214), .load 2 true (.t 10), (some (213, true))⟩,
  ⟨(some 215), .pcall (.f 43) [(.c (.int .i64 0)), (.c (.int .i64 0))], (some (213, true))⟩,
  ⟨(some 216), .eq false (.agg [.int, .int]) (.t 214) (.t 215), (some (213, true))⟩,
  ⟨(some 217), .pick (.t 213) (.t 216) (.c (.bool false)), none⟩,
  ⟨(some 218), .mv (.t 217), none⟩,
  ⟨(some 219), .pcall (.f 21) [], (some (218, true))⟩,
  ⟨(some 220), .pick (.t 218) (.t 219) (.c (.bool false)), none⟩,
  ⟨(some 4), .mv (.t 220), none⟩])
 .ret)
  .skip))
 (.seq (.ops [
  ⟨(some 23), .mv (.c (.int .i64 2)), none⟩])
 (.seq (.seq (.ops [
  ⟨(some 221), .mv (.t 19), none⟩,
  ⟨(some 222), .not (.t 221), none⟩])
 (.cond (.t 222)
  (.ops [
  ⟨(some 23), .mv (.c (.int .i64 0)), none⟩])
  (.seq (.ops [
  ⟨(some 223), .mv (.t 20), none⟩,
  ⟨(some 224), .not (.t 223), none⟩])
 (.cond (.t 224)
  (.ops [
  ⟨(some 23), .mv (.c (.int .i64 1)), none⟩])
  .skip))))
 (.seq (.ops [
  ⟨(some 225), .mv (.t 8), none⟩,
  ⟨(some 226), .mv (.t 23), none⟩,
  ⟨(some 227), .bin .eql (.t 225) (.t 226), none⟩,
  ⟨(some 228), .mv (.t 227), none⟩,
  ⟨(some 229), .load 2 true (.t 10), (some (228, true))⟩,
  ⟨(some 230), .load 2 true (.t 13), (some (228, true))⟩,
  ⟨(some 231), .eq false (.agg [.int, .int]) (.t 229) (.t 230), (some (228, true))⟩,
  ⟨(some 232), .pick (.t 228) (.t 231) (.c (.bool false)), none⟩,
  ⟨(some 233), .mv (.t 232), none⟩,
  ⟨(some 234), .pcall (.f 21) [], (some (233, true))⟩,
  ⟨(some 235), .pick (.t 233) (.t 234) (.c (.bool false)), none⟩,
  ⟨(some 4), .mv (.t 235), none⟩])
 .ret))))))))))))))))), false, 2⟩

def a9_L1 : C := (.seq (.seq (.ops [
  ⟨(some 107), .mv (.t 13), none⟩,
  ⟨(some 108), .fad 3 (.t 7), none⟩,
  ⟨(some 109), .load 1 false (.t 108), none⟩,
  ⟨(some 110), .lens (.t 109), none⟩,
  ⟨(some 111), .bin .lss (.t 107) (.t 110), none⟩])
 (.cond (.t 111)
  .skip
  (.exit 0)))
 (.seq (.block 1
  (.ops [
  ⟨(some 114), .mv (.t 11), none⟩,
  ⟨(some 115), .mv (.t 114), none⟩,
  ⟨(some 116), .fad 3 (.t 7), (some (115, true))⟩,
  ⟨(some 117), .load 1 false (.t 116), (some (115, true))⟩,
  ⟨(some 118), .mv (.t 13), (some (115, true))⟩,
  ⟨(some 119), .ixs (.t 117) (.t 118), (some (115, true))⟩,
  ⟨(some 120), .bin .eql (.t 119) (.c (.int .u8 63)), (some (115, true))⟩,
  ⟨(some 121), .mv (.t 120), (some (115, true))⟩,
  ⟨(some 122), .fad 3 (.t 7), (some (121, false))⟩,
  ⟨(some 123), .load 1 false (.t 122), (some (121, false))⟩,
  ⟨(some 124), .mv (.t 13), (some (121, false))⟩,
  ⟨(some 125), .ixs (.t 123) (.t 124), (some (121, false))⟩,
  ⟨(some 126), .mv (.t 12), (some (121, false))⟩,
  ⟨(some 127), .mv (.t 13), (some (121, false))⟩,
  ⟨(some 128), .ixs (.t 126) (.t 127), (some (121, false))⟩,
  ⟨(some 129), .bin .eql (.t 125) (.t 128), (some (121, false))⟩,
  ⟨(some 130), .pick (.t 121) (.c (.bool true)) (.t 129), (some (115, true))⟩,
  ⟨(some 131), .pick (.t 115) (.t 130) (.c (.bool false)), none⟩,
  ⟨(some 11), .mv (.t 131), none⟩]))
 (.ops [
  ⟨(some 112), .mv (.t 13), none⟩,
  ⟨(some 113), .bin .add (.t 112) (.c (.int .i64 1)), none⟩,
  ⟨(some 13), .mv (.t 113), none⟩])))
/-- wishbook/wishbooklaw09.ClaimCould -/
def a9 : F := ⟨[.tmp 4],
 (.seq (.ops [
  ⟨(some 2), .box (.t 0), none⟩,
  ⟨(some 3), .box (.t 1), none⟩,
  ⟨(some 4), .mv (.c (.bool false)), none⟩])
 (.seq (.seq (.ops [
  ⟨(some 20), .load 6 true (.t 2), none⟩,
  ⟨(some 21), .pcall (.f 35) [(.t 20)], none⟩,
  ⟨(some 22), .not (.t 21), none⟩,
  ⟨(some 23), .mv (.t 22), none⟩,
  ⟨(some 24), .fad 5 (.t 2), (some (23, false))⟩,
  ⟨(some 25), .load 1 false (.t 24), (some (23, false))⟩,
  ⟨(some 26), .len (.t 25), (some (23, false))⟩,
  ⟨(some 27), .bin .eql (.t 26) (.c (.int .i64 0)), (some (23, false))⟩,
  ⟨(some 28), .pick (.t 23) (.c (.bool true)) (.t 27), none⟩,
  ⟨(some 29), .mv (.t 28), none⟩,
  ⟨(some 30), .fad 4 (.t 2), (some (29, false))⟩,
  ⟨(some 31), .load 1 false (.t 30), (some (29, false))⟩,
  ⟨(some 32), .len (.t 31), (some (29, false))⟩,
  ⟨(some 33), .bin .eql (.t 32) (.c (.int .i64 0)), (some (29, false))⟩,
  ⟨(some 34), .pick (.t 29) (.c (.bool true)) (.t 33), none⟩])
 (.cond (.t 34)
  (.seq (.ops [
  ⟨(some 35), .pcall (.f 21) [], none⟩,
  ⟨(some 4), .mv (.t 35), none⟩])
 .ret)
  .skip))
 (.seq (.ops [
  ⟨(some 36), .iarr 2 1 (.t 3) (.c (.int .i64 0)), none⟩,
  ⟨(some 37), .load 1 false (.t 36), none⟩,
  ⟨(some 38), .fad 5 (.t 2), none⟩,
  ⟨(some 39), .load 1 false (.t 38), none⟩,
  ⟨(some 40), .len (.t 39), none⟩,
  ⟨(some 41), .pcall (.f 42) [(.t 37), (.t 40)], none⟩,
  ⟨(some 42), .iarr 2 1 (.t 3) (.c (.int .i64 1)), none⟩,
  ⟨(some 43), .load 1 false (.t 42), none⟩,
  ⟨(some 44), .fad 4 (.t 2), none⟩,
  ⟨(some 45), .load 1 false (.t 44), none⟩,
  ⟨(some 46), .len (.t 45), none⟩,
  ⟨(some 47), .pcall (.f 42) [(.t 43), (.t 46)], none⟩,
  ⟨(some 5), .mv (.t 41), none⟩,
  ⟨(some 6), .mv (.t 47), none⟩])
 (.seq (.rsv [5, 4] (.ops [
  ⟨(some 48), .fad 5 (.t 2), none⟩,
  ⟨(some 49), .load 1 false (.t 48), none⟩,
  ⟨(some 50), .mv (.t 5), none⟩,
  ⟨(some 51), .iad 5 (.t 49) (.t 50), none⟩,
  ⟨(some 52), .load 5 true (.t 51), none⟩,
  ⟨(some 53), .fad 4 (.t 2), none⟩,
  ⟨(some 54), .load 1 false (.t 53), none⟩,
  ⟨(some 55), .mv (.t 6), none⟩,
  ⟨(some 56), .iad 4 (.t 54) (.t 55), none⟩,
  ⟨(some 57), .load 4 true (.t 56), none⟩,
  ⟨(some 7), .als 1 5, none⟩,
  ⟨(some 8), .als 0 4, none⟩,
  ⟨none, .fst 5 (.t 7) (.t 52), none⟩,
  ⟨none, .fst 4 (.t 8) (.t 57), none⟩]))
 (.seq (.ops [
  ⟨(some 59), .load 6 true (.t 2), none⟩,
  ⟨(some 60), .mv (.t 5), none⟩,
  ⟨(some 61), .mv (.t 6), none⟩,
  ⟨(some 62), .pcall (.f 13) [(.t 59), (.t 60), (.t 61)], none⟩,
  ⟨(some 58), .mv (.t 62), none⟩,
  ⟨(some 63), .ext (.t 58) 0, none⟩,
  ⟨(some 64), .ext (.t 58) 1, none⟩,
  ⟨(some 9), .mv (.t 63), none⟩,
  ⟨(some 10), .mv (.t 64), none⟩])
 (.seq (.ops [
  ⟨(some 65), .fad 0 (.t 7), none⟩,
  ⟨(some 66), .load 1 false (.t 65), none⟩,
  ⟨(some 67), .fad 0 (.t 8), none⟩,
  ⟨(some 68), .load 1 false (.t 67), none⟩,
  ⟨(some 69), .fad 0 (.t 2), none⟩,
  ⟨(some 70), .fad 0 (.t 69), none⟩,
  ⟨(some 71), .load 1 false (.t 70), none⟩,
  ⟨(some 72), .bin .add (.t 68) (.t 71), none⟩,
  ⟨(some 73), .bin .geq (.t 66) (.t 72), none⟩,
  ⟨(some 74), .mv (.t 73), none⟩,
  ⟨(some 75), .fad 0 (.t 7), (some (74, true))⟩,
  ⟨(some 76), .load 1 false (.t 75), (some (74, true))⟩,
  ⟨(some 77), .fad 0 (.t 8), (some (74, true))⟩,
  ⟨(some 78), .load 1 false (.t 77), (some (74, true))⟩,
  ⟨(some 79), .fad 0 (.t 2), (some (74, true))⟩,
  ⟨(some 80), .fad 1 (.t 79), (some (74, true))⟩,
  ⟨(some 81), .load 1 false (.t 80), (some (74, true))⟩,
  ⟨(some 82), .bin .add (.t 78) (.t 81), (some (74, true))⟩,
  ⟨(some 83), .bin .leq (.t 76) (.t 82), (some (74, true))⟩,
  ⟨(some 84), .pick (.t 74) (.t 83) (.c (.bool false)), none⟩,
  ⟨(some 85), .mv (.t 84), none⟩,
  ⟨(some 86), .fad 1 (.t 7), (some (85, true))⟩,
  ⟨(some 87), .fad 0 (.t 86), (some (85, true))⟩,
  ⟨(some 88), .load 1 false (.t 87), (some (85, true))⟩,
  ⟨(some 89), .fad 1 (.t 8), (some (85, true))⟩,
  ⟨(some 90), .load 1 false (.t 89), (some (85, true))⟩,
  ⟨(some 91), .bin .leq (.t 88) (.t 90), (some (85, true))⟩,
  ⟨(some 92), .pick (.t 85) (.t 91) (.c (.bool false)), none⟩,
  ⟨(some 93), .mv (.t 92), none⟩,
  ⟨(some 94), .fad 1 (.t 7), (some (93, true))⟩,
  ⟨(some 95), .fad 1 (.t 94), (some (93, true))⟩,
  ⟨(some 96), .load 1 false (.t 95), (some (93, true))⟩,
  ⟨(some 97), .fad 1 (.t 8), (some (93, true))⟩,
  ⟨(some 98), .load 1 false (.t 97), (some (93, true))⟩,
  ⟨(some 99), .fad 2 (.t 2), (some (93, true))⟩,
  ⟨(some 100), .load 1 false (.t 99), (some (93, true))⟩,
  ⟨(some 101), .bin .sub (.t 98) (.t 100), (some (93, true))⟩,
  ⟨(some 102), .bin .geq (.t 96) (.t 101), (some (93, true))⟩,
  ⟨(some 103), .pick (.t 93) (.t 102) (.c (.bool false)), none⟩,
  ⟨(some 11), .mv (.t 103), none⟩])
 (.seq (.ops [
  ⟨(some 104), .fad 2 (.t 8), none⟩,
  ⟨(some 105), .load 1 false (.t 104), none⟩,
  ⟨(some 106), .pcall (.f 46) [(.t 105)], none⟩,
  ⟨(some 12), .mv (.t 106), none⟩])
 (.seq (.seq (.ops [
  ⟨(some 13), .mv (.c (.int .i64 0)), none⟩])
 (.block 0
  (.loop [2, 3, 5, 6, 7, 9, 10, 11, 12, 13] a9_L1)))
 (.seq (.seq (.ops [
  ⟨(some 132), .mv (.t 10), none⟩,
  ⟨(some 133), .bin .neq (.t 132) (.c (.int .i64 0)), none⟩,
  ⟨(some 134), .mv (.t 133), none⟩,
  ⟨(some 135), .mv (.t 9), (some (134, false))⟩,
  ⟨(some 136), .mv (.t 11), (some (134, false))⟩,
  ⟨(some 137), .eq true (.s .bool) (.t 135) (.t 136), (some (134, false))⟩,
  ⟨(some 138), .pick (.t 134) (.c (.bool true)) (.t 137), none⟩])
 (.cond (.t 138)
  (.seq (.ops [
  ⟨(some 4), .mv (.c (.bool false)), none⟩])
 .ret)
  .skip))
 (.seq (.ops [
  ⟨(some 139), .load 6 true (.t 2), none⟩,
  ⟨(some 14), .alloc [(.int .i64 0), (.int .i64 0), (.int .i64 0), (.int .i64 0), (.sl [] .nil), (.sl [] .nil)], none⟩,
  ⟨none, .store 6 (.t 14) (.t 139), none⟩])
 (.seq (.ops [
  ⟨(some 140), .nilfull, none⟩,
  ⟨(some 141), .fad 5 (.t 2), none⟩,
  ⟨(some 142), .load 1 false (.t 141), none⟩,
  ⟨(some 143), .appo 5 48 (.t 140) (.t 142), none⟩,
  ⟨(some 144), .fad 5 (.t 14), none⟩,
  ⟨none, .store 1 (.t 144) (.t 143), none⟩])
 (.seq (.seq (.ops [
  ⟨(some 145), .fad 3 (.t 7), none⟩,
  ⟨(some 146), .load 1 false (.t 145), none⟩,
  ⟨(some 147), .lens (.t 146), none⟩,
  ⟨(some 148), .bin .eql (.t 147) (.c (.int .i64 4)), none⟩])
 (.cond (.t 148)
  (.seq (.ops [
  ⟨(some 149), .iarr 2 1 (.t 3) (.c (.int .i64 0)), none⟩,
  ⟨(some 150), .load 1 false (.t 149), none⟩,
  ⟨(some 151), .bin .quo (.t 150) (.c (.int .i64 8)), none⟩,
  ⟨(some 152), .pcall (.f 42) [(.t 151), (.c (.int .i64 4))], none⟩,
  ⟨(some 15), .mv (.t 152), none⟩])
 (.ops [
  ⟨(some 153), .fad 5 (.t 14), none⟩,
  ⟨(some 154), .load 1 false (.t 153), none⟩,
  ⟨(some 155), .mv (.t 5), none⟩,
  ⟨(some 156), .fad 3 (.t 7), none⟩,
  ⟨(some 157), .load 1 false (.t 156), none⟩,
  ⟨(some 158), .mv (.t 15), none⟩,
  ⟨(some 159), .slstr (.t 157) none (some (.t 158)), none⟩,
  ⟨(some 160), .bin .add (.t 159) (.c (.str [63])), none⟩,
  ⟨(some 161), .fad 3 (.t 7), none⟩,
  ⟨(some 162), .load 1 false (.t 161), none⟩,
  ⟨(some 163), .mv (.t 15), none⟩,
  ⟨(some 164), .bin .add (.t 163) (.c (.int .i64 1)), none⟩,
  ⟨(some 165), .slstr (.t 162) (some (.t 164)) none, none⟩,
  ⟨(some 166), .bin .add (.t 160) (.t 165), none⟩,
  ⟨(some 167), .iad 5 (.t 154) (.t 155), none⟩,
  ⟨(some 168), .fad 3 (.t 167), none⟩,
  ⟨none, .store 1 (.t 168) (.t 166), none⟩]))
  .skip))
 (.seq (.ops [
  ⟨(some 170), .load 6 true (.t 14), none⟩,
  ⟨(some 171), .mv (.t 5), none⟩,
  ⟨(some 172), .mv (.t 6), none⟩,
  ⟨(some 173), .pcall (.f 13) [(.t 170), (.t 171), (.t 172)], none⟩,
  ⟨(some 169), .mv (.t 173), none⟩,
  ⟨(some 174), .ext (.t 169) 0, none⟩,
  ⟨(some 175), .ext (.t 169) 1, none⟩,
  ⟨(some 16), .mv (.t 174), none⟩,
  ⟨(some 17), .mv (.t 175), none⟩])
 (.seq (.ops [
  ⟨(some 176), .fad 5 (.t 14), none⟩,
  ⟨(some 177), .load 1 false (.t 176), none⟩,
  ⟨(some 178), .mv (.t 5), none⟩,
  ⟨(some 179), .iad 5 (.t 177) (.t 178), none⟩,
  ⟨(some 180), .fad 3 (.t 179), none⟩,
  ⟨none, .store 1 (.t 180) (.c (.str [])), none⟩])
 (.seq (.ops [
  ⟨(some 182), .load 6 true (.t 14), none⟩,
  ⟨(some 183), .mv (.t 5), none⟩,
  ⟨(some 184), .mv (.t 6), none⟩,
  ⟨(some 185), .pcall (.f 13) [(.t 182), (.t 183), (.t 184)], none⟩,
  ⟨(some 181), .mv (.t 185), none⟩,
  ⟨(some 186), .ext (.t 181) 0, none⟩,
  ⟨(some 187), .ext (.t 181) 1, none⟩,
  ⟨(some 18), .mv (.t 186), none⟩,
  ⟨(some 19), .mv (.t 187), none⟩])
 (.seq (.ops [
  ⟨(some 188), .mv (.t 17), none⟩,
  ⟨(some 189), .bin .eql (.t 188) (.c (.int .i64 0)), none⟩,
  ⟨(some 190), .mv (.t 189), none⟩,
  ⟨(some 191), .mv (.t 19), (some (190, true))⟩,
  ⟨(some 192), .bin .eql (.t 191) (.c (.int .i64 0)), (some (190, true))⟩,
  ⟨(some 193), .pick (.t 190) (.t 192) (.c (.bool false)), none⟩,
  ⟨(some 194), .mv (.t 193), none⟩,
  ⟨(some 195), .mv (.t 16), (some (194, true))⟩,
  ⟨(some 196), .mv (.t 195), (some (194, true))⟩,
  ⟨(some 197), .mv (.t 9), (some (196, false))⟩,
  ⟨(some 198), .not (.t 197), (some (196, false))⟩,
  ⟨(some 199), .pick (.t 196) (.c (.bool true)) (.t 198), (some (194, true))⟩,
  ⟨(some 200), .pick (.t 194) (.t 199) (.c (.bool false)), none⟩,
  ⟨(some 201), .mv (.t 200), none⟩,
  ⟨(some 202), .mv (.t 18), (some (201, true))⟩,
  ⟨(some 203), .mv (.t 202), (some (201, true))⟩,
  ⟨(some 204), .mv (.t 16), (some (203, false))⟩,
  ⟨(some 205), .not (.t 204), (some (203, false))⟩,
  ⟨(some 206), .pick (.t 203) (.c (.bool true)) (.t 205), (some (201, true))⟩,
  ⟨(some 207), .pick (.t 201) (.t 206) (.c (.bool false)), none⟩,
  ⟨(some 208), .mv (.t 207), none⟩,
  ⟨(some 209), .pcall (.f 21) [], (some (208, true))⟩,
  ⟨(some 210), .pick (.t 208) (.t 209) (.c (.bool false)), none⟩,
  ⟨(some 4), .mv (.t 210), none⟩])
 .ret)))))))))))))))), false, 2⟩

def a10_L1 : C := (.seq (.seq (.ops [
  ⟨(some 151), .mv (.t 16), none⟩,
  ⟨(some 152), .fad 5 (.t 2), none⟩,
  ⟨(some 153), .load 1 false (.t 152), none⟩,
  ⟨(some 154), .len (.t 153), none⟩,
  ⟨(some 155), .bin .lss (.t 151) (.t 154), none⟩])
 (.cond (.t 155)
  .skip
  (.exit 0)))
 (.seq (.block 1
  (.seq (.ops [
  ⟨(some 158), .mv (.t 1), none⟩,
  ⟨(some 159), .pcall (.f 42) [(.t 158), (.c (.int .i64 64))], none⟩,
  ⟨(some 160), .mv (.t 16), none⟩,
  ⟨(some 161), .pcall (.f 40) [(.t 159), (.t 160)], none⟩,
  ⟨(some 162), .mv (.t 161), none⟩,
  ⟨(some 163), .fad 5 (.t 2), (some (162, true))⟩,
  ⟨(some 164), .load 1 false (.t 163), (some (162, true))⟩,
  ⟨(some 165), .mv (.t 16), (some (162, true))⟩,
  ⟨(some 166), .iad 5 (.t 164) (.t 165), (some (162, true))⟩,
  ⟨(some 167), .fad 4 (.t 166), (some (162, true))⟩,
  ⟨(some 168), .load 1 false (.t 167), (some (162, true))⟩,
  ⟨(some 169), .pick (.t 162) (.t 168) (.c (.bool false)), none⟩])
 (.cond (.t 169)
  (.ops [
  ⟨(some 170), .mv (.t 15), none⟩,
  ⟨(some 171), .mv (.t 16), none⟩,
  ⟨(some 172), .bsl [(.int .i64 0)] 1 [(0, (.t 171))], none⟩,
  ⟨(some 173), .app 173 1 8 (.t 170) (.t 172), none⟩,
  ⟨(some 15), .mv (.t 173), none⟩])
  .skip)))
 (.ops [
  ⟨(some 156), .mv (.t 16), none⟩,
  ⟨(some 157), .bin .add (.t 156) (.c (.int .i64 1)), none⟩,
  ⟨(some 16), .mv (.t 157), none⟩])))
def a10_L2 : C := (.seq (.seq (.ops [
  ⟨(some 188), .mv (.t 19), none⟩,
  ⟨(some 189), .mv (.t 5), none⟩,
  ⟨(some 190), .len (.t 189), none⟩,
  ⟨(some 191), .bin .lss (.t 188) (.t 190), none⟩])
 (.cond (.t 191)
  .skip
  (.exit 2)))
 (.seq (.block 3
  (.seq (.ops [
  ⟨(some 194), .fad 5 (.t 2), none⟩,
  ⟨(some 195), .load 1 false (.t 194), none⟩,
  ⟨(some 196), .mv (.t 5), none⟩,
  ⟨(some 197), .mv (.t 19), none⟩,
  ⟨(some 198), .iad 1 (.t 196) (.t 197), none⟩,
  ⟨(some 199), .load 1 false (.t 198), none⟩,
  ⟨(some 200), .iad 5 (.t 195) (.t 199), none⟩,
  ⟨(some 201), .fad 4 (.t 200), none⟩,
  ⟨(some 202), .load 1 false (.t 201), none⟩,
  ⟨(some 203), .not (.t 202), none⟩])
 (.cond (.t 203)
  (.seq (.ops [
  ⟨(some 4), .mv (.c (.bool false)), none⟩])
 .ret)
  .skip)))
 (.ops [
  ⟨(some 192), .mv (.t 19), none⟩,
  ⟨(some 193), .bin .add (.t 192) (.c (.int .i64 1)), none⟩,
  ⟨(some 19), .mv (.t 193), none⟩])))
/-- wishbook/wishbooklaw09.ClaimFalse -/
def a10 : F := ⟨[.tmp 4],
 (.seq (.ops [
  ⟨(some 2), .box (.t 0), none⟩,
  ⟨(some 4), .mv (.c (.bool false)), none⟩])
 (.seq (.ops [
  ⟨(some 23), .load 6 true (.t 2), none⟩,
  ⟨(some 24), .pcall (.f 33) [(.t 23)], none⟩,
  ⟨(some 22), .mv (.t 24), none⟩,
  ⟨(some 25), .ext (.t 22) 0, none⟩,
  ⟨(some 26), .ext (.t 22) 1, none⟩,
  ⟨(some 5), .mv (.t 25), none⟩,
  ⟨(some 6), .mv (.t 26), none⟩])
 (.seq (.ops [
  ⟨(some 28), .load 6 true (.t 2), none⟩,
  ⟨(some 29), .pcall (.f 31) [(.t 28)], none⟩,
  ⟨(some 27), .mv (.t 29), none⟩,
  ⟨(some 30), .ext (.t 27) 0, none⟩,
  ⟨(some 31), .ext (.t 27) 1, none⟩,
  ⟨(some 7), .mv (.t 30), none⟩,
  ⟨(some 8), .mv (.t 31), none⟩])
 (.seq (.seq (.ops [
  ⟨(some 32), .load 6 true (.t 2), none⟩,
  ⟨(some 33), .pcall (.f 35) [(.t 32)], none⟩,
  ⟨(some 34), .not (.t 33), none⟩])
 (.cond (.t 34)
  (.seq (.ops [
  ⟨(some 35), .mv (.t 6), none⟩,
  ⟨(some 36), .bin .eql (.t 35) (.c (.int .i64 90)), none⟩,
  ⟨(some 37), .mv (.t 36), none⟩,
  ⟨(some 38), .mv (.t 8), (some (37, true))⟩,
  ⟨(some 39), .mv (.t 6), (some (37, true))⟩,
  ⟨(some 40), .bin .eql (.t 38) (.t 39), (some (37, true))⟩,
  ⟨(some 41), .pick (.t 37) (.t 40) (.c (.bool false)), none⟩,
  ⟨(some 42), .mv (.t 41), none⟩,
  ⟨(some 43), .mv (.t 5), (some (42, true))⟩,
  ⟨(some 44), .len (.t 43), (some (42, true))⟩,
  ⟨(some 45), .bin .eql (.t 44) (.c (.int .i64 0)), (some (42, true))⟩,
  ⟨(some 46), .pick (.t 42) (.t 45) (.c (.bool false)), none⟩,
  ⟨(some 47), .mv (.t 46), none⟩,
  ⟨(some 48), .mv (.t 7), (some (47, true))⟩,
  ⟨(some 49), .bin .eql (.t 48) (.c (.int .i64 0)), (some (47, true))⟩,
  ⟨(some 50), .pick (.t 47) (.t 49) (.c (.bool false)), none⟩,
  ⟨(some 51), .mv (.t 50), none⟩,
  ⟨(some 52), .pcall (.f 21) [], (some (51, true))⟩,
  ⟨(some 53), .pick (.t 51) (.t 52) (.c (.bool false)), none⟩,
  ⟨(some 4), .mv (.t 53), none⟩])
 .ret)
  .skip))
 (.seq (.ops [
  ⟨(some 55), .load 6 true (.t 2), none⟩,
  ⟨(some 56), .pcall (.f 19) [(.t 55)], none⟩,
  ⟨(some 54), .mv (.t 56), none⟩,
  ⟨(some 57), .ext (.t 54) 0, none⟩,
  ⟨(some 58), .ext (.t 54) 1, none⟩,
  ⟨(some 9), .mv (.t 57), none⟩,
  ⟨(some 10), .mv (.t 58), none⟩])
 (.seq (.seq (.ops [
  ⟨(some 59), .mv (.t 10), none⟩,
  ⟨(some 60), .bin .neq (.t 59) (.c (.int .i64 0)), none⟩,
  ⟨(some 61), .mv (.t 60), none⟩,
  ⟨(some 62), .mv (.t 10), (some (61, true))⟩,
  ⟨(some 63), .bin .neq (.t 62) (.c (.int .i64 92)), (some (61, true))⟩,
  ⟨(some 64), .pick (.t 61) (.t 63) (.c (.bool false)), none⟩,
  ⟨(some 65), .mv (.t 64), none⟩,
  ⟨(some 66), .mv (.t 6), (some (65, false))⟩,
  ⟨(some 67), .bin .eql (.t 66) (.c (.int .i64 0)), (some (65, false))⟩,
  ⟨(some 68), .mv (.t 67), (some (65, false))⟩,
  ⟨(some 69), .mv (.t 5), (some (68, true))⟩,
  ⟨(some 70), .len (.t 69), (some (68, true))⟩,
  ⟨(some 71), .bin .eql (.t 70) (.c (.int .i64 0)), (some (68, true))⟩,
  ⟨(some 72), .pick (.t 68) (.t 71) (.c (.bool false)), (some (65, false))⟩,
  ⟨(some 73), .mv (.t 10), (some (65, false))⟩,
  ⟨(some 74), .bin .eql (.t 73) (.c (.int .i64 0)), (some (65, false))⟩,
  ⟨(some 75), .eq true (.s .bool) (.t 72) (.t 74), (some (65, false))⟩,
  ⟨(some 76), .pick (.t 65) (.c (.bool true)) (.t 75), none⟩,
  ⟨(some 77), .mv (.t 76), none⟩,
  ⟨(some 78), .mv (.t 6), (some (77, false))⟩,
  ⟨(some 79), .bin .neq (.t 78) (.c (.int .i64 0)), (some (77, false))⟩,
  ⟨(some 80), .mv (.t 79), (some (77, false))⟩,
  ⟨(some 81), .mv (.t 6), (some (80, true))⟩,
  ⟨(some 82), .bin .neq (.t 81) (.c (.int .i64 4)), (some (80, true))⟩,
  ⟨(some 83), .mv (.t 82), (some (80, true))⟩,
  ⟨(some 84), .mv (.t 5), (some (83, false))⟩,
  ⟨(some 85), .len (.t 84), (some (83, false))⟩,
  ⟨(some 86), .bin .neq (.t 85) (.c (.int .i64 0)), (some (83, false))⟩,
  ⟨(some 87), .pick (.t 83) (.c (.bool true)) (.t 86), (some (80, true))⟩,
  ⟨(some 88), .pick (.t 80) (.t 87) (.c (.bool false)), (some (77, false))⟩,
  ⟨(some 89), .pick (.t 77) (.c (.bool true)) (.t 88), none⟩,
  ⟨(some 90), .mv (.t 89), none⟩,
  ⟨(some 91), .mv (.t 5), (some (90, false))⟩,
  ⟨(some 92), .fad 5 (.t 2), (some (90, false))⟩,
  ⟨(some 93), .load 1 false (.t 92), (some (90, false))⟩,
  ⟨(some 94), .len (.t 93), (some (90, false))⟩,
  ⟨(some 95), .pcall (.f 37) [(.t 91), (.t 94)], (some (90, false))⟩,
  ⟨(some 96), .not (.t 95), (some (90, false))⟩,
  ⟨(some 97), .pick (.t 90) (.c (.bool true)) (.t 96), none⟩])
 (.cond (.t 97)
  (.seq (.ops [
  ⟨(some 4), .mv (.c (.bool false)), none⟩])
 .ret)
  .skip))
 (.seq (.seq (.ops [
  ⟨(some 98), .mv (.t 8), none⟩,
  ⟨(some 99), .bin .eql (.t 98) (.c (.int .i64 0)), none⟩])
 (.cond (.t 99)
  (.seq (.ops [
  ⟨(some 101), .load 6 true (.t 2), none⟩,
  ⟨(some 102), .mv (.t 7), none⟩,
  ⟨(some 103), .pcall (.f 45) [(.t 101), (.t 102)], none⟩,
  ⟨(some 104), .pcall (.f 19) [(.t 103)], none⟩,
  ⟨(some 100), .mv (.t 104), none⟩,
  ⟨(some 105), .ext (.t 100) 0, none⟩,
  ⟨(some 106), .ext (.t 100) 1, none⟩,
  ⟨(some 11), .mv (.t 105), none⟩,
  ⟨(some 12), .mv (.t 106), none⟩])
 (.seq (.seq (.ops [
  ⟨(some 107), .mv (.t 7), none⟩,
  ⟨(some 108), .pcall (.f 38) [(.t 107), (.c (.int .i64 0)), (.c (.int .i64 6))], none⟩,
  ⟨(some 109), .not (.t 108), none⟩,
  ⟨(some 110), .mv (.t 109), none⟩,
  ⟨(some 111), .mv (.t 12), (some (110, false))⟩,
  ⟨(some 112), .bin .neq (.t 111) (.c (.int .i64 0)), (some (110, false))⟩,
  ⟨(some 113), .pick (.t 110) (.c (.bool true)) (.t 112), none⟩,
  ⟨(some 114), .mv (.t 113), none⟩,
  ⟨(some 115), .mv (.t 10), (some (114, false))⟩,
  ⟨(some 116), .bin .eql (.t 115) (.c (.int .i64 0)), (some (114, false))⟩,
  ⟨(some 117), .fad 3 (.t 2), (some (114, false))⟩,
  ⟨(some 118), .load 1 false (.t 117), (some (114, false))⟩,
  ⟨(some 119), .mv (.t 7), (some (114, false))⟩,
  ⟨(some 120), .bin .geq (.t 118) (.t 119), (some (114, false))⟩,
  ⟨(some 121), .eq true (.s .bool) (.t 116) (.t 120), (some (114, false))⟩,
  ⟨(some 122), .pick (.t 114) (.c (.bool true)) (.t 121), none⟩])
 (.cond (.t 122)
  (.seq (.ops [
  ⟨(some 4), .mv (.c (.bool false)), none⟩])
 .ret)
  .skip))
 (.seq (.ops [
  ⟨(some 123), .mv (.t 7), none⟩,
  ⟨(some 124), .bin .gtr (.t 123) (.c (.int .i64 0)), none⟩])
 (.cond (.t 124)
  (.seq (.ops [
  ⟨(some 126), .load 6 true (.t 2), none⟩,
  ⟨(some 127), .mv (.t 7), none⟩,
  ⟨(some 128), .bin .sub (.t 127) (.c (.int .i64 1)), none⟩,
  ⟨(some 129), .pcall (.f 45) [(.t 126), (.t 128)], none⟩,
  ⟨(some 130), .pcall (.f 19) [(.t 129)], none⟩,
  ⟨(some 125), .mv (.t 130), none⟩,
  ⟨(some 131), .ext (.t 125) 0, none⟩,
  ⟨(some 132), .ext (.t 125) 1, none⟩,
  ⟨(some 12), .mv (.t 132), none⟩])
 (.seq (.ops [
  ⟨(some 133), .mv (.t 12), none⟩,
  ⟨(some 134), .bin .neq (.t 133) (.c (.int .i64 92)), none⟩])
 (.cond (.t 134)
  (.seq (.ops [
  ⟨(some 4), .mv (.c (.bool false)), none⟩])
 .ret)
  .skip)))
  .skip))))
  (.seq (.ops [
  ⟨(some 136), .load 6 true (.t 2), none⟩,
  ⟨(some 137), .pcall (.f 45) [(.t 136), (.c (.int .i64 6))], none⟩,
  ⟨(some 138), .pcall (.f 19) [(.t 137)], none⟩,
  ⟨(some 135), .mv (.t 138), none⟩,
  ⟨(some 139), .ext (.t 135) 0, none⟩,
  ⟨(some 140), .ext (.t 135) 1, none⟩,
  ⟨(some 13), .mv (.t 139), none⟩,
  ⟨(some 14), .mv (.t 140), none⟩])
 (.seq (.ops [
  ⟨(some 141), .mv (.t 8), none⟩,
  ⟨(some 142), .bin .neq (.t 141) (.c (.int .i64 4)), none⟩,
  ⟨(some 143), .mv (.t 142), none⟩,
  ⟨(some 144), .mv (.t 7), (some (143, false))⟩,
  ⟨(some 145), .bin .neq (.t 144) (.c (.int .i64 0)), (some (143, false))⟩,
  ⟨(some 146), .pick (.t 143) (.c (.bool true)) (.t 145), none⟩,
  ⟨(some 147), .mv (.t 146), none⟩,
  ⟨(some 148), .mv (.t 14), (some (147, false))⟩,
  ⟨(some 149), .bin .neq (.t 148) (.c (.int .i64 92)), (some (147, false))⟩,
  ⟨(some 150), .pick (.t 147) (.c (.bool true)) (.t 149), none⟩])
 (.cond (.t 150)
  (.seq (.ops [
  ⟨(some 4), .mv (.c (.bool false)), none⟩])
 .ret)
  .skip)))))
 (.seq (.ops [
  ⟨(some 15), .mv (.c (.sl [] .nil)), none⟩])
 (.seq (.seq (.ops [
  ⟨(some 16), .mv (.c (.int .i64 0)), none⟩])
 (.block 0
  (.loop [1, 2, 5, 6, 15, 16] a10_L1)))
 (.seq (.ops [
  ⟨(some 175), .load 6 true (.t 2), none⟩,
  ⟨(some 176), .mv (.t 15), none⟩,
  ⟨(some 177), .pcall (.f 47) [(.t 175), (.t 176)], none⟩,
  ⟨(some 178), .pcall (.f 19) [(.t 177)], none⟩,
  ⟨(some 174), .mv (.t 178), none⟩,
  ⟨(some 179), .ext (.t 174) 0, none⟩,
  ⟨(some 180), .ext (.t 174) 1, none⟩,
  ⟨(some 17), .mv (.t 179), none⟩,
  ⟨(some 18), .mv (.t 180), none⟩])
 (.seq (.seq (.ops [
  ⟨(some 181), .mv (.t 6), none⟩,
  ⟨(some 182), .bin .neq (.t 181) (.c (.int .i64 0)), none⟩])
 (.cond (.t 182)
  (.seq (.ops [
  ⟨(some 183), .mv (.t 18), none⟩,
  ⟨(some 184), .bin .eql (.t 183) (.c (.int .i64 92)), none⟩,
  ⟨(some 185), .mv (.t 184), none⟩,
  ⟨(some 186), .pcall (.f 21) [], (some (185, true))⟩,
  ⟨(some 187), .pick (.t 185) (.t 186) (.c (.bool false)), none⟩,
  ⟨(some 4), .mv (.t 187), none⟩])
 .ret)
  .skip))
 (.seq (.seq (.ops [
  ⟨(some 19), .mv (.c (.int .i64 0)), none⟩])
 (.block 2
  (.loop [2, 4, 5, 15, 18, 19] a10_L2)))
 (.seq (.ops [
  ⟨(some 205), .load 6 true (.t 2), none⟩,
  ⟨(some 206), .mv (.t 5), none⟩,
  ⟨(some 207), .pcall (.f 47) [(.t 205), (.t 206)], none⟩,
  ⟨(some 208), .pcall (.f 19) [(.t 207)], none⟩,
  ⟨(some 204), .mv (.t 208), none⟩,
  ⟨(some 209), .ext (.t 204) 0, none⟩,
  ⟨(some 210), .ext (.t 204) 1, none⟩,
  ⟨(some 20), .mv (.t 209), none⟩,
  ⟨(some 21), .mv (.t 210), none⟩])
 (.seq (.ops [
  ⟨(some 211), .mv (.t 21), none⟩,
  ⟨(some 212), .bin .eql (.t 211) (.c (.int .i64 0)), none⟩,
  ⟨(some 213), .mv (.t 212), none⟩,
  ⟨(some 214), .mv (.t 18), (some (213, true))⟩,
  ⟨(some 215), .bin .eql (.t 214) (.c (.int .i64 92)), (some (213, true))⟩,
  ⟨(some 216), .mv (.t 215), (some (213, true))⟩,
  ⟨(some 217), .mv (.t 15), (some (216, false))⟩,
  ⟨(some 218), .len (.t 217), (some (216, false))⟩,
  ⟨(some 219), .mv (.t 5), (some (216, false))⟩,
  ⟨(some 220), .len (.t 219), (some (216, false))⟩,
  ⟨(some 221), .bin .gtr (.t 218) (.t 220), (some (216, false))⟩,
  ⟨(some 222), .pick (.t 216) (.c (.bool true)) (.t 221), (some (213, true))⟩,
  ⟨(some 223), .mv (.t 222), (some (213, true))⟩,
  ⟨(some 224), .mv (.t 15), (some (223, false))⟩,
  ⟨(some 225), .len (.t 224), (some (223, false))⟩,
  ⟨(some 226), .mv (.t 5), (some (223, false))⟩,
  ⟨(some 227), .len (.t 226), (some (223, false))⟩,
  ⟨(some 228), .bin .eql (.t 225) (.t 227), (some (223, false))⟩,
  ⟨(some 229), .mv (.t 228), (some (223, false))⟩,
  ⟨(some 230), .mv (.t 15), (some (229, true))⟩,
  ⟨(some 231), .mv (.t 5), (some (229, true))⟩,
  ⟨(some 232), .pcall (.f 48) [(.t 230), (.t 231)], (some (229, true))⟩,
  ⟨(some 233), .not (.t 232), (some (229, true))⟩,
  ⟨(some 234), .pick (.t 229) (.t 233) (.c (.bool false)), (some (223, false))⟩,
  ⟨(some 235), .pick (.t 223) (.c (.bool true)) (.t 234), (some (213, true))⟩,
  ⟨(some 236), .pick (.t 213) (.t 235) (.c (.bool false)), none⟩,
  ⟨(some 237), .mv (.t 236), none⟩,
  ⟨(some 238), .pcall (.f 21) [], (some (237, true))⟩,
  ⟨(some 239), .pick (.t 237) (.t 238) (.c (.bool false)), none⟩,
  ⟨(some 4), .mv (.t 239), none⟩])
 .ret)))))))))))))), false, 2⟩

def a11_L1 : C := (.seq (.seq (.ops [
  ⟨(some 204), .mv (.t 19), none⟩,
  ⟨(some 205), .mv (.t 11), none⟩,
  ⟨(some 206), .len (.t 205), none⟩,
  ⟨(some 207), .bin .lss (.t 204) (.t 206), none⟩])
 (.cond (.t 207)
  .skip
  (.exit 1)))
 (.seq (.block 2
  (.seq (.ops [
  ⟨(some 210), .mv (.t 13), none⟩,
  ⟨(some 211), .mv (.t 11), none⟩,
  ⟨(some 212), .mv (.t 19), none⟩,
  ⟨(some 213), .iad 1 (.t 211) (.t 212), none⟩,
  ⟨(some 214), .load 1 false (.t 213), none⟩,
  ⟨(some 215), .pcall (.f 39) [(.t 210), (.t 214)], none⟩,
  ⟨(some 216), .bin .lss (.t 215) (.c (.int .i64 0)), none⟩])
 (.cond (.t 216)
  (.seq (.ops [
  ⟨(some 6), .mv (.c (.bool false)), none⟩])
 .ret)
  .skip)))
 (.ops [
  ⟨(some 208), .mv (.t 19), none⟩,
  ⟨(some 209), .bin .add (.t 208) (.c (.int .i64 1)), none⟩,
  ⟨(some 19), .mv (.t 209), none⟩])))
/-- wishbook/wishbooklaw09.ClaimMore -/
def a11 : F := ⟨[.tmp 6],
 (.seq (.ops [
  ⟨(some 3), .box (.t 0), none⟩,
  ⟨(some 4), .box (.t 1), none⟩,
  ⟨(some 5), .box (.t 2), none⟩,
  ⟨(some 6), .mv (.c (.bool false)), none⟩])
 (.seq (.seq (.ops [
  ⟨(some 20), .load 6 true (.t 3), none⟩,
  ⟨(some 21), .pcall (.f 35) [(.t 20)], none⟩,
  ⟨(some 22), .not (.t 21), none⟩,
  ⟨(some 23), .mv (.t 22), none⟩,
  ⟨(some 24), .fad 5 (.t 3), (some (23, false))⟩,
  ⟨(some 25), .load 1 false (.t 24), (some (23, false))⟩,
  ⟨(some 26), .len (.t 25), (some (23, false))⟩,
  ⟨(some 27), .bin .eql (.t 26) (.c (.int .i64 0)), (some (23, false))⟩,
  ⟨(some 28), .pick (.t 23) (.c (.bool true)) (.t 27), none⟩])
 (.cond (.t 28)
  (.seq (.ops [
  ⟨(some 29), .pcall (.f 21) [], none⟩,
  ⟨(some 6), .mv (.t 29), none⟩])
 .ret)
  .skip))
 (.seq (.ops [
  ⟨(some 30), .load 6 true (.t 3), none⟩,
  ⟨(some 7), .alloc [(.int .i64 0), (.int .i64 0), (.int .i64 0), (.int .i64 0), (.sl [] .nil), (.sl [] .nil)], none⟩,
  ⟨none, .store 6 (.t 7) (.t 30), none⟩])
 (.seq (.ops [
  ⟨(some 31), .iarr 3 1 (.t 5) (.c (.int .i64 2)), none⟩,
  ⟨(some 32), .load 1 false (.t 31), none⟩,
  ⟨(some 33), .fad 5 (.t 3), none⟩,
  ⟨(some 34), .load 1 false (.t 33), none⟩,
  ⟨(some 35), .len (.t 34), none⟩,
  ⟨(some 36), .pcall (.f 42) [(.t 32), (.t 35)], none⟩,
  ⟨(some 37), .iarr 3 1 (.t 5) (.c (.int .i64 1)), none⟩,
  ⟨(some 38), .load 1 false (.t 37), none⟩,
  ⟨(some 39), .pcall (.f 42) [(.t 38), (.c (.int .i64 60))], none⟩,
  ⟨(some 8), .mv (.t 36), none⟩,
  ⟨(some 9), .mv (.t 39), none⟩])
 (.seq (.ops [
  ⟨(some 40), .nilfull, none⟩,
  ⟨(some 41), .fad 5 (.t 3), none⟩,
  ⟨(some 42), .load 1 false (.t 41), none⟩,
  ⟨(some 43), .appo 5 48 (.t 40) (.t 42), none⟩,
  ⟨(some 44), .fad 5 (.t 7), none⟩,
  ⟨none, .store 1 (.t 44) (.t 43), none⟩])
 (.seq (.ops [
  ⟨(some 45), .fad 5 (.t 3), none⟩,
  ⟨(some 46), .load 1 false (.t 45), none⟩,
  ⟨(some 47), .mv (.t 8), none⟩,
  ⟨(some 48), .iad 5 (.t 46) (.t 47), none⟩,
  ⟨(some 49), .load 5 true (.t 48), none⟩,
  ⟨(some 10), .alloc [(.int .i64 0), (.int .i64 0), (.int .i64 0), (.str []), (.bool false)], none⟩,
  ⟨none, .store 5 (.t 10) (.t 49), none⟩])
 (.seq (.seq (.ops [
  ⟨(some 50), .iarr 3 1 (.t 5) (.c (.int .i64 0)), none⟩,
  ⟨(some 51), .load 1 false (.t 50), none⟩,
  ⟨(some 52), .pcall (.f 42) [(.t 51), (.c (.int .i64 5))], none⟩])
 (.block 0
  (.seq (.ops [
  ⟨(some 66), .bin .eql (.t 52) (.c (.int .i64 0)), none⟩,
  ⟨(some 65), .mv (.t 66), none⟩])
 (.cond (.t 65)
  (.ops [
  ⟨(some 67), .fad 0 (.t 3), none⟩,
  ⟨(some 68), .fad 0 (.t 67), none⟩,
  ⟨(some 69), .load 1 false (.t 68), none⟩,
  ⟨(some 70), .mv (.t 9), none⟩,
  ⟨(some 71), .bin .sub (.t 69) (.t 70), none⟩,
  ⟨(some 72), .mx (.c (.int .i64 0)) [(.t 71)], none⟩,
  ⟨(some 73), .fad 0 (.t 3), none⟩,
  ⟨(some 74), .fad 1 (.t 73), none⟩,
  ⟨(some 75), .load 1 false (.t 74), none⟩,
  ⟨(some 76), .mv (.t 9), none⟩,
  ⟨(some 77), .bin .add (.t 75) (.t 76), none⟩,
  ⟨(some 78), .mn (.c (.int .i64 400)) [(.t 77)], none⟩,
  ⟨(some 79), .pcall (.f 43) [(.t 72), (.t 78)], none⟩,
  ⟨(some 80), .fad 0 (.t 7), none⟩,
  ⟨none, .store 2 (.t 80) (.t 79), none⟩])
  (.seq (.ops [
  ⟨(some 82), .bin .eql (.t 52) (.c (.int .i64 1)), none⟩,
  ⟨(some 81), .mv (.t 82), none⟩])
 (.cond (.t 81)
  (.ops [
  ⟨(some 83), .fad 2 (.t 3), none⟩,
  ⟨(some 84), .load 1 false (.t 83), none⟩,
  ⟨(some 85), .mv (.t 9), none⟩,
  ⟨(some 86), .bin .add (.t 84) (.t 85), none⟩,
  ⟨(some 87), .mn (.c (.int .i64 5000)) [(.t 86)], none⟩,
  ⟨(some 88), .fad 2 (.t 7), none⟩,
  ⟨none, .store 1 (.t 88) (.t 87), none⟩])
  (.seq (.ops [
  ⟨(some 90), .bin .eql (.t 52) (.c (.int .i64 2)), none⟩,
  ⟨(some 89), .mv (.t 90), none⟩])
 (.cond (.t 89)
  (.ops [
  ⟨(some 91), .fad 1 (.t 10), none⟩,
  ⟨(some 92), .fad 0 (.t 91), none⟩,
  ⟨(some 93), .load 1 false (.t 92), none⟩,
  ⟨(some 94), .mv (.t 9), none⟩,
  ⟨(some 95), .bin .sub (.t 93) (.t 94), none⟩,
  ⟨(some 96), .mx (.c (.int .i64 0)) [(.t 95)], none⟩,
  ⟨(some 97), .fad 1 (.t 10), none⟩,
  ⟨(some 98), .fad 1 (.t 97), none⟩,
  ⟨(some 99), .load 1 false (.t 98), none⟩,
  ⟨(some 100), .mv (.t 9), none⟩,
  ⟨(some 101), .bin .add (.t 99) (.t 100), none⟩,
  ⟨(some 102), .mn (.c (.int .i64 50000)) [(.t 101)], none⟩,
  ⟨(some 103), .pcall (.f 43) [(.t 96), (.t 102)], none⟩,
  ⟨(some 104), .fad 1 (.t 10), none⟩,
  ⟨none, .store 2 (.t 104) (.t 103), none⟩])
  (.seq (.ops [
  ⟨(some 106), .bin .eql (.t 52) (.c (.int .i64 3)), none⟩,
  ⟨(some 105), .mv (.t 106), none⟩])
 (.cond (.t 105)
  (.seq (.ops [
  ⟨(some 107), .fad 3 (.t 10), none⟩,
  ⟨(some 108), .load 1 false (.t 107), none⟩,
  ⟨(some 109), .lens (.t 108), none⟩,
  ⟨(some 110), .bin .eql (.t 109) (.c (.int .i64 4)), none⟩])
 (.cond (.t 110)
  (.ops [
  ⟨(some 111), .fad 3 (.t 10), none⟩,
  ⟨(some 112), .load 1 false (.t 111), none⟩,
  ⟨(some 113), .mv (.t 9), none⟩,
  ⟨(some 114), .bin .rem (.t 113) (.c (.int .i64 4)), none⟩,
  ⟨(some 115), .slstr (.t 112) none (some (.t 114)), none⟩,
  ⟨(some 116), .bin .add (.t 115) (.c (.str [63])), none⟩,
  ⟨(some 117), .fad 3 (.t 10), none⟩,
  ⟨(some 118), .load 1 false (.t 117), none⟩,
  ⟨(some 119), .mv (.t 9), none⟩,
  ⟨(some 120), .bin .rem (.t 119) (.c (.int .i64 4)), none⟩,
  ⟨(some 121), .bin .add (.t 120) (.c (.int .i64 1)), none⟩,
  ⟨(some 122), .slstr (.t 118) (some (.t 121)) none, none⟩,
  ⟨(some 123), .bin .add (.t 116) (.t 122), none⟩,
  ⟨(some 124), .fad 3 (.t 10), none⟩,
  ⟨none, .store 1 (.t 124) (.t 123), none⟩])
  .skip))
  (.seq (.ops [
  ⟨(some 53), .fad 4 (.t 3), none⟩,
  ⟨(some 54), .load 1 false (.t 53), none⟩,
  ⟨(some 55), .len (.t 54), none⟩,
  ⟨(some 56), .bin .lss (.t 55) (.c (.int .i64 8)), none⟩])
 (.cond (.t 56)
  (.ops [
  ⟨(some 57), .nilfull, none⟩,
  ⟨(some 58), .fad 4 (.t 3), none⟩,
  ⟨(some 59), .load 1 false (.t 58), none⟩,
  ⟨(some 60), .app 60 4 32 (.t 57) (.t 59), none⟩,
  ⟨(some 61), .load 4 true (.t 4), none⟩,
  ⟨(some 62), .bsl [(.int .i64 0), (.int .i64 0), (.int .i64 0), (.int .i64 0)] 1 [(0, (.t 61))], none⟩,
  ⟨(some 63), .app 63 4 32 (.t 60) (.t 62), none⟩,
  ⟨(some 64), .fad 4 (.t 7), none⟩,
  ⟨none, .store 1 (.t 64) (.t 63), none⟩])
  .skip))))))))))))
 (.seq (.ops [
  ⟨(some 125), .fad 5 (.t 7), none⟩,
  ⟨(some 126), .load 1 false (.t 125), none⟩,
  ⟨(some 127), .mv (.t 8), none⟩,
  ⟨(some 128), .load 5 true (.t 10), none⟩,
  ⟨(some 129), .iad 5 (.t 126) (.t 127), none⟩,
  ⟨none, .store 5 (.t 129) (.t 128), none⟩])
 (.seq (.seq (.ops [
  ⟨(some 130), .load 6 true (.t 7), none⟩,
  ⟨(some 131), .pcall (.f 15) [(.t 130)], none⟩,
  ⟨(some 132), .bin .neq (.t 131) (.c (.int .i64 0)), none⟩])
 (.cond (.t 132)
  (.seq (.ops [
  ⟨(some 133), .iarr 3 1 (.t 5) (.c (.int .i64 0)), none⟩,
  ⟨(some 134), .load 1 false (.t 133), none⟩,
  ⟨(some 135), .pcall (.f 42) [(.t 134), (.c (.int .i64 5))], none⟩,
  ⟨(some 136), .bin .eql (.t 135) (.c (.int .i64 4)), none⟩,
  ⟨(some 137), .mv (.t 136), none⟩,
  ⟨(some 138), .pcall (.f 21) [], (some (137, true))⟩,
  ⟨(some 139), .pick (.t 137) (.t 138) (.c (.bool false)), none⟩,
  ⟨(some 6), .mv (.t 139), none⟩])
 .ret)
  .skip))
 (.seq (.ops [
  ⟨(some 141), .load 6 true (.t 3), none⟩,
  ⟨(some 142), .mv (.t 8), none⟩,
  ⟨(some 143), .pcall (.f 22) [(.t 141), (.t 142)], none⟩,
  ⟨(some 140), .mv (.t 143), none⟩,
  ⟨(some 144), .ext (.t 140) 0, none⟩,
  ⟨(some 145), .ext (.t 140) 1, none⟩,
  ⟨(some 11), .mv (.t 144), none⟩,
  ⟨(some 12), .mv (.t 145), none⟩])
 (.seq (.ops [
  ⟨(some 147), .load 6 true (.t 7), none⟩,
  ⟨(some 148), .mv (.t 8), none⟩,
  ⟨(some 149), .pcall (.f 22) [(.t 147), (.t 148)], none⟩,
  ⟨(some 146), .mv (.t 149), none⟩,
  ⟨(some 150), .ext (.t 146) 0, none⟩,
  ⟨(some 151), .ext (.t 146) 1, none⟩,
  ⟨(some 13), .mv (.t 150), none⟩,
  ⟨(some 14), .mv (.t 151), none⟩])
 (.seq (.ops [
  ⟨(some 153), .load 6 true (.t 3), none⟩,
  ⟨(some 154), .pcall (.f 29) [(.t 153)], none⟩,
  ⟨(some 152), .mv (.t 154), none⟩,
  ⟨(some 155), .ext (.t 152) 0, none⟩,
  ⟨(some 156), .ext (.t 152) 1, none⟩,
  ⟨(some 15), .alloc [(.int .i64 0), (.int .i64 0)], none⟩,
  ⟨none, .store 2 (.t 15) (.t 155), none⟩,
  ⟨(some 16), .mv (.t 156), none⟩])
 (.seq (.ops [
  ⟨(some 158), .load 6 true (.t 7), none⟩,
  ⟨(some 159), .pcall (.f 29) [(.t 158)], none⟩,
  ⟨(some 157), .mv (.t 159), none⟩,
  ⟨(some 160), .ext (.t 157) 0, none⟩,
  ⟨(some 161), .ext (.t 157) 1, none⟩,
  ⟨(some 17), .alloc [(.int .i64 0), (.int .i64 0)], none⟩,
  ⟨none, .store 2 (.t 17) (.t 160), none⟩,
  ⟨(some 18), .mv (.t 161), none⟩])
 (.seq (.seq (.ops [
  ⟨(some 162), .mv (.t 12), none⟩,
  ⟨(some 163), .bin .neq (.t 162) (.c (.int .i64 0)), none⟩])
 (.cond (.t 163)
  (.seq (.ops [
  ⟨(some 164), .mv (.t 12), none⟩,
  ⟨(some 165), .bin .eql (.t 164) (.c (.int .i64 92)), none⟩,
  ⟨(some 166), .mv (.t 165), none⟩,
  ⟨(some 167), .mv (.t 16), (some (166, true))⟩,
  ⟨(some 168), .mv (.t 12), (some (166, true))⟩,
  ⟨(some 169), .bin .eql (.t 167) (.t 168), (some (166, true))⟩,
  ⟨(some 170), .pick (.t 166) (.t 169) (.c (.bool false)), none⟩,
  ⟨(some 171), .mv (.t 170), none⟩,
  ⟨(some 172), .mv (.t 14), (some (171, true))⟩,
  ⟨(some 173), .bin .eql (.t 172) (.c (.int .i64 0)), (some (171, true))⟩,
  ⟨(some 174), .mv (.t 173), (some (171, true))⟩,
  ⟨(some 175), .mv (.t 14), (some (174, false))⟩,
  ⟨(some 176), .mv (.t 12), (some (174, false))⟩,
  ⟨(some 177), .bin .eql (.t 175) (.t 176), (some (174, false))⟩,
  ⟨(some 178), .pick (.t 174) (.c (.bool true)) (.t 177), (some (171, true))⟩,
  ⟨(some 179), .pick (.t 171) (.t 178) (.c (.bool false)), none⟩,
  ⟨(some 180), .mv (.t 179), none⟩,
  ⟨(some 181), .mv (.t 18), (some (180, true))⟩,
  ⟨(some 182), .mv (.t 14), (some (180, true))⟩,
  ⟨(some 183), .bin .eql (.t 181) (.t 182), (some (180, true))⟩,
  ⟨(some 184), .pick (.t 180) (.t 183) (.c (.bool false)), none⟩,
  ⟨(some 185), .mv (.t 184), none⟩,
  ⟨(some 186), .pcall (.f 21) [], (some (185, true))⟩,
  ⟨(some 187), .pick (.t 185) (.t 186) (.c (.bool false)), none⟩,
  ⟨(some 6), .mv (.t 187), none⟩])
 .ret)
  .skip))
 (.seq (.seq (.ops [
  ⟨(some 188), .mv (.t 14), none⟩,
  ⟨(some 189), .bin .neq (.t 188) (.c (.int .i64 0)), none⟩,
  ⟨(some 190), .mv (.t 189), none⟩,
  ⟨(some 191), .mv (.t 16), (some (190, false))⟩,
  ⟨(some 192), .bin .neq (.t 191) (.c (.int .i64 0)), (some (190, false))⟩,
  ⟨(some 193), .pick (.t 190) (.c (.bool true)) (.t 192), none⟩,
  ⟨(some 194), .mv (.t 193), none⟩,
  ⟨(some 195), .mv (.t 18), (some (194, false))⟩,
  ⟨(some 196), .bin .neq (.t 195) (.c (.int .i64 0)), (some (194, false))⟩,
  ⟨(some 197), .pick (.t 194) (.c (.bool true)) (.t 196), none⟩,
  ⟨(some 198), .mv (.t 197), none⟩,
  ⟨(some 199), .load 2 true (.t 15), (some (198, false))⟩,
  ⟨(some 200), .load 2 true (.t 17), (some (198, false))⟩,
  ⟨(some 201), .pcall (.f 49) [(.t 199), (.t 200)], (some (198, false))⟩,
  ⟨(some 202), .not (.t 201), (some (198, false))⟩,
  ⟨(some 203), .pick (.t 198) (.c (.bool true)) (.t 202), none⟩])
 (.cond (.t 203)
  (.seq (.ops [
  ⟨(some 6), .mv (.c (.bool false)), none⟩])
 .ret)
  .skip))
 (.seq (.seq (.ops [
  ⟨(some 19), .mv (.c (.int .i64 0)), none⟩])
 (.block 1
  (.loop [6, 11, 13, 19] a11_L1)))
 (.seq (.ops [
  ⟨(some 217), .pcall (.f 21) [], none⟩,
  ⟨(some 6), .mv (.t 217), none⟩])
 .ret))))))))))))))))), false, 3⟩

def a12_L1 : C := (.seq (.seq (.ops [
  ⟨(some 128), .mv (.t 2), none⟩,
  ⟨(some 129), .mv (.t 1), none⟩,
  ⟨(some 130), .len (.t 129), none⟩,
  ⟨(some 131), .bin .lss (.t 128) (.t 130), none⟩])
 (.cond (.t 131)
  .skip
  (.exit 0)))
 (.seq (.block 1
  (.seq (.ops [
  ⟨(some 135), .mv (.t 1), none⟩,
  ⟨(some 136), .mv (.t 2), none⟩,
  ⟨(some 137), .iad 6 (.t 135) (.t 136), none⟩,
  ⟨(some 138), .load 6 true (.t 137), none⟩,
  ⟨(some 139), .pcall (.f 13) [(.t 138), (.c (.int .i64 (-1))), (.c (.int .i64 (-1)))], none⟩,
  ⟨(some 134), .mv (.t 139), none⟩,
  ⟨(some 140), .ext (.t 134) 0, none⟩,
  ⟨(some 141), .ext (.t 134) 1, none⟩,
  ⟨(some 3), .mv (.t 140), none⟩,
  ⟨(some 4), .mv (.t 141), none⟩])
 (.seq (.ops [
  ⟨(some 143), .mv (.t 1), none⟩,
  ⟨(some 144), .mv (.t 2), none⟩,
  ⟨(some 145), .iad 6 (.t 143) (.t 144), none⟩,
  ⟨(some 146), .load 6 true (.t 145), none⟩,
  ⟨(some 147), .pcall (.f 17) [(.t 146), (.c (.sl [] .nil))], none⟩,
  ⟨(some 142), .mv (.t 147), none⟩,
  ⟨(some 148), .ext (.t 142) 0, none⟩,
  ⟨(some 149), .ext (.t 142) 1, none⟩,
  ⟨(some 5), .mv (.t 148), none⟩,
  ⟨(some 6), .mv (.t 149), none⟩])
 (.seq (.ops [
  ⟨(some 151), .mv (.t 1), none⟩,
  ⟨(some 152), .mv (.t 2), none⟩,
  ⟨(some 153), .iad 6 (.t 151) (.t 152), none⟩,
  ⟨(some 154), .load 6 true (.t 153), none⟩,
  ⟨(some 155), .pcall (.f 19) [(.t 154)], none⟩,
  ⟨(some 150), .mv (.t 155), none⟩,
  ⟨(some 156), .ext (.t 150) 0, none⟩,
  ⟨(some 157), .ext (.t 150) 1, none⟩,
  ⟨(some 7), .mv (.t 156), none⟩,
  ⟨(some 8), .mv (.t 157), none⟩])
 (.seq (.ops [
  ⟨(some 159), .mv (.t 1), none⟩,
  ⟨(some 160), .mv (.t 2), none⟩,
  ⟨(some 161), .iad 6 (.t 159) (.t 160), none⟩,
  ⟨(some 162), .load 6 true (.t 161), none⟩,
  ⟨(some 163), .pcall (.f 22) [(.t 162), (.c (.int .i64 (-1)))], none⟩,
  ⟨(some 158), .mv (.t 163), none⟩,
  ⟨(some 164), .ext (.t 158) 0, none⟩,
  ⟨(some 165), .ext (.t 158) 1, none⟩,
  ⟨(some 9), .mv (.t 164), none⟩,
  ⟨(some 10), .mv (.t 165), none⟩])
 (.seq (.ops [
  ⟨(some 167), .mv (.t 1), none⟩,
  ⟨(some 168), .mv (.t 2), none⟩,
  ⟨(some 169), .iad 6 (.t 167) (.t 168), none⟩,
  ⟨(some 170), .load 6 true (.t 169), none⟩,
  ⟨(some 171), .pcall (.f 25) [(.t 170), (.c (.int .i64 (-1)))], none⟩,
  ⟨(some 166), .mv (.t 171), none⟩,
  ⟨(some 172), .ext (.t 166) 0, none⟩,
  ⟨(some 173), .ext (.t 166) 1, none⟩,
  ⟨(some 11), .mv (.t 172), none⟩,
  ⟨(some 12), .mv (.t 173), none⟩])
 (.seq (.ops [
  ⟨(some 175), .mv (.t 1), none⟩,
  ⟨(some 176), .mv (.t 2), none⟩,
  ⟨(some 177), .iad 6 (.t 175) (.t 176), none⟩,
  ⟨(some 178), .load 6 true (.t 177), none⟩,
  ⟨(some 179), .pcall (.f 27) [(.t 178)], none⟩,
  ⟨(some 174), .mv (.t 179), none⟩,
  ⟨(some 180), .ext (.t 174) 0, none⟩,
  ⟨(some 181), .ext (.t 174) 1, none⟩,
  ⟨(some 182), .ext (.t 174) 2, none⟩,
  ⟨(some 13), .mv (.t 180), none⟩,
  ⟨(some 14), .mv (.t 181), none⟩,
  ⟨(some 15), .mv (.t 182), none⟩])
 (.seq (.ops [
  ⟨(some 184), .mv (.t 1), none⟩,
  ⟨(some 185), .mv (.t 2), none⟩,
  ⟨(some 186), .iad 6 (.t 184) (.t 185), none⟩,
  ⟨(some 187), .load 6 true (.t 186), none⟩,
  ⟨(some 188), .pcall (.f 31) [(.t 187)], none⟩,
  ⟨(some 183), .mv (.t 188), none⟩,
  ⟨(some 189), .ext (.t 183) 0, none⟩,
  ⟨(some 190), .ext (.t 183) 1, none⟩,
  ⟨(some 16), .mv (.t 189), none⟩,
  ⟨(some 17), .mv (.t 190), none⟩])
 (.seq (.ops [
  ⟨(some 192), .mv (.t 1), none⟩,
  ⟨(some 193), .mv (.t 2), none⟩,
  ⟨(some 194), .iad 6 (.t 192) (.t 193), none⟩,
  ⟨(some 195), .load 6 true (.t 194), none⟩,
  ⟨(some 196), .pcall (.f 33) [(.t 195)], none⟩,
  ⟨(some 191), .mv (.t 196), none⟩,
  ⟨(some 197), .ext (.t 191) 0, none⟩,
  ⟨(some 198), .ext (.t 191) 1, none⟩,
  ⟨(some 18), .mv (.t 197), none⟩,
  ⟨(some 19), .mv (.t 198), none⟩])
 (.seq (.ops [
  ⟨(some 200), .mv (.t 1), none⟩,
  ⟨(some 201), .mv (.t 2), none⟩,
  ⟨(some 202), .iad 6 (.t 200) (.t 201), none⟩,
  ⟨(some 203), .load 6 true (.t 202), none⟩,
  ⟨(some 204), .pcall (.f 29) [(.t 203)], none⟩,
  ⟨(some 199), .mv (.t 204), none⟩,
  ⟨(some 205), .ext (.t 199) 0, none⟩,
  ⟨(some 206), .ext (.t 199) 1, none⟩,
  ⟨(some 20), .alloc [(.int .i64 0), (.int .i64 0)], none⟩,
  ⟨none, .store 2 (.t 20) (.t 205), none⟩,
  ⟨(some 21), .mv (.t 206), none⟩])
 (.seq (.ops [
  ⟨(some 207), .mv (.t 1), none⟩,
  ⟨(some 208), .mv (.t 2), none⟩,
  ⟨(some 209), .iad 6 (.t 207) (.t 208), none⟩,
  ⟨(some 210), .load 6 true (.t 209), none⟩,
  ⟨(some 211), .pcall (.f 15) [(.t 210)], none⟩,
  ⟨(some 212), .bin .neq (.t 211) (.c (.int .i64 90)), none⟩,
  ⟨(some 213), .mv (.t 212), none⟩,
  ⟨(some 214), .mv (.t 4), (some (213, false))⟩,
  ⟨(some 215), .bin .neq (.t 214) (.c (.int .i64 90)), (some (213, false))⟩,
  ⟨(some 216), .pick (.t 213) (.c (.bool true)) (.t 215), none⟩,
  ⟨(some 217), .mv (.t 216), none⟩,
  ⟨(some 218), .mv (.t 6), (some (217, false))⟩,
  ⟨(some 219), .bin .neq (.t 218) (.c (.int .i64 90)), (some (217, false))⟩,
  ⟨(some 220), .pick (.t 217) (.c (.bool true)) (.t 219), none⟩,
  ⟨(some 221), .mv (.t 220), none⟩,
  ⟨(some 222), .mv (.t 8), (some (221, false))⟩,
  ⟨(some 223), .bin .neq (.t 222) (.c (.int .i64 90)), (some (221, false))⟩,
  ⟨(some 224), .pick (.t 221) (.c (.bool true)) (.t 223), none⟩,
  ⟨(some 225), .mv (.t 224), none⟩,
  ⟨(some 226), .mv (.t 10), (some (225, false))⟩,
  ⟨(some 227), .bin .neq (.t 226) (.c (.int .i64 90)), (some (225, false))⟩,
  ⟨(some 228), .pick (.t 225) (.c (.bool true)) (.t 227), none⟩,
  ⟨(some 229), .mv (.t 228), none⟩,
  ⟨(some 230), .mv (.t 12), (some (229, false))⟩,
  ⟨(some 231), .bin .neq (.t 230) (.c (.int .i64 90)), (some (229, false))⟩,
  ⟨(some 232), .pick (.t 229) (.c (.bool true)) (.t 231), none⟩,
  ⟨(some 233), .mv (.t 232), none⟩,
  ⟨(some 234), .mv (.t 15), (some (233, false))⟩,
  ⟨(some 235), .bin .neq (.t 234) (.c (.int .i64 90)), (some (233, false))⟩,
  ⟨(some 236), .pick (.t 233) (.c (.bool true)) (.t 235), none⟩,
  ⟨(some 237), .mv (.t 236), none⟩,
  ⟨(some 238), .mv (.t 17), (some (237, false))⟩,
  ⟨(some 239), .bin .neq (.t 238) (.c (.int .i64 90)), (some (237, false))⟩,
  ⟨(some 240), .pick (.t 237) (.c (.bool true)) (.t 239), none⟩,
  ⟨(some 241), .mv (.t 240), none⟩,
  ⟨(some 242), .mv (.t 19), (some (241, false))⟩,
  ⟨(some 243), .bin .neq (.t 242) (.c (.int .i64 90)), (some (241, false))⟩,
  ⟨(some 244), .pick (.t 241) (.c (.bool true)) (.t 243), none⟩,
  ⟨(some 245), .mv (.t 244), none⟩,
  ⟨(some 246), .mv (.t 21), (some (245, false))⟩,
  ⟨(some 247), .bin .neq (.t 246) (.c (.int .i64 90)), (some (245, false))⟩,
  ⟨(some 248), .pick (.t 245) (.c (.bool true)) (.t 247), none⟩])
 (.cond (.t 248)
  (.seq (.ops [
  ⟨(some 0), .mv (.c (.bool false)), none⟩])
 .ret)
  .skip))))))))))))
 (.ops [
  ⟨(some 132), .mv (.t 2), none⟩,
  ⟨(some 133), .bin .add (.t 132) (.c (.int .i64 1)), none⟩,
  ⟨(some 2), .mv (.t 133), none⟩])))
def a12_L2 : C := (.seq (.seq (.ops [
  ⟨(some 258), .mv (.t 23), none⟩,
  ⟨(some 259), .mv (.t 22), none⟩,
  ⟨(some 260), .len (.t 259), none⟩,
  ⟨(some 261), .bin .lss (.t 258) (.t 260), none⟩])
 (.cond (.t 261)
  .skip
  (.exit 2)))
 (.seq (.block 3
  (.seq (.ops [
  ⟨(some 265), .pcall (.f 50) [], none⟩,
  ⟨(some 266), .mv (.t 22), none⟩,
  ⟨(some 267), .mv (.t 23), none⟩,
  ⟨(some 268), .iad 1 (.t 266) (.t 267), none⟩,
  ⟨(some 269), .load 1 false (.t 268), none⟩,
  ⟨(some 270), .pcall (.f 17) [(.t 265), (.t 269)], none⟩,
  ⟨(some 264), .mv (.t 270), none⟩,
  ⟨(some 271), .ext (.t 264) 0, none⟩,
  ⟨(some 272), .ext (.t 264) 1, none⟩,
  ⟨(some 24), .mv (.t 271), none⟩,
  ⟨(some 25), .mv (.t 272), none⟩])
 (.seq (.ops [
  ⟨(some 273), .mv (.t 24), none⟩,
  ⟨(some 274), .mv (.t 273), none⟩,
  ⟨(some 275), .mv (.t 25), (some (274, false))⟩,
  ⟨(some 276), .bin .neq (.t 275) (.c (.int .i64 0)), (some (274, false))⟩,
  ⟨(some 277), .pick (.t 274) (.c (.bool true)) (.t 276), none⟩])
 (.cond (.t 277)
  (.seq (.ops [
  ⟨(some 0), .mv (.c (.bool false)), none⟩])
 .ret)
  .skip))))
 (.ops [
  ⟨(some 262), .mv (.t 23), none⟩,
  ⟨(some 263), .bin .add (.t 262) (.c (.int .i64 1)), none⟩,
  ⟨(some 23), .mv (.t 263), none⟩])))
/-- wishbook/wishbooklaw09.ClaimKnown -/
def a12 : F := ⟨[.tmp 0],
 (.seq (.ops [
  ⟨(some 0), .mv (.c (.bool false)), none⟩])
 (.seq (.ops [
  ⟨(some 60), .build [(.int .i64 0), (.int .i64 0), (.int .i64 0), (.int .i64 0), (.sl [] .nil), (.sl [] .nil)] [(2, 1, (.c (.int .i64 (-1))))], none⟩,
  ⟨(some 61), .call (.f 1050) [], none⟩,
  ⟨(some 62), .call (.f 1050) [], none⟩,
  ⟨(some 63), .call (.f 1050) [], none⟩,
  ⟨(some 64), .call (.f 1050) [], none⟩,
  ⟨(some 65), .call (.f 1050) [], none⟩,
  ⟨(some 66), .call (.f 1050) [], none⟩,
  ⟨(some 67), .call (.f 1050) [], none⟩,
  ⟨(some 68), .call (.f 1050) [], none⟩,
  ⟨(some 69), .call (.f 1050) [], none⟩,
  ⟨(some 70), .call (.f 1050) [], none⟩,
  ⟨(some 71), .call (.f 1050) [], none⟩,
  ⟨(some 72), .bslo [(.int .i64 0), (.int .i64 0), (.int .i64 0), (.int .i64 0), (.sl [] .nil), (.sl [] .nil)] 12 [(0, (.t 60)), (1, (.t 61)), (2, (.t 62)), (3, (.t 63)), (4, (.t 64)), (5, (.t 65)), (6, (.t 66)), (7, (.t 67)), (8, (.t 68)), (9, (.t 69)), (10, (.t 70)), (11, (.t 71))], none⟩,
  ⟨(some 1), .mv (.t 72), none⟩])
 (.seq (.ops [
  ⟨(some 73), .mv (.t 1), none⟩,
  ⟨(some 74), .pcall (.f 43) [(.c (.int .i64 3)), (.c (.int .i64 401))], none⟩,
  ⟨(some 75), .iad 6 (.t 73) (.c (.int .i64 1)), none⟩,
  ⟨(some 76), .fad 0 (.t 75), none⟩,
  ⟨none, .store 2 (.t 76) (.t 74), none⟩])
 (.seq (.ops [
  ⟨(some 77), .mv (.t 1), none⟩,
  ⟨(some 78), .iad 6 (.t 77) (.c (.int .i64 2)), none⟩,
  ⟨(some 79), .fad 2 (.t 78), none⟩,
  ⟨none, .store 1 (.t 79) (.c (.int .i64 5001)), none⟩])
 (.seq (.ops [
  ⟨(some 80), .mv (.t 1), none⟩,
  ⟨(some 81), .iad 6 (.t 80) (.c (.int .i64 3)), none⟩,
  ⟨(some 82), .fad 3 (.t 81), none⟩,
  ⟨none, .store 1 (.t 82) (.c (.int .i64 7)), none⟩])
 (.seq (.ops [
  ⟨(some 83), .mv (.t 1), none⟩,
  ⟨(some 84), .mksl [(.int .i64 0), (.int .i64 0), (.int .i64 0), (.int .i64 0)] 32 (.c (.int .i64 9)) (.c (.int .i64 9)), none⟩,
  ⟨(some 85), .iad 6 (.t 83) (.c (.int .i64 4)), none⟩,
  ⟨(some 86), .fad 4 (.t 85), none⟩,
  ⟨none, .store 1 (.t 86) (.t 84), none⟩])
 (.seq (.ops [
  ⟨(some 87), .mv (.t 1), none⟩,
  ⟨(some 88), .mksl [(.int .i64 0), (.int .i64 0), (.int .i64 0), (.str []), (.bool false)] 48 (.c (.int .i64 7)) (.c (.int .i64 7)), none⟩,
  ⟨(some 89), .iad 6 (.t 87) (.c (.int .i64 5)), none⟩,
  ⟨(some 90), .fad 5 (.t 89), none⟩,
  ⟨none, .store 1 (.t 90) (.t 88), none⟩])
 (.seq (.ops [
  ⟨(some 91), .mv (.t 1), none⟩,
  ⟨(some 92), .iad 6 (.t 91) (.c (.int .i64 6)), none⟩,
  ⟨(some 93), .fad 4 (.t 92), none⟩,
  ⟨(some 94), .load 1 false (.t 93), none⟩,
  ⟨(some 95), .iad 4 (.t 94) (.c (.int .i64 0)), none⟩,
  ⟨(some 96), .fad 2 (.t 95), none⟩,
  ⟨none, .store 1 (.t 96) (.c (.int .i64 10000)), none⟩])
 (.seq (.ops [
  ⟨(some 97), .mv (.t 1), none⟩,
  ⟨(some 98), .iad 6 (.t 97) (.c (.int .i64 7)), none⟩,
  ⟨(some 99), .fad 4 (.t 98), none⟩,
  ⟨(some 100), .load 1 false (.t 99), none⟩,
  ⟨(some 101), .iad 4 (.t 100) (.c (.int .i64 0)), none⟩,
  ⟨(some 102), .fad 1 (.t 101), none⟩,
  ⟨none, .store 1 (.t 102) (.c (.int .i64 50001)), none⟩])
 (.seq (.ops [
  ⟨(some 103), .mv (.t 1), none⟩,
  ⟨(some 104), .iad 6 (.t 103) (.c (.int .i64 8)), none⟩,
  ⟨(some 105), .fad 5 (.t 104), none⟩,
  ⟨(some 106), .load 1 false (.t 105), none⟩,
  ⟨(some 107), .pcall (.f 43) [(.c (.int .i64 1450)), (.c (.int .i64 1400))], none⟩,
  ⟨(some 108), .iad 5 (.t 106) (.c (.int .i64 0)), none⟩,
  ⟨(some 109), .fad 1 (.t 108), none⟩,
  ⟨none, .store 2 (.t 109) (.t 107), none⟩])
 (.seq (.ops [
  ⟨(some 110), .mv (.t 1), none⟩,
  ⟨(some 111), .iad 6 (.t 110) (.c (.int .i64 9)), none⟩,
  ⟨(some 112), .fad 5 (.t 111), none⟩,
  ⟨(some 113), .load 1 false (.t 112), none⟩,
  ⟨(some 114), .iad 5 (.t 113) (.c (.int .i64 0)), none⟩,
  ⟨(some 115), .fad 3 (.t 114), none⟩,
  ⟨none, .store 1 (.t 115) (.c (.str [48, 52, 63])), none⟩])
 (.seq (.ops [
  ⟨(some 116), .mv (.t 1), none⟩,
  ⟨(some 117), .iad 6 (.t 116) (.c (.int .i64 10)), none⟩,
  ⟨(some 118), .fad 5 (.t 117), none⟩,
  ⟨(some 119), .load 1 false (.t 118), none⟩,
  ⟨(some 120), .iad 5 (.t 119) (.c (.int .i64 0)), none⟩,
  ⟨(some 121), .fad 3 (.t 120), none⟩,
  ⟨none, .store 1 (.t 121) (.c (.str [48, 52, 120, 55])), none⟩])
 (.seq (.ops [
  ⟨(some 122), .mv (.t 1), none⟩,
  ⟨(some 123), .iad 6 (.t 122) (.c (.int .i64 11)), none⟩,
  ⟨(some 124), .fad 5 (.t 123), none⟩,
  ⟨(some 125), .load 1 false (.t 124), none⟩,
  ⟨(some 126), .iad 5 (.t 125) (.c (.int .i64 0)), none⟩,
  ⟨(some 127), .fad 0 (.t 126), none⟩,
  ⟨none, .store 1 (.t 127) (.c (.int .i64 4001)), none⟩])
 (.seq (.seq (.ops [
  ⟨(some 2), .mv (.c (.int .i64 0)), none⟩])
 (.block 0
  (.loop [0, 1, 2] a12_L1)))
 (.seq (.ops [
  ⟨(some 249), .bsl [(.int .i64 0)] 2 [(0, (.c (.int .i64 0))), (1, (.c (.int .i64 1)))], none⟩,
  ⟨(some 250), .bsl [(.int .i64 0)] 3 [(0, (.c (.int .i64 1))), (1, (.c (.int .i64 0))), (2, (.c (.int .i64 2)))], none⟩,
  ⟨(some 251), .bsl [(.int .i64 0)] 3 [(0, (.c (.int .i64 1))), (1, (.c (.int .i64 1))), (2, (.c (.int .i64 2)))], none⟩,
  ⟨(some 252), .bsl [(.int .i64 0)] 3 [(0, (.c (.int .i64 0))), (1, (.c (.int .i64 (-1)))), (2, (.c (.int .i64 2)))], none⟩,
  ⟨(some 253), .bsl [(.int .i64 0)] 3 [(0, (.c (.int .i64 (-1)))), (1, (.c (.int .i64 1))), (2, (.c (.int .i64 (-1))))], none⟩,
  ⟨(some 254), .bsl [(.int .i64 0)] 3 [(0, (.c (.int .i64 0))), (1, (.c (.int .i64 1))), (2, (.c (.int .i64 3)))], none⟩,
  ⟨(some 255), .bsl [(.int .i64 0)] 3 [(0, (.c (.int .i64 0))), (1, (.c (.int .i64 1))), (2, (.c (.int .i64 (-2))))], none⟩,
  ⟨(some 256), .bsl [(.int .i64 0)] 3 [(0, (.c (.int .i64 2))), (1, (.c (.int .i64 1))), (2, (.c (.int .i64 0)))], none⟩,
  ⟨(some 257), .bsl [(.sl [] .nil)] 9 [(0, (.c (.sl [] .nil))), (1, (.t 249)), (2, (.t 250)), (3, (.t 251)), (4, (.t 252)), (5, (.t 253)), (6, (.t 254)), (7, (.t 255)), (8, (.t 256))], none⟩,
  ⟨(some 22), .mv (.t 257), none⟩])
 (.seq (.seq (.ops [
  ⟨(some 23), .mv (.c (.int .i64 0)), none⟩])
 (.block 2
  (.loop [0, 22, 23] a12_L2)))
 (.seq (.ops [
  ⟨(some 279), .pcall (.f 50) [], none⟩,
  ⟨(some 280), .pcall (.f 13) [(.t 279), (.c (.int .i64 3)), (.c (.int .i64 0))], none⟩,
  ⟨(some 278), .mv (.t 280), none⟩,
  ⟨(some 281), .ext (.t 278) 0, none⟩,
  ⟨(some 282), .ext (.t 278) 1, none⟩,
  ⟨(some 26), .mv (.t 281), none⟩,
  ⟨(some 27), .mv (.t 282), none⟩])
 (.seq (.ops [
  ⟨(some 284), .pcall (.f 50) [], none⟩,
  ⟨(some 285), .pcall (.f 13) [(.t 284), (.c (.int .i64 0)), (.c (.int .i64 (-1)))], none⟩,
  ⟨(some 283), .mv (.t 285), none⟩,
  ⟨(some 286), .ext (.t 283) 0, none⟩,
  ⟨(some 287), .ext (.t 283) 1, none⟩,
  ⟨(some 28), .mv (.t 286), none⟩,
  ⟨(some 29), .mv (.t 287), none⟩])
 (.seq (.ops [
  ⟨(some 289), .pcall (.f 51) [], none⟩,
  ⟨(some 290), .pcall (.f 22) [(.t 289), (.c (.int .i64 3))], none⟩,
  ⟨(some 288), .mv (.t 290), none⟩,
  ⟨(some 291), .ext (.t 288) 0, none⟩,
  ⟨(some 292), .ext (.t 288) 1, none⟩,
  ⟨(some 30), .mv (.t 291), none⟩,
  ⟨(some 31), .mv (.t 292), none⟩])
 (.seq (.ops [
  ⟨(some 294), .pcall (.f 50) [], none⟩,
  ⟨(some 295), .pcall (.f 25) [(.t 294), (.c (.int .i64 (-1)))], none⟩,
  ⟨(some 293), .mv (.t 295), none⟩,
  ⟨(some 296), .ext (.t 293) 0, none⟩,
  ⟨(some 297), .ext (.t 293) 1, none⟩,
  ⟨(some 32), .mv (.t 296), none⟩,
  ⟨(some 33), .mv (.t 297), none⟩])
 (.seq (.ops [
  ⟨(some 299), .pcall (.f 51) [], none⟩,
  ⟨(some 300), .pcall (.f 19) [(.t 299)], none⟩,
  ⟨(some 298), .mv (.t 300), none⟩,
  ⟨(some 301), .ext (.t 298) 0, none⟩,
  ⟨(some 302), .ext (.t 298) 1, none⟩,
  ⟨(some 34), .mv (.t 301), none⟩,
  ⟨(some 35), .mv (.t 302), none⟩])
 (.seq (.ops [
  ⟨(some 304), .pcall (.f 51) [], none⟩,
  ⟨(some 305), .pcall (.f 22) [(.t 304), (.c (.int .i64 0))], none⟩,
  ⟨(some 303), .mv (.t 305), none⟩,
  ⟨(some 306), .ext (.t 303) 0, none⟩,
  ⟨(some 307), .ext (.t 303) 1, none⟩,
  ⟨(some 36), .mv (.t 306), none⟩,
  ⟨(some 37), .mv (.t 307), none⟩])
 (.seq (.ops [
  ⟨(some 309), .pcall (.f 51) [], none⟩,
  ⟨(some 310), .pcall (.f 25) [(.t 309), (.c (.int .i64 0))], none⟩,
  ⟨(some 308), .mv (.t 310), none⟩,
  ⟨(some 311), .ext (.t 308) 0, none⟩,
  ⟨(some 312), .ext (.t 308) 1, none⟩,
  ⟨(some 38), .mv (.t 311), none⟩,
  ⟨(some 39), .mv (.t 312), none⟩])
 (.seq (.ops [
  ⟨(some 314), .pcall (.f 51) [], none⟩,
  ⟨(some 315), .pcall (.f 27) [(.t 314)], none⟩,
  ⟨(some 313), .mv (.t 315), none⟩,
  ⟨(some 316), .ext (.t 313) 0, none⟩,
  ⟨(some 317), .ext (.t 313) 1, none⟩,
  ⟨(some 318), .ext (.t 313) 2, none⟩,
  ⟨(some 40), .mv (.t 316), none⟩,
  ⟨(some 41), .mv (.t 317), none⟩,
  ⟨(some 42), .mv (.t 318), none⟩])
 (.seq (.ops [
  ⟨(some 320), .pcall (.f 51) [], none⟩,
  ⟨(some 321), .pcall (.f 29) [(.t 320)], none⟩,
  ⟨(some 319), .mv (.t 321), none⟩,
  ⟨(some 322), .ext (.t 319) 0, none⟩,
  ⟨(some 323), .ext (.t 319) 1, none⟩,
  ⟨(some 43), .alloc [(.int .i64 0), (.int .i64 0)], none⟩,
  ⟨none, .store 2 (.t 43) (.t 322), none⟩,
  ⟨(some 44), .mv (.t 323), none⟩])
 (.seq (.ops [
  ⟨(some 325), .pcall (.f 51) [], none⟩,
  ⟨(some 326), .pcall (.f 31) [(.t 325)], none⟩,
  ⟨(some 324), .mv (.t 326), none⟩,
  ⟨(some 327), .ext (.t 324) 0, none⟩,
  ⟨(some 328), .ext (.t 324) 1, none⟩,
  ⟨(some 45), .mv (.t 327), none⟩,
  ⟨(some 46), .mv (.t 328), none⟩])
 (.seq (.ops [
  ⟨(some 330), .pcall (.f 51) [], none⟩,
  ⟨(some 331), .pcall (.f 45) [(.t 330), (.c (.int .i64 0))], none⟩,
  ⟨(some 332), .pcall (.f 33) [(.t 331)], none⟩,
  ⟨(some 329), .mv (.t 332), none⟩,
  ⟨(some 333), .ext (.t 329) 0, none⟩,
  ⟨(some 334), .ext (.t 329) 1, none⟩,
  ⟨(some 47), .mv (.t 333), none⟩,
  ⟨(some 48), .mv (.t 334), none⟩])
 (.seq (.seq (.ops [
  ⟨(some 335), .mv (.t 27), none⟩,
  ⟨(some 336), .bin .neq (.t 335) (.c (.int .i64 91)), none⟩,
  ⟨(some 337), .mv (.t 336), none⟩,
  ⟨(some 338), .mv (.t 29), (some (337, false))⟩,
  ⟨(some 339), .bin .neq (.t 338) (.c (.int .i64 91)), (some (337, false))⟩,
  ⟨(some 340), .pick (.t 337) (.c (.bool true)) (.t 339), none⟩,
  ⟨(some 341), .mv (.t 340), none⟩,
  ⟨(some 342), .mv (.t 31), (some (341, false))⟩,
  ⟨(some 343), .bin .neq (.t 342) (.c (.int .i64 91)), (some (341, false))⟩,
  ⟨(some 344), .pick (.t 341) (.c (.bool true)) (.t 343), none⟩,
  ⟨(some 345), .mv (.t 344), none⟩,
  ⟨(some 346), .mv (.t 33), (some (345, false))⟩,
  ⟨(some 347), .bin .neq (.t 346) (.c (.int .i64 91)), (some (345, false))⟩,
  ⟨(some 348), .pick (.t 345) (.c (.bool true)) (.t 347), none⟩,
  ⟨(some 349), .mv (.t 348), none⟩,
  ⟨(some 350), .mv (.t 35), (some (349, false))⟩,
  ⟨(some 351), .bin .neq (.t 350) (.c (.int .i64 92)), (some (349, false))⟩,
  ⟨(some 352), .pick (.t 349) (.c (.bool true)) (.t 351), none⟩,
  ⟨(some 353), .mv (.t 352), none⟩,
  ⟨(some 354), .mv (.t 37), (some (353, false))⟩,
  ⟨(some 355), .bin .neq (.t 354) (.c (.int .i64 92)), (some (353, false))⟩,
  ⟨(some 356), .pick (.t 353) (.c (.bool true)) (.t 355), none⟩,
  ⟨(some 357), .mv (.t 356), none⟩,
  ⟨(some 358), .mv (.t 39), (some (357, false))⟩,
  ⟨(some 359), .bin .neq (.t 358) (.c (.int .i64 92)), (some (357, false))⟩,
  ⟨(some 360), .pick (.t 357) (.c (.bool true)) (.t 359), none⟩,
  ⟨(some 361), .mv (.t 360), none⟩,
  ⟨(some 362), .mv (.t 42), (some (361, false))⟩,
  ⟨(some 363), .bin .neq (.t 362) (.c (.int .i64 92)), (some (361, false))⟩,
  ⟨(some 364), .pick (.t 361) (.c (.bool true)) (.t 363), none⟩,
  ⟨(some 365), .mv (.t 364), none⟩,
  ⟨(some 366), .mv (.t 44), (some (365, false))⟩,
  ⟨(some 367), .bin .neq (.t 366) (.c (.int .i64 92)), (some (365, false))⟩,
  ⟨(some 368), .pick (.t 365) (.c (.bool true)) (.t 367), none⟩,
  ⟨(some 369), .mv (.t 368), none⟩,
  ⟨(some 370), .mv (.t 46), (some (369, false))⟩,
  ⟨(some 371), .bin .neq (.t 370) (.c (.int .i64 4)), (some (369, false))⟩,
  ⟨(some 372), .pick (.t 369) (.c (.bool true)) (.t 371), none⟩,
  ⟨(some 373), .mv (.t 372), none⟩,
  ⟨(some 374), .mv (.t 48), (some (373, false))⟩,
  ⟨(some 375), .bin .neq (.t 374) (.c (.int .i64 4)), (some (373, false))⟩,
  ⟨(some 376), .pick (.t 373) (.c (.bool true)) (.t 375), none⟩])
 (.cond (.t 376)
  (.seq (.ops [
  ⟨(some 0), .mv (.c (.bool false)), none⟩])
 .ret)
  .skip))
 (.seq (.ops [
  ⟨(some 378), .pcall (.f 50) [], none⟩,
  ⟨(some 379), .pcall (.f 13) [(.t 378), (.c (.int .i64 1)), (.c (.int .i64 0))], none⟩,
  ⟨(some 377), .mv (.t 379), none⟩,
  ⟨(some 380), .ext (.t 377) 0, none⟩,
  ⟨(some 381), .ext (.t 377) 1, none⟩,
  ⟨(some 49), .mv (.t 380), none⟩,
  ⟨(some 27), .mv (.t 381), none⟩])
 (.seq (.ops [
  ⟨(some 383), .pcall (.f 50) [], none⟩,
  ⟨(some 384), .pcall (.f 13) [(.t 383), (.c (.int .i64 2)), (.c (.int .i64 2))], none⟩,
  ⟨(some 382), .mv (.t 384), none⟩,
  ⟨(some 385), .ext (.t 382) 0, none⟩,
  ⟨(some 386), .ext (.t 382) 1, none⟩,
  ⟨(some 50), .mv (.t 385), none⟩,
  ⟨(some 29), .mv (.t 386), none⟩])
 (.seq (.ops [
  ⟨(some 388), .pcall (.f 50) [], none⟩,
  ⟨(some 389), .pcall (.f 25) [(.t 388), (.c (.int .i64 0))], none⟩,
  ⟨(some 387), .mv (.t 389), none⟩,
  ⟨(some 390), .ext (.t 387) 0, none⟩,
  ⟨(some 391), .ext (.t 387) 1, none⟩,
  ⟨(some 51), .mv (.t 390), none⟩,
  ⟨(some 31), .mv (.t 391), none⟩])
 (.seq (.ops [
  ⟨(some 393), .pcall (.f 50) [], none⟩,
  ⟨(some 394), .pcall (.f 45) [(.t 393), (.c (.int .i64 0))], none⟩,
  ⟨(some 395), .pcall (.f 25) [(.t 394), (.c (.int .i64 0))], none⟩,
  ⟨(some 392), .mv (.t 395), none⟩,
  ⟨(some 396), .ext (.t 392) 0, none⟩,
  ⟨(some 397), .ext (.t 392) 1, none⟩,
  ⟨(some 52), .mv (.t 396), none⟩,
  ⟨(some 33), .mv (.t 397), none⟩])
 (.seq (.ops [
  ⟨(some 399), .pcall (.f 50) [], none⟩,
  ⟨(some 400), .pcall (.f 45) [(.t 399), (.c (.int .i64 0))], none⟩,
  ⟨(some 401), .pcall (.f 29) [(.t 400)], none⟩,
  ⟨(some 398), .mv (.t 401), none⟩,
  ⟨(some 402), .ext (.t 398) 0, none⟩,
  ⟨(some 403), .ext (.t 398) 1, none⟩,
  ⟨(some 53), .alloc [(.int .i64 0), (.int .i64 0)], none⟩,
  ⟨none, .store 2 (.t 53) (.t 402), none⟩,
  ⟨(some 35), .mv (.t 403), none⟩])
 (.seq (.ops [
  ⟨(some 404), .build [(.int .i64 0), (.int .i64 0), (.int .i64 0), (.str []), (.bool false)] [], none⟩,
  ⟨(some 405), .bsl [(.int .i64 0), (.int .i64 0), (.int .i64 0), (.str []), (.bool false)] 1 [(0, (.t 404))], none⟩,
  ⟨(some 406), .build [(.int .i64 0), (.int .i64 0), (.int .i64 0), (.int .i64 0), (.sl [] .nil), (.sl [] .nil)] [(5, 1, (.t 405)), (3, 1, (.c (.int .i64 1)))], none⟩,
  ⟨(some 54), .alloc [(.int .i64 0), (.int .i64 0), (.int .i64 0), (.int .i64 0), (.sl [] .nil), (.sl [] .nil)], none⟩,
  ⟨none, .store 6 (.t 54) (.t 406), none⟩])
 (.seq (.ops [
  ⟨(some 408), .load 6 true (.t 54), none⟩,
  ⟨(some 409), .pcall (.f 22) [(.t 408), (.c (.int .i64 0))], none⟩,
  ⟨(some 407), .mv (.t 409), none⟩,
  ⟨(some 410), .ext (.t 407) 0, none⟩,
  ⟨(some 411), .ext (.t 407) 1, none⟩,
  ⟨(some 55), .mv (.t 410), none⟩,
  ⟨(some 37), .mv (.t 411), none⟩])
 (.seq (.ops [
  ⟨(some 413), .load 6 true (.t 54), none⟩,
  ⟨(some 414), .pcall (.f 25) [(.t 413), (.c (.int .i64 0))], none⟩,
  ⟨(some 412), .mv (.t 414), none⟩,
  ⟨(some 415), .ext (.t 412) 0, none⟩,
  ⟨(some 416), .ext (.t 412) 1, none⟩,
  ⟨(some 56), .mv (.t 415), none⟩,
  ⟨(some 39), .mv (.t 416), none⟩])
 (.seq (.ops [
  ⟨(some 418), .load 6 true (.t 54), none⟩,
  ⟨(some 419), .pcall (.f 31) [(.t 418)], none⟩,
  ⟨(some 417), .mv (.t 419), none⟩,
  ⟨(some 420), .ext (.t 417) 0, none⟩,
  ⟨(some 421), .ext (.t 417) 1, none⟩,
  ⟨(some 57), .mv (.t 420), none⟩,
  ⟨(some 42), .mv (.t 421), none⟩])
 (.seq (.ops [
  ⟨(some 423), .pcall (.f 50) [], none⟩,
  ⟨(some 424), .pcall (.f 33) [(.t 423)], none⟩,
  ⟨(some 422), .mv (.t 424), none⟩,
  ⟨(some 425), .ext (.t 422) 0, none⟩,
  ⟨(some 426), .ext (.t 422) 1, none⟩,
  ⟨(some 58), .mv (.t 425), none⟩,
  ⟨(some 44), .mv (.t 426), none⟩])
 (.seq (.ops [
  ⟨(some 428), .load 6 true (.t 54), none⟩,
  ⟨(some 429), .pcall (.f 29) [(.t 428)], none⟩,
  ⟨(some 427), .mv (.t 429), none⟩,
  ⟨(some 430), .ext (.t 427) 0, none⟩,
  ⟨(some 431), .ext (.t 427) 1, none⟩,
  ⟨(some 59), .alloc [(.int .i64 0), (.int .i64 0)], none⟩,
  ⟨none, .store 2 (.t 59) (.t 430), none⟩,
  ⟨(some 46), .mv (.t 431), none⟩])
 (.seq (.ops [
  ⟨(some 432), .mv (.t 27), none⟩,
  ⟨(some 433), .bin .eql (.t 432) (.c (.int .i64 0)), none⟩,
  ⟨(some 434), .mv (.t 433), none⟩,
  ⟨(some 435), .mv (.t 49), (some (434, true))⟩,
  ⟨(some 436), .not (.t 435), (some (434, true))⟩,
  ⟨(some 437), .pick (.t 434) (.t 436) (.c (.bool false)), none⟩,
  ⟨(some 438), .mv (.t 437), none⟩,
  ⟨(some 439), .mv (.t 29), (some (438, true))⟩,
  ⟨(some 440), .bin .eql (.t 439) (.c (.int .i64 0)), (some (438, true))⟩,
  ⟨(some 441), .pick (.t 438) (.t 440) (.c (.bool false)), none⟩,
  ⟨(some 442), .mv (.t 441), none⟩,
  ⟨(some 443), .mv (.t 50), (some (442, true))⟩,
  ⟨(some 444), .pick (.t 442) (.t 443) (.c (.bool false)), none⟩,
  ⟨(some 445), .mv (.t 444), none⟩,
  ⟨(some 446), .mv (.t 31), (some (445, true))⟩,
  ⟨(some 447), .bin .eql (.t 446) (.c (.int .i64 0)), (some (445, true))⟩,
  ⟨(some 448), .pick (.t 445) (.t 447) (.c (.bool false)), none⟩,
  ⟨(some 449), .mv (.t 448), none⟩,
  ⟨(some 450), .mv (.t 51), (some (449, true))⟩,
  ⟨(some 451), .bin .eql (.t 450) (.c (.int .i64 2)), (some (449, true))⟩,
  ⟨(some 452), .pick (.t 449) (.t 451) (.c (.bool false)), none⟩,
  ⟨(some 453), .mv (.t 452), none⟩,
  ⟨(some 454), .mv (.t 33), (some (453, true))⟩,
  ⟨(some 455), .bin .eql (.t 454) (.c (.int .i64 0)), (some (453, true))⟩,
  ⟨(some 456), .pick (.t 453) (.t 455) (.c (.bool false)), none⟩,
  ⟨(some 457), .mv (.t 456), none⟩,
  ⟨(some 458), .mv (.t 52), (some (457, true))⟩,
  ⟨(some 459), .bin .eql (.t 458) (.c (.int .i64 1)), (some (457, true))⟩,
  ⟨(some 460), .pick (.t 457) (.t 459) (.c (.bool false)), none⟩,
  ⟨(some 461), .mv (.t 460), none⟩,
  ⟨(some 462), .mv (.t 35), (some (461, true))⟩,
  ⟨(some 463), .bin .eql (.t 462) (.c (.int .i64 0)), (some (461, true))⟩,
  ⟨(some 464), .pick (.t 461) (.t 463) (.c (.bool false)), none⟩,
  ⟨(some 465), .mv (.t 464), none⟩,
  ⟨(some 466), .load 2 true (.t 53), (some (465, true))⟩,
  ⟨(some 467), .pcall (.f 43) [(.c (.int .i64 1700)), (.c (.int .i64 1700))], (some (465, true))⟩,
  ⟨(some 468), .eq false (.agg [.int, .int]) (.t 466) (.t 467), (some (465, true))⟩,
  ⟨(some 469), .pick (.t 465) (.t 468) (.c (.bool false)), none⟩,
  ⟨(some 470), .mv (.t 469), none⟩,
  ⟨(some 471), .mv (.t 37), (some (470, true))⟩,
  ⟨(some 472), .bin .eql (.t 471) (.c (.int .i64 0)), (some (470, true))⟩,
  ⟨(some 473), .pick (.t 470) (.t 472) (.c (.bool false)), none⟩,
  ⟨(some 474), .mv (.t 473), none⟩,
  ⟨(some 475), .mv (.t 55), (some (474, true))⟩,
  ⟨(some 476), .len (.t 475), (some (474, true))⟩,
  ⟨(some 477), .bin .eql (.t 476) (.c (.int .i64 0)), (some (474, true))⟩,
  ⟨(some 478), .pick (.t 474) (.t 477) (.c (.bool false)), none⟩,
  ⟨(some 479), .mv (.t 478), none⟩,
  ⟨(some 480), .mv (.t 39), (some (479, true))⟩,
  ⟨(some 481), .bin .eql (.t 480) (.c (.int .i64 0)), (some (479, true))⟩,
  ⟨(some 482), .pick (.t 479) (.t 481) (.c (.bool false)), none⟩,
  ⟨(some 483), .mv (.t 482), none⟩,
  ⟨(some 484), .mv (.t 56), (some (483, true))⟩,
  ⟨(some 485), .bin .eql (.t 484) (.c (.int .i64 0)), (some (483, true))⟩,
  ⟨(some 486), .pick (.t 483) (.t 485) (.c (.bool false)), none⟩,
  ⟨(some 487), .mv (.t 486), none⟩,
  ⟨(some 488), .mv (.t 42), (some (487, true))⟩,
  ⟨(some 489), .bin .eql (.t 488) (.c (.int .i64 0)), (some (487, true))⟩,
  ⟨(some 490), .pick (.t 487) (.t 489) (.c (.bool false)), none⟩,
  ⟨(some 491), .mv (.t 490), none⟩,
  ⟨(some 492), .mv (.t 57), (some (491, true))⟩,
  ⟨(some 493), .bin .eql (.t 492) (.c (.int .i64 1)), (some (491, true))⟩,
  ⟨(some 494), .pick (.t 491) (.t 493) (.c (.bool false)), none⟩,
  ⟨(some 495), .mv (.t 494), none⟩,
  ⟨(some 496), .mv (.t 44), (some (495, true))⟩,
  ⟨(some 497), .bin .eql (.t 496) (.c (.int .i64 0)), (some (495, true))⟩,
  ⟨(some 498), .pick (.t 495) (.t 497) (.c (.bool false)), none⟩,
  ⟨(some 499), .mv (.t 498), none⟩,
  ⟨(some 500), .mv (.t 58), (some (499, true))⟩,
  ⟨(some 501), .len (.t 500), (some (499, true))⟩,
  ⟨(some 502), .bin .eql (.t 501) (.c (.int .i64 0)), (some (499, true))⟩,
  ⟨(some 503), .pick (.t 499) (.t 502) (.c (.bool false)), none⟩,
  ⟨(some 504), .mv (.t 503), none⟩,
  ⟨(some 505), .mv (.t 46), (some (504, true))⟩,
  ⟨(some 506), .bin .eql (.t 505) (.c (.int .i64 0)), (some (504, true))⟩,
  ⟨(some 507), .pick (.t 504) (.t 506) (.c (.bool false)), none⟩,
  ⟨(some 508), .mv (.t 507), none⟩,
  ⟨(some 509), .load 2 true (.t 59), (some (508, true))⟩,
  ⟨(some 510), .pcall (.f 43) [(.c (.int .i64 0)), (.c (.int .i64 0))], (some (508, true))⟩,
  ⟨(some 511), .eq false (.agg [.int, .int]) (.t 509) (.t 510), (some (508, true))⟩,
  ⟨(some 512), .pick (.t 508) (.t 511) (.c (.bool false)), none⟩,
  ⟨(some 513), .mv (.t 512), none⟩,
  ⟨(some 514), .pick (.t 513) (.c (.bool true)) (.c (.bool false)), none⟩,
  ⟨(some 515), .mv (.t 514), none⟩,
  ⟨(some 516), .pcall (.f 21) [], (some (515, true))⟩,
  ⟨(some 517), .pick (.t 515) (.t 516) (.c (.bool false)), none⟩,
  ⟨(some 0), .mv (.t 517), none⟩])
 .ret)))))))))))))))))))))))))))))))))))))))), false, 0⟩

/-- wishbook/claim.Could -/
def a13 : F := ⟨[.tmp 6, .tmp 7],
 (.seq (.ops [
  ⟨(some 3), .box (.t 0), none⟩,
  ⟨(some 6), .mv (.c (.bool false)), none⟩,
  ⟨(some 7), .mv (.c (.int .i64 0)), none⟩])
 (.seq (.seq (.ops [
  ⟨(some 11), .load 6 true (.t 3), none⟩,
  ⟨(some 12), .pcall (.f 15) [(.t 11)], none⟩,
  ⟨(some 8), .mv (.t 12), none⟩])
 (.seq (.ops [
  ⟨(some 13), .mv (.t 8), none⟩,
  ⟨(some 14), .bin .neq (.t 13) (.c (.int .i64 0)), none⟩])
 (.cond (.t 14)
  (.seq (.ops [
  ⟨(some 15), .mv (.t 8), none⟩,
  ⟨(some 6), .mv (.c (.bool false)), none⟩,
  ⟨(some 7), .mv (.t 15), none⟩])
 .ret)
  .skip)))
 (.seq (.ops [
  ⟨(some 16), .load 6 true (.t 3), none⟩,
  ⟨(some 17), .build [(.int .i64 0), (.int .i64 0), (.int .i64 0), (.int .i64 0), (.sl [] .nil), (.sl [] .nil)] [(0, 6, (.t 16))], none⟩,
  ⟨(some 9), .alloc [(.int .i64 0), (.int .i64 0), (.int .i64 0), (.int .i64 0), (.sl [] .nil), (.sl [] .nil)], none⟩,
  ⟨none, .store 6 (.t 9) (.t 17), none⟩])
 (.seq (.seq (.ops [
  ⟨(some 18), .load 6 true (.t 9), none⟩,
  ⟨(some 19), .mv (.t 1), none⟩,
  ⟨(some 20), .pcall (.f 52) [(.t 18), (.t 19)], none⟩,
  ⟨(some 21), .not (.t 20), none⟩,
  ⟨(some 22), .mv (.t 21), none⟩,
  ⟨(some 23), .load 6 true (.t 9), (some (22, false))⟩,
  ⟨(some 24), .mv (.t 2), (some (22, false))⟩,
  ⟨(some 25), .pcall (.f 53) [(.t 23), (.t 24)], (some (22, false))⟩,
  ⟨(some 26), .not (.t 25), (some (22, false))⟩,
  ⟨(some 27), .pick (.t 22) (.c (.bool true)) (.t 26), none⟩])
 (.cond (.t 27)
  (.seq (.ops [
  ⟨(some 6), .mv (.c (.bool false)), none⟩,
  ⟨(some 7), .mv (.c (.int .i64 91)), none⟩])
 .ret)
  .skip))
 (.seq (.ops [
  ⟨(some 28), .load 6 true (.t 9), none⟩,
  ⟨(some 29), .mkfn 54 [(.t 28)] [], none⟩,
  ⟨(some 10), .mv (.t 29), none⟩])
 (.seq (.ops [
  ⟨(some 30), .mv (.t 10), none⟩,
  ⟨(some 31), .mv (.t 1), none⟩,
  ⟨(some 32), .mv (.t 2), none⟩,
  ⟨(some 33), .pcall (.t 30) [(.t 31), (.t 32)], none⟩,
  ⟨(some 6), .mv (.t 33), none⟩,
  ⟨(some 7), .mv (.c (.int .i64 0)), none⟩])
 .ret)))))), false, 3⟩

/-- wishbook/wishbookref09.Could -/
def a14 : F := ⟨[.tmp 6, .tmp 7],
 (.seq (.ops [
  ⟨(some 3), .box (.t 0), none⟩,
  ⟨(some 6), .mv (.c (.bool false)), none⟩,
  ⟨(some 7), .mv (.c (.int .i64 0)), none⟩])
 (.seq (.seq (.ops [
  ⟨(some 9), .load 6 true (.t 3), none⟩,
  ⟨(some 10), .mv (.t 1), none⟩,
  ⟨(some 11), .fad 5 (.t 3), none⟩,
  ⟨(some 12), .load 1 false (.t 11), none⟩,
  ⟨(some 13), .len (.t 12), none⟩,
  ⟨(some 14), .bin .sub (.t 13) (.c (.int .i64 1)), none⟩,
  ⟨(some 15), .pcall (.f 38) [(.t 10), (.c (.int .i64 0)), (.t 14)], none⟩,
  ⟨(some 16), .mv (.t 15), none⟩,
  ⟨(some 17), .mv (.t 2), (some (16, true))⟩,
  ⟨(some 18), .fad 4 (.t 3), (some (16, true))⟩,
  ⟨(some 19), .load 1 false (.t 18), (some (16, true))⟩,
  ⟨(some 20), .len (.t 19), (some (16, true))⟩,
  ⟨(some 21), .bin .sub (.t 20) (.c (.int .i64 1)), (some (16, true))⟩,
  ⟨(some 22), .pcall (.f 38) [(.t 17), (.c (.int .i64 0)), (.t 21)], (some (16, true))⟩,
  ⟨(some 23), .pick (.t 16) (.t 22) (.c (.bool false)), none⟩,
  ⟨(some 24), .pcall (.f 55) [(.t 9), (.t 23)], none⟩,
  ⟨(some 8), .mv (.t 24), none⟩])
 (.seq (.ops [
  ⟨(some 25), .mv (.t 8), none⟩,
  ⟨(some 26), .bin .neq (.t 25) (.c (.int .i64 0)), none⟩])
 (.cond (.t 26)
  (.seq (.ops [
  ⟨(some 27), .mv (.t 8), none⟩,
  ⟨(some 6), .mv (.c (.bool false)), none⟩,
  ⟨(some 7), .mv (.t 27), none⟩])
 .ret)
  .skip)))
 (.seq (.ops [
  ⟨(some 28), .load 6 true (.t 3), none⟩,
  ⟨(some 29), .mv (.t 1), none⟩,
  ⟨(some 30), .mv (.t 2), none⟩,
  ⟨(some 31), .pcall (.f 56) [(.t 28), (.t 29), (.t 30)], none⟩,
  ⟨(some 6), .mv (.t 31), none⟩,
  ⟨(some 7), .mv (.c (.int .i64 0)), none⟩])
 .ret))), false, 3⟩

def a15_L1 : C := (.seq (.ops [
  ⟨(some 37), .bin .lss (.t 36) (.t 35), none⟩])
 (.seq (.cond (.t 37)
  .skip
  (.exit 0))
 (.seq (.block 1
  (.seq (.ops [
  ⟨(some 38), .iad 4 (.t 34) (.t 36), none⟩,
  ⟨(some 39), .load 4 true (.t 38), none⟩,
  ⟨(some 5), .alloc [(.int .i64 0), (.int .i64 0), (.int .i64 0), (.int .i64 0)], none⟩,
  ⟨none, .store 4 (.t 5) (.t 39), none⟩])
 (.ops [
  ⟨(some 40), .mv (.t 3), none⟩,
  ⟨(some 41), .mv (.t 40), none⟩,
  ⟨(some 42), .fad 0 (.t 5), (some (41, true))⟩,
  ⟨(some 43), .load 1 false (.t 42), (some (41, true))⟩,
  ⟨(some 44), .pcall (.f 58) [(.t 43), (.c (.int .i64 0)), (.c (.int .i64 4000))], (some (41, true))⟩,
  ⟨(some 45), .pick (.t 41) (.t 44) (.c (.bool false)), none⟩,
  ⟨(some 46), .mv (.t 45), none⟩,
  ⟨(some 47), .fad 1 (.t 5), (some (46, true))⟩,
  ⟨(some 48), .load 1 false (.t 47), (some (46, true))⟩,
  ⟨(some 49), .pcall (.f 58) [(.t 48), (.c (.int .i64 0)), (.c (.int .i64 50000))], (some (46, true))⟩,
  ⟨(some 50), .pick (.t 46) (.t 49) (.c (.bool false)), none⟩,
  ⟨(some 51), .mv (.t 50), none⟩,
  ⟨(some 52), .fad 2 (.t 5), (some (51, true))⟩,
  ⟨(some 53), .load 1 false (.t 52), (some (51, true))⟩,
  ⟨(some 54), .pcall (.f 58) [(.t 53), (.c (.int .i64 0)), (.c (.int .i64 9999))], (some (51, true))⟩,
  ⟨(some 55), .pick (.t 51) (.t 54) (.c (.bool false)), none⟩,
  ⟨(some 56), .mv (.t 55), none⟩,
  ⟨(some 57), .fad 3 (.t 5), (some (56, true))⟩,
  ⟨(some 58), .load 1 false (.t 57), (some (56, true))⟩,
  ⟨(some 59), .pcall (.f 58) [(.t 58), (.c (.int .i64 0)), (.c (.int .i64 100000))], (some (56, true))⟩,
  ⟨(some 60), .pick (.t 56) (.t 59) (.c (.bool false)), none⟩,
  ⟨(some 3), .mv (.t 60), none⟩])))
 (.ops [
  ⟨(some 61), .bin .add (.t 36) (.c (.int .i64 1)), none⟩,
  ⟨(some 36), .mv (.t 61), none⟩]))))
def a15_L2 : C := (.seq (.ops [
  ⟨(some 66), .bin .lss (.t 65) (.t 64), none⟩])
 (.seq (.cond (.t 66)
  .skip
  (.exit 2))
 (.seq (.block 3
  (.seq (.ops [
  ⟨(some 67), .iad 5 (.t 63) (.t 65), none⟩,
  ⟨(some 68), .load 5 true (.t 67), none⟩,
  ⟨(some 7), .alloc [(.int .i64 0), (.int .i64 0), (.int .i64 0), (.str []), (.bool false)], none⟩,
  ⟨none, .store 5 (.t 7) (.t 68), none⟩])
 (.ops [
  ⟨(some 69), .mv (.t 3), none⟩,
  ⟨(some 70), .mv (.t 69), none⟩,
  ⟨(some 71), .fad 0 (.t 7), (some (70, true))⟩,
  ⟨(some 72), .load 1 false (.t 71), (some (70, true))⟩,
  ⟨(some 73), .pcall (.f 58) [(.t 72), (.c (.int .i64 0)), (.c (.int .i64 4000))], (some (70, true))⟩,
  ⟨(some 74), .pick (.t 70) (.t 73) (.c (.bool false)), none⟩,
  ⟨(some 75), .mv (.t 74), none⟩,
  ⟨(some 76), .fad 1 (.t 7), (some (75, true))⟩,
  ⟨(some 77), .load 2 true (.t 76), (some (75, true))⟩,
  ⟨(some 78), .pcall (.f 57) [(.t 77), (.c (.int .i64 0)), (.c (.int .i64 50000))], (some (75, true))⟩,
  ⟨(some 79), .pick (.t 75) (.t 78) (.c (.bool false)), none⟩,
  ⟨(some 80), .mv (.t 79), none⟩,
  ⟨(some 81), .fad 3 (.t 7), (some (80, true))⟩,
  ⟨(some 82), .load 1 false (.t 81), (some (80, true))⟩,
  ⟨(some 83), .pcall (.f 59) [(.t 82)], (some (80, true))⟩,
  ⟨(some 84), .pick (.t 80) (.t 83) (.c (.bool false)), none⟩,
  ⟨(some 3), .mv (.t 84), none⟩])))
 (.ops [
  ⟨(some 85), .bin .add (.t 65) (.c (.int .i64 1)), none⟩,
  ⟨(some 65), .mv (.t 85), none⟩]))))
/-- wishbook/claim.Check -/
def a15 : F := ⟨[.tmp 2],
 (.seq (.ops [
  ⟨(some 1), .box (.t 0), none⟩,
  ⟨(some 2), .mv (.c (.int .i64 0)), none⟩])
 (.seq (.ops [
  ⟨(some 8), .fad 0 (.t 1), none⟩,
  ⟨(some 9), .load 2 true (.t 8), none⟩,
  ⟨(some 10), .pcall (.f 57) [(.t 9), (.c (.int .i64 0)), (.c (.int .i64 400))], none⟩,
  ⟨(some 11), .mv (.t 10), none⟩,
  ⟨(some 12), .fad 2 (.t 1), (some (11, true))⟩,
  ⟨(some 13), .load 1 false (.t 12), (some (11, true))⟩,
  ⟨(some 14), .pcall (.f 58) [(.t 13), (.c (.int .i64 0)), (.c (.int .i64 5000))], (some (11, true))⟩,
  ⟨(some 15), .pick (.t 11) (.t 14) (.c (.bool false)), none⟩,
  ⟨(some 16), .mv (.t 15), none⟩,
  ⟨(some 17), .fad 3 (.t 1), (some (16, true))⟩,
  ⟨(some 18), .load 1 false (.t 17), (some (16, true))⟩,
  ⟨(some 19), .pcall (.f 58) [(.t 18), (.c (.int .i64 0)), (.c (.int .i64 6))], (some (16, true))⟩,
  ⟨(some 20), .pick (.t 16) (.t 19) (.c (.bool false)), none⟩,
  ⟨(some 21), .mv (.t 20), none⟩,
  ⟨(some 22), .fad 4 (.t 1), (some (21, true))⟩,
  ⟨(some 23), .load 1 false (.t 22), (some (21, true))⟩,
  ⟨(some 24), .len (.t 23), (some (21, true))⟩,
  ⟨(some 25), .bin .leq (.t 24) (.c (.int .i64 8)), (some (21, true))⟩,
  ⟨(some 26), .pick (.t 21) (.t 25) (.c (.bool false)), none⟩,
  ⟨(some 27), .mv (.t 26), none⟩,
  ⟨(some 28), .fad 5 (.t 1), (some (27, true))⟩,
  ⟨(some 29), .load 1 false (.t 28), (some (27, true))⟩,
  ⟨(some 30), .len (.t 29), (some (27, true))⟩,
  ⟨(some 31), .bin .leq (.t 30) (.c (.int .i64 6)), (some (27, true))⟩,
  ⟨(some 32), .pick (.t 27) (.t 31) (.c (.bool false)), none⟩,
  ⟨(some 3), .mv (.t 32), none⟩])
 (.seq (.seq (.ops [
  ⟨(some 33), .fad 4 (.t 1), none⟩,
  ⟨(some 34), .load 1 false (.t 33), none⟩,
  ⟨(some 35), .len (.t 34), none⟩,
  ⟨(some 36), .mv (.c (.int .i64 0)), none⟩])
 (.block 0
  (.loop [1, 3, 34, 35, 36] a15_L1)))
 (.seq (.seq (.ops [
  ⟨(some 62), .fad 5 (.t 1), none⟩,
  ⟨(some 63), .load 1 false (.t 62), none⟩,
  ⟨(some 64), .len (.t 63), none⟩,
  ⟨(some 65), .mv (.c (.int .i64 0)), none⟩])
 (.block 2
  (.loop [3, 63, 64, 65] a15_L2)))
 (.seq (.seq (.ops [
  ⟨(some 86), .mv (.t 3), none⟩,
  ⟨(some 87), .not (.t 86), none⟩])
 (.cond (.t 87)
  (.seq (.ops [
  ⟨(some 2), .mv (.c (.int .i64 90)), none⟩])
 .ret)
  .skip))
 (.seq (.ops [
  ⟨(some 2), .mv (.c (.int .i64 0)), none⟩])
 .ret)))))), false, 1⟩

def a16_L1 : C := (.seq (.seq (.ops [
  ⟨(some 33), .mv (.t 3), none⟩,
  ⟨(some 34), .mv (.t 33), none⟩,
  ⟨(some 35), .mv (.t 4), (some (34, true))⟩,
  ⟨(some 36), .fad 4 (.t 1), (some (34, true))⟩,
  ⟨(some 37), .load 1 false (.t 36), (some (34, true))⟩,
  ⟨(some 38), .len (.t 37), (some (34, true))⟩,
  ⟨(some 39), .bin .lss (.t 35) (.t 38), (some (34, true))⟩,
  ⟨(some 40), .pick (.t 34) (.t 39) (.c (.bool false)), none⟩])
 (.cond (.t 40)
  .skip
  (.exit 0)))
 (.seq (.block 1
  (.seq (.ops [
  ⟨(some 43), .fad 4 (.t 1), none⟩,
  ⟨(some 44), .load 1 false (.t 43), none⟩,
  ⟨(some 45), .mv (.t 4), none⟩,
  ⟨(some 46), .iad 4 (.t 44) (.t 45), none⟩,
  ⟨(some 47), .load 4 true (.t 46), none⟩,
  ⟨(some 5), .alloc [(.int .i64 0), (.int .i64 0), (.int .i64 0), (.int .i64 0)], none⟩,
  ⟨none, .store 4 (.t 5) (.t 47), none⟩])
 (.ops [
  ⟨(some 48), .fad 0 (.t 5), none⟩,
  ⟨(some 49), .load 1 false (.t 48), none⟩,
  ⟨(some 50), .pcall (.f 38) [(.t 49), (.c (.int .i64 0)), (.c (.int .i64 4000))], none⟩,
  ⟨(some 51), .mv (.t 50), none⟩,
  ⟨(some 52), .fad 1 (.t 5), (some (51, true))⟩,
  ⟨(some 53), .load 1 false (.t 52), (some (51, true))⟩,
  ⟨(some 54), .pcall (.f 38) [(.t 53), (.c (.int .i64 0)), (.c (.int .i64 50000))], (some (51, true))⟩,
  ⟨(some 55), .pick (.t 51) (.t 54) (.c (.bool false)), none⟩,
  ⟨(some 56), .mv (.t 55), none⟩,
  ⟨(some 57), .fad 2 (.t 5), (some (56, true))⟩,
  ⟨(some 58), .load 1 false (.t 57), (some (56, true))⟩,
  ⟨(some 59), .pcall (.f 38) [(.t 58), (.c (.int .i64 0)), (.c (.int .i64 9999))], (some (56, true))⟩,
  ⟨(some 60), .pick (.t 56) (.t 59) (.c (.bool false)), none⟩,
  ⟨(some 61), .mv (.t 60), none⟩,
  ⟨(some 62), .fad 3 (.t 5), (some (61, true))⟩,
  ⟨(some 63), .load 1 false (.t 62), (some (61, true))⟩,
  ⟨(some 64), .pcall (.f 38) [(.t 63), (.c (.int .i64 0)), (.c (.int .i64 100000))], (some (61, true))⟩,
  ⟨(some 65), .pick (.t 61) (.t 64) (.c (.bool false)), none⟩,
  ⟨(some 3), .mv (.t 65), none⟩])))
 (.ops [
  ⟨(some 41), .mv (.t 4), none⟩,
  ⟨(some 42), .bin .add (.t 41) (.c (.int .i64 1)), none⟩,
  ⟨(some 4), .mv (.t 42), none⟩])))
def a16_L2 : C := (.seq (.seq (.ops [
  ⟨(some 66), .mv (.t 3), none⟩,
  ⟨(some 67), .mv (.t 66), none⟩,
  ⟨(some 68), .mv (.t 6), (some (67, true))⟩,
  ⟨(some 69), .fad 5 (.t 1), (some (67, true))⟩,
  ⟨(some 70), .load 1 false (.t 69), (some (67, true))⟩,
  ⟨(some 71), .len (.t 70), (some (67, true))⟩,
  ⟨(some 72), .bin .lss (.t 68) (.t 71), (some (67, true))⟩,
  ⟨(some 73), .pick (.t 67) (.t 72) (.c (.bool false)), none⟩])
 (.cond (.t 73)
  .skip
  (.exit 2)))
 (.seq (.block 3
  (.seq (.ops [
  ⟨(some 76), .fad 5 (.t 1), none⟩,
  ⟨(some 77), .load 1 false (.t 76), none⟩,
  ⟨(some 78), .mv (.t 6), none⟩,
  ⟨(some 79), .iad 5 (.t 77) (.t 78), none⟩,
  ⟨(some 80), .load 5 true (.t 79), none⟩,
  ⟨(some 7), .alloc [(.int .i64 0), (.int .i64 0), (.int .i64 0), (.str []), (.bool false)], none⟩,
  ⟨none, .store 5 (.t 7) (.t 80), none⟩])
 (.ops [
  ⟨(some 81), .fad 0 (.t 7), none⟩,
  ⟨(some 82), .load 1 false (.t 81), none⟩,
  ⟨(some 83), .pcall (.f 38) [(.t 82), (.c (.int .i64 0)), (.c (.int .i64 4000))], none⟩,
  ⟨(some 84), .mv (.t 83), none⟩,
  ⟨(some 85), .fad 1 (.t 7), (some (84, true))⟩,
  ⟨(some 86), .load 2 true (.t 85), (some (84, true))⟩,
  ⟨(some 87), .pcall (.f 60) [(.t 86), (.c (.int .i64 0)), (.c (.int .i64 50000))], (some (84, true))⟩,
  ⟨(some 88), .pick (.t 84) (.t 87) (.c (.bool false)), none⟩,
  ⟨(some 89), .mv (.t 88), none⟩,
  ⟨(some 90), .fad 3 (.t 7), (some (89, true))⟩,
  ⟨(some 91), .load 1 false (.t 90), (some (89, true))⟩,
  ⟨(some 92), .pcall (.f 61) [(.t 91)], (some (89, true))⟩,
  ⟨(some 93), .pick (.t 89) (.t 92) (.c (.bool false)), none⟩,
  ⟨(some 3), .mv (.t 93), none⟩])))
 (.ops [
  ⟨(some 74), .mv (.t 6), none⟩,
  ⟨(some 75), .bin .add (.t 74) (.c (.int .i64 1)), none⟩,
  ⟨(some 6), .mv (.t 75), none⟩])))
/-- wishbook/wishbookref09.Check -/
def a16 : F := ⟨[.tmp 2],
 (.seq (.ops [
  ⟨(some 1), .box (.t 0), none⟩,
  ⟨(some 2), .mv (.c (.int .i64 0)), none⟩])
 (.seq (.ops [
  ⟨(some 8), .fad 0 (.t 1), none⟩,
  ⟨(some 9), .load 2 true (.t 8), none⟩,
  ⟨(some 10), .pcall (.f 60) [(.t 9), (.c (.int .i64 0)), (.c (.int .i64 400))], none⟩,
  ⟨(some 11), .mv (.t 10), none⟩,
  ⟨(some 12), .fad 2 (.t 1), (some (11, true))⟩,
  ⟨(some 13), .load 1 false (.t 12), (some (11, true))⟩,
  ⟨(some 14), .pcall (.f 38) [(.t 13), (.c (.int .i64 0)), (.c (.int .i64 5000))], (some (11, true))⟩,
  ⟨(some 15), .pick (.t 11) (.t 14) (.c (.bool false)), none⟩,
  ⟨(some 16), .mv (.t 15), none⟩,
  ⟨(some 17), .fad 3 (.t 1), (some (16, true))⟩,
  ⟨(some 18), .load 1 false (.t 17), (some (16, true))⟩,
  ⟨(some 19), .pcall (.f 38) [(.t 18), (.c (.int .i64 0)), (.c (.int .i64 6))], (some (16, true))⟩,
  ⟨(some 20), .pick (.t 16) (.t 19) (.c (.bool false)), none⟩,
  ⟨(some 21), .mv (.t 20), none⟩,
  ⟨(some 22), .fad 4 (.t 1), (some (21, true))⟩,
  ⟨(some 23), .load 1 false (.t 22), (some (21, true))⟩,
  ⟨(some 24), .len (.t 23), (some (21, true))⟩,
  ⟨(some 25), .bin .leq (.t 24) (.c (.int .i64 8)), (some (21, true))⟩,
  ⟨(some 26), .pick (.t 21) (.t 25) (.c (.bool false)), none⟩,
  ⟨(some 27), .mv (.t 26), none⟩,
  ⟨(some 28), .fad 5 (.t 1), (some (27, true))⟩,
  ⟨(some 29), .load 1 false (.t 28), (some (27, true))⟩,
  ⟨(some 30), .len (.t 29), (some (27, true))⟩,
  ⟨(some 31), .bin .leq (.t 30) (.c (.int .i64 6)), (some (27, true))⟩,
  ⟨(some 32), .pick (.t 27) (.t 31) (.c (.bool false)), none⟩,
  ⟨(some 3), .mv (.t 32), none⟩])
 (.seq (.seq (.ops [
  ⟨(some 4), .mv (.c (.int .i64 0)), none⟩])
 (.block 0
  (.loop [1, 3, 4] a16_L1)))
 (.seq (.seq (.ops [
  ⟨(some 6), .mv (.c (.int .i64 0)), none⟩])
 (.block 2
  (.loop [1, 3, 6] a16_L2)))
 (.seq (.seq (.ops [
  ⟨(some 94), .mv (.t 3), none⟩,
  ⟨(some 95), .not (.t 94), none⟩])
 (.cond (.t 95)
  (.seq (.ops [
  ⟨(some 2), .mv (.c (.int .i64 90)), none⟩])
 .ret)
  .skip))
 (.seq (.ops [
  ⟨(some 2), .mv (.c (.int .i64 0)), none⟩])
 .ret)))))), false, 1⟩

def a17_L1 : C := (.seq (.ops [
  ⟨(some 30), .bin .lss (.t 29) (.t 28), none⟩])
 (.seq (.cond (.t 30)
  .skip
  (.exit 0))
 (.seq (.block 1
  (.seq (.ops [
  ⟨(some 31), .mv (.t 29), none⟩,
  ⟨(some 32), .iad 1 (.t 27) (.t 29), none⟩,
  ⟨(some 33), .load 1 false (.t 32), none⟩,
  ⟨(some 10), .mv (.t 31), none⟩,
  ⟨(some 11), .mv (.t 33), none⟩])
 (.block 2
  (.seq (.ops [
  ⟨(some 37), .mv (.t 11), none⟩,
  ⟨(some 38), .bin .eql (.t 37) (.c (.int .i64 (-1))), none⟩,
  ⟨(some 36), .mv (.t 38), none⟩])
 (.cond (.t 36)
  (.seq (.ops [
  ⟨(some 39), .mv (.t 9), none⟩,
  ⟨(some 40), .bin .add (.t 39) (.c (.int .i64 1)), none⟩,
  ⟨(some 9), .mv (.t 40), none⟩])
 (.seq (.ops [
  ⟨(some 41), .fad 0 (.t 7), none⟩,
  ⟨(some 42), .fad 5 (.t 41), none⟩,
  ⟨(some 43), .load 1 false (.t 42), none⟩,
  ⟨(some 44), .mv (.t 10), none⟩,
  ⟨(some 45), .iad 5 (.t 43) (.t 44), none⟩,
  ⟨(some 46), .fad 4 (.t 45), none⟩,
  ⟨(some 47), .load 1 false (.t 46), none⟩])
 (.cond (.t 47)
  (.seq (.ops [
  ⟨(some 4), .mv (.c (.bool false)), none⟩,
  ⟨(some 5), .mv (.c (.int .i64 0)), none⟩])
 .ret)
  .skip)))
  (.seq (.ops [
  ⟨(some 49), .load 6 true (.t 7), none⟩,
  ⟨(some 50), .mv (.t 11), none⟩,
  ⟨(some 51), .pcall (.f 53) [(.t 49), (.t 50)], none⟩,
  ⟨(some 52), .not (.t 51), none⟩,
  ⟨(some 53), .mv (.t 52), none⟩,
  ⟨(some 54), .mv (.t 11), (some (53, false))⟩,
  ⟨(some 55), .iarr 8 1 (.t 8) (.t 54), (some (53, false))⟩,
  ⟨(some 56), .load 1 false (.t 55), (some (53, false))⟩,
  ⟨(some 57), .pick (.t 53) (.c (.bool true)) (.t 56), none⟩,
  ⟨(some 58), .mv (.t 57), none⟩,
  ⟨(some 59), .load 6 true (.t 7), (some (58, false))⟩,
  ⟨(some 60), .mv (.t 10), (some (58, false))⟩,
  ⟨(some 61), .mv (.t 11), (some (58, false))⟩,
  ⟨(some 62), .pcall (.f 54) [(.t 59), (.t 60), (.t 61)], (some (58, false))⟩,
  ⟨(some 63), .not (.t 62), (some (58, false))⟩,
  ⟨(some 64), .pick (.t 58) (.c (.bool true)) (.t 63), none⟩,
  ⟨(some 48), .mv (.t 64), none⟩])
 (.cond (.t 48)
  (.seq (.ops [
  ⟨(some 4), .mv (.c (.bool false)), none⟩,
  ⟨(some 5), .mv (.c (.int .i64 0)), none⟩])
 .ret)
  (.ops [
  ⟨(some 34), .mv (.t 11), none⟩,
  ⟨(some 35), .iarr 8 1 (.t 8) (.t 34), none⟩,
  ⟨none, .store 1 (.t 35) (.c (.bool true)), none⟩]))))))))
 (.ops [
  ⟨(some 65), .bin .add (.t 29) (.c (.int .i64 1)), none⟩,
  ⟨(some 29), .mv (.t 65), none⟩]))))
/-- wishbook/claim.IsTruth -/
def a17 : F := ⟨[.tmp 4, .tmp 5],
 (.seq (.ops [
  ⟨(some 2), .box (.t 0), none⟩,
  ⟨(some 4), .mv (.c (.bool false)), none⟩,
  ⟨(some 5), .mv (.c (.int .i64 0)), none⟩])
 (.seq (.seq (.ops [
  ⟨(some 12), .load 6 true (.t 2), none⟩,
  ⟨(some 13), .pcall (.f 15) [(.t 12)], none⟩,
  ⟨(some 6), .mv (.t 13), none⟩])
 (.seq (.ops [
  ⟨(some 14), .mv (.t 6), none⟩,
  ⟨(some 15), .bin .neq (.t 14) (.c (.int .i64 0)), none⟩])
 (.cond (.t 15)
  (.seq (.ops [
  ⟨(some 16), .mv (.t 6), none⟩,
  ⟨(some 4), .mv (.c (.bool false)), none⟩,
  ⟨(some 5), .mv (.t 16), none⟩])
 .ret)
  .skip)))
 (.seq (.ops [
  ⟨(some 17), .load 6 true (.t 2), none⟩,
  ⟨(some 18), .build [(.int .i64 0), (.int .i64 0), (.int .i64 0), (.int .i64 0), (.sl [] .nil), (.sl [] .nil)] [(0, 6, (.t 17))], none⟩,
  ⟨(some 7), .alloc [(.int .i64 0), (.int .i64 0), (.int .i64 0), (.int .i64 0), (.sl [] .nil), (.sl [] .nil)], none⟩,
  ⟨none, .store 6 (.t 7) (.t 18), none⟩])
 (.seq (.seq (.ops [
  ⟨(some 19), .mv (.t 1), none⟩,
  ⟨(some 20), .len (.t 19), none⟩,
  ⟨(some 21), .fad 0 (.t 7), none⟩,
  ⟨(some 22), .fad 5 (.t 21), none⟩,
  ⟨(some 23), .load 1 false (.t 22), none⟩,
  ⟨(some 24), .len (.t 23), none⟩,
  ⟨(some 25), .bin .neq (.t 20) (.t 24), none⟩])
 (.cond (.t 25)
  (.seq (.ops [
  ⟨(some 4), .mv (.c (.bool false)), none⟩,
  ⟨(some 5), .mv (.c (.int .i64 0)), none⟩])
 .ret)
  .skip))
 (.seq (.ops [
  ⟨(some 26), .pcall (.f 62) [], none⟩,
  ⟨(some 8), .alloc [(.bool false), (.bool false), (.bool false), (.bool false), (.bool false), (.bool false), (.bool false), (.bool false)], none⟩,
  ⟨none, .store 8 (.t 8) (.t 26), none⟩,
  ⟨(some 9), .mv (.c (.int .i64 0)), none⟩])
 (.seq (.seq (.ops [
  ⟨(some 27), .mv (.t 1), none⟩,
  ⟨(some 28), .len (.t 27), none⟩,
  ⟨(some 29), .mv (.c (.int .i64 0)), none⟩])
 (.block 0
  (.loop [4, 5, 7, 8, 9, 27, 28, 29] a17_L1)))
 (.seq (.ops [
  ⟨(some 66), .mv (.t 9), none⟩,
  ⟨(some 67), .fad 0 (.t 7), none⟩,
  ⟨(some 68), .fad 3 (.t 67), none⟩,
  ⟨(some 69), .load 1 false (.t 68), none⟩,
  ⟨(some 70), .bin .leq (.t 66) (.t 69), none⟩,
  ⟨(some 4), .mv (.t 70), none⟩,
  ⟨(some 5), .mv (.c (.int .i64 0)), none⟩])
 .ret))))))), false, 2⟩

def a18_L1 : C := (.seq (.seq (.ops [
  ⟨(some 22), .mv (.t 7), none⟩,
  ⟨(some 23), .mv (.t 22), none⟩,
  ⟨(some 24), .mv (.t 9), (some (23, true))⟩,
  ⟨(some 25), .mv (.t 1), (some (23, true))⟩,
  ⟨(some 26), .len (.t 25), (some (23, true))⟩,
  ⟨(some 27), .bin .lss (.t 24) (.t 26), (some (23, true))⟩,
  ⟨(some 28), .pick (.t 23) (.t 27) (.c (.bool false)), none⟩])
 (.cond (.t 28)
  .skip
  (.exit 0)))
 (.seq (.block 1
  (.seq (.ops [
  ⟨(some 31), .mv (.t 1), none⟩,
  ⟨(some 32), .mv (.t 9), none⟩,
  ⟨(some 33), .iad 1 (.t 31) (.t 32), none⟩,
  ⟨(some 34), .load 1 false (.t 33), none⟩,
  ⟨(some 10), .mv (.t 34), none⟩])
 (.seq (.seq (.ops [
  ⟨(some 35), .mv (.t 10), none⟩,
  ⟨(some 36), .bin .eql (.t 35) (.c (.int .i64 (-1))), none⟩])
 (.cond (.t 36)
  (.seq (.ops [
  ⟨(some 37), .mv (.t 8), none⟩,
  ⟨(some 38), .bin .add (.t 37) (.c (.int .i64 1)), none⟩,
  ⟨(some 8), .mv (.t 38), none⟩])
 (.seq (.ops [
  ⟨(some 39), .fad 5 (.t 2), none⟩,
  ⟨(some 40), .load 1 false (.t 39), none⟩,
  ⟨(some 41), .mv (.t 9), none⟩,
  ⟨(some 42), .iad 5 (.t 40) (.t 41), none⟩,
  ⟨(some 43), .fad 4 (.t 42), none⟩,
  ⟨(some 44), .load 1 false (.t 43), none⟩,
  ⟨(some 45), .not (.t 44), none⟩,
  ⟨(some 7), .mv (.t 45), none⟩])
 (.exit 1)))
  .skip))
 (.ops [
  ⟨(some 46), .mv (.t 10), none⟩,
  ⟨(some 47), .fad 4 (.t 2), none⟩,
  ⟨(some 48), .load 1 false (.t 47), none⟩,
  ⟨(some 49), .len (.t 48), none⟩,
  ⟨(some 50), .bin .sub (.t 49) (.c (.int .i64 1)), none⟩,
  ⟨(some 51), .pcall (.f 38) [(.t 46), (.c (.int .i64 0)), (.t 50)], none⟩,
  ⟨(some 52), .mv (.t 51), none⟩,
  ⟨(some 53), .mv (.t 1), (some (52, true))⟩,
  ⟨(some 54), .mv (.t 10), (some (52, true))⟩,
  ⟨(some 55), .pcall (.f 39) [(.t 53), (.t 54)], (some (52, true))⟩,
  ⟨(some 56), .mv (.t 9), (some (52, true))⟩,
  ⟨(some 57), .bin .eql (.t 55) (.t 56), (some (52, true))⟩,
  ⟨(some 58), .pick (.t 52) (.t 57) (.c (.bool false)), none⟩,
  ⟨(some 59), .mv (.t 58), none⟩,
  ⟨(some 60), .load 6 true (.t 2), (some (59, true))⟩,
  ⟨(some 61), .mv (.t 9), (some (59, true))⟩,
  ⟨(some 62), .mv (.t 10), (some (59, true))⟩,
  ⟨(some 63), .pcall (.f 56) [(.t 60), (.t 61), (.t 62)], (some (59, true))⟩,
  ⟨(some 64), .pick (.t 59) (.t 63) (.c (.bool false)), none⟩,
  ⟨(some 7), .mv (.t 64), none⟩]))))
 (.ops [
  ⟨(some 29), .mv (.t 9), none⟩,
  ⟨(some 30), .bin .add (.t 29) (.c (.int .i64 1)), none⟩,
  ⟨(some 9), .mv (.t 30), none⟩])))
/-- wishbook/wishbookref09.IsTruth -/
def a18 : F := ⟨[.tmp 4, .tmp 5],
 (.seq (.ops [
  ⟨(some 2), .box (.t 0), none⟩,
  ⟨(some 4), .mv (.c (.bool false)), none⟩,
  ⟨(some 5), .mv (.c (.int .i64 0)), none⟩])
 (.seq (.seq (.ops [
  ⟨(some 11), .load 6 true (.t 2), none⟩,
  ⟨(some 12), .pcall (.f 16) [(.t 11)], none⟩,
  ⟨(some 6), .mv (.t 12), none⟩])
 (.seq (.ops [
  ⟨(some 13), .mv (.t 6), none⟩,
  ⟨(some 14), .bin .neq (.t 13) (.c (.int .i64 0)), none⟩])
 (.cond (.t 14)
  (.seq (.ops [
  ⟨(some 15), .mv (.t 6), none⟩,
  ⟨(some 4), .mv (.c (.bool false)), none⟩,
  ⟨(some 5), .mv (.t 15), none⟩])
 .ret)
  .skip)))
 (.seq (.ops [
  ⟨(some 16), .mv (.t 1), none⟩,
  ⟨(some 17), .len (.t 16), none⟩,
  ⟨(some 18), .fad 5 (.t 2), none⟩,
  ⟨(some 19), .load 1 false (.t 18), none⟩,
  ⟨(some 20), .len (.t 19), none⟩,
  ⟨(some 21), .bin .eql (.t 17) (.t 20), none⟩,
  ⟨(some 7), .mv (.t 21), none⟩,
  ⟨(some 8), .mv (.c (.int .i64 0)), none⟩])
 (.seq (.seq (.ops [
  ⟨(some 9), .mv (.c (.int .i64 0)), none⟩])
 (.block 0
  (.loop [1, 2, 7, 8, 9] a18_L1)))
 (.seq (.ops [
  ⟨(some 65), .mv (.t 7), none⟩,
  ⟨(some 66), .mv (.t 65), none⟩,
  ⟨(some 67), .mv (.t 8), (some (66, true))⟩,
  ⟨(some 68), .fad 3 (.t 2), (some (66, true))⟩,
  ⟨(some 69), .load 1 false (.t 68), (some (66, true))⟩,
  ⟨(some 70), .bin .leq (.t 67) (.t 69), (some (66, true))⟩,
  ⟨(some 71), .pick (.t 66) (.t 70) (.c (.bool false)), none⟩,
  ⟨(some 4), .mv (.t 71), none⟩,
  ⟨(some 5), .mv (.c (.int .i64 0)), none⟩])
 .ret))))), false, 2⟩

def a19_L1 : C := (.seq (.ops [
  ⟨(some 25), .bin .lss (.t 24) (.t 23), none⟩])
 (.seq (.cond (.t 25)
  .skip
  (.exit 0))
 (.seq (.block 1
  (.seq (.ops [
  ⟨(some 26), .mv (.t 24), none⟩,
  ⟨(some 8), .alloc [(.int .i64 0)], none⟩,
  ⟨none, .store 1 (.t 8) (.t 26), none⟩])
 (.seq (.ops [
  ⟨(some 27), .load 6 true (.t 4), none⟩,
  ⟨(some 28), .load 1 false (.t 8), none⟩,
  ⟨(some 29), .pcall (.f 65) [(.t 27), (.t 28), (.c (.int .i64 0))], none⟩])
 (.block 2
  (.range (.t 29) [30]
  (.ops [
  ⟨(some 9), .mv (.t 30), none⟩])
  (.block 3
  (.seq (.ops [
  ⟨(some 31), .load 1 false (.t 7), none⟩,
  ⟨(some 32), .load 1 false (.t 8), none⟩,
  ⟨(some 33), .mv (.t 9), none⟩,
  ⟨none, .upd (.s .int) (.t 31) (.t 32) (.t 33), none⟩])
 (.seq (.ops [
  ⟨(some 34), .load 6 true (.t 4), none⟩,
  ⟨(some 35), .load 1 false (.t 7), none⟩,
  ⟨(some 36), .pcall (.f 67) [], none⟩,
  ⟨(some 37), .call (.f 66) [(.t 34), (.t 35), (.t 36)], none⟩,
  ⟨(some 38), .build [(.int .i64 0), (.int .i64 0), (.int .i64 0)] [], none⟩,
  ⟨(some 39), .call (.f 68) [(.t 37), (.t 38)], none⟩,
  ⟨(some 40), .bin .neq (.t 39) (.c (.int .i64 (-1))), none⟩])
 (.cond (.t 40)
  (.seq (.ops [
  ⟨(some 41), .load 1 false (.t 6), none⟩,
  ⟨(some 42), .mv (.t 9), none⟩,
  ⟨(some 43), .bsl [(.int .i64 0)] 1 [(0, (.t 42))], none⟩,
  ⟨(some 44), .app 44 1 8 (.t 41) (.t 43), none⟩,
  ⟨none, .store 1 (.t 6) (.t 44), none⟩])
 (.exit 2))
  .skip)))))))))
 (.ops [
  ⟨(some 45), .bin .add (.t 24) (.c (.int .i64 1)), none⟩,
  ⟨(some 24), .mv (.t 45), none⟩]))))
/-- wishbook/claim.Truth -/
def a19 : F := ⟨[.tmp 2, .tmp 3],
 (.seq (.ops [
  ⟨(some 1), .box (.t 0), none⟩,
  ⟨(some 2), .mv (.c (.sl [] .nil)), none⟩,
  ⟨(some 3), .mv (.c (.int .i64 0)), none⟩])
 (.seq (.ops [
  ⟨(some 11), .load 6 true (.t 1), none⟩,
  ⟨(some 12), .pcall (.f 63) [(.t 11), (.f 64)], none⟩,
  ⟨(some 10), .mv (.t 12), none⟩,
  ⟨(some 13), .ext (.t 10) 0, none⟩,
  ⟨(some 14), .ext (.t 10) 1, none⟩,
  ⟨(some 4), .alloc [(.int .i64 0), (.int .i64 0), (.int .i64 0), (.int .i64 0), (.sl [] .nil), (.sl [] .nil)], none⟩,
  ⟨none, .store 6 (.t 4) (.t 13), none⟩,
  ⟨(some 5), .mv (.t 14), none⟩])
 (.seq (.seq (.ops [
  ⟨(some 15), .mv (.t 5), none⟩,
  ⟨(some 16), .bin .neq (.t 15) (.c (.int .i64 0)), none⟩])
 (.cond (.t 16)
  (.seq (.ops [
  ⟨(some 17), .mv (.t 5), none⟩,
  ⟨(some 2), .mv (.c (.sl [] .nil)), none⟩,
  ⟨(some 3), .mv (.t 17), none⟩])
 .ret)
  .skip))
 (.seq (.ops [
  ⟨(some 18), .nilfull, none⟩,
  ⟨(some 6), .alloc [(.sl [] .nil)], none⟩,
  ⟨none, .store 1 (.t 6) (.t 18), none⟩])
 (.seq (.ops [
  ⟨(some 19), .mkmap, none⟩,
  ⟨(some 7), .alloc [.nilM], none⟩,
  ⟨none, .store 1 (.t 7) (.t 19), none⟩])
 (.seq (.seq (.ops [
  ⟨(some 20), .fad 0 (.t 4), none⟩,
  ⟨(some 21), .fad 5 (.t 20), none⟩,
  ⟨(some 22), .load 1 false (.t 21), none⟩,
  ⟨(some 23), .len (.t 22), none⟩,
  ⟨(some 24), .mv (.c (.int .i64 0)), none⟩])
 (.block 0
  (.loop [2, 3, 4, 6, 7, 23, 24] a19_L1)))
 (.seq (.ops [
  ⟨(some 46), .load 1 false (.t 6), none⟩,
  ⟨(some 47), .load 1 false (.t 6), none⟩,
  ⟨(some 48), .len (.t 47), none⟩,
  ⟨(some 49), .load 1 false (.t 6), none⟩,
  ⟨(some 50), .len (.t 49), none⟩,
  ⟨(some 51), .slice 1 (.t 46) none (some (.t 48)) (some (.t 50)), none⟩,
  ⟨(some 2), .mv (.t 51), none⟩,
  ⟨(some 3), .mv (.c (.int .i64 0)), none⟩])
 .ret))))))), false, 1⟩

/-- wishbook/wishbookref09.Truth -/
def a20 : F := ⟨[.tmp 2],
 (.seq (.ops [
  ⟨(some 1), .box (.t 0), none⟩,
  ⟨(some 2), .mv (.c (.int .i64 0)), none⟩])
 (.seq (.ops [
  ⟨(some 3), .load 6 true (.t 1), none⟩,
  ⟨(some 4), .pcall (.f 69) [(.t 3), (.c (.bool true))], none⟩,
  ⟨(some 2), .mv (.t 4), none⟩])
 .ret)), false, 1⟩

/-- wishbook/wishbooklaw09.works -/
def a21 : F := ⟨[.tmp 0],
 (.seq (.ops [
  ⟨(some 0), .mv (.c (.bool false)), none⟩])
 (.seq (.ops [
  ⟨(some 17), .pcall (.f 50) [], none⟩,
  ⟨(some 18), .pcall (.f 13) [(.t 17), (.c (.int .i64 0)), (.c (.int .i64 1))], none⟩,
  ⟨(some 16), .mv (.t 18), none⟩,
  ⟨(some 19), .ext (.t 16) 0, none⟩,
  ⟨(some 20), .ext (.t 16) 1, none⟩,
  ⟨(some 1), .mv (.t 19), none⟩,
  ⟨(some 2), .mv (.t 20), none⟩])
 (.seq (.ops [
  ⟨(some 22), .pcall (.f 50) [], none⟩,
  ⟨(some 23), .bsl [(.int .i64 0)] 3 [(0, (.c (.int .i64 (-1)))), (1, (.c (.int .i64 1))), (2, (.c (.int .i64 2)))], none⟩,
  ⟨(some 24), .pcall (.f 17) [(.t 22), (.t 23)], none⟩,
  ⟨(some 21), .mv (.t 24), none⟩,
  ⟨(some 25), .ext (.t 21) 0, none⟩,
  ⟨(some 26), .ext (.t 21) 1, none⟩,
  ⟨(some 3), .mv (.t 25), none⟩,
  ⟨(some 4), .mv (.t 26), none⟩])
 (.seq (.ops [
  ⟨(some 28), .pcall (.f 50) [], none⟩,
  ⟨(some 29), .pcall (.f 22) [(.t 28), (.c (.int .i64 0))], none⟩,
  ⟨(some 27), .mv (.t 29), none⟩,
  ⟨(some 30), .ext (.t 27) 0, none⟩,
  ⟨(some 31), .ext (.t 27) 1, none⟩,
  ⟨(some 5), .mv (.t 30), none⟩,
  ⟨(some 6), .mv (.t 31), none⟩])
 (.seq (.ops [
  ⟨(some 33), .pcall (.f 50) [], none⟩,
  ⟨(some 34), .pcall (.f 25) [(.t 33), (.c (.int .i64 1))], none⟩,
  ⟨(some 32), .mv (.t 34), none⟩,
  ⟨(some 35), .ext (.t 32) 0, none⟩,
  ⟨(some 36), .ext (.t 32) 1, none⟩,
  ⟨(some 7), .mv (.t 35), none⟩,
  ⟨(some 8), .mv (.t 36), none⟩])
 (.seq (.seq (.ops [
  ⟨(some 37), .mv (.t 2), none⟩,
  ⟨(some 38), .bin .neq (.t 37) (.c (.int .i64 0)), none⟩,
  ⟨(some 39), .mv (.t 38), none⟩,
  ⟨(some 40), .mv (.t 4), (some (39, false))⟩,
  ⟨(some 41), .bin .neq (.t 40) (.c (.int .i64 0)), (some (39, false))⟩,
  ⟨(some 42), .pick (.t 39) (.c (.bool true)) (.t 41), none⟩,
  ⟨(some 43), .mv (.t 42), none⟩,
  ⟨(some 44), .mv (.t 6), (some (43, false))⟩,
  ⟨(some 45), .bin .neq (.t 44) (.c (.int .i64 0)), (some (43, false))⟩,
  ⟨(some 46), .pick (.t 43) (.c (.bool true)) (.t 45), none⟩,
  ⟨(some 47), .mv (.t 46), none⟩,
  ⟨(some 48), .mv (.t 8), (some (47, false))⟩,
  ⟨(some 49), .bin .neq (.t 48) (.c (.int .i64 0)), (some (47, false))⟩,
  ⟨(some 50), .pick (.t 47) (.c (.bool true)) (.t 49), none⟩,
  ⟨(some 51), .mv (.t 50), none⟩,
  ⟨(some 52), .mv (.t 1), (some (51, false))⟩,
  ⟨(some 53), .not (.t 52), (some (51, false))⟩,
  ⟨(some 54), .pick (.t 51) (.c (.bool true)) (.t 53), none⟩,
  ⟨(some 55), .mv (.t 54), none⟩,
  ⟨(some 56), .mv (.t 3), (some (55, false))⟩,
  ⟨(some 57), .not (.t 56), (some (55, false))⟩,
  ⟨(some 58), .pick (.t 55) (.c (.bool true)) (.t 57), none⟩,
  ⟨(some 59), .mv (.t 58), none⟩,
  ⟨(some 60), .mv (.t 5), (some (59, false))⟩,
  ⟨(some 61), .bsl [(.int .i64 0)] 1 [(0, (.c (.int .i64 0)))], (some (59, false))⟩,
  ⟨(some 62), .pcall (.f 24) [(.t 60), (.t 61)], (some (59, false))⟩,
  ⟨(some 63), .not (.t 62), (some (59, false))⟩,
  ⟨(some 64), .pick (.t 59) (.c (.bool true)) (.t 63), none⟩,
  ⟨(some 65), .mv (.t 64), none⟩,
  ⟨(some 66), .mv (.t 7), (some (65, false))⟩,
  ⟨(some 67), .bin .neq (.t 66) (.c (.int .i64 1)), (some (65, false))⟩,
  ⟨(some 68), .pick (.t 65) (.c (.bool true)) (.t 67), none⟩])
 (.cond (.t 68)
  (.seq (.ops [
  ⟨(some 0), .mv (.c (.bool false)), none⟩])
 .ret)
  .skip))
 (.seq (.ops [
  ⟨(some 70), .pcall (.f 50) [], none⟩,
  ⟨(some 71), .pcall (.f 27) [(.t 70)], none⟩,
  ⟨(some 69), .mv (.t 71), none⟩,
  ⟨(some 72), .ext (.t 69) 0, none⟩,
  ⟨(some 73), .ext (.t 69) 1, none⟩,
  ⟨(some 74), .ext (.t 69) 2, none⟩,
  ⟨(some 9), .mv (.t 72), none⟩,
  ⟨(some 10), .mv (.t 73), none⟩,
  ⟨(some 2), .mv (.t 74), none⟩])
 (.seq (.ops [
  ⟨(some 76), .pcall (.f 50) [], none⟩,
  ⟨(some 77), .pcall (.f 31) [(.t 76)], none⟩,
  ⟨(some 75), .mv (.t 77), none⟩,
  ⟨(some 78), .ext (.t 75) 0, none⟩,
  ⟨(some 79), .ext (.t 75) 1, none⟩,
  ⟨(some 11), .mv (.t 78), none⟩,
  ⟨(some 4), .mv (.t 79), none⟩])
 (.seq (.ops [
  ⟨(some 81), .pcall (.f 51) [], none⟩,
  ⟨(some 82), .pcall (.f 33) [(.t 81)], none⟩,
  ⟨(some 80), .mv (.t 82), none⟩,
  ⟨(some 83), .ext (.t 80) 0, none⟩,
  ⟨(some 84), .ext (.t 80) 1, none⟩,
  ⟨(some 12), .mv (.t 83), none⟩,
  ⟨(some 6), .mv (.t 84), none⟩])
 (.seq (.ops [
  ⟨(some 86), .pcall (.f 50) [], none⟩,
  ⟨(some 87), .pcall (.f 29) [(.t 86)], none⟩,
  ⟨(some 85), .mv (.t 87), none⟩,
  ⟨(some 88), .ext (.t 85) 0, none⟩,
  ⟨(some 89), .ext (.t 85) 1, none⟩,
  ⟨(some 13), .alloc [(.int .i64 0), (.int .i64 0)], none⟩,
  ⟨none, .store 2 (.t 13) (.t 88), none⟩,
  ⟨(some 8), .mv (.t 89), none⟩])
 (.seq (.ops [
  ⟨(some 91), .pcall (.f 50) [], none⟩,
  ⟨(some 92), .pcall (.f 45) [(.t 91), (.c (.int .i64 0))], none⟩,
  ⟨(some 93), .pcall (.f 19) [(.t 92)], none⟩,
  ⟨(some 90), .mv (.t 93), none⟩,
  ⟨(some 94), .ext (.t 90) 0, none⟩,
  ⟨(some 95), .ext (.t 90) 1, none⟩,
  ⟨(some 14), .mv (.t 94), none⟩,
  ⟨(some 15), .mv (.t 95), none⟩])
 (.seq (.ops [
  ⟨(some 96), .mv (.t 2), none⟩,
  ⟨(some 97), .bin .eql (.t 96) (.c (.int .i64 0)), none⟩,
  ⟨(some 98), .mv (.t 97), none⟩,
  ⟨(some 99), .mv (.t 4), (some (98, true))⟩,
  ⟨(some 100), .bin .eql (.t 99) (.c (.int .i64 0)), (some (98, true))⟩,
  ⟨(some 101), .pick (.t 98) (.t 100) (.c (.bool false)), none⟩,
  ⟨(some 102), .mv (.t 101), none⟩,
  ⟨(some 103), .mv (.t 6), (some (102, true))⟩,
  ⟨(some 104), .bin .eql (.t 103) (.c (.int .i64 0)), (some (102, true))⟩,
  ⟨(some 105), .pick (.t 102) (.t 104) (.c (.bool false)), none⟩,
  ⟨(some 106), .mv (.t 105), none⟩,
  ⟨(some 107), .mv (.t 8), (some (106, true))⟩,
  ⟨(some 108), .bin .eql (.t 107) (.c (.int .i64 0)), (some (106, true))⟩,
  ⟨(some 109), .pick (.t 106) (.t 108) (.c (.bool false)), none⟩,
  ⟨(some 110), .mv (.t 109), none⟩,
  ⟨(some 111), .mv (.t 15), (some (110, true))⟩,
  ⟨(some 112), .bin .eql (.t 111) (.c (.int .i64 0)), (some (110, true))⟩,
  ⟨(some 113), .pick (.t 110) (.t 112) (.c (.bool false)), none⟩,
  ⟨(some 114), .mv (.t 113), none⟩,
  ⟨(some 115), .mv (.t 9), (some (114, true))⟩,
  ⟨(some 116), .bsl [(.int .i64 0)] 1 [(0, (.c (.int .i64 1)))], (some (114, true))⟩,
  ⟨(some 117), .pcall (.f 24) [(.t 115), (.t 116)], (some (114, true))⟩,
  ⟨(some 118), .pick (.t 114) (.t 117) (.c (.bool false)), none⟩,
  ⟨(some 119), .mv (.t 118), none⟩,
  ⟨(some 120), .mv (.t 10), (some (119, true))⟩,
  ⟨(some 121), .bsl [(.int .i64 0)] 2 [(0, (.c (.int .i64 0))), (1, (.c (.int .i64 2)))], (some (119, true))⟩,
  ⟨(some 122), .pcall (.f 24) [(.t 120), (.t 121)], (some (119, true))⟩,
  ⟨(some 123), .pick (.t 119) (.t 122) (.c (.bool false)), none⟩,
  ⟨(some 124), .mv (.t 123), none⟩,
  ⟨(some 125), .mv (.t 11), (some (124, true))⟩,
  ⟨(some 126), .bin .eql (.t 125) (.c (.int .i64 0)), (some (124, true))⟩,
  ⟨(some 127), .pick (.t 124) (.t 126) (.c (.bool false)), none⟩,
  ⟨(some 128), .mv (.t 127), none⟩,
  ⟨(some 129), .mv (.t 12), (some (128, true))⟩,
  ⟨(some 130), .bsl [(.int .i64 0)] 1 [(0, (.c (.int .i64 0)))], (some (128, true))⟩,
  ⟨(some 131), .pcall (.f 24) [(.t 129), (.t 130)], (some (128, true))⟩,
  ⟨(some 132), .pick (.t 128) (.t 131) (.c (.bool false)), none⟩,
  ⟨(some 133), .mv (.t 132), none⟩,
  ⟨(some 134), .load 2 true (.t 13), (some (133, true))⟩,
  ⟨(some 135), .pcall (.f 43) [(.c (.int .i64 800)), (.c (.int .i64 1700))], (some (133, true))⟩,
  ⟨(some 136), .eq false (.agg [.int, .int]) (.t 134) (.t 135), (some (133, true))⟩,
  ⟨(some 137), .pick (.t 133) (.t 136) (.c (.bool false)), none⟩,
  ⟨(some 138), .mv (.t 137), none⟩,
  ⟨(some 139), .mv (.t 14), (some (138, true))⟩,
  ⟨(some 140), .bsl [(.int .i64 0)] 3 [(0, (.c (.int .i64 0))), (1, (.c (.int .i64 1))), (2, (.c (.int .i64 2)))], (some (138, true))⟩,
  ⟨(some 141), .pcall (.f 24) [(.t 139), (.t 140)], (some (138, true))⟩,
  ⟨(some 142), .pick (.t 138) (.t 141) (.c (.bool false)), none⟩,
  ⟨(some 0), .mv (.t 142), none⟩])
 .ret)))))))))))), false, 0⟩

def a22_L1 : C := (.seq (.ops [
  ⟨(some 24), .bin .lss (.t 23) (.t 22), none⟩])
 (.seq (.cond (.t 24)
  .skip
  (.exit 0))
 (.seq (.block 1
  (.seq (.ops [
  ⟨(some 25), .mv (.t 23), none⟩,
  ⟨(some 9), .mv (.t 25), none⟩])
 (.seq (.ops [
  ⟨(some 26), .load 6 true (.t 6), none⟩,
  ⟨(some 27), .load 1 false (.t 3), none⟩,
  ⟨(some 28), .mv (.t 9), none⟩,
  ⟨(some 29), .pcall (.f 71) [(.t 26), (.t 27), (.t 28)], none⟩])
 (.cond (.t 29)
  (.ops [
  ⟨(some 30), .mv (.t 8), none⟩,
  ⟨(some 31), .mv (.t 9), none⟩,
  ⟨(some 32), .bsl [(.int .i64 0)] 1 [(0, (.t 31))], none⟩,
  ⟨(some 33), .app 33 1 8 (.t 30) (.t 32), none⟩,
  ⟨(some 8), .mv (.t 33), none⟩])
  .skip))))
 (.ops [
  ⟨(some 34), .bin .add (.t 23) (.c (.int .i64 1)), none⟩,
  ⟨(some 23), .mv (.t 34), none⟩]))))
/-- wishbook/claim.Which -/
def a22 : F := ⟨[.tmp 4, .tmp 5],
 (.seq (.ops [
  ⟨(some 2), .box (.t 0), none⟩,
  ⟨(some 3), .box (.t 1), none⟩,
  ⟨(some 4), .mv (.c (.sl [] .nil)), none⟩,
  ⟨(some 5), .mv (.c (.int .i64 0)), none⟩])
 (.seq (.ops [
  ⟨(some 11), .load 6 true (.t 2), none⟩,
  ⟨(some 12), .mkfn 70 [] [(.t 3)], none⟩,
  ⟨(some 13), .call (.f 63) [(.t 11), (.t 12)], none⟩,
  ⟨(some 10), .mv (.t 13), none⟩,
  ⟨(some 14), .ext (.t 10) 0, none⟩,
  ⟨(some 15), .ext (.t 10) 1, none⟩,
  ⟨(some 6), .alloc [(.int .i64 0), (.int .i64 0), (.int .i64 0), (.int .i64 0), (.sl [] .nil), (.sl [] .nil)], none⟩,
  ⟨none, .store 6 (.t 6) (.t 14), none⟩,
  ⟨(some 7), .mv (.t 15), none⟩])
 (.seq (.seq (.ops [
  ⟨(some 16), .mv (.t 7), none⟩,
  ⟨(some 17), .bin .neq (.t 16) (.c (.int .i64 0)), none⟩])
 (.cond (.t 17)
  (.seq (.ops [
  ⟨(some 18), .mv (.t 7), none⟩,
  ⟨(some 4), .mv (.c (.sl [] .nil)), none⟩,
  ⟨(some 5), .mv (.t 18), none⟩])
 .ret)
  .skip))
 (.seq (.ops [
  ⟨(some 8), .mv (.c (.sl [] .nil)), none⟩])
 (.seq (.seq (.ops [
  ⟨(some 19), .fad 0 (.t 6), none⟩,
  ⟨(some 20), .fad 4 (.t 19), none⟩,
  ⟨(some 21), .load 1 false (.t 20), none⟩,
  ⟨(some 22), .len (.t 21), none⟩,
  ⟨(some 23), .mv (.c (.int .i64 0)), none⟩])
 (.block 0
  (.loop [3, 6, 8, 22, 23] a22_L1)))
 (.seq (.ops [
  ⟨(some 35), .mv (.t 8), none⟩,
  ⟨(some 36), .mv (.t 8), none⟩,
  ⟨(some 37), .len (.t 36), none⟩,
  ⟨(some 38), .mv (.t 8), none⟩,
  ⟨(some 39), .len (.t 38), none⟩,
  ⟨(some 40), .slice 1 (.t 35) none (some (.t 37)) (some (.t 39)), none⟩,
  ⟨(some 4), .mv (.t 40), none⟩,
  ⟨(some 5), .mv (.c (.int .i64 0)), none⟩])
 .ret)))))), false, 2⟩

/-- wishbook/wishbookref09.Which -/
def a23 : F := ⟨[.tmp 4, .tmp 5],
 (.seq (.ops [
  ⟨(some 2), .box (.t 0), none⟩,
  ⟨(some 4), .mv (.c (.sl [] .nil)), none⟩,
  ⟨(some 5), .mv (.c (.int .i64 0)), none⟩])
 (.seq (.seq (.ops [
  ⟨(some 7), .load 6 true (.t 2), none⟩,
  ⟨(some 8), .mv (.t 1), none⟩,
  ⟨(some 9), .fad 5 (.t 2), none⟩,
  ⟨(some 10), .load 1 false (.t 9), none⟩,
  ⟨(some 11), .len (.t 10), none⟩,
  ⟨(some 12), .bin .sub (.t 11) (.c (.int .i64 1)), none⟩,
  ⟨(some 13), .pcall (.f 38) [(.t 8), (.c (.int .i64 0)), (.t 12)], none⟩,
  ⟨(some 14), .pcall (.f 69) [(.t 7), (.t 13)], none⟩,
  ⟨(some 6), .mv (.t 14), none⟩])
 (.seq (.ops [
  ⟨(some 15), .mv (.t 6), none⟩,
  ⟨(some 16), .bin .neq (.t 15) (.c (.int .i64 0)), none⟩])
 (.cond (.t 16)
  (.seq (.ops [
  ⟨(some 17), .mv (.t 6), none⟩,
  ⟨(some 4), .mv (.c (.sl [] .nil)), none⟩,
  ⟨(some 5), .mv (.t 17), none⟩])
 .ret)
  .skip)))
 (.seq (.ops [
  ⟨(some 18), .load 6 true (.t 2), none⟩,
  ⟨(some 19), .pcall (.f 73) [(.t 18)], none⟩,
  ⟨(some 20), .field 1 1 false (.t 19), none⟩,
  ⟨(some 21), .mv (.t 1), none⟩,
  ⟨(some 22), .iad 1 (.t 20) (.t 21), none⟩,
  ⟨(some 23), .load 1 false (.t 22), none⟩,
  ⟨(some 24), .fad 4 (.t 2), none⟩,
  ⟨(some 25), .load 1 false (.t 24), none⟩,
  ⟨(some 26), .len (.t 25), none⟩,
  ⟨(some 27), .pcall (.f 72) [(.t 23), (.t 26)], none⟩,
  ⟨(some 4), .mv (.t 27), none⟩,
  ⟨(some 5), .mv (.c (.int .i64 0)), none⟩])
 .ret))), false, 2⟩

def a24_L1 : C := (.seq (.seq (.ops [
  ⟨(some 12), .mv (.t 5), none⟩,
  ⟨(some 13), .mv (.t 12), none⟩,
  ⟨(some 14), .mv (.t 6), (some (13, true))⟩,
  ⟨(some 15), .mv (.t 0), (some (13, true))⟩,
  ⟨(some 16), .len (.t 15), (some (13, true))⟩,
  ⟨(some 17), .bin .lss (.t 14) (.t 16), (some (13, true))⟩,
  ⟨(some 18), .pick (.t 13) (.t 17) (.c (.bool false)), none⟩])
 (.cond (.t 18)
  .skip
  (.exit 0)))
 (.seq (.block 1
  (.ops [
  ⟨(some 21), .mv (.t 0), none⟩,
  ⟨(some 22), .mv (.t 6), none⟩,
  ⟨(some 23), .iad 1 (.t 21) (.t 22), none⟩,
  ⟨(some 24), .load 1 false (.t 23), none⟩,
  ⟨(some 25), .mv (.t 1), none⟩,
  ⟨(some 26), .mv (.t 6), none⟩,
  ⟨(some 27), .iad 1 (.t 25) (.t 26), none⟩,
  ⟨(some 28), .load 1 false (.t 27), none⟩,
  ⟨(some 29), .bin .eql (.t 24) (.t 28), none⟩,
  ⟨(some 5), .mv (.t 29), none⟩]))
 (.ops [
  ⟨(some 19), .mv (.t 6), none⟩,
  ⟨(some 20), .bin .add (.t 19) (.c (.int .i64 1)), none⟩,
  ⟨(some 6), .mv (.t 20), none⟩])))
/-- wishbook/wishbookref00.Match -/
def a24 : F := ⟨[.tmp 4],
 (.seq (.ops [
  ⟨(some 4), .mv (.c (.bool false)), none⟩])
 (.seq (.ops [
  ⟨(some 7), .mv (.t 0), none⟩,
  ⟨(some 8), .len (.t 7), none⟩,
  ⟨(some 9), .mv (.t 1), none⟩,
  ⟨(some 10), .len (.t 9), none⟩,
  ⟨(some 11), .bin .eql (.t 8) (.t 10), none⟩,
  ⟨(some 5), .mv (.t 11), none⟩])
 (.seq (.seq (.ops [
  ⟨(some 6), .mv (.c (.int .i64 0)), none⟩])
 (.block 0
  (.loop [0, 1, 5, 6] a24_L1)))
 (.seq (.ops [
  ⟨(some 30), .mv (.t 5), none⟩,
  ⟨(some 4), .mv (.t 30), none⟩])
 .ret)))), false, 2⟩

/-- wishbook/claim.Told -/
def a25 : F := ⟨[.tmp 4, .tmp 5],
 (.seq (.ops [
  ⟨(some 2), .box (.t 0), none⟩,
  ⟨(some 4), .mv (.c (.int .i64 0)), none⟩,
  ⟨(some 5), .mv (.c (.int .i64 0)), none⟩])
 (.seq (.ops [
  ⟨(some 9), .load 6 true (.t 2), none⟩,
  ⟨(some 10), .mv (.t 1), none⟩,
  ⟨(some 11), .pcall (.f 22) [(.t 9), (.t 10)], none⟩,
  ⟨(some 8), .mv (.t 11), none⟩,
  ⟨(some 12), .ext (.t 8) 0, none⟩,
  ⟨(some 13), .ext (.t 8) 1, none⟩,
  ⟨(some 6), .mv (.t 12), none⟩,
  ⟨(some 7), .mv (.t 13), none⟩])
 (.seq (.seq (.ops [
  ⟨(some 14), .mv (.t 7), none⟩,
  ⟨(some 15), .bin .neq (.t 14) (.c (.int .i64 0)), none⟩])
 (.cond (.t 15)
  (.seq (.ops [
  ⟨(some 16), .mv (.t 7), none⟩,
  ⟨(some 4), .mv (.c (.int .i64 0)), none⟩,
  ⟨(some 5), .mv (.t 16), none⟩])
 .ret)
  .skip))
 (.seq (.block 0
  (.seq (.ops [
  ⟨(some 18), .mv (.t 6), none⟩,
  ⟨(some 19), .len (.t 18), none⟩,
  ⟨(some 20), .bin .eql (.t 19) (.c (.int .i64 0)), none⟩,
  ⟨(some 17), .mv (.t 20), none⟩])
 (.cond (.t 17)
  (.seq (.ops [
  ⟨(some 4), .mv (.c (.int .i64 0)), none⟩,
  ⟨(some 5), .mv (.c (.int .i64 0)), none⟩])
 .ret)
  (.seq (.ops [
  ⟨(some 22), .load 6 true (.t 2), none⟩,
  ⟨(some 23), .build [(.int .i64 0), (.int .i64 0), (.int .i64 0), (.int .i64 0), (.sl [] .nil), (.sl [] .nil)] [(0, 6, (.t 22))], none⟩,
  ⟨(some 24), .mv (.t 1), none⟩,
  ⟨(some 25), .pcall (.f 71) [(.t 23), (.t 24), (.c (.int .i64 (-1)))], none⟩,
  ⟨(some 26), .not (.t 25), none⟩,
  ⟨(some 21), .mv (.t 26), none⟩])
 (.cond (.t 21)
  (.seq (.ops [
  ⟨(some 4), .mv (.c (.int .i64 1)), none⟩,
  ⟨(some 5), .mv (.c (.int .i64 0)), none⟩])
 .ret)
  .skip)))))
 (.seq (.ops [
  ⟨(some 4), .mv (.c (.int .i64 2)), none⟩,
  ⟨(some 5), .mv (.c (.int .i64 0)), none⟩])
 .ret))))), false, 2⟩

/-- wishbook/wishbookref09.Told -/
def a26 : F := ⟨[.tmp 4, .tmp 5],
 (.seq (.ops [
  ⟨(some 2), .box (.t 0), none⟩,
  ⟨(some 4), .mv (.c (.int .i64 0)), none⟩,
  ⟨(some 5), .mv (.c (.int .i64 0)), none⟩])
 (.seq (.seq (.ops [
  ⟨(some 9), .load 6 true (.t 2), none⟩,
  ⟨(some 10), .mv (.t 1), none⟩,
  ⟨(some 11), .fad 5 (.t 2), none⟩,
  ⟨(some 12), .load 1 false (.t 11), none⟩,
  ⟨(some 13), .len (.t 12), none⟩,
  ⟨(some 14), .bin .sub (.t 13) (.c (.int .i64 1)), none⟩,
  ⟨(some 15), .pcall (.f 38) [(.t 10), (.c (.int .i64 0)), (.t 14)], none⟩,
  ⟨(some 16), .pcall (.f 69) [(.t 9), (.t 15)], none⟩,
  ⟨(some 6), .mv (.t 16), none⟩])
 (.seq (.ops [
  ⟨(some 17), .mv (.t 6), none⟩,
  ⟨(some 18), .bin .neq (.t 17) (.c (.int .i64 0)), none⟩])
 (.cond (.t 18)
  (.seq (.ops [
  ⟨(some 19), .mv (.t 6), none⟩,
  ⟨(some 4), .mv (.c (.int .i64 0)), none⟩,
  ⟨(some 5), .mv (.t 19), none⟩])
 .ret)
  .skip)))
 (.seq (.ops [
  ⟨(some 20), .load 6 true (.t 2), none⟩,
  ⟨(some 21), .pcall (.f 73) [(.t 20)], none⟩,
  ⟨(some 22), .field 1 1 false (.t 21), none⟩,
  ⟨(some 23), .mv (.t 1), none⟩,
  ⟨(some 24), .iad 1 (.t 22) (.t 23), none⟩,
  ⟨(some 25), .load 1 false (.t 24), none⟩,
  ⟨(some 7), .mv (.t 25), none⟩])
 (.seq (.ops [
  ⟨(some 26), .mv (.t 7), none⟩,
  ⟨(some 27), .fad 4 (.t 2), none⟩,
  ⟨(some 28), .load 1 false (.t 27), none⟩,
  ⟨(some 29), .len (.t 28), none⟩,
  ⟨(some 30), .pcall (.f 40) [(.t 26), (.t 29)], none⟩,
  ⟨(some 8), .mv (.t 30), none⟩])
 (.block 0
  (.seq (.ops [
  ⟨(some 32), .mv (.t 8), none⟩,
  ⟨(some 33), .not (.t 32), none⟩,
  ⟨(some 31), .mv (.t 33), none⟩])
 (.cond (.t 31)
  (.seq (.ops [
  ⟨(some 4), .mv (.c (.int .i64 1)), none⟩,
  ⟨(some 5), .mv (.c (.int .i64 0)), none⟩])
 .ret)
  (.seq (.ops [
  ⟨(some 35), .mv (.t 7), none⟩,
  ⟨(some 36), .fad 4 (.t 2), none⟩,
  ⟨(some 37), .load 1 false (.t 36), none⟩,
  ⟨(some 38), .len (.t 37), none⟩,
  ⟨(some 39), .pcall (.f 72) [(.t 35), (.t 38)], none⟩,
  ⟨(some 40), .len (.t 39), none⟩,
  ⟨(some 41), .bin .eql (.t 40) (.c (.int .i64 0)), none⟩,
  ⟨(some 34), .mv (.t 41), none⟩])
 (.cond (.t 34)
  (.seq (.ops [
  ⟨(some 4), .mv (.c (.int .i64 0)), none⟩,
  ⟨(some 5), .mv (.c (.int .i64 0)), none⟩])
 .ret)
  (.seq (.ops [
  ⟨(some 4), .mv (.c (.int .i64 2)), none⟩,
  ⟨(some 5), .mv (.c (.int .i64 0)), none⟩])
 .ret)))))))))), false, 2⟩

def a27_L2 : C := (.seq (.ops [
  ⟨(some 33), .bin .lss (.t 32) (.t 31), none⟩])
 (.seq (.cond (.t 33)
  .skip
  (.exit 2))
 (.seq (.block 3
  (.seq (.ops [
  ⟨(some 34), .mv (.t 32), none⟩,
  ⟨(some 9), .mv (.t 34), none⟩])
 (.ops [
  ⟨(some 35), .mv (.t 8), none⟩,
  ⟨(some 36), .mv (.t 8), none⟩,
  ⟨(some 37), .iarr 8 1 (.t 6) (.t 36), none⟩,
  ⟨(some 38), .load 1 false (.t 37), none⟩,
  ⟨(some 39), .mv (.t 38), none⟩,
  ⟨(some 40), .load 6 true (.t 5), (some (39, false))⟩,
  ⟨(some 41), .mv (.t 9), (some (39, false))⟩,
  ⟨(some 42), .mv (.t 8), (some (39, false))⟩,
  ⟨(some 43), .pcall (.f 71) [(.t 40), (.t 41), (.t 42)], (some (39, false))⟩,
  ⟨(some 44), .pick (.t 39) (.c (.bool true)) (.t 43), none⟩,
  ⟨(some 45), .iarr 8 1 (.t 6) (.t 35), none⟩,
  ⟨none, .store 1 (.t 45) (.t 44), none⟩])))
 (.ops [
  ⟨(some 46), .bin .add (.t 32) (.c (.int .i64 1)), none⟩,
  ⟨(some 32), .mv (.t 46), none⟩]))))
def a27_L1 : C := (.seq (.ops [
  ⟨(some 26), .bin .lss (.t 25) (.t 24), none⟩])
 (.seq (.cond (.t 26)
  .skip
  (.exit 0))
 (.seq (.block 1
  (.seq (.ops [
  ⟨(some 27), .mv (.t 25), none⟩,
  ⟨(some 8), .mv (.t 27), none⟩])
 (.seq (.seq (.ops [
  ⟨(some 28), .fad 0 (.t 5), none⟩,
  ⟨(some 29), .fad 5 (.t 28), none⟩,
  ⟨(some 30), .load 1 false (.t 29), none⟩,
  ⟨(some 31), .len (.t 30), none⟩,
  ⟨(some 32), .mv (.c (.int .i64 0)), none⟩])
 (.block 2
  (.loop [2, 3, 5, 6, 7, 8, 24, 25, 31, 32] a27_L2)))
 (.ops [
  ⟨(some 47), .mv (.t 8), none⟩,
  ⟨(some 48), .load 6 true (.t 5), none⟩,
  ⟨(some 49), .mv (.t 8), none⟩,
  ⟨(some 50), .pcall (.f 74) [(.t 48), (.t 49)], none⟩,
  ⟨(some 51), .pcall (.f 75) [(.t 50)], none⟩,
  ⟨(some 52), .not (.t 51), none⟩,
  ⟨(some 53), .iarr 8 1 (.t 7) (.t 47), none⟩,
  ⟨none, .store 1 (.t 53) (.t 52), none⟩]))))
 (.ops [
  ⟨(some 54), .bin .add (.t 25) (.c (.int .i64 1)), none⟩,
  ⟨(some 25), .mv (.t 54), none⟩]))))
def a27_L3 : C := (.seq (.ops [
  ⟨(some 63), .bin .lss (.t 62) (.t 61), none⟩])
 (.seq (.cond (.t 63)
  .skip
  (.exit 4))
 (.seq (.block 5
  (.seq (.ops [
  ⟨(some 64), .mv (.t 62), none⟩,
  ⟨(some 10), .mv (.t 64), none⟩])
 (.seq (.ops [
  ⟨(some 65), .mv (.t 10), none⟩,
  ⟨(some 66), .iarr 8 1 (.t 7) (.t 65), none⟩,
  ⟨(some 67), .load 1 false (.t 66), none⟩])
 (.cond (.t 67)
  (.ops [
  ⟨(some 68), .mv (.t 2), none⟩,
  ⟨(some 69), .mv (.t 10), none⟩,
  ⟨(some 70), .bsl [(.int .i64 0)] 1 [(0, (.t 69))], none⟩,
  ⟨(some 71), .app 71 1 8 (.t 68) (.t 70), none⟩,
  ⟨(some 2), .mv (.t 71), none⟩])
  (.seq (.ops [
  ⟨(some 72), .mv (.t 10), none⟩,
  ⟨(some 73), .iarr 8 1 (.t 6) (.t 72), none⟩,
  ⟨(some 74), .load 1 false (.t 73), none⟩])
 (.cond (.t 74)
  (.ops [
  ⟨(some 75), .mv (.t 3), none⟩,
  ⟨(some 76), .mv (.t 10), none⟩,
  ⟨(some 77), .bsl [(.int .i64 0)] 1 [(0, (.t 76))], none⟩,
  ⟨(some 78), .app 78 1 8 (.t 75) (.t 77), none⟩,
  ⟨(some 3), .mv (.t 78), none⟩])
  .skip))))))
 (.ops [
  ⟨(some 79), .bin .add (.t 62) (.c (.int .i64 1)), none⟩,
  ⟨(some 62), .mv (.t 79), none⟩]))))
/-- wishbook/claim.Back -/
def a27 : F := ⟨[.tmp 2, .tmp 3, .tmp 4],
 (.seq (.ops [
  ⟨(some 1), .box (.t 0), none⟩,
  ⟨(some 2), .mv (.c (.sl [] .nil)), none⟩,
  ⟨(some 3), .mv (.c (.sl [] .nil)), none⟩,
  ⟨(some 4), .mv (.c (.int .i64 0)), none⟩])
 (.seq (.ops [
  ⟨(some 12), .load 6 true (.t 1), none⟩,
  ⟨(some 13), .pcall (.f 63) [(.t 12), (.f 64)], none⟩,
  ⟨(some 11), .mv (.t 13), none⟩,
  ⟨(some 14), .ext (.t 11) 0, none⟩,
  ⟨(some 15), .ext (.t 11) 1, none⟩,
  ⟨(some 5), .alloc [(.int .i64 0), (.int .i64 0), (.int .i64 0), (.int .i64 0), (.sl [] .nil), (.sl [] .nil)], none⟩,
  ⟨none, .store 6 (.t 5) (.t 14), none⟩,
  ⟨(some 4), .mv (.t 15), none⟩])
 (.seq (.seq (.ops [
  ⟨(some 16), .mv (.t 4), none⟩,
  ⟨(some 17), .bin .neq (.t 16) (.c (.int .i64 0)), none⟩])
 (.cond (.t 17)
  (.seq (.ops [
  ⟨(some 18), .mv (.t 4), none⟩,
  ⟨(some 2), .mv (.c (.sl [] .nil)), none⟩,
  ⟨(some 3), .mv (.c (.sl [] .nil)), none⟩,
  ⟨(some 4), .mv (.t 18), none⟩])
 .ret)
  .skip))
 (.seq (.ops [
  ⟨(some 19), .pcall (.f 62) [], none⟩,
  ⟨(some 20), .pcall (.f 62) [], none⟩,
  ⟨(some 6), .alloc [(.bool false), (.bool false), (.bool false), (.bool false), (.bool false), (.bool false), (.bool false), (.bool false)], none⟩,
  ⟨(some 7), .alloc [(.bool false), (.bool false), (.bool false), (.bool false), (.bool false), (.bool false), (.bool false), (.bool false)], none⟩,
  ⟨none, .store 8 (.t 6) (.t 19), none⟩,
  ⟨none, .store 8 (.t 7) (.t 20), none⟩])
 (.seq (.seq (.ops [
  ⟨(some 21), .fad 0 (.t 5), none⟩,
  ⟨(some 22), .fad 4 (.t 21), none⟩,
  ⟨(some 23), .load 1 false (.t 22), none⟩,
  ⟨(some 24), .len (.t 23), none⟩,
  ⟨(some 25), .mv (.c (.int .i64 0)), none⟩])
 (.block 0
  (.loop [2, 3, 5, 6, 7, 24, 25] a27_L1)))
 (.seq (.seq (.ops [
  ⟨(some 55), .load 8 true (.t 6), none⟩,
  ⟨(some 56), .pcall (.f 62) [], none⟩,
  ⟨(some 57), .eq false (.agg [.bool, .bool, .bool, .bool, .bool, .bool, .bool, .bool]) (.t 55) (.t 56), none⟩])
 (.cond (.t 57)
  (.seq (.ops [
  ⟨(some 2), .mv (.c (.sl [] .nil)), none⟩,
  ⟨(some 3), .mv (.c (.sl [] .nil)), none⟩,
  ⟨(some 4), .mv (.c (.int .i64 0)), none⟩])
 .ret)
  .skip))
 (.seq (.seq (.ops [
  ⟨(some 58), .fad 0 (.t 5), none⟩,
  ⟨(some 59), .fad 4 (.t 58), none⟩,
  ⟨(some 60), .load 1 false (.t 59), none⟩,
  ⟨(some 61), .len (.t 60), none⟩,
  ⟨(some 62), .mv (.c (.int .i64 0)), none⟩])
 (.block 4
  (.loop [2, 3, 6, 7, 61, 62] a27_L3)))
 (.seq (.ops [
  ⟨(some 80), .mv (.t 2), none⟩,
  ⟨(some 81), .mv (.t 2), none⟩,
  ⟨(some 82), .len (.t 81), none⟩,
  ⟨(some 83), .mv (.t 2), none⟩,
  ⟨(some 84), .len (.t 83), none⟩,
  ⟨(some 85), .slice 1 (.t 80) none (some (.t 82)) (some (.t 84)), none⟩,
  ⟨(some 86), .mv (.t 3), none⟩,
  ⟨(some 87), .mv (.t 3), none⟩,
  ⟨(some 88), .len (.t 87), none⟩,
  ⟨(some 89), .mv (.t 3), none⟩,
  ⟨(some 90), .len (.t 89), none⟩,
  ⟨(some 91), .slice 1 (.t 86) none (some (.t 88)) (some (.t 90)), none⟩,
  ⟨(some 2), .mv (.t 85), none⟩,
  ⟨(some 3), .mv (.t 91), none⟩,
  ⟨(some 4), .mv (.c (.int .i64 0)), none⟩])
 .ret)))))))), false, 1⟩

/-- wishbook/wishbookref09.Back -/
def a28 : F := ⟨[.tmp 2, .tmp 3, .tmp 4],
 (.seq (.ops [
  ⟨(some 1), .box (.t 0), none⟩,
  ⟨(some 2), .mv (.c (.sl [] .nil)), none⟩,
  ⟨(some 3), .mv (.c (.sl [] .nil)), none⟩,
  ⟨(some 4), .mv (.c (.int .i64 0)), none⟩])
 (.seq (.seq (.ops [
  ⟨(some 7), .load 6 true (.t 1), none⟩,
  ⟨(some 8), .pcall (.f 69) [(.t 7), (.c (.bool true))], none⟩,
  ⟨(some 5), .mv (.t 8), none⟩])
 (.seq (.ops [
  ⟨(some 9), .mv (.t 5), none⟩,
  ⟨(some 10), .bin .neq (.t 9) (.c (.int .i64 0)), none⟩])
 (.cond (.t 10)
  (.seq (.ops [
  ⟨(some 11), .mv (.t 5), none⟩,
  ⟨(some 2), .mv (.c (.sl [] .nil)), none⟩,
  ⟨(some 3), .mv (.c (.sl [] .nil)), none⟩,
  ⟨(some 4), .mv (.t 11), none⟩])
 .ret)
  .skip)))
 (.seq (.ops [
  ⟨(some 12), .load 6 true (.t 1), none⟩,
  ⟨(some 13), .pcall (.f 73) [(.t 12)], none⟩,
  ⟨(some 6), .alloc [(.int .i64 0), (.sl [] .nil), (.int .i64 0), (.int .i64 0), (.int .i64 0), (.int .i64 0)], none⟩,
  ⟨none, .store 6 (.t 6) (.t 13), none⟩])
 (.seq (.ops [
  ⟨(some 14), .fad 2 (.t 6), none⟩,
  ⟨(some 15), .load 1 false (.t 14), none⟩,
  ⟨(some 16), .fad 4 (.t 1), none⟩,
  ⟨(some 17), .load 1 false (.t 16), none⟩,
  ⟨(some 18), .len (.t 17), none⟩,
  ⟨(some 19), .pcall (.f 72) [(.t 15), (.t 18)], none⟩,
  ⟨(some 20), .fad 3 (.t 6), none⟩,
  ⟨(some 21), .load 1 false (.t 20), none⟩,
  ⟨(some 22), .fad 2 (.t 6), none⟩,
  ⟨(some 23), .load 1 false (.t 22), none⟩,
  ⟨(some 24), .bin .sub (.t 21) (.t 23), none⟩,
  ⟨(some 25), .fad 4 (.t 1), none⟩,
  ⟨(some 26), .load 1 false (.t 25), none⟩,
  ⟨(some 27), .len (.t 26), none⟩,
  ⟨(some 28), .pcall (.f 72) [(.t 24), (.t 27)], none⟩,
  ⟨(some 2), .mv (.t 19), none⟩,
  ⟨(some 3), .mv (.t 28), none⟩,
  ⟨(some 4), .mv (.c (.int .i64 0)), none⟩])
 .ret)))), false, 1⟩

/-- wishbook/claim.Worth -/
def a29 : F := ⟨[.cell 2 2 true, .tmp 3],
 (.seq (.ops [
  ⟨(some 1), .box (.t 0), none⟩,
  ⟨(some 2), .alloc [(.int .i64 0), (.int .i64 0)], none⟩,
  ⟨(some 3), .mv (.c (.int .i64 0)), none⟩])
 (.seq (.ops [
  ⟨(some 7), .load 6 true (.t 1), none⟩,
  ⟨(some 8), .pcall (.f 63) [(.t 7), (.f 64)], none⟩,
  ⟨(some 6), .mv (.t 8), none⟩,
  ⟨(some 9), .ext (.t 6) 0, none⟩,
  ⟨(some 10), .ext (.t 6) 1, none⟩,
  ⟨(some 4), .alloc [(.int .i64 0), (.int .i64 0), (.int .i64 0), (.int .i64 0), (.sl [] .nil), (.sl [] .nil)], none⟩,
  ⟨none, .store 6 (.t 4) (.t 9), none⟩,
  ⟨(some 5), .mv (.t 10), none⟩])
 (.seq (.seq (.ops [
  ⟨(some 11), .mv (.t 5), none⟩,
  ⟨(some 12), .bin .neq (.t 11) (.c (.int .i64 0)), none⟩])
 (.cond (.t 12)
  (.seq (.ops [
  ⟨(some 13), .build [(.int .i64 0), (.int .i64 0)] [], none⟩,
  ⟨(some 14), .mv (.t 5), none⟩,
  ⟨none, .store 2 (.t 2) (.t 13), none⟩,
  ⟨(some 3), .mv (.t 14), none⟩])
 .ret)
  .skip))
 (.seq (.ops [
  ⟨(some 15), .load 6 true (.t 4), none⟩,
  ⟨(some 16), .pcall (.f 76) [], none⟩,
  ⟨(some 17), .callk (.f 66) [(.t 15), (.c .nilM), (.t 16)] [4], none⟩,
  ⟨(some 18), .build [(.int .i64 0), (.int .i64 0), (.int .i64 0)] [], none⟩,
  ⟨(some 19), .callk (.f 68) [(.t 17), (.t 18)] [4], none⟩,
  ⟨(some 20), .load 6 true (.t 4), none⟩,
  ⟨(some 21), .pcall (.f 67) [], none⟩,
  ⟨(some 22), .call (.f 66) [(.t 20), (.c .nilM), (.t 21)], none⟩,
  ⟨(some 23), .build [(.int .i64 0), (.int .i64 0), (.int .i64 0)] [], none⟩,
  ⟨(some 24), .call (.f 68) [(.t 22), (.t 23)], none⟩,
  ⟨(some 25), .build [(.int .i64 0), (.int .i64 0)] [(0, 1, (.t 19)), (1, 1, (.t 24))], none⟩,
  ⟨none, .store 2 (.t 2) (.t 25), none⟩,
  ⟨(some 3), .mv (.c (.int .i64 0)), none⟩])
 .ret)))), false, 1⟩

/-- wishbook/wishbookref09.Worth -/
def a30 : F := ⟨[.cell 2 2 true, .tmp 3],
 (.seq (.ops [
  ⟨(some 1), .box (.t 0), none⟩,
  ⟨(some 2), .alloc [(.int .i64 0), (.int .i64 0)], none⟩,
  ⟨(some 3), .mv (.c (.int .i64 0)), none⟩])
 (.seq (.seq (.ops [
  ⟨(some 5), .load 6 true (.t 1), none⟩,
  ⟨(some 6), .pcall (.f 69) [(.t 5), (.c (.bool true))], none⟩,
  ⟨(some 4), .mv (.t 6), none⟩])
 (.seq (.ops [
  ⟨(some 7), .mv (.t 4), none⟩,
  ⟨(some 8), .bin .neq (.t 7) (.c (.int .i64 0)), none⟩])
 (.cond (.t 8)
  (.seq (.ops [
  ⟨(some 9), .build [(.int .i64 0), (.int .i64 0)] [], none⟩,
  ⟨(some 10), .mv (.t 4), none⟩,
  ⟨none, .store 2 (.t 2) (.t 9), none⟩,
  ⟨(some 3), .mv (.t 10), none⟩])
 .ret)
  .skip)))
 (.seq (.ops [
  ⟨(some 11), .load 6 true (.t 1), none⟩,
  ⟨(some 12), .pcall (.f 73) [(.t 11)], none⟩,
  ⟨(some 13), .field 4 2 true (.t 12), none⟩,
  ⟨none, .store 2 (.t 2) (.t 13), none⟩,
  ⟨(some 3), .mv (.c (.int .i64 0)), none⟩])
 .ret))), false, 1⟩

def a31_L1 : C := (.seq (.ops [
  ⟨(some 15), .bin .lss (.t 14) (.c (.int .i64 7)), none⟩])
 (.seq (.cond (.t 15)
  .skip
  (.exit 0))
 (.seq (.block 1
  (.seq (.ops [
  ⟨(some 16), .mv (.t 14), none⟩,
  ⟨(some 6), .mv (.t 16), none⟩])
 (.seq (.ops [
  ⟨(some 17), .mv (.t 6), none⟩,
  ⟨(some 18), .fad 0 (.t 5), none⟩,
  ⟨(some 19), .fad 3 (.t 18), none⟩,
  ⟨none, .store 1 (.t 19) (.t 17), none⟩])
 (.seq (.ops [
  ⟨(some 20), .load 6 true (.t 5), none⟩,
  ⟨(some 21), .pcall (.f 75) [(.t 20)], none⟩])
 (.cond (.t 21)
  (.seq (.ops [
  ⟨(some 22), .mv (.t 6), none⟩,
  ⟨(some 2), .mv (.t 22), none⟩,
  ⟨(some 3), .mv (.c (.int .i64 0)), none⟩])
 .ret)
  .skip)))))
 (.ops [
  ⟨(some 23), .bin .add (.t 14) (.c (.int .i64 1)), none⟩,
  ⟨(some 14), .mv (.t 23), none⟩]))))
/-- wishbook/claim.Fewest -/
def a31 : F := ⟨[.tmp 2, .tmp 3],
 (.seq (.ops [
  ⟨(some 1), .box (.t 0), none⟩,
  ⟨(some 2), .mv (.c (.int .i64 0)), none⟩,
  ⟨(some 3), .mv (.c (.int .i64 0)), none⟩])
 (.seq (.seq (.ops [
  ⟨(some 7), .load 6 true (.t 1), none⟩,
  ⟨(some 8), .pcall (.f 15) [(.t 7)], none⟩,
  ⟨(some 4), .mv (.t 8), none⟩])
 (.seq (.ops [
  ⟨(some 9), .mv (.t 4), none⟩,
  ⟨(some 10), .bin .neq (.t 9) (.c (.int .i64 0)), none⟩])
 (.cond (.t 10)
  (.seq (.ops [
  ⟨(some 11), .mv (.t 4), none⟩,
  ⟨(some 2), .mv (.c (.int .i64 0)), none⟩,
  ⟨(some 3), .mv (.t 11), none⟩])
 .ret)
  .skip)))
 (.seq (.ops [
  ⟨(some 12), .load 6 true (.t 1), none⟩,
  ⟨(some 13), .build [(.int .i64 0), (.int .i64 0), (.int .i64 0), (.int .i64 0), (.sl [] .nil), (.sl [] .nil)] [(0, 6, (.t 12))], none⟩,
  ⟨(some 5), .alloc [(.int .i64 0), (.int .i64 0), (.int .i64 0), (.int .i64 0), (.sl [] .nil), (.sl [] .nil)], none⟩,
  ⟨none, .store 6 (.t 5) (.t 13), none⟩])
 (.seq (.seq (.ops [
  ⟨(some 14), .mv (.c (.int .i64 0)), none⟩])
 (.block 0
  (.loop [2, 3, 5, 14] a31_L1)))
 (.seq (.ops [
  ⟨(some 2), .mv (.c (.int .i64 0)), none⟩,
  ⟨(some 3), .mv (.c (.int .i64 4)), none⟩])
 .ret))))), false, 1⟩

def a32_L1 : C := (.seq (.seq (.ops [
  ⟨(some 11), .mv (.t 5), none⟩,
  ⟨(some 12), .bin .leq (.t 11) (.c (.int .i64 6)), none⟩])
 (.cond (.t 12)
  .skip
  (.exit 0)))
 (.seq (.block 1
  (.seq (.ops [
  ⟨(some 15), .mv (.t 5), none⟩,
  ⟨(some 16), .fad 3 (.t 1), none⟩,
  ⟨none, .store 1 (.t 16) (.t 15), none⟩])
 (.seq (.ops [
  ⟨(some 17), .load 6 true (.t 1), none⟩,
  ⟨(some 18), .pcall (.f 77) [(.t 17), (.c (.int .i64 0)), (.c (.int .i64 0)), (.c (.int .i64 0))], none⟩])
 (.cond (.t 18)
  (.seq (.ops [
  ⟨(some 19), .mv (.t 5), none⟩,
  ⟨(some 2), .mv (.t 19), none⟩,
  ⟨(some 3), .mv (.c (.int .i64 0)), none⟩])
 .ret)
  .skip))))
 (.ops [
  ⟨(some 13), .mv (.t 5), none⟩,
  ⟨(some 14), .bin .add (.t 13) (.c (.int .i64 1)), none⟩,
  ⟨(some 5), .mv (.t 14), none⟩])))
/-- wishbook/wishbookref09.Fewest -/
def a32 : F := ⟨[.tmp 2, .tmp 3],
 (.seq (.ops [
  ⟨(some 1), .box (.t 0), none⟩,
  ⟨(some 2), .mv (.c (.int .i64 0)), none⟩,
  ⟨(some 3), .mv (.c (.int .i64 0)), none⟩])
 (.seq (.seq (.ops [
  ⟨(some 6), .load 6 true (.t 1), none⟩,
  ⟨(some 7), .pcall (.f 16) [(.t 6)], none⟩,
  ⟨(some 4), .mv (.t 7), none⟩])
 (.seq (.ops [
  ⟨(some 8), .mv (.t 4), none⟩,
  ⟨(some 9), .bin .neq (.t 8) (.c (.int .i64 0)), none⟩])
 (.cond (.t 9)
  (.seq (.ops [
  ⟨(some 10), .mv (.t 4), none⟩,
  ⟨(some 2), .mv (.c (.int .i64 0)), none⟩,
  ⟨(some 3), .mv (.t 10), none⟩])
 .ret)
  .skip)))
 (.seq (.seq (.ops [
  ⟨(some 5), .mv (.c (.int .i64 0)), none⟩])
 (.block 0
  (.loop [1, 2, 3, 5] a32_L1)))
 (.seq (.ops [
  ⟨(some 2), .mv (.c (.int .i64 0)), none⟩,
  ⟨(some 3), .mv (.c (.int .i64 4)), none⟩])
 .ret)))), false, 1⟩

def a33_L1 : C := (.seq (.ops [
  ⟨(some 20), .bin .lss (.t 19) (.t 18), none⟩])
 (.seq (.cond (.t 20)
  .skip
  (.exit 0))
 (.seq (.block 1
  (.seq (.ops [
  ⟨(some 21), .mv (.t 19), none⟩,
  ⟨(some 6), .mv (.t 21), none⟩])
 (.seq (.ops [
  ⟨(some 23), .load 1 false (.t 5), none⟩,
  ⟨(some 24), .load 6 true (.t 1), none⟩,
  ⟨(some 25), .build [(.int .i64 0), (.int .i64 0), (.int .i64 0), (.int .i64 0), (.sl [] .nil), (.sl [] .nil)] [(0, 6, (.t 24))], none⟩,
  ⟨(some 26), .mv (.t 6), none⟩,
  ⟨(some 27), .call (.t 23) [(.t 25), (.c (.int .i64 0)), (.t 26), (.c (.sl [] .nil))], none⟩,
  ⟨(some 22), .mv (.t 27), none⟩,
  ⟨(some 28), .ext (.t 22) 0, none⟩,
  ⟨(some 29), .ext (.t 22) 1, none⟩,
  ⟨(some 7), .mv (.t 28), none⟩,
  ⟨(some 8), .mv (.t 29), none⟩])
 (.seq (.ops [
  ⟨(some 30), .mv (.t 8), none⟩])
 (.cond (.t 30)
  (.seq (.ops [
  ⟨(some 31), .mv (.t 7), none⟩,
  ⟨(some 32), .mv (.t 7), none⟩,
  ⟨(some 33), .len (.t 32), none⟩,
  ⟨(some 34), .mv (.t 7), none⟩,
  ⟨(some 35), .len (.t 34), none⟩,
  ⟨(some 36), .slice 1 (.t 31) none (some (.t 33)) (some (.t 35)), none⟩,
  ⟨(some 2), .mv (.t 36), none⟩,
  ⟨(some 3), .mv (.c (.int .i64 0)), none⟩])
 .ret)
  .skip)))))
 (.ops [
  ⟨(some 37), .bin .add (.t 19) (.c (.int .i64 1)), none⟩,
  ⟨(some 19), .mv (.t 37), none⟩]))))
/-- wishbook/claim.Wrong -/
def a33 : F := ⟨[.tmp 2, .tmp 3],
 (.seq (.ops [
  ⟨(some 1), .box (.t 0), none⟩,
  ⟨(some 2), .mv (.c (.sl [] .nil)), none⟩,
  ⟨(some 3), .mv (.c (.int .i64 0)), none⟩])
 (.seq (.seq (.ops [
  ⟨(some 9), .load 6 true (.t 1), none⟩,
  ⟨(some 10), .pcall (.f 15) [(.t 9)], none⟩,
  ⟨(some 4), .mv (.t 10), none⟩])
 (.seq (.ops [
  ⟨(some 11), .mv (.t 4), none⟩,
  ⟨(some 12), .bin .neq (.t 11) (.c (.int .i64 0)), none⟩])
 (.cond (.t 12)
  (.seq (.ops [
  ⟨(some 13), .mv (.t 4), none⟩,
  ⟨(some 2), .mv (.c (.sl [] .nil)), none⟩,
  ⟨(some 3), .mv (.t 13), none⟩])
 .ret)
  .skip)))
 (.seq (.ops [
  ⟨(some 5), .alloc [.nilF], none⟩])
 (.seq (.ops [
  ⟨(some 14), .mkfn 78 [] [(.t 5)], none⟩,
  ⟨none, .store 1 (.t 5) (.t 14), none⟩])
 (.seq (.seq (.ops [
  ⟨(some 15), .fad 5 (.t 1), none⟩,
  ⟨(some 16), .load 1 false (.t 15), none⟩,
  ⟨(some 17), .len (.t 16), none⟩,
  ⟨(some 18), .bin .add (.t 17) (.c (.int .i64 1)), none⟩,
  ⟨(some 19), .mv (.c (.int .i64 0)), none⟩])
 (.block 0
  (.loop [1, 2, 3, 5, 18, 19] a33_L1)))
 (.seq (.ops [
  ⟨(some 2), .mv (.c (.sl [] .nil)), none⟩,
  ⟨(some 3), .mv (.c (.int .i64 4)), none⟩])
 .ret)))))), false, 1⟩

def a34_L2 : C := (.seq (.seq (.ops [
  ⟨(some 29), .mv (.t 10), none⟩,
  ⟨(some 30), .mv (.t 8), none⟩,
  ⟨(some 31), .len (.t 30), none⟩,
  ⟨(some 32), .bin .lss (.t 29) (.t 31), none⟩])
 (.cond (.t 32)
  .skip
  (.exit 2)))
 (.seq (.block 3
  (.ops [
  ⟨(some 35), .mv (.t 9), none⟩,
  ⟨(some 36), .mv (.t 35), none⟩,
  ⟨(some 37), .fad 5 (.t 1), (some (36, true))⟩,
  ⟨(some 38), .load 1 false (.t 37), (some (36, true))⟩,
  ⟨(some 39), .mv (.t 8), (some (36, true))⟩,
  ⟨(some 40), .mv (.t 10), (some (36, true))⟩,
  ⟨(some 41), .iad 1 (.t 39) (.t 40), (some (36, true))⟩,
  ⟨(some 42), .load 1 false (.t 41), (some (36, true))⟩,
  ⟨(some 43), .iad 5 (.t 38) (.t 42), (some (36, true))⟩,
  ⟨(some 44), .fad 4 (.t 43), (some (36, true))⟩,
  ⟨(some 45), .load 1 false (.t 44), (some (36, true))⟩,
  ⟨(some 46), .pick (.t 36) (.t 45) (.c (.bool false)), none⟩,
  ⟨(some 9), .mv (.t 46), none⟩]))
 (.ops [
  ⟨(some 33), .mv (.t 10), none⟩,
  ⟨(some 34), .bin .add (.t 33) (.c (.int .i64 1)), none⟩,
  ⟨(some 10), .mv (.t 34), none⟩])))
def a34_L1 : C := (.seq (.seq (.ops [
  ⟨(some 16), .mv (.t 7), none⟩,
  ⟨(some 17), .fad 5 (.t 1), none⟩,
  ⟨(some 18), .load 1 false (.t 17), none⟩,
  ⟨(some 19), .len (.t 18), none⟩,
  ⟨(some 20), .bin .shl (.c (.int .i64 1)) (.t 19), none⟩,
  ⟨(some 21), .bin .lss (.t 16) (.t 20), none⟩])
 (.cond (.t 21)
  .skip
  (.exit 0)))
 (.seq (.block 1
  (.seq (.ops [
  ⟨(some 24), .mv (.t 7), none⟩,
  ⟨(some 25), .fad 5 (.t 1), none⟩,
  ⟨(some 26), .load 1 false (.t 25), none⟩,
  ⟨(some 27), .len (.t 26), none⟩,
  ⟨(some 28), .pcall (.f 72) [(.t 24), (.t 27)], none⟩,
  ⟨(some 8), .mv (.t 28), none⟩])
 (.seq (.ops [
  ⟨(some 9), .mv (.c (.bool true)), none⟩])
 (.seq (.seq (.ops [
  ⟨(some 10), .mv (.c (.int .i64 0)), none⟩])
 (.block 2
  (.loop [1, 5, 6, 7, 8, 9, 10] a34_L2)))
 (.seq (.ops [
  ⟨(some 47), .mv (.t 9), none⟩,
  ⟨(some 48), .mv (.t 47), none⟩,
  ⟨(some 49), .load 6 true (.t 1), (some (48, true))⟩,
  ⟨(some 50), .mv (.t 7), (some (48, true))⟩,
  ⟨(some 51), .pcall (.f 79) [(.t 49), (.t 50)], (some (48, true))⟩,
  ⟨(some 52), .pcall (.f 77) [(.t 51), (.c (.int .i64 0)), (.c (.int .i64 0)), (.c (.int .i64 0))], (some (48, true))⟩,
  ⟨(some 53), .pick (.t 48) (.t 52) (.c (.bool false)), none⟩,
  ⟨(some 54), .mv (.t 53), none⟩,
  ⟨(some 55), .mv (.t 5), (some (54, true))⟩,
  ⟨(some 56), .not (.t 55), (some (54, true))⟩,
  ⟨(some 57), .mv (.t 56), (some (54, true))⟩,
  ⟨(some 58), .mv (.t 8), (some (57, false))⟩,
  ⟨(some 59), .len (.t 58), (some (57, false))⟩,
  ⟨(some 60), .mv (.t 6), (some (57, false))⟩,
  ⟨(some 61), .len (.t 60), (some (57, false))⟩,
  ⟨(some 62), .bin .lss (.t 59) (.t 61), (some (57, false))⟩,
  ⟨(some 63), .pick (.t 57) (.c (.bool true)) (.t 62), (some (54, true))⟩,
  ⟨(some 64), .mv (.t 63), (some (54, true))⟩,
  ⟨(some 65), .mv (.t 8), (some (64, false))⟩,
  ⟨(some 66), .len (.t 65), (some (64, false))⟩,
  ⟨(some 67), .mv (.t 6), (some (64, false))⟩,
  ⟨(some 68), .len (.t 67), (some (64, false))⟩,
  ⟨(some 69), .bin .eql (.t 66) (.t 68), (some (64, false))⟩,
  ⟨(some 70), .mv (.t 69), (some (64, false))⟩,
  ⟨(some 71), .mv (.t 8), (some (70, true))⟩,
  ⟨(some 72), .mv (.t 6), (some (70, true))⟩,
  ⟨(some 73), .pcall (.f 48) [(.t 71), (.t 72)], (some (70, true))⟩,
  ⟨(some 74), .pick (.t 70) (.t 73) (.c (.bool false)), (some (64, false))⟩,
  ⟨(some 75), .pick (.t 64) (.c (.bool true)) (.t 74), (some (54, true))⟩,
  ⟨(some 76), .pick (.t 54) (.t 75) (.c (.bool false)), none⟩])
 (.cond (.t 76)
  (.ops [
  ⟨(some 77), .mv (.t 8), none⟩,
  ⟨(some 5), .mv (.c (.bool true)), none⟩,
  ⟨(some 6), .mv (.t 77), none⟩])
  .skip))))))
 (.ops [
  ⟨(some 22), .mv (.t 7), none⟩,
  ⟨(some 23), .bin .add (.t 22) (.c (.int .i64 1)), none⟩,
  ⟨(some 7), .mv (.t 23), none⟩])))
/-- wishbook/wishbookref09.Wrong -/
def a34 : F := ⟨[.tmp 2, .tmp 3],
 (.seq (.ops [
  ⟨(some 1), .box (.t 0), none⟩,
  ⟨(some 2), .mv (.c (.sl [] .nil)), none⟩,
  ⟨(some 3), .mv (.c (.int .i64 0)), none⟩])
 (.seq (.seq (.ops [
  ⟨(some 11), .load 6 true (.t 1), none⟩,
  ⟨(some 12), .pcall (.f 16) [(.t 11)], none⟩,
  ⟨(some 4), .mv (.t 12), none⟩])
 (.seq (.ops [
  ⟨(some 13), .mv (.t 4), none⟩,
  ⟨(some 14), .bin .neq (.t 13) (.c (.int .i64 0)), none⟩])
 (.cond (.t 14)
  (.seq (.ops [
  ⟨(some 15), .mv (.t 4), none⟩,
  ⟨(some 2), .mv (.c (.sl [] .nil)), none⟩,
  ⟨(some 3), .mv (.t 15), none⟩])
 .ret)
  .skip)))
 (.seq (.ops [
  ⟨(some 5), .mv (.c (.bool false)), none⟩])
 (.seq (.ops [
  ⟨(some 6), .mv (.c (.sl [] .nil)), none⟩])
 (.seq (.seq (.ops [
  ⟨(some 7), .mv (.c (.int .i64 0)), none⟩])
 (.block 0
  (.loop [1, 5, 6, 7] a34_L1)))
 (.seq (.seq (.ops [
  ⟨(some 78), .mv (.t 5), none⟩,
  ⟨(some 79), .not (.t 78), none⟩])
 (.cond (.t 79)
  (.seq (.ops [
  ⟨(some 2), .mv (.c (.sl [] .nil)), none⟩,
  ⟨(some 3), .mv (.c (.int .i64 4)), none⟩])
 .ret)
  .skip))
 (.seq (.ops [
  ⟨(some 80), .mv (.t 6), none⟩,
  ⟨(some 2), .mv (.t 80), none⟩,
  ⟨(some 3), .mv (.c (.int .i64 0)), none⟩])
 .ret))))))), false, 1⟩

def a35_L1 : C := (.seq (.seq (.ops [
  ⟨(some 38), .mv (.t 3), none⟩,
  ⟨(some 39), .mv (.t 38), none⟩,
  ⟨(some 40), .mv (.t 4), (some (39, true))⟩,
  ⟨(some 41), .fad 4 (.t 1), (some (39, true))⟩,
  ⟨(some 42), .load 1 false (.t 41), (some (39, true))⟩,
  ⟨(some 43), .len (.t 42), (some (39, true))⟩,
  ⟨(some 44), .bin .lss (.t 40) (.t 43), (some (39, true))⟩,
  ⟨(some 45), .pick (.t 39) (.t 44) (.c (.bool false)), none⟩])
 (.cond (.t 45)
  .skip
  (.exit 0)))
 (.seq (.block 1
  (.seq (.ops [
  ⟨(some 48), .fad 4 (.t 1), none⟩,
  ⟨(some 49), .load 1 false (.t 48), none⟩,
  ⟨(some 50), .mv (.t 4), none⟩,
  ⟨(some 51), .iad 4 (.t 49) (.t 50), none⟩,
  ⟨(some 52), .load 4 true (.t 51), none⟩,
  ⟨(some 5), .alloc [(.int .i64 0), (.int .i64 0), (.int .i64 0), (.int .i64 0)], none⟩,
  ⟨none, .store 4 (.t 5) (.t 52), none⟩])
 (.ops [
  ⟨(some 53), .fad 0 (.t 5), none⟩,
  ⟨(some 54), .load 1 false (.t 53), none⟩,
  ⟨(some 55), .pcall (.f 38) [(.t 54), (.c (.int .i64 0)), (.c (.int .i64 4000))], none⟩,
  ⟨(some 56), .mv (.t 55), none⟩,
  ⟨(some 57), .fad 1 (.t 5), (some (56, true))⟩,
  ⟨(some 58), .load 1 false (.t 57), (some (56, true))⟩,
  ⟨(some 59), .pcall (.f 38) [(.t 58), (.c (.int .i64 0)), (.c (.int .i64 50000))], (some (56, true))⟩,
  ⟨(some 60), .pick (.t 56) (.t 59) (.c (.bool false)), none⟩,
  ⟨(some 61), .mv (.t 60), none⟩,
  ⟨(some 62), .fad 2 (.t 5), (some (61, true))⟩,
  ⟨(some 63), .load 1 false (.t 62), (some (61, true))⟩,
  ⟨(some 64), .pcall (.f 38) [(.t 63), (.c (.int .i64 0)), (.c (.int .i64 9999))], (some (61, true))⟩,
  ⟨(some 65), .pick (.t 61) (.t 64) (.c (.bool false)), none⟩,
  ⟨(some 66), .mv (.t 65), none⟩,
  ⟨(some 67), .fad 3 (.t 5), (some (66, true))⟩,
  ⟨(some 68), .load 1 false (.t 67), (some (66, true))⟩,
  ⟨(some 69), .pcall (.f 38) [(.t 68), (.c (.int .i64 0)), (.c (.int .i64 100000))], (some (66, true))⟩,
  ⟨(some 70), .pick (.t 66) (.t 69) (.c (.bool false)), none⟩,
  ⟨(some 3), .mv (.t 70), none⟩])))
 (.ops [
  ⟨(some 46), .mv (.t 4), none⟩,
  ⟨(some 47), .bin .add (.t 46) (.c (.int .i64 1)), none⟩,
  ⟨(some 4), .mv (.t 47), none⟩])))
def a35_L2 : C := (.seq (.seq (.ops [
  ⟨(some 71), .mv (.t 3), none⟩,
  ⟨(some 72), .mv (.t 71), none⟩,
  ⟨(some 73), .mv (.t 6), (some (72, true))⟩,
  ⟨(some 74), .fad 5 (.t 1), (some (72, true))⟩,
  ⟨(some 75), .load 1 false (.t 74), (some (72, true))⟩,
  ⟨(some 76), .len (.t 75), (some (72, true))⟩,
  ⟨(some 77), .bin .lss (.t 73) (.t 76), (some (72, true))⟩,
  ⟨(some 78), .pick (.t 72) (.t 77) (.c (.bool false)), none⟩])
 (.cond (.t 78)
  .skip
  (.exit 2)))
 (.seq (.block 3
  (.seq (.ops [
  ⟨(some 81), .fad 5 (.t 1), none⟩,
  ⟨(some 82), .load 1 false (.t 81), none⟩,
  ⟨(some 83), .mv (.t 6), none⟩,
  ⟨(some 84), .iad 5 (.t 82) (.t 83), none⟩,
  ⟨(some 85), .load 5 true (.t 84), none⟩,
  ⟨(some 7), .alloc [(.int .i64 0), (.int .i64 0), (.int .i64 0), (.str []), (.bool false)], none⟩,
  ⟨none, .store 5 (.t 7) (.t 85), none⟩])
 (.ops [
  ⟨(some 86), .fad 0 (.t 7), none⟩,
  ⟨(some 87), .load 1 false (.t 86), none⟩,
  ⟨(some 88), .pcall (.f 38) [(.t 87), (.c (.int .i64 0)), (.c (.int .i64 4000))], none⟩,
  ⟨(some 89), .mv (.t 88), none⟩,
  ⟨(some 90), .fad 1 (.t 7), (some (89, true))⟩,
  ⟨(some 91), .load 2 true (.t 90), (some (89, true))⟩,
  ⟨(some 92), .pcall (.f 60) [(.t 91), (.c (.int .i64 0)), (.c (.int .i64 50000))], (some (89, true))⟩,
  ⟨(some 93), .pick (.t 89) (.t 92) (.c (.bool false)), none⟩,
  ⟨(some 94), .mv (.t 93), none⟩,
  ⟨(some 95), .fad 3 (.t 7), (some (94, true))⟩,
  ⟨(some 96), .load 1 false (.t 95), (some (94, true))⟩,
  ⟨(some 97), .lens (.t 96), (some (94, true))⟩,
  ⟨(some 98), .bin .eql (.t 97) (.c (.int .i64 0)), (some (94, true))⟩,
  ⟨(some 99), .mv (.t 98), (some (94, true))⟩,
  ⟨(some 100), .fad 3 (.t 7), (some (99, false))⟩,
  ⟨(some 101), .load 1 false (.t 100), (some (99, false))⟩,
  ⟨(some 102), .lens (.t 101), (some (99, false))⟩,
  ⟨(some 103), .bin .eql (.t 102) (.c (.int .i64 4)), (some (99, false))⟩,
  ⟨(some 104), .pick (.t 99) (.c (.bool true)) (.t 103), (some (94, true))⟩,
  ⟨(some 105), .pick (.t 94) (.t 104) (.c (.bool false)), none⟩,
  ⟨(some 3), .mv (.t 105), none⟩])))
 (.ops [
  ⟨(some 79), .mv (.t 6), none⟩,
  ⟨(some 80), .bin .add (.t 79) (.c (.int .i64 1)), none⟩,
  ⟨(some 6), .mv (.t 80), none⟩])))
/-- wishbook/wishbooklaw09.sound -/
def a35 : F := ⟨[.tmp 2],
 (.seq (.ops [
  ⟨(some 1), .box (.t 0), none⟩,
  ⟨(some 2), .mv (.c (.bool false)), none⟩])
 (.seq (.ops [
  ⟨(some 8), .load 6 true (.t 1), none⟩,
  ⟨(some 9), .pcall (.f 15) [(.t 8)], none⟩,
  ⟨(some 10), .bin .eql (.t 9) (.c (.int .i64 0)), none⟩,
  ⟨(some 11), .mv (.t 10), none⟩,
  ⟨(some 12), .fad 4 (.t 1), (some (11, true))⟩,
  ⟨(some 13), .load 1 false (.t 12), (some (11, true))⟩,
  ⟨(some 14), .len (.t 13), (some (11, true))⟩,
  ⟨(some 15), .bin .leq (.t 14) (.c (.int .i64 8)), (some (11, true))⟩,
  ⟨(some 16), .pick (.t 11) (.t 15) (.c (.bool false)), none⟩,
  ⟨(some 17), .mv (.t 16), none⟩,
  ⟨(some 18), .fad 5 (.t 1), (some (17, true))⟩,
  ⟨(some 19), .load 1 false (.t 18), (some (17, true))⟩,
  ⟨(some 20), .len (.t 19), (some (17, true))⟩,
  ⟨(some 21), .bin .leq (.t 20) (.c (.int .i64 6)), (some (17, true))⟩,
  ⟨(some 22), .pick (.t 17) (.t 21) (.c (.bool false)), none⟩,
  ⟨(some 23), .mv (.t 22), none⟩,
  ⟨(some 24), .fad 0 (.t 1), (some (23, true))⟩,
  ⟨(some 25), .load 2 true (.t 24), (some (23, true))⟩,
  ⟨(some 26), .pcall (.f 60) [(.t 25), (.c (.int .i64 0)), (.c (.int .i64 400))], (some (23, true))⟩,
  ⟨(some 27), .pick (.t 23) (.t 26) (.c (.bool false)), none⟩,
  ⟨(some 28), .mv (.t 27), none⟩,
  ⟨(some 29), .fad 2 (.t 1), (some (28, true))⟩,
  ⟨(some 30), .load 1 false (.t 29), (some (28, true))⟩,
  ⟨(some 31), .pcall (.f 38) [(.t 30), (.c (.int .i64 0)), (.c (.int .i64 5000))], (some (28, true))⟩,
  ⟨(some 32), .pick (.t 28) (.t 31) (.c (.bool false)), none⟩,
  ⟨(some 33), .mv (.t 32), none⟩,
  ⟨(some 34), .fad 3 (.t 1), (some (33, true))⟩,
  ⟨(some 35), .load 1 false (.t 34), (some (33, true))⟩,
  ⟨(some 36), .pcall (.f 38) [(.t 35), (.c (.int .i64 0)), (.c (.int .i64 6))], (some (33, true))⟩,
  ⟨(some 37), .pick (.t 33) (.t 36) (.c (.bool false)), none⟩,
  ⟨(some 3), .mv (.t 37), none⟩])
 (.seq (.seq (.ops [
  ⟨(some 4), .mv (.c (.int .i64 0)), none⟩])
 (.block 0
  (.loop [1, 3, 4] a35_L1)))
 (.seq (.seq (.ops [
  ⟨(some 6), .mv (.c (.int .i64 0)), none⟩])
 (.block 2
  (.loop [1, 3, 6] a35_L2)))
 (.seq (.ops [
  ⟨(some 106), .mv (.t 3), none⟩,
  ⟨(some 2), .mv (.t 106), none⟩])
 .ret))))), false, 1⟩

def a36_L2 : C := (.seq (.seq (.ops [
  ⟨(some 134), .mv (.t 15), none⟩,
  ⟨(some 135), .bin .lss (.t 134) (.c (.int .i64 4)), none⟩,
  ⟨(some 136), .mv (.t 135), none⟩,
  ⟨(some 137), .mv (.t 1), (some (136, true))⟩,
  ⟨(some 138), .mv (.t 10), (some (136, true))⟩,
  ⟨(some 139), .bin .add (.t 138) (.c (.int .i64 5)), (some (136, true))⟩,
  ⟨(some 140), .pcall (.f 80) [(.t 137), (.t 139)], (some (136, true))⟩,
  ⟨(some 141), .pcall (.f 42) [(.t 140), (.c (.int .i64 4))], (some (136, true))⟩,
  ⟨(some 142), .bin .gtr (.t 141) (.c (.int .i64 0)), (some (136, true))⟩,
  ⟨(some 143), .pick (.t 136) (.t 142) (.c (.bool false)), none⟩])
 (.cond (.t 143)
  .skip
  (.exit 2)))
 (.seq (.block 3
  (.seq (.ops [
  ⟨(some 146), .mv (.t 1), none⟩,
  ⟨(some 147), .mv (.t 10), none⟩,
  ⟨(some 148), .mv (.t 15), none⟩,
  ⟨(some 149), .bin .add (.t 147) (.t 148), none⟩,
  ⟨(some 150), .pcall (.f 80) [(.t 146), (.t 149)], none⟩,
  ⟨(some 151), .pcall (.f 42) [(.t 150), (.c (.int .i64 2))], none⟩,
  ⟨(some 152), .bin .eql (.t 151) (.c (.int .i64 0)), none⟩])
 (.cond (.t 152)
  (.ops [
  ⟨(some 153), .fad 3 (.t 11), none⟩,
  ⟨(some 154), .load 1 false (.t 153), none⟩,
  ⟨(some 155), .bin .add (.t 154) (.c (.str [63])), none⟩,
  ⟨(some 156), .fad 3 (.t 11), none⟩,
  ⟨none, .store 1 (.t 156) (.t 155), none⟩])
  (.ops [
  ⟨(some 157), .fad 3 (.t 11), none⟩,
  ⟨(some 158), .load 1 false (.t 157), none⟩,
  ⟨(some 159), .fad 2 (.t 13), none⟩,
  ⟨(some 160), .load 1 false (.t 159), none⟩,
  ⟨(some 161), .pcall (.f 46) [(.t 160)], none⟩,
  ⟨(some 162), .mv (.t 15), none⟩,
  ⟨(some 163), .mv (.t 15), none⟩,
  ⟨(some 164), .bin .add (.t 163) (.c (.int .i64 1)), none⟩,
  ⟨(some 165), .slstr (.t 161) (some (.t 162)) (some (.t 164)), none⟩,
  ⟨(some 166), .bin .add (.t 158) (.t 165), none⟩,
  ⟨(some 167), .fad 3 (.t 11), none⟩,
  ⟨none, .store 1 (.t 167) (.t 166), none⟩]))))
 (.ops [
  ⟨(some 144), .mv (.t 15), none⟩,
  ⟨(some 145), .bin .add (.t 144) (.c (.int .i64 1)), none⟩,
  ⟨(some 15), .mv (.t 145), none⟩])))
def a36_L1 : C := (.seq (.seq (.ops [
  ⟨(some 18), .mv (.t 10), none⟩,
  ⟨(some 19), .fad 5 (.t 2), none⟩,
  ⟨(some 20), .load 1 false (.t 19), none⟩,
  ⟨(some 21), .len (.t 20), none⟩,
  ⟨(some 22), .bin .lss (.t 18) (.t 21), none⟩])
 (.cond (.t 22)
  .skip
  (.exit 0)))
 (.seq (.block 1
  (.seq (.ops [
  ⟨(some 25), .fad 5 (.t 2), none⟩,
  ⟨(some 26), .load 1 false (.t 25), none⟩,
  ⟨(some 27), .mv (.t 10), none⟩,
  ⟨(some 28), .iad 5 (.t 26) (.t 27), none⟩,
  ⟨(some 29), .load 5 true (.t 28), none⟩,
  ⟨(some 11), .alloc [(.int .i64 0), (.int .i64 0), (.int .i64 0), (.str []), (.bool false)], none⟩,
  ⟨none, .store 5 (.t 11) (.t 29), none⟩])
 (.seq (.ops [
  ⟨(some 30), .mv (.t 1), none⟩,
  ⟨(some 31), .mv (.t 10), none⟩,
  ⟨(some 32), .pcall (.f 80) [(.t 30), (.t 31)], none⟩,
  ⟨(some 33), .fad 4 (.t 2), none⟩,
  ⟨(some 34), .load 1 false (.t 33), none⟩,
  ⟨(some 35), .len (.t 34), none⟩,
  ⟨(some 36), .bin .add (.t 35) (.c (.int .i64 1)), none⟩,
  ⟨(some 37), .pcall (.f 42) [(.t 32), (.t 36)], none⟩,
  ⟨(some 12), .mv (.t 37), none⟩])
 (.seq (.seq (.ops [
  ⟨(some 38), .mv (.t 12), none⟩,
  ⟨(some 39), .fad 4 (.t 2), none⟩,
  ⟨(some 40), .load 1 false (.t 39), none⟩,
  ⟨(some 41), .len (.t 40), none⟩,
  ⟨(some 42), .bin .eql (.t 38) (.t 41), none⟩,
  ⟨(some 43), .mv (.t 42), none⟩,
  ⟨(some 44), .mv (.t 8), (some (43, false))⟩,
  ⟨(some 45), .mv (.t 12), (some (43, false))⟩,
  ⟨(some 46), .pcall (.f 40) [(.t 44), (.t 45)], (some (43, false))⟩,
  ⟨(some 47), .pick (.t 43) (.c (.bool true)) (.t 46), none⟩,
  ⟨(some 48), .mv (.t 47), none⟩,
  ⟨(some 49), .fad 4 (.t 2), (some (48, false))⟩,
  ⟨(some 50), .load 1 false (.t 49), (some (48, false))⟩,
  ⟨(some 51), .mv (.t 12), (some (48, false))⟩,
  ⟨(some 52), .iad 4 (.t 50) (.t 51), (some (48, false))⟩,
  ⟨(some 53), .fad 0 (.t 52), (some (48, false))⟩,
  ⟨(some 54), .load 1 false (.t 53), (some (48, false))⟩,
  ⟨(some 55), .fad 0 (.t 2), (some (48, false))⟩,
  ⟨(some 56), .fad 0 (.t 55), (some (48, false))⟩,
  ⟨(some 57), .load 1 false (.t 56), (some (48, false))⟩,
  ⟨(some 58), .bin .add (.t 54) (.t 57), (some (48, false))⟩,
  ⟨(some 59), .bin .gtr (.t 58) (.c (.int .i64 4000)), (some (48, false))⟩,
  ⟨(some 60), .pick (.t 48) (.c (.bool true)) (.t 59), none⟩])
 (.cond (.t 60)
  (.seq (.seq (.ops [
  ⟨(some 61), .fad 4 (.t 11), none⟩,
  ⟨(some 62), .load 1 false (.t 61), none⟩,
  ⟨(some 63), .mv (.t 62), none⟩,
  ⟨(some 64), .mv (.t 9), (some (63, false))⟩,
  ⟨(some 65), .fad 3 (.t 2), (some (63, false))⟩,
  ⟨(some 66), .load 1 false (.t 65), (some (63, false))⟩,
  ⟨(some 67), .bin .eql (.t 64) (.t 66), (some (63, false))⟩,
  ⟨(some 68), .pick (.t 63) (.c (.bool true)) (.t 67), none⟩])
 (.cond (.t 68)
  (.exit 1)
  .skip))
 (.seq (.ops [
  ⟨(some 69), .mv (.t 9), none⟩,
  ⟨(some 70), .bin .add (.t 69) (.c (.int .i64 1)), none⟩,
  ⟨(some 9), .mv (.t 70), none⟩])
 (.seq (.ops [
  ⟨(some 71), .fad 5 (.t 6), none⟩,
  ⟨(some 72), .load 1 false (.t 71), none⟩,
  ⟨(some 73), .load 5 true (.t 11), none⟩,
  ⟨(some 74), .bsl [(.int .i64 0), (.int .i64 0), (.int .i64 0), (.str []), (.bool false)] 1 [(0, (.t 73))], none⟩,
  ⟨(some 75), .app 75 5 48 (.t 72) (.t 74), none⟩,
  ⟨(some 76), .mv (.t 7), none⟩,
  ⟨(some 77), .bsl [(.int .i64 0)] 1 [(0, (.c (.int .i64 (-1))))], none⟩,
  ⟨(some 78), .app 78 1 8 (.t 76) (.t 77), none⟩,
  ⟨(some 79), .fad 5 (.t 6), none⟩,
  ⟨none, .store 1 (.t 79) (.t 75), none⟩,
  ⟨(some 7), .mv (.t 78), none⟩])
 (.exit 1))))
  .skip))
 (.seq (.ops [
  ⟨(some 80), .mv (.t 8), none⟩,
  ⟨(some 81), .mv (.t 12), none⟩,
  ⟨(some 82), .bin .shl (.c (.int .i64 1)) (.t 81), none⟩,
  ⟨(some 83), .bin .or (.t 80) (.t 82), none⟩,
  ⟨(some 8), .mv (.t 83), none⟩])
 (.seq (.ops [
  ⟨(some 84), .fad 4 (.t 2), none⟩,
  ⟨(some 85), .load 1 false (.t 84), none⟩,
  ⟨(some 86), .mv (.t 12), none⟩,
  ⟨(some 87), .iad 4 (.t 85) (.t 86), none⟩,
  ⟨(some 88), .load 4 true (.t 87), none⟩,
  ⟨(some 13), .alloc [(.int .i64 0), (.int .i64 0), (.int .i64 0), (.int .i64 0)], none⟩,
  ⟨none, .store 4 (.t 13) (.t 88), none⟩])
 (.seq (.ops [
  ⟨(some 89), .fad 0 (.t 13), none⟩,
  ⟨(some 90), .load 1 false (.t 89), none⟩,
  ⟨(some 91), .fad 0 (.t 2), none⟩,
  ⟨(some 92), .load 2 true (.t 91), none⟩,
  ⟨(some 93), .mv (.t 1), none⟩,
  ⟨(some 94), .mv (.t 10), none⟩,
  ⟨(some 95), .bin .add (.t 94) (.c (.int .i64 1)), none⟩,
  ⟨(some 96), .pcall (.f 80) [(.t 93), (.t 95)], none⟩,
  ⟨(some 97), .pcall (.f 81) [(.t 92), (.t 96)], none⟩,
  ⟨(some 98), .bin .add (.t 90) (.t 97), none⟩,
  ⟨(some 99), .mn (.c (.int .i64 4000)) [(.t 98)], none⟩,
  ⟨(some 100), .fad 0 (.t 11), none⟩,
  ⟨none, .store 1 (.t 100) (.t 99), none⟩])
 (.seq (.ops [
  ⟨(some 101), .fad 1 (.t 13), none⟩,
  ⟨(some 102), .load 1 false (.t 101), none⟩,
  ⟨(some 103), .fad 2 (.t 2), none⟩,
  ⟨(some 104), .load 1 false (.t 103), none⟩,
  ⟨(some 105), .bin .sub (.t 102) (.t 104), none⟩,
  ⟨(some 106), .mx (.c (.int .i64 0)) [(.t 105)], none⟩,
  ⟨(some 107), .fad 1 (.t 13), none⟩,
  ⟨(some 108), .load 1 false (.t 107), none⟩,
  ⟨(some 109), .pcall (.f 43) [(.t 106), (.t 108)], none⟩,
  ⟨(some 110), .mv (.t 1), none⟩,
  ⟨(some 111), .mv (.t 10), none⟩,
  ⟨(some 112), .bin .add (.t 111) (.c (.int .i64 2)), none⟩,
  ⟨(some 113), .pcall (.f 80) [(.t 110), (.t 112)], none⟩,
  ⟨(some 114), .pcall (.f 81) [(.t 109), (.t 113)], none⟩,
  ⟨(some 14), .mv (.t 114), none⟩])
 (.seq (.ops [
  ⟨(some 115), .mv (.t 14), none⟩,
  ⟨(some 116), .mv (.t 1), none⟩,
  ⟨(some 117), .mv (.t 10), none⟩,
  ⟨(some 118), .bin .add (.t 117) (.c (.int .i64 3)), none⟩,
  ⟨(some 119), .pcall (.f 80) [(.t 116), (.t 118)], none⟩,
  ⟨(some 120), .pcall (.f 42) [(.t 119), (.c (.int .i64 50))], none⟩,
  ⟨(some 121), .bin .sub (.t 115) (.t 120), none⟩,
  ⟨(some 122), .mx (.c (.int .i64 0)) [(.t 121)], none⟩,
  ⟨(some 123), .mv (.t 14), none⟩,
  ⟨(some 124), .mv (.t 1), none⟩,
  ⟨(some 125), .mv (.t 10), none⟩,
  ⟨(some 126), .bin .add (.t 125) (.c (.int .i64 4)), none⟩,
  ⟨(some 127), .pcall (.f 80) [(.t 124), (.t 126)], none⟩,
  ⟨(some 128), .pcall (.f 42) [(.t 127), (.c (.int .i64 50))], none⟩,
  ⟨(some 129), .bin .add (.t 123) (.t 128), none⟩,
  ⟨(some 130), .mn (.c (.int .i64 50000)) [(.t 129)], none⟩,
  ⟨(some 131), .pcall (.f 43) [(.t 122), (.t 130)], none⟩,
  ⟨(some 132), .fad 1 (.t 11), none⟩,
  ⟨none, .store 2 (.t 132) (.t 131), none⟩])
 (.seq (.ops [
  ⟨(some 133), .fad 3 (.t 11), none⟩,
  ⟨none, .store 1 (.t 133) (.c (.str [])), none⟩])
 (.seq (.seq (.ops [
  ⟨(some 15), .mv (.c (.int .i64 0)), none⟩])
 (.block 2
  (.loop [1, 2, 4, 6, 7, 8, 9, 10, 11, 12, 13, 15] a36_L2)))
 (.ops [
  ⟨(some 168), .fad 5 (.t 6), none⟩,
  ⟨(some 169), .load 1 false (.t 168), none⟩,
  ⟨(some 170), .load 5 true (.t 11), none⟩,
  ⟨(some 171), .bsl [(.int .i64 0), (.int .i64 0), (.int .i64 0), (.str []), (.bool false)] 1 [(0, (.t 170))], none⟩,
  ⟨(some 172), .app 172 5 48 (.t 169) (.t 171), none⟩,
  ⟨(some 173), .mv (.t 7), none⟩,
  ⟨(some 174), .mv (.t 12), none⟩,
  ⟨(some 175), .bsl [(.int .i64 0)] 1 [(0, (.t 174))], none⟩,
  ⟨(some 176), .app 176 1 8 (.t 173) (.t 175), none⟩,
  ⟨(some 177), .fad 5 (.t 6), none⟩,
  ⟨none, .store 1 (.t 177) (.t 172), none⟩,
  ⟨(some 7), .mv (.t 176), none⟩]))))))))))))
 (.ops [
  ⟨(some 23), .mv (.t 10), none⟩,
  ⟨(some 24), .bin .add (.t 23) (.c (.int .i64 1)), none⟩,
  ⟨(some 10), .mv (.t 24), none⟩])))
/-- wishbook/wishbooklaw09.made -/
def a36 : F := ⟨[.cell 4 6 true, .tmp 5],
 (.seq (.ops [
  ⟨(some 2), .box (.t 0), none⟩,
  ⟨(some 4), .alloc [(.int .i64 0), (.int .i64 0), (.int .i64 0), (.int .i64 0), (.sl [] .nil), (.sl [] .nil)], none⟩,
  ⟨(some 5), .mv (.c (.sl [] .nil)), none⟩])
 (.seq (.ops [
  ⟨(some 16), .load 6 true (.t 2), none⟩,
  ⟨(some 6), .alloc [(.int .i64 0), (.int .i64 0), (.int .i64 0), (.int .i64 0), (.sl [] .nil), (.sl [] .nil)], none⟩,
  ⟨none, .store 6 (.t 6) (.t 16), none⟩])
 (.seq (.ops [
  ⟨(some 17), .fad 5 (.t 6), none⟩,
  ⟨none, .store 1 (.t 17) (.c (.sl [] .nil)), none⟩])
 (.seq (.ops [
  ⟨(some 7), .mv (.c (.sl [] .nil)), none⟩])
 (.seq (.ops [
  ⟨(some 8), .mv (.c (.int .i64 0)), none⟩,
  ⟨(some 9), .mv (.c (.int .i64 0)), none⟩])
 (.seq (.seq (.ops [
  ⟨(some 10), .mv (.c (.int .i64 0)), none⟩])
 (.block 0
  (.loop [1, 2, 4, 6, 7, 8, 9, 10] a36_L1)))
 (.seq (.ops [
  ⟨(some 178), .load 6 true (.t 6), none⟩,
  ⟨(some 179), .mv (.t 7), none⟩,
  ⟨none, .store 6 (.t 4) (.t 178), none⟩,
  ⟨(some 5), .mv (.t 179), none⟩])
 .ret))))))), false, 2⟩

def a37_L1 : C := (.seq (.seq (.ops [
  ⟨(some 7), .mv (.t 6), none⟩,
  ⟨(some 8), .mv (.t 0), none⟩,
  ⟨(some 9), .len (.t 8), none⟩,
  ⟨(some 10), .bin .lss (.t 7) (.t 9), none⟩])
 (.cond (.t 10)
  .skip
  (.exit 0)))
 (.seq (.block 1
  (.seq (.seq (.ops [
  ⟨(some 13), .mv (.t 0), none⟩,
  ⟨(some 14), .mv (.t 6), none⟩,
  ⟨(some 15), .iad 1 (.t 13) (.t 14), none⟩,
  ⟨(some 16), .load 1 false (.t 15), none⟩,
  ⟨(some 17), .mv (.t 5), none⟩,
  ⟨(some 18), .bin .leq (.t 16) (.t 17), none⟩,
  ⟨(some 19), .mv (.t 18), none⟩,
  ⟨(some 20), .mv (.t 0), (some (19, false))⟩,
  ⟨(some 21), .mv (.t 6), (some (19, false))⟩,
  ⟨(some 22), .iad 1 (.t 20) (.t 21), (some (19, false))⟩,
  ⟨(some 23), .load 1 false (.t 22), (some (19, false))⟩,
  ⟨(some 24), .mv (.t 1), (some (19, false))⟩,
  ⟨(some 25), .bin .geq (.t 23) (.t 24), (some (19, false))⟩,
  ⟨(some 26), .pick (.t 19) (.c (.bool true)) (.t 25), none⟩])
 (.cond (.t 26)
  (.seq (.ops [
  ⟨(some 4), .mv (.c (.bool false)), none⟩])
 .ret)
  .skip))
 (.ops [
  ⟨(some 27), .mv (.t 0), none⟩,
  ⟨(some 28), .mv (.t 6), none⟩,
  ⟨(some 29), .iad 1 (.t 27) (.t 28), none⟩,
  ⟨(some 30), .load 1 false (.t 29), none⟩,
  ⟨(some 5), .mv (.t 30), none⟩])))
 (.ops [
  ⟨(some 11), .mv (.t 6), none⟩,
  ⟨(some 12), .bin .add (.t 11) (.c (.int .i64 1)), none⟩,
  ⟨(some 6), .mv (.t 12), none⟩])))
/-- wishbook/wishbookref00.Climbs -/
def a37 : F := ⟨[.tmp 4],
 (.seq (.ops [
  ⟨(some 4), .mv (.c (.bool false)), none⟩])
 (.seq (.ops [
  ⟨(some 5), .mv (.c (.int .i64 (-1))), none⟩])
 (.seq (.seq (.ops [
  ⟨(some 6), .mv (.c (.int .i64 0)), none⟩])
 (.block 0
  (.loop [0, 1, 4, 5, 6] a37_L1)))
 (.seq (.ops [
  ⟨(some 4), .mv (.c (.bool true)), none⟩])
 .ret)))), false, 2⟩

/-- wishbook/wishbookref00.Tween -/
def a38 : F := ⟨[.tmp 6],
 (.seq (.ops [
  ⟨(some 6), .mv (.c (.bool false)), none⟩])
 (.seq (.ops [
  ⟨(some 7), .mv (.t 1), none⟩,
  ⟨(some 8), .mv (.t 0), none⟩,
  ⟨(some 9), .bin .leq (.t 7) (.t 8), none⟩,
  ⟨(some 10), .mv (.t 9), none⟩,
  ⟨(some 11), .mv (.t 0), (some (10, true))⟩,
  ⟨(some 12), .mv (.t 2), (some (10, true))⟩,
  ⟨(some 13), .bin .leq (.t 11) (.t 12), (some (10, true))⟩,
  ⟨(some 14), .pick (.t 10) (.t 13) (.c (.bool false)), none⟩,
  ⟨(some 6), .mv (.t 14), none⟩])
 .ret)), false, 3⟩

def a39_L1 : C := (.seq (.seq (.ops [
  ⟨(some 6), .mv (.t 5), none⟩,
  ⟨(some 7), .mv (.t 0), none⟩,
  ⟨(some 8), .len (.t 7), none⟩,
  ⟨(some 9), .bin .lss (.t 6) (.t 8), none⟩])
 (.cond (.t 9)
  .skip
  (.exit 0)))
 (.seq (.block 1
  (.seq (.ops [
  ⟨(some 12), .mv (.t 0), none⟩,
  ⟨(some 13), .mv (.t 5), none⟩,
  ⟨(some 14), .iad 1 (.t 12) (.t 13), none⟩,
  ⟨(some 15), .load 1 false (.t 14), none⟩,
  ⟨(some 16), .mv (.t 1), none⟩,
  ⟨(some 17), .bin .eql (.t 15) (.t 16), none⟩])
 (.cond (.t 17)
  (.seq (.ops [
  ⟨(some 18), .mv (.t 5), none⟩,
  ⟨(some 4), .mv (.t 18), none⟩])
 .ret)
  .skip)))
 (.ops [
  ⟨(some 10), .mv (.t 5), none⟩,
  ⟨(some 11), .bin .add (.t 10) (.c (.int .i64 1)), none⟩,
  ⟨(some 5), .mv (.t 11), none⟩])))
/-- wishbook/wishbookref00.Place -/
def a39 : F := ⟨[.tmp 4],
 (.seq (.ops [
  ⟨(some 4), .mv (.c (.int .i64 0)), none⟩])
 (.seq (.seq (.ops [
  ⟨(some 5), .mv (.c (.int .i64 0)), none⟩])
 (.block 0
  (.loop [0, 1, 4, 5] a39_L1)))
 (.seq (.ops [
  ⟨(some 4), .mv (.c (.int .i64 (-1))), none⟩])
 .ret))), false, 2⟩

/-- wishbook/wishbookref00.In -/
def a40 : F := ⟨[.tmp 4],
 (.seq (.ops [
  ⟨(some 4), .mv (.c (.bool false)), none⟩])
 (.seq (.ops [
  ⟨(some 5), .mv (.t 0), none⟩,
  ⟨(some 6), .mv (.t 1), none⟩,
  ⟨(some 7), .bin .shr (.t 5) (.t 6), none⟩,
  ⟨(some 8), .bin .and (.t 7) (.c (.int .i64 1)), none⟩,
  ⟨(some 9), .bin .eql (.t 8) (.c (.int .i64 1)), none⟩,
  ⟨(some 4), .mv (.t 9), none⟩])
 .ret)), false, 2⟩

/-- wishbook/wishbookref00.Has -/
def a41 : F := ⟨[.tmp 4],
 (.seq (.ops [
  ⟨(some 2), .box (.t 0), none⟩,
  ⟨(some 4), .mv (.c (.bool false)), none⟩])
 (.seq (.ops [
  ⟨(some 5), .mv (.t 1), none⟩,
  ⟨(some 6), .fad 0 (.t 2), none⟩,
  ⟨(some 7), .load 1 false (.t 6), none⟩,
  ⟨(some 8), .fad 1 (.t 2), none⟩,
  ⟨(some 9), .load 1 false (.t 8), none⟩,
  ⟨(some 10), .pcall (.f 38) [(.t 5), (.t 7), (.t 9)], none⟩,
  ⟨(some 4), .mv (.t 10), none⟩])
 .ret)), false, 2⟩

/-- wishbook/wishbookref00.Spin -/
def a42 : F := ⟨[.tmp 4],
 (.seq (.ops [
  ⟨(some 4), .mv (.c (.int .i64 0)), none⟩])
 (.seq (.seq (.ops [
  ⟨(some 6), .mv (.t 1), none⟩,
  ⟨(some 7), .bin .lss (.t 6) (.c (.int .i64 1)), none⟩])
 (.cond (.t 7)
  (.seq (.ops [
  ⟨(some 4), .mv (.c (.int .i64 0)), none⟩])
 .ret)
  .skip))
 (.seq (.ops [
  ⟨(some 8), .mv (.t 0), none⟩,
  ⟨(some 9), .mv (.t 1), none⟩,
  ⟨(some 10), .bin .rem (.t 8) (.t 9), none⟩,
  ⟨(some 5), .mv (.t 10), none⟩])
 (.seq (.seq (.ops [
  ⟨(some 11), .mv (.t 5), none⟩,
  ⟨(some 12), .bin .lss (.t 11) (.c (.int .i64 0)), none⟩])
 (.cond (.t 12)
  (.ops [
  ⟨(some 13), .mv (.t 5), none⟩,
  ⟨(some 14), .mv (.t 1), none⟩,
  ⟨(some 15), .bin .add (.t 13) (.t 14), none⟩,
  ⟨(some 5), .mv (.t 15), none⟩])
  .skip))
 (.seq (.ops [
  ⟨(some 16), .mv (.t 5), none⟩,
  ⟨(some 4), .mv (.t 16), none⟩])
 .ret))))), false, 2⟩

/-- wishbook/wishbookref00.To -/
def a43 : F := ⟨[.cell 4 2 true],
 (.seq (.ops [
  ⟨(some 4), .alloc [(.int .i64 0), (.int .i64 0)], none⟩])
 (.seq (.ops [
  ⟨(some 5), .mv (.t 0), none⟩,
  ⟨(some 6), .mv (.t 1), none⟩,
  ⟨(some 7), .build [(.int .i64 0), (.int .i64 0)] [(0, 1, (.t 5)), (1, 1, (.t 6))], none⟩,
  ⟨none, .store 2 (.t 4) (.t 7), none⟩])
 .ret)), false, 2⟩

/-- wishbook/wishbooklaw09.less -/
def a44 : F := ⟨[.cell 6 6 true],
 (.seq (.ops [
  ⟨(some 3), .box (.t 0), none⟩,
  ⟨(some 6), .alloc [(.int .i64 0), (.int .i64 0), (.int .i64 0), (.int .i64 0), (.sl [] .nil), (.sl [] .nil)], none⟩])
 (.seq (.ops [
  ⟨(some 8), .load 6 true (.t 3), none⟩,
  ⟨(some 7), .alloc [(.int .i64 0), (.int .i64 0), (.int .i64 0), (.int .i64 0), (.sl [] .nil), (.sl [] .nil)], none⟩,
  ⟨none, .store 6 (.t 7) (.t 8), none⟩])
 (.seq (.ops [
  ⟨(some 9), .nilfull, none⟩,
  ⟨(some 10), .fad 5 (.t 3), none⟩,
  ⟨(some 11), .load 1 false (.t 10), none⟩,
  ⟨(some 12), .mv (.t 1), none⟩,
  ⟨(some 13), .slice 5 (.t 11) none (some (.t 12)) none, none⟩,
  ⟨(some 14), .app 14 5 48 (.t 9) (.t 13), none⟩,
  ⟨(some 15), .fad 5 (.t 3), none⟩,
  ⟨(some 16), .load 1 false (.t 15), none⟩,
  ⟨(some 17), .mv (.t 1), none⟩,
  ⟨(some 18), .bin .add (.t 17) (.c (.int .i64 1)), none⟩,
  ⟨(some 19), .slice 5 (.t 16) (some (.t 18)) none none, none⟩,
  ⟨(some 20), .app 20 5 48 (.t 14) (.t 19), none⟩,
  ⟨(some 21), .fad 5 (.t 7), none⟩,
  ⟨none, .store 1 (.t 21) (.t 20), none⟩])
 (.seq (.seq (.ops [
  ⟨(some 22), .mv (.t 2), none⟩,
  ⟨(some 23), .bin .geq (.t 22) (.c (.int .i64 0)), none⟩])
 (.cond (.t 23)
  (.ops [
  ⟨(some 24), .nilfull, none⟩,
  ⟨(some 25), .fad 4 (.t 3), none⟩,
  ⟨(some 26), .load 1 false (.t 25), none⟩,
  ⟨(some 27), .mv (.t 2), none⟩,
  ⟨(some 28), .slice 4 (.t 26) none (some (.t 27)) none, none⟩,
  ⟨(some 29), .app 29 4 32 (.t 24) (.t 28), none⟩,
  ⟨(some 30), .fad 4 (.t 3), none⟩,
  ⟨(some 31), .load 1 false (.t 30), none⟩,
  ⟨(some 32), .mv (.t 2), none⟩,
  ⟨(some 33), .bin .add (.t 32) (.c (.int .i64 1)), none⟩,
  ⟨(some 34), .slice 4 (.t 31) (some (.t 33)) none none, none⟩,
  ⟨(some 35), .app 35 4 32 (.t 29) (.t 34), none⟩,
  ⟨(some 36), .fad 4 (.t 7), none⟩,
  ⟨none, .store 1 (.t 36) (.t 35), none⟩])
  .skip))
 (.seq (.ops [
  ⟨(some 37), .load 6 true (.t 7), none⟩,
  ⟨none, .store 6 (.t 6) (.t 37), none⟩])
 .ret))))), false, 3⟩

/-- wishbook/wishbooklaw09.strange -/
def a45 : F := ⟨[.cell 4 6 true],
 (.seq (.ops [
  ⟨(some 2), .box (.t 0), none⟩,
  ⟨(some 4), .alloc [(.int .i64 0), (.int .i64 0), (.int .i64 0), (.int .i64 0), (.sl [] .nil), (.sl [] .nil)], none⟩])
 (.seq (.ops [
  ⟨(some 5), .mv (.t 1), none⟩,
  ⟨(some 6), .fad 3 (.t 2), none⟩,
  ⟨none, .store 1 (.t 6) (.t 5), none⟩])
 (.seq (.ops [
  ⟨(some 7), .load 6 true (.t 2), none⟩,
  ⟨none, .store 6 (.t 4) (.t 7), none⟩])
 .ret))), false, 2⟩

def a46_L1 : C := (.seq (.seq (.ops [
  ⟨(some 6), .mv (.t 3), none⟩,
  ⟨(some 7), .lens (.t 6), none⟩,
  ⟨(some 8), .bin .lss (.t 7) (.c (.int .i64 4)), none⟩])
 (.cond (.t 8)
  .skip
  (.exit 0)))
 (.block 1
  (.ops [
  ⟨(some 9), .mv (.t 3), none⟩,
  ⟨(some 10), .bin .add (.c (.str [48])) (.t 9), none⟩,
  ⟨(some 3), .mv (.t 10), none⟩])))
/-- wishbook/wishbooklaw09.seal -/
def a46 : F := ⟨[.tmp 2],
 (.seq (.ops [
  ⟨(some 2), .mv (.c (.str [])), none⟩])
 (.seq (.ops [
  ⟨(some 4), .mv (.t 0), none⟩,
  ⟨(some 5), .pcall (.f 82) [(.t 4)], none⟩,
  ⟨(some 3), .mv (.t 5), none⟩])
 (.seq (.block 0
  (.loop [3] a46_L1))
 (.seq (.ops [
  ⟨(some 11), .mv (.t 3), none⟩,
  ⟨(some 2), .mv (.t 11), none⟩])
 .ret)))), false, 1⟩

def a47_L1 : C := (.seq (.seq (.ops [
  ⟨(some 13), .mv (.t 6), none⟩,
  ⟨(some 14), .mv (.t 1), none⟩,
  ⟨(some 15), .len (.t 14), none⟩,
  ⟨(some 16), .bin .lss (.t 13) (.t 15), none⟩])
 (.cond (.t 16)
  .skip
  (.exit 0)))
 (.seq (.block 1
  (.ops [
  ⟨(some 19), .fad 5 (.t 5), none⟩,
  ⟨(some 20), .load 1 false (.t 19), none⟩,
  ⟨(some 21), .mv (.t 1), none⟩,
  ⟨(some 22), .mv (.t 6), none⟩,
  ⟨(some 23), .iad 1 (.t 21) (.t 22), none⟩,
  ⟨(some 24), .load 1 false (.t 23), none⟩,
  ⟨(some 25), .iad 5 (.t 20) (.t 24), none⟩,
  ⟨(some 26), .fad 4 (.t 25), none⟩,
  ⟨none, .store 1 (.t 26) (.c (.bool false)), none⟩]))
 (.ops [
  ⟨(some 17), .mv (.t 6), none⟩,
  ⟨(some 18), .bin .add (.t 17) (.c (.int .i64 1)), none⟩,
  ⟨(some 6), .mv (.t 18), none⟩])))
/-- wishbook/wishbooklaw09.unstamped -/
def a47 : F := ⟨[.cell 4 6 true],
 (.seq (.ops [
  ⟨(some 2), .box (.t 0), none⟩,
  ⟨(some 4), .alloc [(.int .i64 0), (.int .i64 0), (.int .i64 0), (.int .i64 0), (.sl [] .nil), (.sl [] .nil)], none⟩])
 (.seq (.ops [
  ⟨(some 7), .load 6 true (.t 2), none⟩,
  ⟨(some 5), .alloc [(.int .i64 0), (.int .i64 0), (.int .i64 0), (.int .i64 0), (.sl [] .nil), (.sl [] .nil)], none⟩,
  ⟨none, .store 6 (.t 5) (.t 7), none⟩])
 (.seq (.ops [
  ⟨(some 8), .nilfull, none⟩,
  ⟨(some 9), .fad 5 (.t 2), none⟩,
  ⟨(some 10), .load 1 false (.t 9), none⟩,
  ⟨(some 11), .appo 5 48 (.t 8) (.t 10), none⟩,
  ⟨(some 12), .fad 5 (.t 5), none⟩,
  ⟨none, .store 1 (.t 12) (.t 11), none⟩])
 (.seq (.seq (.ops [
  ⟨(some 6), .mv (.c (.int .i64 0)), none⟩])
 (.block 0
  (.loop [1, 4, 5, 6] a47_L1)))
 (.seq (.ops [
  ⟨(some 27), .load 6 true (.t 5), none⟩,
  ⟨none, .store 6 (.t 4) (.t 27), none⟩])
 .ret))))), false, 2⟩

def a48_L1 : C := (.seq (.seq (.ops [
  ⟨(some 6), .mv (.t 5), none⟩,
  ⟨(some 7), .mv (.t 0), none⟩,
  ⟨(some 8), .len (.t 7), none⟩,
  ⟨(some 9), .bin .lss (.t 6) (.t 8), none⟩,
  ⟨(some 10), .mv (.t 9), none⟩,
  ⟨(some 11), .mv (.t 5), (some (10, true))⟩,
  ⟨(some 12), .mv (.t 1), (some (10, true))⟩,
  ⟨(some 13), .len (.t 12), (some (10, true))⟩,
  ⟨(some 14), .bin .lss (.t 11) (.t 13), (some (10, true))⟩,
  ⟨(some 15), .pick (.t 10) (.t 14) (.c (.bool false)), none⟩])
 (.cond (.t 15)
  .skip
  (.exit 0)))
 (.seq (.block 1
  (.seq (.ops [
  ⟨(some 18), .mv (.t 0), none⟩,
  ⟨(some 19), .mv (.t 5), none⟩,
  ⟨(some 20), .iad 1 (.t 18) (.t 19), none⟩,
  ⟨(some 21), .load 1 false (.t 20), none⟩,
  ⟨(some 22), .mv (.t 1), none⟩,
  ⟨(some 23), .mv (.t 5), none⟩,
  ⟨(some 24), .iad 1 (.t 22) (.t 23), none⟩,
  ⟨(some 25), .load 1 false (.t 24), none⟩,
  ⟨(some 26), .bin .neq (.t 21) (.t 25), none⟩])
 (.cond (.t 26)
  (.seq (.ops [
  ⟨(some 27), .mv (.t 0), none⟩,
  ⟨(some 28), .mv (.t 5), none⟩,
  ⟨(some 29), .iad 1 (.t 27) (.t 28), none⟩,
  ⟨(some 30), .load 1 false (.t 29), none⟩,
  ⟨(some 31), .mv (.t 1), none⟩,
  ⟨(some 32), .mv (.t 5), none⟩,
  ⟨(some 33), .iad 1 (.t 31) (.t 32), none⟩,
  ⟨(some 34), .load 1 false (.t 33), none⟩,
  ⟨(some 35), .bin .lss (.t 30) (.t 34), none⟩,
  ⟨(some 4), .mv (.t 35), none⟩])
 .ret)
  .skip)))
 (.ops [
  ⟨(some 16), .mv (.t 5), none⟩,
  ⟨(some 17), .bin .add (.t 16) (.c (.int .i64 1)), none⟩,
  ⟨(some 5), .mv (.t 17), none⟩])))
/-- wishbook/wishbookref00.Ahead -/
def a48 : F := ⟨[.tmp 4],
 (.seq (.ops [
  ⟨(some 4), .mv (.c (.bool false)), none⟩])
 (.seq (.seq (.ops [
  ⟨(some 5), .mv (.c (.int .i64 0)), none⟩])
 (.block 0
  (.loop [0, 1, 4, 5] a48_L1)))
 (.seq (.ops [
  ⟨(some 36), .mv (.t 0), none⟩,
  ⟨(some 37), .len (.t 36), none⟩,
  ⟨(some 38), .mv (.t 1), none⟩,
  ⟨(some 39), .len (.t 38), none⟩,
  ⟨(some 40), .bin .lss (.t 37) (.t 39), none⟩,
  ⟨(some 4), .mv (.t 40), none⟩])
 .ret))), false, 2⟩

/-- wishbook/wishbookref00.Inner -/
def a49 : F := ⟨[.tmp 4],
 (.seq (.ops [
  ⟨(some 2), .box (.t 0), none⟩,
  ⟨(some 3), .box (.t 1), none⟩,
  ⟨(some 4), .mv (.c (.bool false)), none⟩])
 (.seq (.ops [
  ⟨(some 5), .fad 0 (.t 3), none⟩,
  ⟨(some 6), .load 1 false (.t 5), none⟩,
  ⟨(some 7), .fad 0 (.t 2), none⟩,
  ⟨(some 8), .load 1 false (.t 7), none⟩,
  ⟨(some 9), .bin .leq (.t 6) (.t 8), none⟩,
  ⟨(some 10), .mv (.t 9), none⟩,
  ⟨(some 11), .fad 1 (.t 2), (some (10, true))⟩,
  ⟨(some 12), .load 1 false (.t 11), (some (10, true))⟩,
  ⟨(some 13), .fad 1 (.t 3), (some (10, true))⟩,
  ⟨(some 14), .load 1 false (.t 13), (some (10, true))⟩,
  ⟨(some 15), .bin .leq (.t 12) (.t 14), (some (10, true))⟩,
  ⟨(some 16), .pick (.t 10) (.t 15) (.c (.bool false)), none⟩,
  ⟨(some 4), .mv (.t 16), none⟩])
 .ret)), false, 2⟩

/-- wishbook/wishbooklaw09.desk -/
def a50 : F := ⟨[.cell 0 6 true],
 (.seq (.ops [
  ⟨(some 0), .alloc [(.int .i64 0), (.int .i64 0), (.int .i64 0), (.int .i64 0), (.sl [] .nil), (.sl [] .nil)], none⟩])
 (.seq (.ops [
  ⟨(some 1), .pcall (.f 43) [(.c (.int .i64 3)), (.c (.int .i64 60))], none⟩,
  ⟨(some 2), .build [(.int .i64 0), (.int .i64 0), (.int .i64 0), (.int .i64 0)] [(0, 1, (.c (.int .i64 100))), (1, 1, (.c (.int .i64 1500))), (2, 1, (.c (.int .i64 417))), (3, 1, (.c (.int .i64 900)))], none⟩,
  ⟨(some 3), .build [(.int .i64 0), (.int .i64 0), (.int .i64 0), (.int .i64 0)] [(0, 1, (.c (.int .i64 100))), (1, 1, (.c (.int .i64 1600))), (2, 1, (.c (.int .i64 447))), (3, 1, (.c (.int .i64 300)))], none⟩,
  ⟨(some 4), .build [(.int .i64 0), (.int .i64 0), (.int .i64 0), (.int .i64 0)] [(0, 1, (.c (.int .i64 130))), (1, 1, (.c (.int .i64 900))), (2, 1, (.c (.int .i64 52))), (3, 1, (.c (.int .i64 500)))], none⟩,
  ⟨(some 5), .bsl [(.int .i64 0), (.int .i64 0), (.int .i64 0), (.int .i64 0)] 3 [(0, (.t 2)), (1, (.t 3)), (2, (.t 4))], none⟩,
  ⟨(some 6), .pcall (.f 43) [(.c (.int .i64 1400)), (.c (.int .i64 1450))], none⟩,
  ⟨(some 7), .build [(.int .i64 0), (.int .i64 0), (.int .i64 0), (.str []), (.bool false)] [(0, 1, (.c (.int .i64 120))), (1, 2, (.t 6)), (3, 1, (.c (.str [48, 52, 63, 55])))], none⟩,
  ⟨(some 8), .pcall (.f 43) [(.c (.int .i64 1550)), (.c (.int .i64 1600))], none⟩,
  ⟨(some 9), .build [(.int .i64 0), (.int .i64 0), (.int .i64 0), (.str []), (.bool false)] [(0, 1, (.c (.int .i64 150))), (1, 2, (.t 8)), (4, 1, (.c (.bool true)))], none⟩,
  ⟨(some 10), .pcall (.f 43) [(.c (.int .i64 700)), (.c (.int .i64 720))], none⟩,
  ⟨(some 11), .build [(.int .i64 0), (.int .i64 0), (.int .i64 0), (.str []), (.bool false)] [(0, 1, (.c (.int .i64 135))), (1, 2, (.t 10)), (3, 1, (.c (.str [48, 63, 53, 50])))], none⟩,
  ⟨(some 12), .bsl [(.int .i64 0), (.int .i64 0), (.int .i64 0), (.str []), (.bool false)] 3 [(0, (.t 7)), (1, (.t 9)), (2, (.t 11))], none⟩,
  ⟨(some 13), .build [(.int .i64 0), (.int .i64 0), (.int .i64 0), (.int .i64 0), (.sl [] .nil), (.sl [] .nil)] [(0, 2, (.t 1)), (2, 1, (.c (.int .i64 200))), (3, 1, (.c (.int .i64 1))), (4, 1, (.t 5)), (5, 1, (.t 12))], none⟩,
  ⟨none, .store 6 (.t 0) (.t 13), none⟩])
 .ret)), false, 0⟩

/-- wishbook/wishbooklaw09.torn -/
def a51 : F := ⟨[.cell 0 6 true],
 (.seq (.ops [
  ⟨(some 0), .alloc [(.int .i64 0), (.int .i64 0), (.int .i64 0), (.int .i64 0), (.sl [] .nil), (.sl [] .nil)], none⟩])
 (.seq (.ops [
  ⟨(some 2), .call (.f 1050) [], none⟩,
  ⟨(some 1), .alloc [(.int .i64 0), (.int .i64 0), (.int .i64 0), (.int .i64 0), (.sl [] .nil), (.sl [] .nil)], none⟩,
  ⟨none, .store 6 (.t 1) (.t 2), none⟩])
 (.seq (.ops [
  ⟨(some 3), .fad 5 (.t 1), none⟩,
  ⟨(some 4), .load 1 false (.t 3), none⟩,
  ⟨(some 5), .iad 5 (.t 4) (.c (.int .i64 0)), none⟩,
  ⟨(some 6), .fad 4 (.t 5), none⟩,
  ⟨none, .store 1 (.t 6) (.c (.bool true)), none⟩])
 (.seq (.ops [
  ⟨(some 7), .fad 4 (.t 1), none⟩,
  ⟨(some 8), .load 1 false (.t 7), none⟩,
  ⟨(some 9), .slice 4 (.t 8) (some (.c (.int .i64 1))) none none, none⟩,
  ⟨(some 10), .fad 4 (.t 1), none⟩,
  ⟨none, .store 1 (.t 10) (.t 9), none⟩])
 (.seq (.ops [
  ⟨(some 11), .load 6 true (.t 1), none⟩,
  ⟨none, .store 6 (.t 0) (.t 11), none⟩])
 .ret))))), false, 0⟩

/-- (wishbook/claim.desk).isBox -/
def a52 : F := ⟨[.tmp 4],
 (.seq (.ops [
  ⟨(some 2), .box (.t 0), none⟩,
  ⟨(some 4), .mv (.c (.bool false)), none⟩])
 (.seq (.ops [
  ⟨(some 5), .mv (.t 1), none⟩,
  ⟨(some 6), .fad 0 (.t 2), none⟩,
  ⟨(some 7), .fad 5 (.t 6), none⟩,
  ⟨(some 8), .load 1 false (.t 7), none⟩,
  ⟨(some 9), .len (.t 8), none⟩,
  ⟨(some 10), .bin .sub (.t 9) (.c (.int .i64 1)), none⟩,
  ⟨(some 11), .pcall (.f 58) [(.t 5), (.c (.int .i64 0)), (.t 10)], none⟩,
  ⟨(some 4), .mv (.t 11), none⟩])
 .ret)), false, 2⟩

/-- (wishbook/claim.desk).isParcel -/
def a53 : F := ⟨[.tmp 4],
 (.seq (.ops [
  ⟨(some 2), .box (.t 0), none⟩,
  ⟨(some 4), .mv (.c (.bool false)), none⟩])
 (.seq (.ops [
  ⟨(some 5), .mv (.t 1), none⟩,
  ⟨(some 6), .fad 0 (.t 2), none⟩,
  ⟨(some 7), .fad 4 (.t 6), none⟩,
  ⟨(some 8), .load 1 false (.t 7), none⟩,
  ⟨(some 9), .len (.t 8), none⟩,
  ⟨(some 10), .bin .sub (.t 9) (.c (.int .i64 1)), none⟩,
  ⟨(some 11), .pcall (.f 58) [(.t 5), (.c (.int .i64 0)), (.t 10)], none⟩,
  ⟨(some 4), .mv (.t 11), none⟩])
 .ret)), false, 2⟩

def a54_L1 : C := (.seq (.ops [
  ⟨(some 11), .bin .lss (.t 10) (.c (.int .i64 3)), none⟩])
 (.seq (.cond (.t 11)
  .skip
  (.exit 0))
 (.seq (.block 1
  (.seq (.ops [
  ⟨(some 12), .ixa 3 1 false (.t 9) (.t 10), none⟩,
  ⟨(some 8), .mv (.t 12), none⟩])
 (.seq (.ops [
  ⟨(some 13), .mv (.t 8), none⟩,
  ⟨(some 14), .load 6 true (.t 3), none⟩,
  ⟨(some 15), .fad 0 (.t 3), none⟩,
  ⟨(some 16), .fad 5 (.t 15), none⟩,
  ⟨(some 17), .load 1 false (.t 16), none⟩,
  ⟨(some 18), .mv (.t 1), none⟩,
  ⟨(some 19), .iad 5 (.t 17) (.t 18), none⟩,
  ⟨(some 20), .load 5 true (.t 19), none⟩,
  ⟨(some 21), .fad 0 (.t 3), none⟩,
  ⟨(some 22), .fad 4 (.t 21), none⟩,
  ⟨(some 23), .load 1 false (.t 22), none⟩,
  ⟨(some 24), .mv (.t 2), none⟩,
  ⟨(some 25), .iad 4 (.t 23) (.t 24), none⟩,
  ⟨(some 26), .load 4 true (.t 25), none⟩,
  ⟨(some 27), .pcall (.t 13) [(.t 14), (.t 20), (.t 26)], none⟩,
  ⟨(some 28), .not (.t 27), none⟩])
 (.cond (.t 28)
  (.seq (.ops [
  ⟨(some 6), .mv (.c (.bool false)), none⟩])
 .ret)
  .skip))))
 (.ops [
  ⟨(some 29), .bin .add (.t 10) (.c (.int .i64 1)), none⟩,
  ⟨(some 10), .mv (.t 29), none⟩]))))
/-- (wishbook/claim.desk).could -/
def a54 : F := ⟨[.tmp 6],
 (.seq (.ops [
  ⟨(some 3), .box (.t 0), none⟩,
  ⟨(some 6), .mv (.c (.bool false)), none⟩])
 (.seq (.seq (.ops [
  ⟨(some 9), .load 3 true (.g 0), none⟩,
  ⟨(some 10), .mv (.c (.int .i64 0)), none⟩])
 (.block 0
  (.loop [1, 2, 3, 6, 9, 10] a54_L1)))
 (.seq (.ops [
  ⟨(some 6), .mv (.c (.bool true)), none⟩])
 .ret))), false, 3⟩

/-- wishbook/wishbookref09.asked -/
def a55 : F := ⟨[.tmp 4],
 (.seq (.ops [
  ⟨(some 2), .box (.t 0), none⟩,
  ⟨(some 4), .mv (.c (.int .i64 0)), none⟩])
 (.seq (.seq (.ops [
  ⟨(some 6), .load 6 true (.t 2), none⟩,
  ⟨(some 7), .pcall (.f 16) [(.t 6)], none⟩,
  ⟨(some 5), .mv (.t 7), none⟩])
 (.seq (.ops [
  ⟨(some 8), .mv (.t 5), none⟩,
  ⟨(some 9), .bin .neq (.t 8) (.c (.int .i64 0)), none⟩])
 (.cond (.t 9)
  (.seq (.ops [
  ⟨(some 10), .mv (.t 5), none⟩,
  ⟨(some 4), .mv (.t 10), none⟩])
 .ret)
  .skip)))
 (.seq (.seq (.ops [
  ⟨(some 11), .mv (.t 1), none⟩,
  ⟨(some 12), .not (.t 11), none⟩])
 (.cond (.t 12)
  (.seq (.ops [
  ⟨(some 4), .mv (.c (.int .i64 91)), none⟩])
 .ret)
  .skip))
 (.seq (.ops [
  ⟨(some 4), .mv (.c (.int .i64 0)), none⟩])
 .ret)))), false, 2⟩

def a56_L1 : C := (.seq (.seq (.ops [
  ⟨(some 55), .mv (.t 11), none⟩,
  ⟨(some 56), .bin .geq (.t 55) (.c (.int .i64 0)), none⟩])
 (.cond (.t 56)
  .skip
  (.exit 0)))
 (.seq (.block 1
  (.seq (.seq (.ops [
  ⟨(some 59), .fad 3 (.t 7), none⟩,
  ⟨(some 60), .load 1 false (.t 59), none⟩,
  ⟨(some 61), .mv (.t 11), none⟩,
  ⟨(some 62), .ixs (.t 60) (.t 61), none⟩,
  ⟨(some 63), .bin .neq (.t 62) (.c (.int .u8 63)), none⟩,
  ⟨(some 64), .mv (.t 63), none⟩,
  ⟨(some 65), .fad 3 (.t 7), (some (64, true))⟩,
  ⟨(some 66), .load 1 false (.t 65), (some (64, true))⟩,
  ⟨(some 67), .mv (.t 11), (some (64, true))⟩,
  ⟨(some 68), .ixs (.t 66) (.t 67), (some (64, true))⟩,
  ⟨(some 69), .bin .sub (.t 68) (.c (.int .u8 48)), (some (64, true))⟩,
  ⟨(some 70), .cvt (.int .i64) (.t 69), (some (64, true))⟩,
  ⟨(some 71), .mv (.t 10), (some (64, true))⟩,
  ⟨(some 72), .bin .rem (.t 71) (.c (.int .i64 10)), (some (64, true))⟩,
  ⟨(some 73), .bin .neq (.t 70) (.t 72), (some (64, true))⟩,
  ⟨(some 74), .pick (.t 64) (.t 73) (.c (.bool false)), none⟩])
 (.cond (.t 74)
  (.seq (.ops [
  ⟨(some 6), .mv (.c (.bool false)), none⟩])
 .ret)
  .skip))
 (.ops [
  ⟨(some 75), .mv (.t 10), none⟩,
  ⟨(some 76), .bin .quo (.t 75) (.c (.int .i64 10)), none⟩,
  ⟨(some 10), .mv (.t 76), none⟩])))
 (.ops [
  ⟨(some 57), .mv (.t 11), none⟩,
  ⟨(some 58), .bin .sub (.t 57) (.c (.int .i64 1)), none⟩,
  ⟨(some 11), .mv (.t 58), none⟩])))
/-- wishbook/wishbookref09.could -/
def a56 : F := ⟨[.tmp 6],
 (.seq (.ops [
  ⟨(some 3), .box (.t 0), none⟩,
  ⟨(some 6), .mv (.c (.bool false)), none⟩])
 (.seq (.rsv [5, 4] (.ops [
  ⟨(some 12), .fad 5 (.t 3), none⟩,
  ⟨(some 13), .load 1 false (.t 12), none⟩,
  ⟨(some 14), .mv (.t 1), none⟩,
  ⟨(some 15), .iad 5 (.t 13) (.t 14), none⟩,
  ⟨(some 16), .load 5 true (.t 15), none⟩,
  ⟨(some 17), .fad 4 (.t 3), none⟩,
  ⟨(some 18), .load 1 false (.t 17), none⟩,
  ⟨(some 19), .mv (.t 2), none⟩,
  ⟨(some 20), .iad 4 (.t 18) (.t 19), none⟩,
  ⟨(some 21), .load 4 true (.t 20), none⟩,
  ⟨(some 7), .als 1 5, none⟩,
  ⟨(some 8), .als 0 4, none⟩,
  ⟨none, .fst 5 (.t 7) (.t 16), none⟩,
  ⟨none, .fst 4 (.t 8) (.t 21), none⟩]))
 (.seq (.rsv [2] (.ops [
  ⟨(some 22), .fad 1 (.t 7), none⟩,
  ⟨(some 23), .load 2 true (.t 22), none⟩,
  ⟨(some 24), .fad 1 (.t 8), none⟩,
  ⟨(some 25), .load 1 false (.t 24), none⟩,
  ⟨(some 26), .fad 2 (.t 3), none⟩,
  ⟨(some 27), .load 1 false (.t 26), none⟩,
  ⟨(some 28), .bin .sub (.t 25) (.t 27), none⟩,
  ⟨(some 29), .fad 1 (.t 8), none⟩,
  ⟨(some 30), .load 1 false (.t 29), none⟩,
  ⟨(some 31), .pcall (.f 43) [(.t 28), (.t 30)], none⟩,
  ⟨(some 32), .pcall (.f 83) [(.t 23), (.t 31)], none⟩,
  ⟨(some 9), .als 0 2, none⟩,
  ⟨none, .fst 2 (.t 9) (.t 32), none⟩]))
 (.seq (.seq (.ops [
  ⟨(some 33), .fad 0 (.t 3), none⟩,
  ⟨(some 34), .load 2 true (.t 33), none⟩,
  ⟨(some 35), .fad 0 (.t 7), none⟩,
  ⟨(some 36), .load 1 false (.t 35), none⟩,
  ⟨(some 37), .fad 0 (.t 8), none⟩,
  ⟨(some 38), .load 1 false (.t 37), none⟩,
  ⟨(some 39), .bin .sub (.t 36) (.t 38), none⟩,
  ⟨(some 40), .pcall (.f 41) [(.t 34), (.t 39)], none⟩,
  ⟨(some 41), .not (.t 40), none⟩,
  ⟨(some 42), .mv (.t 41), none⟩,
  ⟨(some 43), .fad 0 (.t 9), (some (42, false))⟩,
  ⟨(some 44), .load 1 false (.t 43), (some (42, false))⟩,
  ⟨(some 45), .fad 1 (.t 9), (some (42, false))⟩,
  ⟨(some 46), .load 1 false (.t 45), (some (42, false))⟩,
  ⟨(some 47), .bin .gtr (.t 44) (.t 46), (some (42, false))⟩,
  ⟨(some 48), .pick (.t 42) (.c (.bool true)) (.t 47), none⟩])
 (.cond (.t 48)
  (.seq (.ops [
  ⟨(some 6), .mv (.c (.bool false)), none⟩])
 .ret)
  .skip))
 (.seq (.ops [
  ⟨(some 49), .fad 2 (.t 8), none⟩,
  ⟨(some 50), .load 1 false (.t 49), none⟩,
  ⟨(some 10), .mv (.t 50), none⟩])
 (.seq (.seq (.ops [
  ⟨(some 51), .fad 3 (.t 7), none⟩,
  ⟨(some 52), .load 1 false (.t 51), none⟩,
  ⟨(some 53), .lens (.t 52), none⟩,
  ⟨(some 54), .bin .sub (.t 53) (.c (.int .i64 1)), none⟩,
  ⟨(some 11), .mv (.t 54), none⟩])
 (.block 0
  (.loop [6, 7, 10, 11] a56_L1)))
 (.seq (.ops [
  ⟨(some 6), .mv (.c (.bool true)), none⟩])
 .ret))))))), false, 3⟩

/-- wishbook/claim.isSpan -/
def a57 : F := ⟨[.tmp 6],
 (.seq (.ops [
  ⟨(some 3), .box (.t 0), none⟩,
  ⟨(some 6), .mv (.c (.bool false)), none⟩])
 (.seq (.ops [
  ⟨(some 7), .mv (.t 1), none⟩,
  ⟨(some 8), .fad 0 (.t 3), none⟩,
  ⟨(some 9), .load 1 false (.t 8), none⟩,
  ⟨(some 10), .bin .leq (.t 7) (.t 9), none⟩,
  ⟨(some 11), .mv (.t 10), none⟩,
  ⟨(some 12), .fad 0 (.t 3), (some (11, true))⟩,
  ⟨(some 13), .load 1 false (.t 12), (some (11, true))⟩,
  ⟨(some 14), .fad 1 (.t 3), (some (11, true))⟩,
  ⟨(some 15), .load 1 false (.t 14), (some (11, true))⟩,
  ⟨(some 16), .bin .leq (.t 13) (.t 15), (some (11, true))⟩,
  ⟨(some 17), .pick (.t 11) (.t 16) (.c (.bool false)), none⟩,
  ⟨(some 18), .mv (.t 17), none⟩,
  ⟨(some 19), .fad 1 (.t 3), (some (18, true))⟩,
  ⟨(some 20), .load 1 false (.t 19), (some (18, true))⟩,
  ⟨(some 21), .mv (.t 2), (some (18, true))⟩,
  ⟨(some 22), .bin .leq (.t 20) (.t 21), (some (18, true))⟩,
  ⟨(some 23), .pick (.t 18) (.t 22) (.c (.bool false)), none⟩,
  ⟨(some 6), .mv (.t 23), none⟩])
 .ret)), false, 3⟩

/-- wishbook/claim.within -/
def a58 : F := ⟨[.tmp 6],
 (.seq (.ops [
  ⟨(some 6), .mv (.c (.bool false)), none⟩])
 (.seq (.ops [
  ⟨(some 7), .mv (.t 1), none⟩,
  ⟨(some 8), .mv (.t 0), none⟩,
  ⟨(some 9), .bin .leq (.t 7) (.t 8), none⟩,
  ⟨(some 10), .mv (.t 9), none⟩,
  ⟨(some 11), .mv (.t 0), (some (10, true))⟩,
  ⟨(some 12), .mv (.t 2), (some (10, true))⟩,
  ⟨(some 13), .bin .leq (.t 11) (.t 12), (some (10, true))⟩,
  ⟨(some 14), .pick (.t 10) (.t 13) (.c (.bool false)), none⟩,
  ⟨(some 6), .mv (.t 14), none⟩])
 .ret)), false, 3⟩

def a59_L1 : C := (.seq (.ops [
  ⟨(some 14), .bin .lss (.t 13) (.t 12), none⟩])
 (.seq (.cond (.t 14)
  .skip
  (.exit 0))
 (.seq (.block 1
  (.seq (.ops [
  ⟨(some 15), .mv (.t 13), none⟩,
  ⟨(some 3), .mv (.t 15), none⟩])
 (.seq (.ops [
  ⟨(some 16), .mv (.t 0), none⟩,
  ⟨(some 17), .mv (.t 3), none⟩,
  ⟨(some 18), .ixs (.t 16) (.t 17), none⟩,
  ⟨(some 19), .bin .neq (.t 18) (.c (.int .u8 63)), none⟩,
  ⟨(some 20), .mv (.t 19), none⟩,
  ⟨(some 21), .mv (.t 0), (some (20, true))⟩,
  ⟨(some 22), .mv (.t 3), (some (20, true))⟩,
  ⟨(some 23), .ixs (.t 21) (.t 22), (some (20, true))⟩,
  ⟨(some 24), .cvt (.int .i64) (.t 23), (some (20, true))⟩,
  ⟨(some 25), .pcall (.f 58) [(.t 24), (.c (.int .i64 48)), (.c (.int .i64 57))], (some (20, true))⟩,
  ⟨(some 26), .not (.t 25), (some (20, true))⟩,
  ⟨(some 27), .pick (.t 20) (.t 26) (.c (.bool false)), none⟩])
 (.cond (.t 27)
  (.seq (.ops [
  ⟨(some 2), .mv (.c (.bool false)), none⟩])
 .ret)
  .skip))))
 (.ops [
  ⟨(some 28), .bin .add (.t 13) (.c (.int .i64 1)), none⟩,
  ⟨(some 13), .mv (.t 28), none⟩]))))
/-- wishbook/claim.isSeal -/
def a59 : F := ⟨[.tmp 2],
 (.seq (.ops [
  ⟨(some 2), .mv (.c (.bool false)), none⟩])
 (.seq (.seq (.ops [
  ⟨(some 4), .mv (.t 0), none⟩,
  ⟨(some 5), .bin .neq (.t 4) (.c (.str [])), none⟩,
  ⟨(some 6), .mv (.t 5), none⟩,
  ⟨(some 7), .mv (.t 0), (some (6, true))⟩,
  ⟨(some 8), .lens (.t 7), (some (6, true))⟩,
  ⟨(some 9), .bin .neq (.t 8) (.c (.int .i64 4)), (some (6, true))⟩,
  ⟨(some 10), .pick (.t 6) (.t 9) (.c (.bool false)), none⟩])
 (.cond (.t 10)
  (.seq (.ops [
  ⟨(some 2), .mv (.c (.bool false)), none⟩])
 .ret)
  .skip))
 (.seq (.seq (.ops [
  ⟨(some 11), .mv (.t 0), none⟩,
  ⟨(some 12), .lens (.t 11), none⟩,
  ⟨(some 13), .mv (.c (.int .i64 0)), none⟩])
 (.block 0
  (.loop [0, 2, 12, 13] a59_L1)))
 (.seq (.ops [
  ⟨(some 2), .mv (.c (.bool true)), none⟩])
 .ret)))), false, 1⟩

/-- wishbook/wishbookref00.Proper -/
def a60 : F := ⟨[.tmp 6],
 (.seq (.ops [
  ⟨(some 3), .box (.t 0), none⟩,
  ⟨(some 6), .mv (.c (.bool false)), none⟩])
 (.seq (.ops [
  ⟨(some 7), .mv (.t 1), none⟩,
  ⟨(some 8), .fad 0 (.t 3), none⟩,
  ⟨(some 9), .load 1 false (.t 8), none⟩,
  ⟨(some 10), .bin .leq (.t 7) (.t 9), none⟩,
  ⟨(some 11), .mv (.t 10), none⟩,
  ⟨(some 12), .fad 0 (.t 3), (some (11, true))⟩,
  ⟨(some 13), .load 1 false (.t 12), (some (11, true))⟩,
  ⟨(some 14), .fad 1 (.t 3), (some (11, true))⟩,
  ⟨(some 15), .load 1 false (.t 14), (some (11, true))⟩,
  ⟨(some 16), .bin .leq (.t 13) (.t 15), (some (11, true))⟩,
  ⟨(some 17), .pick (.t 11) (.t 16) (.c (.bool false)), none⟩,
  ⟨(some 18), .mv (.t 17), none⟩,
  ⟨(some 19), .fad 1 (.t 3), (some (18, true))⟩,
  ⟨(some 20), .load 1 false (.t 19), (some (18, true))⟩,
  ⟨(some 21), .mv (.t 2), (some (18, true))⟩,
  ⟨(some 22), .bin .leq (.t 20) (.t 21), (some (18, true))⟩,
  ⟨(some 23), .pick (.t 18) (.t 22) (.c (.bool false)), none⟩,
  ⟨(some 6), .mv (.t 23), none⟩])
 .ret)), false, 3⟩

def a61_L1 : C := (.seq (.seq (.ops [
  ⟨(some 12), .mv (.t 3), none⟩,
  ⟨(some 13), .mv (.t 0), none⟩,
  ⟨(some 14), .lens (.t 13), none⟩,
  ⟨(some 15), .bin .lss (.t 12) (.t 14), none⟩])
 (.cond (.t 15)
  .skip
  (.exit 0)))
 (.seq (.block 1
  (.seq (.ops [
  ⟨(some 18), .mv (.t 0), none⟩,
  ⟨(some 19), .mv (.t 3), none⟩,
  ⟨(some 20), .ixs (.t 18) (.t 19), none⟩,
  ⟨(some 21), .bin .neq (.t 20) (.c (.int .u8 63)), none⟩,
  ⟨(some 22), .mv (.t 21), none⟩,
  ⟨(some 23), .mv (.t 0), (some (22, true))⟩,
  ⟨(some 24), .mv (.t 3), (some (22, true))⟩,
  ⟨(some 25), .ixs (.t 23) (.t 24), (some (22, true))⟩,
  ⟨(some 26), .bin .lss (.t 25) (.c (.int .u8 48)), (some (22, true))⟩,
  ⟨(some 27), .mv (.t 26), (some (22, true))⟩,
  ⟨(some 28), .mv (.t 0), (some (27, false))⟩,
  ⟨(some 29), .mv (.t 3), (some (27, false))⟩,
  ⟨(some 30), .ixs (.t 28) (.t 29), (some (27, false))⟩,
  ⟨(some 31), .bin .gtr (.t 30) (.c (.int .u8 57)), (some (27, false))⟩,
  ⟨(some 32), .pick (.t 27) (.c (.bool true)) (.t 31), (some (22, true))⟩,
  ⟨(some 33), .pick (.t 22) (.t 32) (.c (.bool false)), none⟩])
 (.cond (.t 33)
  (.seq (.ops [
  ⟨(some 2), .mv (.c (.bool false)), none⟩])
 .ret)
  .skip)))
 (.ops [
  ⟨(some 16), .mv (.t 3), none⟩,
  ⟨(some 17), .bin .add (.t 16) (.c (.int .i64 1)), none⟩,
  ⟨(some 3), .mv (.t 17), none⟩])))
/-- wishbook/wishbookref09.isSeal -/
def a61 : F := ⟨[.tmp 2],
 (.seq (.ops [
  ⟨(some 2), .mv (.c (.bool false)), none⟩])
 (.seq (.seq (.ops [
  ⟨(some 4), .mv (.t 0), none⟩,
  ⟨(some 5), .lens (.t 4), none⟩,
  ⟨(some 6), .bin .neq (.t 5) (.c (.int .i64 0)), none⟩,
  ⟨(some 7), .mv (.t 6), none⟩,
  ⟨(some 8), .mv (.t 0), (some (7, true))⟩,
  ⟨(some 9), .lens (.t 8), (some (7, true))⟩,
  ⟨(some 10), .bin .neq (.t 9) (.c (.int .i64 4)), (some (7, true))⟩,
  ⟨(some 11), .pick (.t 7) (.t 10) (.c (.bool false)), none⟩])
 (.cond (.t 11)
  (.seq (.ops [
  ⟨(some 2), .mv (.c (.bool false)), none⟩])
 .ret)
  .skip))
 (.seq (.seq (.ops [
  ⟨(some 3), .mv (.c (.int .i64 0)), none⟩])
 (.block 0
  (.loop [0, 2, 3] a61_L1)))
 (.seq (.ops [
  ⟨(some 2), .mv (.c (.bool true)), none⟩])
 .ret)))), false, 1⟩

/-- wishbook/claim.none -/
def a62 : F := ⟨[.cell 0 8 true],
 (.seq (.ops [
  ⟨(some 0), .alloc [(.bool false), (.bool false), (.bool false), (.bool false), (.bool false), (.bool false), (.bool false), (.bool false)], none⟩])
 (.seq (.ops [
  ⟨(some 1), .alloc [(.bool false), (.bool false), (.bool false), (.bool false), (.bool false), (.bool false), (.bool false), (.bool false)], none⟩])
 (.seq (.ops [
  ⟨(some 2), .load 8 true (.t 1), none⟩,
  ⟨none, .store 8 (.t 0) (.t 2), none⟩])
 .ret))), false, 0⟩

/-- wishbook/claim.asked -/
def a63 : F := ⟨[.cell 4 6 true, .tmp 5],
 (.seq (.ops [
  ⟨(some 2), .box (.t 0), none⟩,
  ⟨(some 4), .alloc [(.int .i64 0), (.int .i64 0), (.int .i64 0), (.int .i64 0), (.sl [] .nil), (.sl [] .nil)], none⟩,
  ⟨(some 5), .mv (.c (.int .i64 0)), none⟩])
 (.seq (.seq (.ops [
  ⟨(some 8), .load 6 true (.t 2), none⟩,
  ⟨(some 9), .pcall (.f 15) [(.t 8)], none⟩,
  ⟨(some 6), .mv (.t 9), none⟩])
 (.seq (.ops [
  ⟨(some 10), .mv (.t 6), none⟩,
  ⟨(some 11), .bin .neq (.t 10) (.c (.int .i64 0)), none⟩])
 (.cond (.t 11)
  (.seq (.ops [
  ⟨(some 12), .build [(.int .i64 0), (.int .i64 0), (.int .i64 0), (.int .i64 0), (.sl [] .nil), (.sl [] .nil)] [], none⟩,
  ⟨(some 13), .mv (.t 6), none⟩,
  ⟨none, .store 6 (.t 4) (.t 12), none⟩,
  ⟨(some 5), .mv (.t 13), none⟩])
 .ret)
  .skip)))
 (.seq (.ops [
  ⟨(some 14), .load 6 true (.t 2), none⟩,
  ⟨(some 15), .build [(.int .i64 0), (.int .i64 0), (.int .i64 0), (.int .i64 0), (.sl [] .nil), (.sl [] .nil)] [(0, 6, (.t 14))], none⟩,
  ⟨(some 7), .alloc [(.int .i64 0), (.int .i64 0), (.int .i64 0), (.int .i64 0), (.sl [] .nil), (.sl [] .nil)], none⟩,
  ⟨none, .store 6 (.t 7) (.t 15), none⟩])
 (.seq (.seq (.ops [
  ⟨(some 16), .mv (.t 1), none⟩,
  ⟨(some 17), .load 6 true (.t 7), none⟩,
  ⟨(some 18), .call (.t 16) [(.t 17)], none⟩,
  ⟨(some 19), .not (.t 18), none⟩])
 (.cond (.t 19)
  (.seq (.ops [
  ⟨(some 20), .build [(.int .i64 0), (.int .i64 0), (.int .i64 0), (.int .i64 0), (.sl [] .nil), (.sl [] .nil)] [], none⟩,
  ⟨none, .store 6 (.t 4) (.t 20), none⟩,
  ⟨(some 5), .mv (.c (.int .i64 91)), none⟩])
 .ret)
  .skip))
 (.seq (.seq (.ops [
  ⟨(some 21), .load 6 true (.t 7), none⟩,
  ⟨(some 22), .pcall (.f 75) [(.t 21)], none⟩,
  ⟨(some 23), .not (.t 22), none⟩])
 (.cond (.t 23)
  (.seq (.ops [
  ⟨(some 24), .build [(.int .i64 0), (.int .i64 0), (.int .i64 0), (.int .i64 0), (.sl [] .nil), (.sl [] .nil)] [], none⟩,
  ⟨none, .store 6 (.t 4) (.t 24), none⟩,
  ⟨(some 5), .mv (.c (.int .i64 92)), none⟩])
 .ret)
  .skip))
 (.seq (.ops [
  ⟨(some 25), .load 6 true (.t 7), none⟩,
  ⟨none, .store 6 (.t 4) (.t 25), none⟩,
  ⟨(some 5), .mv (.c (.int .i64 0)), none⟩])
 .ret)))))), false, 2⟩

/-- wishbook/claim.always -/
def a64 : F := ⟨[.tmp 2],
 (.seq (.ops [
  ⟨(some 1), .box (.t 0), none⟩,
  ⟨(some 2), .mv (.c (.bool false)), none⟩])
 (.seq (.ops [
  ⟨(some 2), .mv (.c (.bool true)), none⟩])
 .ret)), false, 1⟩

/-- (wishbook/claim.desk).meant -/
def a65 : F := ⟨[.tmp 6],
 (.seq (.ops [
  ⟨(some 3), .box (.t 0), none⟩,
  ⟨(some 4), .box (.t 1), none⟩,
  ⟨(some 5), .box (.t 2), none⟩,
  ⟨(some 6), .mv (.c .nilF), none⟩])
 (.seq (.ops [
  ⟨(some 7), .mkfn 84 [] [(.t 3), (.t 4), (.t 5)], none⟩,
  ⟨(some 6), .mv (.t 7), none⟩])
 .ret)), false, 3⟩

/-- (wishbook/claim.desk).found -/
def a66 : F := ⟨[.cell 6 9 true],
 (.seq (.ops [
  ⟨(some 3), .box (.t 0), none⟩,
  ⟨(some 5), .box (.t 2), none⟩,
  ⟨(some 6), .alloc [(.int .i64 0), (.int .i64 0), (.int .i64 0), (.int .i64 0), (.sl [] .nil), (.sl [] .nil), .nilM, .nilM, .nilF], none⟩])
 (.seq (.ops [
  ⟨(some 7), .load 6 true (.t 3), none⟩,
  ⟨(some 8), .mv (.t 1), none⟩,
  ⟨(some 9), .mkmap, none⟩,
  ⟨(some 10), .load 1 true (.t 5), none⟩,
  ⟨(some 11), .build [(.int .i64 0), (.int .i64 0), (.int .i64 0), (.int .i64 0), (.sl [] .nil), (.sl [] .nil), .nilM, .nilM, .nilF] [(0, 6, (.t 7)), (6, 1, (.t 8)), (7, 1, (.t 9)), (8, 1, (.t 10))], none⟩,
  ⟨none, .store 9 (.t 6) (.t 11), none⟩])
 .ret)), true, 3⟩

/-- wishbook/claim.most -/
def a67 : F := ⟨[.cell 0 1 true],
 (.seq (.ops [
  ⟨(some 0), .alloc [.nilF], none⟩])
 (.seq (.ops [
  ⟨(some 1), .build [.nilF] [(0, 1, (.f 85))], none⟩,
  ⟨none, .store 1 (.t 0) (.t 1), none⟩])
 .ret)), false, 0⟩

/-- (wishbook/claim.search).worth -/
def a68 : F := ⟨[.tmp 4],
 (.seq (.ops [
  ⟨(some 2), .box (.t 0), none⟩,
  ⟨(some 3), .box (.t 1), none⟩,
  ⟨(some 4), .mv (.c (.int .i64 0)), none⟩])
 (.seq (.seq (.ops [
  ⟨(some 14), .fad 0 (.t 3), none⟩,
  ⟨(some 15), .load 1 false (.t 14), none⟩,
  ⟨(some 16), .fad 0 (.t 2), none⟩,
  ⟨(some 17), .fad 0 (.t 16), none⟩,
  ⟨(some 18), .fad 5 (.t 17), none⟩,
  ⟨(some 19), .load 1 false (.t 18), none⟩,
  ⟨(some 20), .len (.t 19), none⟩,
  ⟨(some 21), .bin .eql (.t 15) (.t 20), none⟩])
 (.cond (.t 21)
  (.seq (.ops [
  ⟨(some 4), .mv (.c (.int .i64 0)), none⟩])
 .ret)
  .skip))
 (.seq (.seq (.ops [
  ⟨(some 23), .fad 7 (.t 2), none⟩,
  ⟨(some 24), .load 1 false (.t 23), none⟩,
  ⟨(some 25), .load 3 true (.t 3), none⟩,
  ⟨(some 26), .lookup (.agg [.int, .int, .int]) (.int .i64 0) true (.t 24) (.t 25), none⟩,
  ⟨(some 22), .mv (.t 26), none⟩,
  ⟨(some 27), .ext (.t 22) 0, none⟩,
  ⟨(some 28), .ext (.t 22) 1, none⟩,
  ⟨(some 5), .mv (.t 27), none⟩,
  ⟨(some 6), .mv (.t 28), none⟩])
 (.seq (.ops [
  ⟨(some 29), .mv (.t 6), none⟩])
 (.cond (.t 29)
  (.seq (.ops [
  ⟨(some 30), .mv (.t 5), none⟩,
  ⟨(some 4), .mv (.t 30), none⟩])
 .ret)
  .skip)))
 (.seq (.ops [
  ⟨(some 7), .alloc [(.int .i64 0)], none⟩,
  ⟨none, .store 1 (.t 7) (.c (.int .i64 (-1))), none⟩])
 (.seq (.seq (.ops [
  ⟨(some 31), .fad 0 (.t 2), none⟩,
  ⟨(some 32), .load 6 true (.t 31), none⟩,
  ⟨(some 33), .fad 0 (.t 3), none⟩,
  ⟨(some 34), .load 1 false (.t 33), none⟩,
  ⟨(some 35), .fad 1 (.t 3), none⟩,
  ⟨(some 36), .load 1 false (.t 35), none⟩,
  ⟨(some 37), .pcall (.f 65) [(.t 32), (.t 34), (.t 36)], none⟩])
 (.block 0
  (.range (.t 37) [38]
  (.ops [
  ⟨(some 8), .mv (.t 38), none⟩])
  (.block 1
  (.seq (.seq (.ops [
  ⟨(some 40), .fad 6 (.t 2), none⟩,
  ⟨(some 41), .load 1 false (.t 40), none⟩,
  ⟨(some 42), .fad 0 (.t 3), none⟩,
  ⟨(some 43), .load 1 false (.t 42), none⟩,
  ⟨(some 44), .lookup (.s .int) (.int .i64 0) true (.t 41) (.t 43), none⟩,
  ⟨(some 39), .mv (.t 44), none⟩,
  ⟨(some 45), .ext (.t 39) 0, none⟩,
  ⟨(some 46), .ext (.t 39) 1, none⟩,
  ⟨(some 9), .mv (.t 45), none⟩,
  ⟨(some 10), .mv (.t 46), none⟩])
 (.seq (.ops [
  ⟨(some 47), .mv (.t 10), none⟩,
  ⟨(some 48), .mv (.t 47), none⟩,
  ⟨(some 49), .mv (.t 9), (some (48, true))⟩,
  ⟨(some 50), .mv (.t 8), (some (48, true))⟩,
  ⟨(some 51), .bin .neq (.t 49) (.t 50), (some (48, true))⟩,
  ⟨(some 52), .pick (.t 48) (.t 51) (.c (.bool false)), none⟩])
 (.cond (.t 52)
  (.exit 1)
  .skip)))
 (.seq (.ops [
  ⟨(some 53), .fad 0 (.t 3), none⟩,
  ⟨(some 54), .load 1 false (.t 53), none⟩,
  ⟨(some 55), .bin .add (.t 54) (.c (.int .i64 1)), none⟩,
  ⟨(some 56), .fad 1 (.t 3), none⟩,
  ⟨(some 57), .load 1 false (.t 56), none⟩,
  ⟨(some 58), .fad 2 (.t 3), none⟩,
  ⟨(some 59), .load 1 false (.t 58), none⟩,
  ⟨(some 60), .build [(.int .i64 0), (.int .i64 0), (.int .i64 0)] [(0, 1, (.t 55)), (1, 1, (.t 57)), (2, 1, (.t 59))], none⟩,
  ⟨(some 11), .alloc [(.int .i64 0), (.int .i64 0), (.int .i64 0)], none⟩,
  ⟨none, .store 3 (.t 11) (.t 60), none⟩,
  ⟨(some 12), .mv (.c (.int .i64 0)), none⟩])
 (.seq (.seq (.ops [
  ⟨(some 61), .mv (.t 8), none⟩,
  ⟨(some 62), .bin .eql (.t 61) (.c (.int .i64 (-1))), none⟩])
 (.cond (.t 62)
  (.seq (.ops [
  ⟨(some 63), .fad 2 (.t 11), none⟩,
  ⟨(some 64), .load 1 false (.t 63), none⟩,
  ⟨(some 65), .bin .add (.t 64) (.c (.int .i64 1)), none⟩,
  ⟨(some 66), .fad 2 (.t 11), none⟩,
  ⟨none, .store 1 (.t 66) (.t 65), none⟩])
 (.seq (.ops [
  ⟨(some 67), .fad 2 (.t 11), none⟩,
  ⟨(some 68), .load 1 false (.t 67), none⟩,
  ⟨(some 69), .fad 0 (.t 2), none⟩,
  ⟨(some 70), .fad 0 (.t 69), none⟩,
  ⟨(some 71), .fad 3 (.t 70), none⟩,
  ⟨(some 72), .load 1 false (.t 71), none⟩,
  ⟨(some 73), .bin .gtr (.t 68) (.t 72), none⟩])
 (.cond (.t 73)
  (.exit 1)
  .skip)))
  (.seq (.ops [
  ⟨(some 74), .fad 1 (.t 11), none⟩,
  ⟨(some 75), .load 1 false (.t 74), none⟩,
  ⟨(some 76), .mv (.t 8), none⟩,
  ⟨(some 77), .bin .shl (.c (.int .i64 1)) (.t 76), none⟩,
  ⟨(some 78), .bin .or (.t 75) (.t 77), none⟩,
  ⟨(some 79), .fad 1 (.t 11), none⟩,
  ⟨none, .store 1 (.t 79) (.t 78), none⟩])
 (.ops [
  ⟨(some 80), .fad 0 (.t 2), none⟩,
  ⟨(some 81), .fad 0 (.t 80), none⟩,
  ⟨(some 82), .fad 4 (.t 81), none⟩,
  ⟨(some 83), .load 1 false (.t 82), none⟩,
  ⟨(some 84), .mv (.t 8), none⟩,
  ⟨(some 85), .iad 4 (.t 83) (.t 84), none⟩,
  ⟨(some 86), .fad 3 (.t 85), none⟩,
  ⟨(some 87), .load 1 false (.t 86), none⟩,
  ⟨(some 12), .mv (.t 87), none⟩]))))
 (.seq (.ops [
  ⟨(some 88), .load 9 true (.t 2), none⟩,
  ⟨(some 89), .load 3 true (.t 11), none⟩,
  ⟨(some 90), .call (.f 68) [(.t 88), (.t 89)], none⟩,
  ⟨(some 13), .mv (.t 90), none⟩])
 (.seq (.seq (.ops [
  ⟨(some 91), .mv (.t 13), none⟩,
  ⟨(some 92), .bin .eql (.t 91) (.c (.int .i64 (-1))), none⟩])
 (.cond (.t 92)
  (.exit 1)
  .skip))
 (.seq (.seq (.ops [
  ⟨(some 93), .load 1 false (.t 7), none⟩,
  ⟨(some 94), .bin .eql (.t 93) (.c (.int .i64 (-1))), none⟩])
 (.cond (.t 94)
  (.ops [
  ⟨(some 95), .mv (.t 13), none⟩,
  ⟨(some 96), .mv (.t 12), none⟩,
  ⟨(some 97), .bin .add (.t 95) (.t 96), none⟩,
  ⟨none, .store 1 (.t 7) (.t 97), none⟩])
  .skip))
 (.ops [
  ⟨(some 98), .fad 8 (.t 2), none⟩,
  ⟨(some 99), .fad 0 (.t 98), none⟩,
  ⟨(some 100), .load 1 false (.t 99), none⟩,
  ⟨(some 101), .load 1 false (.t 7), none⟩,
  ⟨(some 102), .mv (.t 13), none⟩,
  ⟨(some 103), .mv (.t 12), none⟩,
  ⟨(some 104), .bin .add (.t 102) (.t 103), none⟩,
  ⟨(some 105), .pcall (.t 100) [(.t 101), (.t 104)], none⟩,
  ⟨none, .store 1 (.t 7) (.t 105), none⟩])))))))))))
 (.seq (.ops [
  ⟨(some 106), .fad 7 (.t 2), none⟩,
  ⟨(some 107), .load 1 false (.t 106), none⟩,
  ⟨(some 108), .load 3 true (.t 3), none⟩,
  ⟨(some 109), .load 1 false (.t 7), none⟩,
  ⟨none, .upd (.agg [.int, .int, .int]) (.t 107) (.t 108) (.t 109), none⟩])
 (.seq (.ops [
  ⟨(some 110), .load 1 false (.t 7), none⟩,
  ⟨(some 4), .mv (.t 110), none⟩])
 .ret))))))), false, 2⟩

/-- wishbook/wishbookref09.told -/
def a69 : F := ⟨[.tmp 4],
 (.seq (.ops [
  ⟨(some 2), .box (.t 0), none⟩,
  ⟨(some 4), .mv (.c (.int .i64 0)), none⟩])
 (.seq (.seq (.ops [
  ⟨(some 6), .load 6 true (.t 2), none⟩,
  ⟨(some 7), .mv (.t 1), none⟩,
  ⟨(some 8), .pcall (.f 55) [(.t 6), (.t 7)], none⟩,
  ⟨(some 5), .mv (.t 8), none⟩])
 (.seq (.ops [
  ⟨(some 9), .mv (.t 5), none⟩,
  ⟨(some 10), .bin .neq (.t 9) (.c (.int .i64 0)), none⟩])
 (.cond (.t 10)
  (.seq (.ops [
  ⟨(some 11), .mv (.t 5), none⟩,
  ⟨(some 4), .mv (.t 11), none⟩])
 .ret)
  .skip)))
 (.seq (.seq (.ops [
  ⟨(some 12), .load 6 true (.t 2), none⟩,
  ⟨(some 13), .pcall (.f 77) [(.t 12), (.c (.int .i64 0)), (.c (.int .i64 0)), (.c (.int .i64 0))], none⟩,
  ⟨(some 14), .not (.t 13), none⟩])
 (.cond (.t 14)
  (.seq (.ops [
  ⟨(some 4), .mv (.c (.int .i64 92)), none⟩])
 .ret)
  .skip))
 (.seq (.ops [
  ⟨(some 4), .mv (.c (.int .i64 0)), none⟩])
 .ret)))), false, 2⟩

/-- wishbook/claim.Which$1 -/
def a70 : F := ⟨[.tmp 3],
 (.seq (.ops [
  ⟨(some 2), .box (.t 0), none⟩,
  ⟨(some 3), .mv (.c (.bool false)), none⟩])
 (.seq (.ops [
  ⟨(some 4), .load 6 true (.t 2), none⟩,
  ⟨(some 5), .load 1 false (.t 1), none⟩,
  ⟨(some 6), .pcall (.f 52) [(.t 4), (.t 5)], none⟩,
  ⟨(some 3), .mv (.t 6), none⟩])
 .ret)), false, 2⟩

/-- (wishbook/claim.desk).can -/
def a71 : F := ⟨[.tmp 6],
 (.seq (.ops [
  ⟨(some 3), .box (.t 0), none⟩,
  ⟨(some 6), .mv (.c (.bool false)), none⟩])
 (.seq (.ops [
  ⟨(some 7), .load 6 true (.t 3), none⟩,
  ⟨(some 8), .mkmap, none⟩,
  ⟨(some 9), .mv (.t 1), none⟩,
  ⟨(some 10), .mv (.t 2), none⟩,
  ⟨none, .upd (.s .int) (.t 8) (.t 9) (.t 10), none⟩,
  ⟨(some 11), .mv (.t 8), none⟩,
  ⟨(some 12), .pcall (.f 67) [], none⟩,
  ⟨(some 13), .call (.f 66) [(.t 7), (.t 11), (.t 12)], none⟩,
  ⟨(some 14), .build [(.int .i64 0), (.int .i64 0), (.int .i64 0)] [], none⟩,
  ⟨(some 15), .call (.f 68) [(.t 13), (.t 14)], none⟩,
  ⟨(some 16), .bin .neq (.t 15) (.c (.int .i64 (-1))), none⟩,
  ⟨(some 6), .mv (.t 16), none⟩])
 .ret)), false, 3⟩

def a72_L1 : C := (.seq (.seq (.ops [
  ⟨(some 7), .mv (.t 6), none⟩,
  ⟨(some 8), .mv (.t 1), none⟩,
  ⟨(some 9), .bin .lss (.t 7) (.t 8), none⟩])
 (.cond (.t 9)
  .skip
  (.exit 0)))
 (.seq (.block 1
  (.seq (.ops [
  ⟨(some 12), .mv (.t 0), none⟩,
  ⟨(some 13), .mv (.t 6), none⟩,
  ⟨(some 14), .pcall (.f 40) [(.t 12), (.t 13)], none⟩])
 (.cond (.t 14)
  (.ops [
  ⟨(some 15), .mv (.t 5), none⟩,
  ⟨(some 16), .mv (.t 6), none⟩,
  ⟨(some 17), .bsl [(.int .i64 0)] 1 [(0, (.t 16))], none⟩,
  ⟨(some 18), .app 18 1 8 (.t 15) (.t 17), none⟩,
  ⟨(some 5), .mv (.t 18), none⟩])
  .skip)))
 (.ops [
  ⟨(some 10), .mv (.t 6), none⟩,
  ⟨(some 11), .bin .add (.t 10) (.c (.int .i64 1)), none⟩,
  ⟨(some 6), .mv (.t 11), none⟩])))
/-- wishbook/wishbookref00.Of -/
def a72 : F := ⟨[.tmp 4],
 (.seq (.ops [
  ⟨(some 4), .mv (.c (.sl [] .nil)), none⟩])
 (.seq (.ops [
  ⟨(some 5), .mv (.c (.sl [] .nil)), none⟩])
 (.seq (.seq (.ops [
  ⟨(some 6), .mv (.c (.int .i64 0)), none⟩])
 (.block 0
  (.loop [0, 1, 5, 6] a72_L1)))
 (.seq (.ops [
  ⟨(some 19), .mv (.t 5), none⟩,
  ⟨(some 4), .mv (.t 19), none⟩])
 .ret)))), false, 2⟩

/-- wishbook/wishbookref09.seen -/
def a73 : F := ⟨[.cell 2 6 true],
 (.seq (.ops [
  ⟨(some 1), .box (.t 0), none⟩,
  ⟨(some 2), .alloc [(.int .i64 0), (.sl [] .nil), (.int .i64 0), (.int .i64 0), (.int .i64 0), (.int .i64 0)], none⟩])
 (.seq (.ops [
  ⟨(some 3), .load 6 true (.t 1), none⟩,
  ⟨(some 4), .fad 5 (.t 1), none⟩,
  ⟨(some 5), .load 1 false (.t 4), none⟩,
  ⟨(some 6), .len (.t 5), none⟩,
  ⟨(some 7), .mksl [(.int .i64 0)] 8 (.t 6) (.t 6), none⟩,
  ⟨(some 8), .build [(.int .i64 0), (.sl [] .nil), (.int .i64 0), (.int .i64 0), (.int .i64 0), (.int .i64 0)] [(1, 1, (.t 7))], none⟩,
  ⟨(some 9), .pcall (.f 87) [(.t 3), (.c (.sl [] .nil)), (.c (.int .i64 0)), (.c (.int .i64 0)), (.t 8)], none⟩,
  ⟨none, .store 6 (.t 2) (.t 9), none⟩])
 .ret)), false, 1⟩

/-- (wishbook/claim.desk).without -/
def a74 : F := ⟨[.cell 4 6 true],
 (.seq (.ops [
  ⟨(some 2), .box (.t 0), none⟩,
  ⟨(some 4), .alloc [(.int .i64 0), (.int .i64 0), (.int .i64 0), (.int .i64 0), (.sl [] .nil), (.sl [] .nil)], none⟩])
 (.seq (.ops [
  ⟨(some 5), .fad 0 (.t 2), none⟩,
  ⟨(some 6), .fad 4 (.t 5), none⟩,
  ⟨(some 7), .load 1 false (.t 6), none⟩,
  ⟨(some 8), .mv (.t 1), none⟩,
  ⟨(some 9), .slice 4 (.t 7) none (some (.t 8)) none, none⟩,
  ⟨(some 10), .app 10 4 32 (.c (.sl [] .nil)) (.t 9), none⟩,
  ⟨(some 11), .fad 0 (.t 2), none⟩,
  ⟨(some 12), .fad 4 (.t 11), none⟩,
  ⟨(some 13), .load 1 false (.t 12), none⟩,
  ⟨(some 14), .mv (.t 1), none⟩,
  ⟨(some 15), .bin .add (.t 14) (.c (.int .i64 1)), none⟩,
  ⟨(some 16), .slice 4 (.t 13) (some (.t 15)) none none, none⟩,
  ⟨(some 17), .app 17 4 32 (.t 10) (.t 16), none⟩,
  ⟨(some 18), .fad 0 (.t 2), none⟩,
  ⟨(some 19), .fad 4 (.t 18), none⟩,
  ⟨none, .store 1 (.t 19) (.t 17), none⟩])
 (.seq (.ops [
  ⟨(some 20), .load 6 true (.t 2), none⟩,
  ⟨none, .store 6 (.t 4) (.t 20), none⟩])
 .ret))), false, 2⟩

/-- (wishbook/claim.desk).true -/
def a75 : F := ⟨[.tmp 2],
 (.seq (.ops [
  ⟨(some 1), .box (.t 0), none⟩,
  ⟨(some 2), .mv (.c (.bool false)), none⟩])
 (.seq (.ops [
  ⟨(some 3), .load 6 true (.t 1), none⟩,
  ⟨(some 4), .pcall (.f 67) [], none⟩,
  ⟨(some 5), .call (.f 66) [(.t 3), (.c .nilM), (.t 4)], none⟩,
  ⟨(some 6), .build [(.int .i64 0), (.int .i64 0), (.int .i64 0)] [], none⟩,
  ⟨(some 7), .call (.f 68) [(.t 5), (.t 6)], none⟩,
  ⟨(some 8), .bin .neq (.t 7) (.c (.int .i64 (-1))), none⟩,
  ⟨(some 2), .mv (.t 8), none⟩])
 .ret)), false, 1⟩

/-- wishbook/claim.least -/
def a76 : F := ⟨[.cell 0 1 true],
 (.seq (.ops [
  ⟨(some 0), .alloc [.nilF], none⟩])
 (.seq (.ops [
  ⟨(some 1), .build [.nilF] [(0, 1, (.f 88))], none⟩,
  ⟨none, .store 1 (.t 0) (.t 1), none⟩])
 .ret)), false, 0⟩

def a77_L1 : C := (.seq (.seq (.ops [
  ⟨(some 37), .mv (.t 9), none⟩,
  ⟨(some 38), .fad 4 (.t 4), none⟩,
  ⟨(some 39), .load 1 false (.t 38), none⟩,
  ⟨(some 40), .len (.t 39), none⟩,
  ⟨(some 41), .bin .lss (.t 37) (.t 40), none⟩])
 (.cond (.t 41)
  .skip
  (.exit 0)))
 (.seq (.block 1
  (.seq (.ops [
  ⟨(some 44), .mv (.t 2), none⟩,
  ⟨(some 45), .mv (.t 9), none⟩,
  ⟨(some 46), .pcall (.f 40) [(.t 44), (.t 45)], none⟩,
  ⟨(some 47), .not (.t 46), none⟩,
  ⟨(some 48), .mv (.t 47), none⟩,
  ⟨(some 49), .load 6 true (.t 4), (some (48, true))⟩,
  ⟨(some 50), .mv (.t 1), (some (48, true))⟩,
  ⟨(some 51), .mv (.t 9), (some (48, true))⟩,
  ⟨(some 52), .pcall (.f 56) [(.t 49), (.t 50), (.t 51)], (some (48, true))⟩,
  ⟨(some 53), .pick (.t 48) (.t 52) (.c (.bool false)), none⟩,
  ⟨(some 54), .mv (.t 53), none⟩,
  ⟨(some 55), .load 6 true (.t 4), (some (54, true))⟩,
  ⟨(some 56), .mv (.t 1), (some (54, true))⟩,
  ⟨(some 57), .bin .add (.t 56) (.c (.int .i64 1)), (some (54, true))⟩,
  ⟨(some 58), .mv (.t 2), (some (54, true))⟩,
  ⟨(some 59), .mv (.t 9), (some (54, true))⟩,
  ⟨(some 60), .bin .shl (.c (.int .i64 1)) (.t 59), (some (54, true))⟩,
  ⟨(some 61), .bin .or (.t 58) (.t 60), (some (54, true))⟩,
  ⟨(some 62), .mv (.t 3), (some (54, true))⟩,
  ⟨(some 63), .pcall (.f 77) [(.t 55), (.t 57), (.t 61), (.t 62)], (some (54, true))⟩,
  ⟨(some 64), .pick (.t 54) (.t 63) (.c (.bool false)), none⟩])
 (.cond (.t 64)
  (.seq (.ops [
  ⟨(some 8), .mv (.c (.bool true)), none⟩])
 .ret)
  .skip)))
 (.ops [
  ⟨(some 42), .mv (.t 9), none⟩,
  ⟨(some 43), .bin .add (.t 42) (.c (.int .i64 1)), none⟩,
  ⟨(some 9), .mv (.t 43), none⟩])))
/-- wishbook/wishbookref09.can -/
def a77 : F := ⟨[.tmp 8],
 (.seq (.ops [
  ⟨(some 4), .box (.t 0), none⟩,
  ⟨(some 8), .mv (.c (.bool false)), none⟩])
 (.seq (.seq (.ops [
  ⟨(some 10), .mv (.t 1), none⟩,
  ⟨(some 11), .fad 5 (.t 4), none⟩,
  ⟨(some 12), .load 1 false (.t 11), none⟩,
  ⟨(some 13), .len (.t 12), none⟩,
  ⟨(some 14), .bin .eql (.t 10) (.t 13), none⟩])
 (.cond (.t 14)
  (.seq (.ops [
  ⟨(some 8), .mv (.c (.bool true)), none⟩])
 .ret)
  .skip))
 (.seq (.seq (.ops [
  ⟨(some 15), .fad 5 (.t 4), none⟩,
  ⟨(some 16), .load 1 false (.t 15), none⟩,
  ⟨(some 17), .mv (.t 1), none⟩,
  ⟨(some 18), .iad 5 (.t 16) (.t 17), none⟩,
  ⟨(some 19), .fad 4 (.t 18), none⟩,
  ⟨(some 20), .load 1 false (.t 19), none⟩,
  ⟨(some 21), .not (.t 20), none⟩,
  ⟨(some 22), .mv (.t 21), none⟩,
  ⟨(some 23), .mv (.t 3), (some (22, true))⟩,
  ⟨(some 24), .fad 3 (.t 4), (some (22, true))⟩,
  ⟨(some 25), .load 1 false (.t 24), (some (22, true))⟩,
  ⟨(some 26), .bin .lss (.t 23) (.t 25), (some (22, true))⟩,
  ⟨(some 27), .pick (.t 22) (.t 26) (.c (.bool false)), none⟩,
  ⟨(some 28), .mv (.t 27), none⟩,
  ⟨(some 29), .load 6 true (.t 4), (some (28, true))⟩,
  ⟨(some 30), .mv (.t 1), (some (28, true))⟩,
  ⟨(some 31), .bin .add (.t 30) (.c (.int .i64 1)), (some (28, true))⟩,
  ⟨(some 32), .mv (.t 2), (some (28, true))⟩,
  ⟨(some 33), .mv (.t 3), (some (28, true))⟩,
  ⟨(some 34), .bin .add (.t 33) (.c (.int .i64 1)), (some (28, true))⟩,
  ⟨(some 35), .pcall (.f 77) [(.t 29), (.t 31), (.t 32), (.t 34)], (some (28, true))⟩,
  ⟨(some 36), .pick (.t 28) (.t 35) (.c (.bool false)), none⟩])
 (.cond (.t 36)
  (.seq (.ops [
  ⟨(some 8), .mv (.c (.bool true)), none⟩])
 .ret)
  .skip))
 (.seq (.seq (.ops [
  ⟨(some 9), .mv (.c (.int .i64 0)), none⟩])
 (.block 0
  (.loop [1, 2, 3, 4, 8, 9] a77_L1)))
 (.seq (.ops [
  ⟨(some 8), .mv (.c (.bool false)), none⟩])
 .ret))))), false, 4⟩

def a78_L1 : C := (.seq (.seq (.ops [
  ⟨(some 23), .mv (.t 11), none⟩,
  ⟨(some 24), .fad 0 (.t 5), none⟩,
  ⟨(some 25), .fad 5 (.t 24), none⟩,
  ⟨(some 26), .load 1 false (.t 25), none⟩,
  ⟨(some 27), .len (.t 26), none⟩,
  ⟨(some 28), .bin .lss (.t 23) (.t 27), none⟩])
 (.cond (.t 28)
  .skip
  (.exit 0)))
 (.seq (.block 1
  (.seq (.seq (.ops [
  ⟨(some 31), .fad 0 (.t 5), none⟩,
  ⟨(some 32), .fad 5 (.t 31), none⟩,
  ⟨(some 33), .load 1 false (.t 32), none⟩,
  ⟨(some 34), .mv (.t 11), none⟩,
  ⟨(some 35), .iad 5 (.t 33) (.t 34), none⟩,
  ⟨(some 36), .fad 4 (.t 35), none⟩,
  ⟨(some 37), .load 1 false (.t 36), none⟩,
  ⟨(some 38), .not (.t 37), none⟩])
 (.cond (.t 38)
  (.exit 1)
  .skip))
 (.seq (.ops [
  ⟨(some 39), .load 6 true (.t 5), none⟩,
  ⟨(some 12), .alloc [(.int .i64 0), (.int .i64 0), (.int .i64 0), (.int .i64 0), (.sl [] .nil), (.sl [] .nil)], none⟩,
  ⟨none, .store 6 (.t 12) (.t 39), none⟩])
 (.seq (.ops [
  ⟨(some 40), .fad 0 (.t 5), none⟩,
  ⟨(some 41), .fad 5 (.t 40), none⟩,
  ⟨(some 42), .load 1 false (.t 41), none⟩,
  ⟨(some 43), .appo 5 48 (.c (.sl [] .nil)) (.t 42), none⟩,
  ⟨(some 44), .fad 0 (.t 12), none⟩,
  ⟨(some 45), .fad 5 (.t 44), none⟩,
  ⟨none, .store 1 (.t 45) (.t 43), none⟩])
 (.seq (.ops [
  ⟨(some 46), .fad 0 (.t 12), none⟩,
  ⟨(some 47), .fad 5 (.t 46), none⟩,
  ⟨(some 48), .load 1 false (.t 47), none⟩,
  ⟨(some 49), .mv (.t 11), none⟩,
  ⟨(some 50), .iad 5 (.t 48) (.t 49), none⟩,
  ⟨(some 51), .fad 4 (.t 50), none⟩,
  ⟨none, .store 1 (.t 51) (.c (.bool false)), none⟩])
 (.seq (.ops [
  ⟨(some 53), .load 1 false (.t 4), none⟩,
  ⟨(some 54), .load 6 true (.t 12), none⟩,
  ⟨(some 55), .mv (.t 11), none⟩,
  ⟨(some 56), .bin .add (.t 55) (.c (.int .i64 1)), none⟩,
  ⟨(some 57), .mv (.t 2), none⟩,
  ⟨(some 58), .mv (.t 3), none⟩,
  ⟨(some 59), .mv (.t 3), none⟩,
  ⟨(some 60), .len (.t 59), none⟩,
  ⟨(some 61), .mv (.t 3), none⟩,
  ⟨(some 62), .len (.t 61), none⟩,
  ⟨(some 63), .slice 1 (.t 58) none (some (.t 60)) (some (.t 62)), none⟩,
  ⟨(some 64), .mv (.t 11), none⟩,
  ⟨(some 65), .bsl [(.int .i64 0)] 1 [(0, (.t 64))], none⟩,
  ⟨(some 66), .app 66 1 8 (.t 63) (.t 65), none⟩,
  ⟨(some 67), .call (.t 53) [(.t 54), (.t 56), (.t 57), (.t 66)], none⟩,
  ⟨(some 52), .mv (.t 67), none⟩,
  ⟨(some 68), .ext (.t 52) 0, none⟩,
  ⟨(some 69), .ext (.t 52) 1, none⟩,
  ⟨(some 13), .mv (.t 68), none⟩,
  ⟨(some 14), .mv (.t 69), none⟩])
 (.seq (.ops [
  ⟨(some 70), .mv (.t 14), none⟩])
 (.cond (.t 70)
  (.seq (.ops [
  ⟨(some 71), .mv (.t 13), none⟩,
  ⟨(some 9), .mv (.t 71), none⟩,
  ⟨(some 10), .mv (.c (.bool true)), none⟩])
 .ret)
  .skip))))))))
 (.ops [
  ⟨(some 29), .mv (.t 11), none⟩,
  ⟨(some 30), .bin .add (.t 29) (.c (.int .i64 1)), none⟩,
  ⟨(some 11), .mv (.t 30), none⟩])))
/-- wishbook/claim.Wrong$1 -/
def a78 : F := ⟨[.tmp 9, .tmp 10],
 (.seq (.ops [
  ⟨(some 5), .box (.t 0), none⟩,
  ⟨(some 9), .mv (.c (.sl [] .nil)), none⟩,
  ⟨(some 10), .mv (.c (.bool false)), none⟩])
 (.seq (.seq (.ops [
  ⟨(some 15), .mv (.t 3), none⟩,
  ⟨(some 16), .len (.t 15), none⟩,
  ⟨(some 17), .mv (.t 2), none⟩,
  ⟨(some 18), .bin .eql (.t 16) (.t 17), none⟩])
 (.cond (.t 18)
  (.seq (.ops [
  ⟨(some 19), .mv (.t 3), none⟩,
  ⟨(some 20), .load 6 true (.t 5), none⟩,
  ⟨(some 21), .pcall (.f 75) [(.t 20)], none⟩,
  ⟨(some 9), .mv (.t 19), none⟩,
  ⟨(some 10), .mv (.t 21), none⟩])
 .ret)
  .skip))
 (.seq (.seq (.ops [
  ⟨(some 22), .mv (.t 1), none⟩,
  ⟨(some 11), .mv (.t 22), none⟩])
 (.block 0
  (.loop [2, 3, 4, 5, 9, 10, 11] a78_L1)))
 (.seq (.ops [
  ⟨(some 9), .mv (.c (.sl [] .nil)), none⟩,
  ⟨(some 10), .mv (.c (.bool false)), none⟩])
 .ret)))), false, 5⟩

def a79_L1 : C := (.seq (.seq (.ops [
  ⟨(some 11), .mv (.t 6), none⟩,
  ⟨(some 12), .mv (.t 5), none⟩,
  ⟨(some 13), .len (.t 12), none⟩,
  ⟨(some 14), .bin .lss (.t 11) (.t 13), none⟩])
 (.cond (.t 14)
  .skip
  (.exit 0)))
 (.seq (.block 1
  (.seq (.ops [
  ⟨(some 17), .mv (.t 5), none⟩,
  ⟨(some 18), .mv (.t 6), none⟩,
  ⟨(some 19), .iad 5 (.t 17) (.t 18), none⟩,
  ⟨(some 20), .load 5 true (.t 19), none⟩,
  ⟨(some 7), .alloc [(.int .i64 0), (.int .i64 0), (.int .i64 0), (.str []), (.bool false)], none⟩,
  ⟨none, .store 5 (.t 7) (.t 20), none⟩])
 (.seq (.ops [
  ⟨(some 21), .fad 4 (.t 7), none⟩,
  ⟨(some 22), .load 1 false (.t 21), none⟩,
  ⟨(some 23), .mv (.t 22), none⟩,
  ⟨(some 24), .mv (.t 1), (some (23, true))⟩,
  ⟨(some 25), .mv (.t 6), (some (23, true))⟩,
  ⟨(some 26), .pcall (.f 40) [(.t 24), (.t 25)], (some (23, true))⟩,
  ⟨(some 27), .not (.t 26), (some (23, true))⟩,
  ⟨(some 28), .pick (.t 23) (.t 27) (.c (.bool false)), none⟩,
  ⟨(some 29), .fad 4 (.t 7), none⟩,
  ⟨none, .store 1 (.t 29) (.t 28), none⟩])
 (.ops [
  ⟨(some 30), .fad 5 (.t 2), none⟩,
  ⟨(some 31), .load 1 false (.t 30), none⟩,
  ⟨(some 32), .load 5 true (.t 7), none⟩,
  ⟨(some 33), .bsl [(.int .i64 0), (.int .i64 0), (.int .i64 0), (.str []), (.bool false)] 1 [(0, (.t 32))], none⟩,
  ⟨(some 34), .app 34 5 48 (.t 31) (.t 33), none⟩,
  ⟨(some 35), .fad 5 (.t 2), none⟩,
  ⟨none, .store 1 (.t 35) (.t 34), none⟩]))))
 (.ops [
  ⟨(some 15), .mv (.t 6), none⟩,
  ⟨(some 16), .bin .add (.t 15) (.c (.int .i64 1)), none⟩,
  ⟨(some 6), .mv (.t 16), none⟩])))
/-- wishbook/wishbookref09.without -/
def a79 : F := ⟨[.cell 4 6 true],
 (.seq (.ops [
  ⟨(some 2), .box (.t 0), none⟩,
  ⟨(some 4), .alloc [(.int .i64 0), (.int .i64 0), (.int .i64 0), (.int .i64 0), (.sl [] .nil), (.sl [] .nil)], none⟩])
 (.seq (.ops [
  ⟨(some 8), .fad 5 (.t 2), none⟩,
  ⟨(some 9), .load 1 false (.t 8), none⟩,
  ⟨(some 5), .mv (.t 9), none⟩])
 (.seq (.ops [
  ⟨(some 10), .fad 5 (.t 2), none⟩,
  ⟨none, .store 1 (.t 10) (.c (.sl [] .nil)), none⟩])
 (.seq (.seq (.ops [
  ⟨(some 6), .mv (.c (.int .i64 0)), none⟩])
 (.block 0
  (.loop [1, 2, 4, 5, 6] a79_L1)))
 (.seq (.ops [
  ⟨(some 36), .load 6 true (.t 2), none⟩,
  ⟨none, .store 6 (.t 4) (.t 36), none⟩])
 .ret))))), false, 2⟩

/-- wishbook/wishbookref00.Take -/
def a80 : F := ⟨[.tmp 4],
 (.seq (.ops [
  ⟨(some 4), .mv (.c (.int .i64 0)), none⟩])
 (.seq (.seq (.ops [
  ⟨(some 5), .mv (.t 0), none⟩,
  ⟨(some 6), .len (.t 5), none⟩,
  ⟨(some 7), .bin .eql (.t 6) (.c (.int .i64 0)), none⟩])
 (.cond (.t 7)
  (.seq (.ops [
  ⟨(some 4), .mv (.c (.int .i64 0)), none⟩])
 .ret)
  .skip))
 (.seq (.ops [
  ⟨(some 8), .mv (.t 0), none⟩,
  ⟨(some 9), .mv (.t 1), none⟩,
  ⟨(some 10), .mv (.t 0), none⟩,
  ⟨(some 11), .len (.t 10), none⟩,
  ⟨(some 12), .pcall (.f 42) [(.t 9), (.t 11)], none⟩,
  ⟨(some 13), .iad 1 (.t 8) (.t 12), none⟩,
  ⟨(some 14), .load 1 false (.t 13), none⟩,
  ⟨(some 4), .mv (.t 14), none⟩])
 .ret))), false, 2⟩

/-- wishbook/wishbookref00.Lot -/
def a81 : F := ⟨[.tmp 4],
 (.seq (.ops [
  ⟨(some 2), .box (.t 0), none⟩,
  ⟨(some 4), .mv (.c (.int .i64 0)), none⟩])
 (.seq (.seq (.ops [
  ⟨(some 6), .fad 1 (.t 2), none⟩,
  ⟨(some 7), .load 1 false (.t 6), none⟩,
  ⟨(some 8), .fad 0 (.t 2), none⟩,
  ⟨(some 9), .load 1 false (.t 8), none⟩,
  ⟨(some 10), .bin .leq (.t 7) (.t 9), none⟩])
 (.cond (.t 10)
  (.seq (.ops [
  ⟨(some 11), .fad 0 (.t 2), none⟩,
  ⟨(some 12), .load 1 false (.t 11), none⟩,
  ⟨(some 4), .mv (.t 12), none⟩])
 .ret)
  .skip))
 (.seq (.ops [
  ⟨(some 13), .fad 1 (.t 2), none⟩,
  ⟨(some 14), .load 1 false (.t 13), none⟩,
  ⟨(some 15), .fad 0 (.t 2), none⟩,
  ⟨(some 16), .load 1 false (.t 15), none⟩,
  ⟨(some 17), .bin .sub (.t 14) (.t 16), none⟩,
  ⟨(some 18), .bin .add (.t 17) (.c (.int .i64 1)), none⟩,
  ⟨(some 5), .mv (.t 18), none⟩])
 (.seq (.seq (.ops [
  ⟨(some 19), .mv (.t 5), none⟩,
  ⟨(some 20), .bin .lss (.t 19) (.c (.int .i64 1)), none⟩])
 (.cond (.t 20)
  (.seq (.ops [
  ⟨(some 21), .mv (.t 1), none⟩,
  ⟨(some 22), .fad 0 (.t 2), none⟩,
  ⟨(some 23), .load 1 false (.t 22), none⟩,
  ⟨(some 24), .mx (.t 21) [(.t 23)], none⟩,
  ⟨(some 25), .fad 1 (.t 2), none⟩,
  ⟨(some 26), .load 1 false (.t 25), none⟩,
  ⟨(some 27), .mn (.t 24) [(.t 26)], none⟩,
  ⟨(some 4), .mv (.t 27), none⟩])
 .ret)
  .skip))
 (.seq (.ops [
  ⟨(some 28), .fad 0 (.t 2), none⟩,
  ⟨(some 29), .load 1 false (.t 28), none⟩,
  ⟨(some 30), .mv (.t 1), none⟩,
  ⟨(some 31), .mv (.t 5), none⟩,
  ⟨(some 32), .pcall (.f 42) [(.t 30), (.t 31)], none⟩,
  ⟨(some 33), .bin .add (.t 29) (.t 32), none⟩,
  ⟨(some 4), .mv (.t 33), none⟩])
 .ret))))), false, 2⟩

/-- wishbook/wishbookref00.Write -/
def a82 : F := ⟨[.tmp 2],
 (.seq (.ops [
  ⟨(some 2), .mv (.c (.str [])), none⟩])
 (.seq (.ops [
  ⟨(some 4), .mv (.t 0), none⟩,
  ⟨(some 5), .bin .rem (.t 4) (.c (.int .i64 10)), none⟩,
  ⟨(some 6), .pcall (.f 89) [(.t 5)], none⟩,
  ⟨(some 7), .bin .add (.c (.int .i64 48)) (.t 6), none⟩,
  ⟨(some 8), .cvt (.int .i32) (.t 7), none⟩,
  ⟨(some 9), .cvt .rune (.t 8), none⟩,
  ⟨(some 3), .mv (.t 9), none⟩])
 (.seq (.seq (.ops [
  ⟨(some 10), .mv (.t 0), none⟩,
  ⟨(some 11), .bin .lss (.c (.int .i64 (-10))) (.t 10), none⟩,
  ⟨(some 12), .mv (.t 11), none⟩,
  ⟨(some 13), .mv (.t 0), (some (12, true))⟩,
  ⟨(some 14), .bin .lss (.t 13) (.c (.int .i64 0)), (some (12, true))⟩,
  ⟨(some 15), .pick (.t 12) (.t 14) (.c (.bool false)), none⟩])
 (.cond (.t 15)
  (.seq (.ops [
  ⟨(some 16), .mv (.t 3), none⟩,
  ⟨(some 17), .bin .add (.c (.str [45])) (.t 16), none⟩,
  ⟨(some 2), .mv (.t 17), none⟩])
 .ret)
  .skip))
 (.seq (.seq (.ops [
  ⟨(some 18), .mv (.t 0), none⟩,
  ⟨(some 19), .bin .leq (.c (.int .i64 0)) (.t 18), none⟩,
  ⟨(some 20), .mv (.t 19), none⟩,
  ⟨(some 21), .mv (.t 0), (some (20, true))⟩,
  ⟨(some 22), .bin .lss (.t 21) (.c (.int .i64 10)), (some (20, true))⟩,
  ⟨(some 23), .pick (.t 20) (.t 22) (.c (.bool false)), none⟩])
 (.cond (.t 23)
  (.seq (.ops [
  ⟨(some 24), .mv (.t 3), none⟩,
  ⟨(some 2), .mv (.t 24), none⟩])
 .ret)
  .skip))
 (.seq (.ops [
  ⟨(some 25), .mv (.t 0), none⟩,
  ⟨(some 26), .bin .quo (.t 25) (.c (.int .i64 10)), none⟩,
  ⟨(some 27), .pcall (.f 82) [(.t 26)], none⟩,
  ⟨(some 28), .mv (.t 3), none⟩,
  ⟨(some 29), .bin .add (.t 27) (.t 28), none⟩,
  ⟨(some 2), .mv (.t 29), none⟩])
 .ret))))), false, 1⟩

/-- wishbook/wishbookref00.Common -/
def a83 : F := ⟨[.cell 4 2 true],
 (.seq (.ops [
  ⟨(some 2), .box (.t 0), none⟩,
  ⟨(some 3), .box (.t 1), none⟩,
  ⟨(some 4), .alloc [(.int .i64 0), (.int .i64 0)], none⟩])
 (.seq (.ops [
  ⟨(some 5), .fad 0 (.t 2), none⟩,
  ⟨(some 6), .load 1 false (.t 5), none⟩,
  ⟨(some 7), .fad 0 (.t 3), none⟩,
  ⟨(some 8), .load 1 false (.t 7), none⟩,
  ⟨(some 9), .mx (.t 6) [(.t 8)], none⟩,
  ⟨(some 10), .fad 1 (.t 2), none⟩,
  ⟨(some 11), .load 1 false (.t 10), none⟩,
  ⟨(some 12), .fad 1 (.t 3), none⟩,
  ⟨(some 13), .load 1 false (.t 12), none⟩,
  ⟨(some 14), .mn (.t 11) [(.t 13)], none⟩,
  ⟨(some 15), .pcall (.f 43) [(.t 9), (.t 14)], none⟩,
  ⟨none, .store 2 (.t 4) (.t 15), none⟩])
 .ret)), false, 2⟩

def a84_L1 : C := (.seq (.ops [
  ⟨(some 24), .bin .lss (.t 23) (.t 22), none⟩])
 (.seq (.cond (.t 24)
  .skip
  (.exit 0))
 (.seq (.block 1
  (.seq (.ops [
  ⟨(some 25), .mv (.t 23), none⟩,
  ⟨(some 5), .mv (.t 25), none⟩])
 (.seq (.seq (.ops [
  ⟨(some 26), .load 1 false (.t 3), none⟩,
  ⟨(some 27), .mv (.t 5), none⟩,
  ⟨(some 28), .bin .shr (.t 26) (.t 27), none⟩,
  ⟨(some 29), .bin .and (.t 28) (.c (.int .i64 1)), none⟩,
  ⟨(some 30), .bin .eql (.t 29) (.c (.int .i64 1)), none⟩,
  ⟨(some 31), .mv (.t 30), none⟩,
  ⟨(some 32), .load 6 true (.t 1), (some (31, false))⟩,
  ⟨(some 33), .load 1 false (.t 2), (some (31, false))⟩,
  ⟨(some 34), .mv (.t 5), (some (31, false))⟩,
  ⟨(some 35), .pcall (.f 54) [(.t 32), (.t 33), (.t 34)], (some (31, false))⟩,
  ⟨(some 36), .not (.t 35), (some (31, false))⟩,
  ⟨(some 37), .pick (.t 31) (.c (.bool true)) (.t 36), none⟩])
 (.cond (.t 37)
  (.exit 1)
  .skip))
 (.seq (.ops [
  ⟨(some 38), .mv (.t 0), none⟩,
  ⟨(some 39), .mv (.t 5), none⟩,
  ⟨(some 40), .call (.t 38) [(.t 39)], none⟩,
  ⟨(some 41), .not (.t 40), none⟩])
 (.cond (.t 41)
  .ret
  .skip)))))
 (.ops [
  ⟨(some 42), .bin .add (.t 23) (.c (.int .i64 1)), none⟩,
  ⟨(some 23), .mv (.t 42), none⟩]))))
/-- (wishbook/claim.desk).meant$1 -/
def a84 : F := ⟨[],
 (.scope
  (.seq (.seq (.ops [
  ⟨(some 6), .fad 0 (.t 1), none⟩,
  ⟨(some 7), .fad 5 (.t 6), none⟩,
  ⟨(some 8), .load 1 false (.t 7), none⟩,
  ⟨(some 9), .load 1 false (.t 2), none⟩,
  ⟨(some 10), .iad 5 (.t 8) (.t 9), none⟩,
  ⟨(some 11), .fad 4 (.t 10), none⟩,
  ⟨(some 12), .load 1 false (.t 11), none⟩,
  ⟨(some 13), .not (.t 12), none⟩,
  ⟨(some 14), .mv (.t 13), none⟩,
  ⟨(some 15), .mv (.t 0), (some (14, true))⟩,
  ⟨(some 16), .call (.t 15) [(.c (.int .i64 (-1)))], (some (14, true))⟩,
  ⟨(some 17), .not (.t 16), (some (14, true))⟩,
  ⟨(some 18), .pick (.t 14) (.t 17) (.c (.bool false)), none⟩])
 (.cond (.t 18)
  .ret
  .skip))
 (.seq .skip
 (.seq (.ops [
  ⟨(some 19), .fad 0 (.t 1), none⟩,
  ⟨(some 20), .fad 4 (.t 19), none⟩,
  ⟨(some 21), .load 1 false (.t 20), none⟩,
  ⟨(some 22), .len (.t 21), none⟩,
  ⟨(some 23), .mv (.c (.int .i64 0)), none⟩])
 (.block 0
  (.loop [0, 1, 2, 3, 22, 23] a84_L1)))))), false, 4⟩

/-- wishbook/claim.most$1 -/
def a85 : F := ⟨[.tmp 4],
 (.seq (.ops [
  ⟨(some 4), .mv (.c (.int .i64 0)), none⟩])
 (.seq (.ops [
  ⟨(some 5), .mv (.t 0), none⟩,
  ⟨(some 6), .mv (.t 1), none⟩,
  ⟨(some 7), .bsl [(.int .i64 0)] 1 [(0, (.t 6))], none⟩,
  ⟨(some 8), .pcall (.f 86) [(.t 5), (.t 7)], none⟩,
  ⟨(some 4), .mv (.t 8), none⟩])
 .ret)), false, 2⟩

def a86_L1 : C := (.seq (.ops [
  ⟨(some 10), .bin .lss (.t 9) (.t 8), none⟩])
 (.seq (.cond (.t 10)
  .skip
  (.exit 0))
 (.seq (.block 1
  (.seq (.ops [
  ⟨(some 11), .iad 1 (.t 7) (.t 9), none⟩,
  ⟨(some 12), .load 1 false (.t 11), none⟩,
  ⟨(some 6), .mv (.t 12), none⟩])
 (.ops [
  ⟨(some 13), .mv (.t 0), none⟩,
  ⟨(some 14), .mv (.t 6), none⟩,
  ⟨(some 15), .mx (.t 13) [(.t 14)], none⟩,
  ⟨(some 0), .mv (.t 15), none⟩])))
 (.ops [
  ⟨(some 16), .bin .add (.t 9) (.c (.int .i64 1)), none⟩,
  ⟨(some 9), .mv (.t 16), none⟩]))))
/-- wishbook/claim.greatest[int] -/
def a86 : F := ⟨[.tmp 4],
 (.seq (.ops [
  ⟨(some 4), .mv (.c (.int .i64 0)), none⟩])
 (.seq (.seq (.ops [
  ⟨(some 7), .mv (.t 1), none⟩,
  ⟨(some 8), .len (.t 7), none⟩,
  ⟨(some 9), .mv (.c (.int .i64 0)), none⟩])
 (.block 0
  (.loop [0, 7, 8, 9] a86_L1)))
 (.seq (.ops [
  ⟨(some 17), .mv (.t 0), none⟩,
  ⟨(some 4), .mv (.t 17), none⟩])
 .ret))), false, 2⟩

def a87_L1 : C := (.seq (.seq (.ops [
  ⟨(some 26), .mv (.t 13), none⟩,
  ⟨(some 27), .mv (.t 1), none⟩,
  ⟨(some 28), .len (.t 27), none⟩,
  ⟨(some 29), .bin .lss (.t 26) (.t 28), none⟩])
 (.cond (.t 29)
  .skip
  (.exit 0)))
 (.seq (.block 1
  (.seq (.ops [
  ⟨(some 32), .mv (.t 1), none⟩,
  ⟨(some 33), .mv (.t 13), none⟩,
  ⟨(some 34), .iad 1 (.t 32) (.t 33), none⟩,
  ⟨(some 35), .load 1 false (.t 34), none⟩,
  ⟨(some 36), .bin .lss (.t 35) (.c (.int .i64 0)), none⟩])
 (.cond (.t 36)
  (.ops [
  ⟨(some 37), .mv (.t 12), none⟩,
  ⟨(some 38), .mv (.t 13), none⟩,
  ⟨(some 39), .iad 1 (.t 37) (.t 38), none⟩,
  ⟨(some 40), .load 1 false (.t 39), none⟩,
  ⟨(some 41), .fad 4 (.t 5), none⟩,
  ⟨(some 42), .load 1 false (.t 41), none⟩,
  ⟨(some 43), .len (.t 42), none⟩,
  ⟨(some 44), .bin .shl (.c (.int .i64 1)) (.t 43), none⟩,
  ⟨(some 45), .bin .or (.t 40) (.t 44), none⟩,
  ⟨(some 46), .iad 1 (.t 37) (.t 38), none⟩,
  ⟨none, .store 1 (.t 46) (.t 45), none⟩])
  (.seq (.ops [
  ⟨(some 47), .mv (.t 12), none⟩,
  ⟨(some 48), .mv (.t 13), none⟩,
  ⟨(some 49), .iad 1 (.t 47) (.t 48), none⟩,
  ⟨(some 50), .load 1 false (.t 49), none⟩,
  ⟨(some 51), .mv (.t 1), none⟩,
  ⟨(some 52), .mv (.t 13), none⟩,
  ⟨(some 53), .iad 1 (.t 51) (.t 52), none⟩,
  ⟨(some 54), .load 1 false (.t 53), none⟩,
  ⟨(some 55), .bin .shl (.c (.int .i64 1)) (.t 54), none⟩,
  ⟨(some 56), .bin .or (.t 50) (.t 55), none⟩,
  ⟨(some 57), .iad 1 (.t 47) (.t 48), none⟩,
  ⟨none, .store 1 (.t 57) (.t 56), none⟩])
 (.ops [
  ⟨(some 58), .mv (.t 11), none⟩,
  ⟨(some 59), .fad 4 (.t 5), none⟩,
  ⟨(some 60), .load 1 false (.t 59), none⟩,
  ⟨(some 61), .mv (.t 1), none⟩,
  ⟨(some 62), .mv (.t 13), none⟩,
  ⟨(some 63), .iad 1 (.t 61) (.t 62), none⟩,
  ⟨(some 64), .load 1 false (.t 63), none⟩,
  ⟨(some 65), .iad 4 (.t 60) (.t 64), none⟩,
  ⟨(some 66), .fad 3 (.t 65), none⟩,
  ⟨(some 67), .load 1 false (.t 66), none⟩,
  ⟨(some 68), .bin .add (.t 58) (.t 67), none⟩,
  ⟨(some 11), .mv (.t 68), none⟩])))))
 (.ops [
  ⟨(some 30), .mv (.t 13), none⟩,
  ⟨(some 31), .bin .add (.t 30) (.c (.int .i64 1)), none⟩,
  ⟨(some 13), .mv (.t 31), none⟩])))
def a87_L2 : C := (.seq (.seq (.ops [
  ⟨(some 126), .mv (.t 15), none⟩,
  ⟨(some 127), .fad 4 (.t 5), none⟩,
  ⟨(some 128), .load 1 false (.t 127), none⟩,
  ⟨(some 129), .len (.t 128), none⟩,
  ⟨(some 130), .bin .lss (.t 126) (.t 129), none⟩])
 (.cond (.t 130)
  .skip
  (.exit 2)))
 (.seq (.block 3
  (.seq (.ops [
  ⟨(some 133), .mv (.t 2), none⟩,
  ⟨(some 134), .mv (.t 15), none⟩,
  ⟨(some 135), .pcall (.f 40) [(.t 133), (.t 134)], none⟩,
  ⟨(some 136), .not (.t 135), none⟩,
  ⟨(some 137), .mv (.t 136), none⟩,
  ⟨(some 138), .load 6 true (.t 5), (some (137, true))⟩,
  ⟨(some 139), .mv (.t 14), (some (137, true))⟩,
  ⟨(some 140), .mv (.t 15), (some (137, true))⟩,
  ⟨(some 141), .pcall (.f 56) [(.t 138), (.t 139), (.t 140)], (some (137, true))⟩,
  ⟨(some 142), .pick (.t 137) (.t 141) (.c (.bool false)), none⟩])
 (.cond (.t 142)
  (.ops [
  ⟨(some 143), .load 6 true (.t 5), none⟩,
  ⟨(some 144), .mv (.t 1), none⟩,
  ⟨(some 145), .mv (.t 15), none⟩,
  ⟨(some 146), .pcall (.f 90) [(.t 144), (.t 145)], none⟩,
  ⟨(some 147), .mv (.t 2), none⟩,
  ⟨(some 148), .mv (.t 15), none⟩,
  ⟨(some 149), .bin .shl (.c (.int .i64 1)) (.t 148), none⟩,
  ⟨(some 150), .bin .or (.t 147) (.t 149), none⟩,
  ⟨(some 151), .mv (.t 3), none⟩,
  ⟨(some 152), .load 6 true (.t 9), none⟩,
  ⟨(some 153), .pcall (.f 87) [(.t 143), (.t 146), (.t 150), (.t 151), (.t 152)], none⟩,
  ⟨none, .store 6 (.t 9) (.t 153), none⟩])
  .skip)))
 (.ops [
  ⟨(some 131), .mv (.t 15), none⟩,
  ⟨(some 132), .bin .add (.t 131) (.c (.int .i64 1)), none⟩,
  ⟨(some 15), .mv (.t 132), none⟩])))
/-- wishbook/wishbookref09.walk -/
def a87 : F := ⟨[.cell 10 6 true],
 (.seq (.ops [
  ⟨(some 5), .box (.t 0), none⟩,
  ⟨(some 9), .box (.t 4), none⟩,
  ⟨(some 10), .alloc [(.int .i64 0), (.sl [] .nil), (.int .i64 0), (.int .i64 0), (.int .i64 0), (.int .i64 0)], none⟩])
 (.seq (.seq (.ops [
  ⟨(some 16), .mv (.t 1), none⟩,
  ⟨(some 17), .len (.t 16), none⟩,
  ⟨(some 18), .fad 5 (.t 5), none⟩,
  ⟨(some 19), .load 1 false (.t 18), none⟩,
  ⟨(some 20), .len (.t 19), none⟩,
  ⟨(some 21), .bin .eql (.t 17) (.t 20), none⟩])
 (.cond (.t 21)
  (.seq (.ops [
  ⟨(some 11), .mv (.c (.int .i64 0)), none⟩])
 (.seq (.ops [
  ⟨(some 22), .nilfull, none⟩,
  ⟨(some 23), .fad 1 (.t 9), none⟩,
  ⟨(some 24), .load 1 false (.t 23), none⟩,
  ⟨(some 25), .appo 1 8 (.t 22) (.t 24), none⟩,
  ⟨(some 12), .mv (.t 25), none⟩])
 (.seq (.seq (.ops [
  ⟨(some 13), .mv (.c (.int .i64 0)), none⟩])
 (.block 0
  (.loop [1, 2, 5, 9, 10, 11, 12, 13] a87_L1)))
 (.seq (.seq (.ops [
  ⟨(some 69), .fad 0 (.t 9), none⟩,
  ⟨(some 70), .load 1 false (.t 69), none⟩,
  ⟨(some 71), .bin .eql (.t 70) (.c (.int .i64 0)), none⟩])
 (.cond (.t 71)
  (.seq (.ops [
  ⟨(some 72), .mv (.t 12), none⟩,
  ⟨(some 73), .mv (.t 2), none⟩,
  ⟨(some 74), .mv (.t 2), none⟩,
  ⟨(some 75), .mv (.t 11), none⟩,
  ⟨(some 76), .mv (.t 11), none⟩,
  ⟨(some 77), .pcall (.f 43) [(.t 75), (.t 76)], none⟩,
  ⟨(some 78), .build [(.int .i64 0), (.sl [] .nil), (.int .i64 0), (.int .i64 0), (.int .i64 0), (.int .i64 0)] [(0, 1, (.c (.int .i64 1))), (1, 1, (.t 72)), (2, 1, (.t 73)), (3, 1, (.t 74)), (4, 2, (.t 77))], none⟩,
  ⟨none, .store 6 (.t 10) (.t 78), none⟩])
 .ret)
  .skip))
 (.seq (.ops [
  ⟨(some 79), .fad 0 (.t 9), none⟩,
  ⟨(some 80), .load 1 false (.t 79), none⟩,
  ⟨(some 81), .bin .add (.t 80) (.c (.int .i64 1)), none⟩,
  ⟨(some 82), .mv (.t 12), none⟩,
  ⟨(some 83), .fad 2 (.t 9), none⟩,
  ⟨(some 84), .load 1 false (.t 83), none⟩,
  ⟨(some 85), .mv (.t 2), none⟩,
  ⟨(some 86), .bin .and (.t 84) (.t 85), none⟩,
  ⟨(some 87), .fad 3 (.t 9), none⟩,
  ⟨(some 88), .load 1 false (.t 87), none⟩,
  ⟨(some 89), .mv (.t 2), none⟩,
  ⟨(some 90), .bin .or (.t 88) (.t 89), none⟩,
  ⟨(some 91), .fad 4 (.t 9), none⟩,
  ⟨(some 92), .fad 0 (.t 91), none⟩,
  ⟨(some 93), .load 1 false (.t 92), none⟩,
  ⟨(some 94), .mv (.t 11), none⟩,
  ⟨(some 95), .mn (.t 93) [(.t 94)], none⟩,
  ⟨(some 96), .fad 4 (.t 9), none⟩,
  ⟨(some 97), .fad 1 (.t 96), none⟩,
  ⟨(some 98), .load 1 false (.t 97), none⟩,
  ⟨(some 99), .mv (.t 11), none⟩,
  ⟨(some 100), .mx (.t 98) [(.t 99)], none⟩,
  ⟨(some 101), .pcall (.f 43) [(.t 95), (.t 100)], none⟩,
  ⟨(some 102), .build [(.int .i64 0), (.sl [] .nil), (.int .i64 0), (.int .i64 0), (.int .i64 0), (.int .i64 0)] [(0, 1, (.t 81)), (1, 1, (.t 82)), (2, 1, (.t 86)), (3, 1, (.t 90)), (4, 2, (.t 101))], none⟩,
  ⟨none, .store 6 (.t 10) (.t 102), none⟩])
 .ret)))))
  .skip))
 (.seq (.ops [
  ⟨(some 103), .mv (.t 1), none⟩,
  ⟨(some 104), .len (.t 103), none⟩,
  ⟨(some 14), .mv (.t 104), none⟩])
 (.seq (.seq (.ops [
  ⟨(some 105), .fad 5 (.t 5), none⟩,
  ⟨(some 106), .load 1 false (.t 105), none⟩,
  ⟨(some 107), .mv (.t 14), none⟩,
  ⟨(some 108), .iad 5 (.t 106) (.t 107), none⟩,
  ⟨(some 109), .fad 4 (.t 108), none⟩,
  ⟨(some 110), .load 1 false (.t 109), none⟩,
  ⟨(some 111), .not (.t 110), none⟩,
  ⟨(some 112), .mv (.t 111), none⟩,
  ⟨(some 113), .mv (.t 3), (some (112, true))⟩,
  ⟨(some 114), .fad 3 (.t 5), (some (112, true))⟩,
  ⟨(some 115), .load 1 false (.t 114), (some (112, true))⟩,
  ⟨(some 116), .bin .lss (.t 113) (.t 115), (some (112, true))⟩,
  ⟨(some 117), .pick (.t 112) (.t 116) (.c (.bool false)), none⟩])
 (.cond (.t 117)
  (.ops [
  ⟨(some 118), .load 6 true (.t 5), none⟩,
  ⟨(some 119), .mv (.t 1), none⟩,
  ⟨(some 120), .pcall (.f 90) [(.t 119), (.c (.int .i64 (-1)))], none⟩,
  ⟨(some 121), .mv (.t 2), none⟩,
  ⟨(some 122), .mv (.t 3), none⟩,
  ⟨(some 123), .bin .add (.t 122) (.c (.int .i64 1)), none⟩,
  ⟨(some 124), .load 6 true (.t 9), none⟩,
  ⟨(some 125), .pcall (.f 87) [(.t 118), (.t 120), (.t 121), (.t 123), (.t 124)], none⟩,
  ⟨none, .store 6 (.t 9) (.t 125), none⟩])
  .skip))
 (.seq (.seq (.ops [
  ⟨(some 15), .mv (.c (.int .i64 0)), none⟩])
 (.block 2
  (.loop [1, 2, 3, 5, 9, 10, 14, 15] a87_L2)))
 (.seq (.ops [
  ⟨(some 154), .load 6 true (.t 9), none⟩,
  ⟨none, .store 6 (.t 10) (.t 154), none⟩])
 .ret)))))), false, 5⟩

/-- wishbook/claim.least$1 -/
def a88 : F := ⟨[.tmp 4],
 (.seq (.ops [
  ⟨(some 4), .mv (.c (.int .i64 0)), none⟩])
 (.seq (.ops [
  ⟨(some 5), .mv (.t 0), none⟩,
  ⟨(some 6), .mv (.t 1), none⟩,
  ⟨(some 7), .mn (.t 5) [(.t 6)], none⟩,
  ⟨(some 4), .mv (.t 7), none⟩])
 .ret)), false, 2⟩

/-- wishbook/wishbookref00.Bare -/
def a89 : F := ⟨[.tmp 2],
 (.seq (.ops [
  ⟨(some 2), .mv (.c (.int .i64 0)), none⟩])
 (.seq (.seq (.ops [
  ⟨(some 3), .mv (.t 0), none⟩,
  ⟨(some 4), .bin .lss (.t 3) (.c (.int .i64 0)), none⟩])
 (.cond (.t 4)
  (.seq (.ops [
  ⟨(some 5), .mv (.t 0), none⟩,
  ⟨(some 6), .neg (.t 5), none⟩,
  ⟨(some 2), .mv (.t 6), none⟩])
 .ret)
  .skip))
 (.seq (.ops [
  ⟨(some 7), .mv (.t 0), none⟩,
  ⟨(some 2), .mv (.t 7), none⟩])
 .ret))), false, 1⟩

/-- wishbook/wishbookref00.With -/
def a90 : F := ⟨[.tmp 4],
 (.seq (.ops [
  ⟨(some 4), .mv (.c (.sl [] .nil)), none⟩])
 (.seq (.ops [
  ⟨(some 5), .nilfull, none⟩,
  ⟨(some 6), .mv (.t 0), none⟩,
  ⟨(some 7), .app 7 1 8 (.t 5) (.t 6), none⟩,
  ⟨(some 8), .mv (.t 1), none⟩,
  ⟨(some 9), .bsl [(.int .i64 0)] 1 [(0, (.t 8))], none⟩,
  ⟨(some 10), .app 10 1 8 (.t 7) (.t 9), none⟩,
  ⟨(some 4), .mv (.t 10), none⟩])
 .ret)), false, 2⟩

/-- (wishbook/claim.desk).day -/
def a107 : F := ⟨[.tmp 6],
 (.seq (.ops [
  ⟨(some 3), .box (.t 0), none⟩,
  ⟨(some 4), .box (.t 1), none⟩,
  ⟨(some 5), .box (.t 2), none⟩,
  ⟨(some 6), .mv (.c (.bool false)), none⟩])
 (.seq (.ops [
  ⟨(some 7), .fad 0 (.t 4), none⟩,
  ⟨(some 8), .load 1 false (.t 7), none⟩,
  ⟨(some 9), .fad 0 (.t 5), none⟩,
  ⟨(some 10), .load 1 false (.t 9), none⟩,
  ⟨(some 11), .bin .sub (.t 8) (.t 10), none⟩,
  ⟨(some 12), .fad 0 (.t 3), none⟩,
  ⟨(some 13), .fad 0 (.t 12), none⟩,
  ⟨(some 14), .fad 0 (.t 13), none⟩,
  ⟨(some 15), .load 1 false (.t 14), none⟩,
  ⟨(some 16), .fad 0 (.t 3), none⟩,
  ⟨(some 17), .fad 0 (.t 16), none⟩,
  ⟨(some 18), .fad 1 (.t 17), none⟩,
  ⟨(some 19), .load 1 false (.t 18), none⟩,
  ⟨(some 20), .pcall (.f 58) [(.t 11), (.t 15), (.t 19)], none⟩,
  ⟨(some 6), .mv (.t 20), none⟩])
 .ret)), false, 3⟩

/-- (wishbook/claim.desk).weight -/
def a108 : F := ⟨[.tmp 6],
 (.seq (.ops [
  ⟨(some 3), .box (.t 0), none⟩,
  ⟨(some 4), .box (.t 1), none⟩,
  ⟨(some 5), .box (.t 2), none⟩,
  ⟨(some 6), .mv (.c (.bool false)), none⟩])
 (.seq (.ops [
  ⟨(some 7), .fad 1 (.t 4), none⟩,
  ⟨(some 8), .fad 0 (.t 7), none⟩,
  ⟨(some 9), .load 1 false (.t 8), none⟩,
  ⟨(some 10), .fad 1 (.t 5), none⟩,
  ⟨(some 11), .load 1 false (.t 10), none⟩,
  ⟨(some 12), .bin .leq (.t 9) (.t 11), none⟩,
  ⟨(some 13), .mv (.t 12), none⟩,
  ⟨(some 14), .fad 1 (.t 4), (some (13, true))⟩,
  ⟨(some 15), .fad 1 (.t 14), (some (13, true))⟩,
  ⟨(some 16), .load 1 false (.t 15), (some (13, true))⟩,
  ⟨(some 17), .fad 1 (.t 5), (some (13, true))⟩,
  ⟨(some 18), .load 1 false (.t 17), (some (13, true))⟩,
  ⟨(some 19), .fad 0 (.t 3), (some (13, true))⟩,
  ⟨(some 20), .fad 2 (.t 19), (some (13, true))⟩,
  ⟨(some 21), .load 1 false (.t 20), (some (13, true))⟩,
  ⟨(some 22), .bin .sub (.t 18) (.t 21), (some (13, true))⟩,
  ⟨(some 23), .bin .geq (.t 16) (.t 22), (some (13, true))⟩,
  ⟨(some 24), .pick (.t 13) (.t 23) (.c (.bool false)), none⟩,
  ⟨(some 6), .mv (.t 24), none⟩])
 .ret)), false, 3⟩

def a109_L1 : C := (.seq (.ops [
  ⟨(some 16), .bin .lss (.t 15) (.t 14), none⟩])
 (.seq (.cond (.t 16)
  .skip
  (.exit 0))
 (.seq (.block 1
  (.seq (.ops [
  ⟨(some 17), .mv (.t 15), none⟩,
  ⟨(some 8), .mv (.t 17), none⟩])
 (.seq (.ops [
  ⟨(some 18), .fad 3 (.t 4), none⟩,
  ⟨(some 19), .load 1 false (.t 18), none⟩,
  ⟨(some 20), .fad 3 (.t 4), none⟩,
  ⟨(some 21), .load 1 false (.t 20), none⟩,
  ⟨(some 22), .lens (.t 21), none⟩,
  ⟨(some 23), .bin .sub (.t 22) (.c (.int .i64 1)), none⟩,
  ⟨(some 24), .mv (.t 8), none⟩,
  ⟨(some 25), .bin .sub (.t 23) (.t 24), none⟩,
  ⟨(some 26), .ixs (.t 19) (.t 25), none⟩,
  ⟨(some 9), .mv (.t 26), none⟩])
 (.seq (.seq (.ops [
  ⟨(some 27), .mv (.t 9), none⟩,
  ⟨(some 28), .bin .neq (.t 27) (.c (.int .u8 63)), none⟩,
  ⟨(some 29), .mv (.t 28), none⟩,
  ⟨(some 30), .mv (.t 9), (some (29, true))⟩,
  ⟨(some 31), .bin .sub (.t 30) (.c (.int .u8 48)), (some (29, true))⟩,
  ⟨(some 32), .cvt (.int .i64) (.t 31), (some (29, true))⟩,
  ⟨(some 33), .mv (.t 7), (some (29, true))⟩,
  ⟨(some 34), .bin .rem (.t 33) (.c (.int .i64 10)), (some (29, true))⟩,
  ⟨(some 35), .bin .neq (.t 32) (.t 34), (some (29, true))⟩,
  ⟨(some 36), .pick (.t 29) (.t 35) (.c (.bool false)), none⟩])
 (.cond (.t 36)
  (.seq (.ops [
  ⟨(some 6), .mv (.c (.bool false)), none⟩])
 .ret)
  .skip))
 (.ops [
  ⟨(some 37), .mv (.t 7), none⟩,
  ⟨(some 38), .bin .quo (.t 37) (.c (.int .i64 10)), none⟩,
  ⟨(some 7), .mv (.t 38), none⟩])))))
 (.ops [
  ⟨(some 39), .bin .add (.t 15) (.c (.int .i64 1)), none⟩,
  ⟨(some 15), .mv (.t 39), none⟩]))))
/-- (wishbook/claim.desk).seal -/
def a109 : F := ⟨[.tmp 6],
 (.seq (.ops [
  ⟨(some 3), .box (.t 0), none⟩,
  ⟨(some 4), .box (.t 1), none⟩,
  ⟨(some 5), .box (.t 2), none⟩,
  ⟨(some 6), .mv (.c (.bool false)), none⟩])
 (.seq (.ops [
  ⟨(some 10), .fad 2 (.t 5), none⟩,
  ⟨(some 11), .load 1 false (.t 10), none⟩,
  ⟨(some 7), .mv (.t 11), none⟩])
 (.seq (.seq (.ops [
  ⟨(some 12), .fad 3 (.t 4), none⟩,
  ⟨(some 13), .load 1 false (.t 12), none⟩,
  ⟨(some 14), .lens (.t 13), none⟩,
  ⟨(some 15), .mv (.c (.int .i64 0)), none⟩])
 (.block 0
  (.loop [4, 6, 7, 14, 15] a109_L1)))
 (.seq (.ops [
  ⟨(some 6), .mv (.c (.bool true)), none⟩])
 .ret)))), false, 3⟩

/-- gosem.cut.vars -/
def a113 : F := ⟨[],
 (.ops [
  ⟨(some 0), .build [.nilF, .nilF, .nilF] [(0, 1, (.f 107)), (1, 1, (.f 108)), (2, 1, (.f 109))], none⟩,
  ⟨none, .store 3 (.g 0) (.t 0), none⟩]), false, 0⟩

/-- wishbook/wishbooklaw09.desk#1 -/
def a1050 : F := ⟨[.cell 0 6 true],
 (.seq (.ops [
  ⟨(some 0), .alloc [(.int .i64 0), (.int .i64 0), (.int .i64 0), (.int .i64 0), (.sl [] .nil), (.sl [] .nil)], none⟩])
 (.seq (.ops [
  ⟨(some 1), .pcall (.f 43) [(.c (.int .i64 3)), (.c (.int .i64 60))], none⟩,
  ⟨(some 2), .build [(.int .i64 0), (.int .i64 0), (.int .i64 0), (.int .i64 0)] [(0, 1, (.c (.int .i64 100))), (1, 1, (.c (.int .i64 1500))), (2, 1, (.c (.int .i64 417))), (3, 1, (.c (.int .i64 900)))], none⟩,
  ⟨(some 3), .build [(.int .i64 0), (.int .i64 0), (.int .i64 0), (.int .i64 0)] [(0, 1, (.c (.int .i64 100))), (1, 1, (.c (.int .i64 1600))), (2, 1, (.c (.int .i64 447))), (3, 1, (.c (.int .i64 300)))], none⟩,
  ⟨(some 4), .build [(.int .i64 0), (.int .i64 0), (.int .i64 0), (.int .i64 0)] [(0, 1, (.c (.int .i64 130))), (1, 1, (.c (.int .i64 900))), (2, 1, (.c (.int .i64 52))), (3, 1, (.c (.int .i64 500)))], none⟩,
  ⟨(some 5), .bslo [(.int .i64 0), (.int .i64 0), (.int .i64 0), (.int .i64 0)] 3 [(0, (.t 2)), (1, (.t 3)), (2, (.t 4))], none⟩,
  ⟨(some 6), .pcall (.f 43) [(.c (.int .i64 1400)), (.c (.int .i64 1450))], none⟩,
  ⟨(some 7), .build [(.int .i64 0), (.int .i64 0), (.int .i64 0), (.str []), (.bool false)] [(0, 1, (.c (.int .i64 120))), (1, 2, (.t 6)), (3, 1, (.c (.str [48, 52, 63, 55])))], none⟩,
  ⟨(some 8), .pcall (.f 43) [(.c (.int .i64 1550)), (.c (.int .i64 1600))], none⟩,
  ⟨(some 9), .build [(.int .i64 0), (.int .i64 0), (.int .i64 0), (.str []), (.bool false)] [(0, 1, (.c (.int .i64 150))), (1, 2, (.t 8)), (4, 1, (.c (.bool true)))], none⟩,
  ⟨(some 10), .pcall (.f 43) [(.c (.int .i64 700)), (.c (.int .i64 720))], none⟩,
  ⟨(some 11), .build [(.int .i64 0), (.int .i64 0), (.int .i64 0), (.str []), (.bool false)] [(0, 1, (.c (.int .i64 135))), (1, 2, (.t 10)), (3, 1, (.c (.str [48, 63, 53, 50])))], none⟩,
  ⟨(some 12), .bslo [(.int .i64 0), (.int .i64 0), (.int .i64 0), (.str []), (.bool false)] 3 [(0, (.t 7)), (1, (.t 9)), (2, (.t 11))], none⟩,
  ⟨(some 13), .build [(.int .i64 0), (.int .i64 0), (.int .i64 0), (.int .i64 0), (.sl [] .nil), (.sl [] .nil)] [(0, 2, (.t 1)), (2, 1, (.c (.int .i64 200))), (3, 1, (.c (.int .i64 1))), (4, 1, (.t 5)), (5, 1, (.t 12))], none⟩,
  ⟨none, .store 6 (.t 0) (.t 13), none⟩])
 .ret)), true, 0⟩

def tyL : List (Option TyI) := [
  none,
  some ⟨.fn, 1, 8, .nilF⟩,
  some ⟨(.int .i64), 1, 8, (.int .i64 0)⟩,
  some ⟨(.int .i64), 1, 8, (.int .i64 0)⟩,
  some ⟨.bool, 1, 1, (.bool false)⟩,
  some ⟨(.int .u8), 1, 1, (.int .u8 0)⟩,
  some ⟨(.int .u8), 1, 1, (.int .u8 0)⟩,
  some ⟨(.st [(2, 0), (3, 1), (4, 2), (6, 3)]), 4, 24, (.agg [(.int .i64 0), (.int .i64 0), (.bool false), (.int .u8 0)])⟩,
  none,
  some ⟨.str, 1, 16, (.str [])⟩,
  none,
  none,
  none,
  none,
  none,
  some ⟨(.ptr 120), 1, 8, .nilP⟩,
  some ⟨(.ptr 123), 1, 8, .nilP⟩,
  none,
  none,
  none,
  none,
  some ⟨(.int .i32), 1, 4, (.int .i32 0)⟩,
  some ⟨(.st [(3, 0), (3, 1)]), 2, 16, (.agg [(.int .i64 0), (.int .i64 0)])⟩,
  some ⟨(.st [(3, 0), (3, 1)]), 2, 16, (.agg [(.int .i64 0), (.int .i64 0)])⟩,
  some ⟨(.sl 56), 1, 24, (.sl [] .nil)⟩,
  some ⟨(.sl 64), 1, 24, (.sl [] .nil)⟩,
  some ⟨(.st [(23, 0), (3, 2), (3, 3), (24, 4), (25, 5)]), 6, 80, (.agg [(.int .i64 0), (.int .i64 0), (.int .i64 0), (.int .i64 0), (.sl [] .nil), (.sl [] .nil)])⟩,
  some ⟨(.st [(23, 0), (3, 2), (3, 3), (24, 4), (25, 5)]), 6, 80, (.agg [(.int .i64 0), (.int .i64 0), (.int .i64 0), (.int .i64 0), (.sl [] .nil), (.sl [] .nil)])⟩,
  some ⟨(.arr 2 3), 2, 16, (.agg [(.int .i64 0), (.int .i64 0)])⟩,
  some ⟨(.sl 3), 1, 24, (.sl [] .nil)⟩,
  some ⟨(.int .i64), 1, 8, (.int .i64 0)⟩,
  none,
  some ⟨.fn, 1, 8, .nilF⟩,
  some ⟨.fn, 1, 8, .nilF⟩,
  some ⟨.fn, 1, 8, .nilF⟩,
  none,
  some ⟨.fn, 1, 8, .nilF⟩,
  some ⟨.fn, 1, 8, .nilF⟩,
  some ⟨.fn, 1, 8, .nilF⟩,
  some ⟨.fn, 1, 8, .nilF⟩,
  some ⟨.fn, 1, 8, .nilF⟩,
  none,
  some ⟨.fn, 1, 8, .nilF⟩,
  some ⟨.fn, 1, 8, .nilF⟩,
  none,
  some ⟨.fn, 1, 8, .nilF⟩,
  none,
  some ⟨.fn, 1, 8, .nilF⟩,
  some ⟨.fn, 1, 8, .nilF⟩,
  some ⟨.fn, 1, 8, .nilF⟩,
  none,
  some ⟨.fn, 1, 8, .nilF⟩,
  some ⟨.fn, 1, 8, .nilF⟩,
  some ⟨.fn, 1, 8, .nilF⟩,
  some ⟨.fn, 1, 8, .nilF⟩,
  some ⟨(.st [(3, 0), (3, 1), (3, 2), (3, 3)]), 4, 32, (.agg [(.int .i64 0), (.int .i64 0), (.int .i64 0), (.int .i64 0)])⟩,
  some ⟨(.st [(3, 0), (3, 1), (3, 2), (3, 3)]), 4, 32, (.agg [(.int .i64 0), (.int .i64 0), (.int .i64 0), (.int .i64 0)])⟩,
  some ⟨.fn, 1, 8, .nilF⟩,
  some ⟨.fn, 1, 8, .nilF⟩,
  some ⟨.fn, 1, 8, .nilF⟩,
  some ⟨.fn, 1, 8, .nilF⟩,
  some ⟨.fn, 1, 8, .nilF⟩,
  some ⟨.fn, 1, 8, .nilF⟩,
  some ⟨(.st [(3, 0), (23, 1), (9, 3), (4, 4)]), 5, 48, (.agg [(.int .i64 0), (.int .i64 0), (.int .i64 0), (.str []), (.bool false)])⟩,
  some ⟨(.st [(3, 0), (23, 1), (9, 3), (4, 4)]), 5, 48, (.agg [(.int .i64 0), (.int .i64 0), (.int .i64 0), (.str []), (.bool false)])⟩,
  some ⟨.fn, 1, 8, .nilF⟩,
  some ⟨.fn, 1, 8, .nilF⟩,
  some ⟨.fn, 1, 8, .nilF⟩,
  some ⟨.fn, 1, 8, .nilF⟩,
  some ⟨(.arr 3 3), 3, 24, (.agg [(.int .i64 0), (.int .i64 0), (.int .i64 0)])⟩,
  some ⟨.fn, 1, 8, .nilF⟩,
  some ⟨.fn, 1, 8, .nilF⟩,
  some ⟨.fn, 1, 8, .nilF⟩,
  some ⟨(.sl 27), 1, 24, (.sl [] .nil)⟩,
  some ⟨(.sl 29), 1, 24, (.sl [] .nil)⟩,
  some ⟨(.st [(27, 0)]), 6, 80, (.agg [(.int .i64 0), (.int .i64 0), (.int .i64 0), (.int .i64 0), (.sl [] .nil), (.sl [] .nil)])⟩,
  some ⟨(.st [(27, 0)]), 6, 80, (.agg [(.int .i64 0), (.int .i64 0), (.int .i64 0), (.int .i64 0), (.sl [] .nil), (.sl [] .nil)])⟩,
  some ⟨.fn, 1, 8, .nilF⟩,
  some ⟨.fn, 1, 8, .nilF⟩,
  some ⟨.fn, 1, 8, .nilF⟩,
  some ⟨.fn, 1, 8, .nilF⟩,
  some ⟨.fn, 1, 8, .nilF⟩,
  some ⟨(.arr 8 4), 8, 8, (.agg [(.bool false), (.bool false), (.bool false), (.bool false), (.bool false), (.bool false), (.bool false), (.bool false)])⟩,
  some ⟨(.arr 8 4), 8, 8, (.agg [(.bool false), (.bool false), (.bool false), (.bool false), (.bool false), (.bool false), (.bool false), (.bool false)])⟩,
  some ⟨.fn, 1, 8, .nilF⟩,
  none,
  some ⟨.fn, 1, 8, .nilF⟩,
  some ⟨.fn, 1, 8, .nilF⟩,
  some ⟨(.map 3 3), 1, 8, .nilM⟩,
  some ⟨.fn, 1, 8, .nilF⟩,
  some ⟨.fn, 1, 8, .nilF⟩,
  some ⟨(.map 100 3), 1, 8, .nilM⟩,
  some ⟨(.st [(60, 0)]), 1, 8, (.agg [.nilF])⟩,
  some ⟨(.st [(60, 0)]), 1, 8, (.agg [.nilF])⟩,
  some ⟨(.st [(76, 0), (88, 6), (91, 7), (93, 8)]), 9, 104, (.agg [(.int .i64 0), (.int .i64 0), (.int .i64 0), (.int .i64 0), (.sl [] .nil), (.sl [] .nil), .nilM, .nilM, .nilF])⟩,
  some ⟨(.st [(76, 0), (88, 6), (91, 7), (93, 8)]), 9, 104, (.agg [(.int .i64 0), (.int .i64 0), (.int .i64 0), (.int .i64 0), (.sl [] .nil), (.sl [] .nil), .nilM, .nilM, .nilF])⟩,
  some ⟨.fn, 1, 8, .nilF⟩,
  some ⟨.fn, 1, 8, .nilF⟩,
  some ⟨.fn, 1, 8, .nilF⟩,
  some ⟨(.st [(3, 0), (3, 1), (3, 2)]), 3, 24, (.agg [(.int .i64 0), (.int .i64 0), (.int .i64 0)])⟩,
  some ⟨(.st [(3, 0), (3, 1), (3, 2)]), 3, 24, (.agg [(.int .i64 0), (.int .i64 0), (.int .i64 0)])⟩,
  some ⟨.fn, 1, 8, .nilF⟩,
  some ⟨(.st [(3, 0), (29, 1), (3, 2), (3, 3), (23, 4)]), 6, 64, (.agg [(.int .i64 0), (.sl [] .nil), (.int .i64 0), (.int .i64 0), (.int .i64 0), (.int .i64 0)])⟩,
  some ⟨(.st [(3, 0), (29, 1), (3, 2), (3, 3), (23, 4)]), 6, 64, (.agg [(.int .i64 0), (.sl [] .nil), (.int .i64 0), (.int .i64 0), (.int .i64 0), (.int .i64 0)])⟩,
  some ⟨.fn, 1, 8, .nilF⟩,
  some ⟨.fn, 1, 8, .nilF⟩,
  some ⟨.fn, 1, 8, .nilF⟩,
  some ⟨.fn, 1, 8, .nilF⟩,
  none,
  some ⟨.fn, 1, 8, .nilF⟩,
  some ⟨.fn, 1, 8, .nilF⟩,
  some ⟨(.arr 3 110), 3, 24, (.agg [.nilF, .nilF, .nilF])⟩,
  some ⟨.fn, 1, 8, .nilF⟩,
  some ⟨.fn, 1, 8, .nilF⟩,
  none,
  some ⟨.fn, 1, 8, .nilF⟩,
  some ⟨.fn, 1, 8, .nilF⟩,
  some ⟨.fn, 1, 8, .nilF⟩,
  some ⟨.fn, 1, 8, .nilF⟩,
  none,
  none,
  some ⟨(.arr 0 16), 0, 0, (.agg [])⟩,
  none,
  none,
  some ⟨.fn, 1, 8, .nilF⟩,
  some ⟨(.int .u32), 1, 4, (.int .u32 0)⟩,
  some ⟨(.int .u8), 1, 1, (.int .u8 0)⟩,
  some ⟨(.int .u8), 1, 1, (.int .u8 0)⟩,
  some ⟨.fn, 1, 8, .nilF⟩,
  some ⟨(.ptr 5), 1, 8, .nilP⟩,
  some ⟨(.int .i32), 1, 4, (.int .i32 0)⟩,
  none,
  none,
  none,
  none,
  some ⟨.fn, 1, 8, .nilF⟩]
def tyT (t : Nat) : Option TyI := (tyL[t]?).join

def fsT : Tr :=
  (.node 48 (.node 25 (.node 13 (.node 7 (.node 4 (.node 3 (.leaf 3 a3) (.leaf 4 a4)) (.node 5 (.leaf 5 a5) (.node 6 (.leaf 6 a6) (.leaf 7 a7)))) (.node 10 (.node 8 (.leaf 8 a8) (.node 9 (.leaf 9 a9) (.leaf 10 a10))) (.node 11 (.leaf 11 a11) (.node 12 (.leaf 12 a12) (.leaf 13 a13))))) (.node 19 (.node 16 (.node 14 (.leaf 14 a14) (.node 15 (.leaf 15 a15) (.leaf 16 a16))) (.node 17 (.leaf 17 a17) (.node 18 (.leaf 18 a18) (.leaf 19 a19)))) (.node 22 (.node 20 (.leaf 20 a20) (.node 21 (.leaf 21 a21) (.leaf 22 a22))) (.node 23 (.leaf 23 a23) (.node 24 (.leaf 24 a24) (.leaf 25 a25)))))) (.node 36 (.node 30 (.node 27 (.node 26 (.leaf 26 a26) (.leaf 27 a27)) (.node 28 (.leaf 28 a28) (.node 29 (.leaf 29 a29) (.leaf 30 a30)))) (.node 33 (.node 31 (.leaf 31 a31) (.node 32 (.leaf 32 a32) (.leaf 33 a33))) (.node 34 (.leaf 34 a34) (.node 35 (.leaf 35 a35) (.leaf 36 a36))))) (.node 42 (.node 39 (.node 37 (.leaf 37 a37) (.node 38 (.leaf 38 a38) (.leaf 39 a39))) (.node 40 (.leaf 40 a40) (.node 41 (.leaf 41 a41) (.leaf 42 a42)))) (.node 45 (.node 43 (.leaf 43 a43) (.node 44 (.leaf 44 a44) (.leaf 45 a45))) (.node 46 (.leaf 46 a46) (.node 47 (.leaf 47 a47) (.leaf 48 a48))))))) (.node 71 (.node 59 (.node 53 (.node 50 (.node 49 (.leaf 49 a49) (.leaf 50 a50)) (.node 51 (.leaf 51 a51) (.node 52 (.leaf 52 a52) (.leaf 53 a53)))) (.node 56 (.node 54 (.leaf 54 a54) (.node 55 (.leaf 55 a55) (.leaf 56 a56))) (.node 57 (.leaf 57 a57) (.node 58 (.leaf 58 a58) (.leaf 59 a59))))) (.node 65 (.node 62 (.node 60 (.leaf 60 a60) (.node 61 (.leaf 61 a61) (.leaf 62 a62))) (.node 63 (.leaf 63 a63) (.node 64 (.leaf 64 a64) (.leaf 65 a65)))) (.node 68 (.node 66 (.leaf 66 a66) (.node 67 (.leaf 67 a67) (.leaf 68 a68))) (.node 69 (.leaf 69 a69) (.node 70 (.leaf 70 a70) (.leaf 71 a71)))))) (.node 83 (.node 77 (.node 74 (.node 72 (.leaf 72 a72) (.node 73 (.leaf 73 a73) (.leaf 74 a74))) (.node 75 (.leaf 75 a75) (.node 76 (.leaf 76 a76) (.leaf 77 a77)))) (.node 80 (.node 78 (.leaf 78 a78) (.node 79 (.leaf 79 a79) (.leaf 80 a80))) (.node 81 (.leaf 81 a81) (.node 82 (.leaf 82 a82) (.leaf 83 a83))))) (.node 89 (.node 86 (.node 84 (.leaf 84 a84) (.node 85 (.leaf 85 a85) (.leaf 86 a86))) (.node 87 (.leaf 87 a87) (.node 88 (.leaf 88 a88) (.leaf 89 a89)))) (.node 108 (.node 90 (.leaf 90 a90) (.node 107 (.leaf 107 a107) (.leaf 108 a108))) (.node 109 (.leaf 109 a109) (.node 113 (.leaf 113 a113) (.leaf 1050 a1050))))))))
end Go.Ab
