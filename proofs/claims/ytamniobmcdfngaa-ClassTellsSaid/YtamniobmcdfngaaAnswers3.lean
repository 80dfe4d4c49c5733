/- The machine's texts of the functions of this seat, and that they are the program's. Printed by gen2.py. -/
import Derived.Test.YtamniobmcdfngaaChecked
import Derived.Test.YtamniobmcdfngaaMachine2
set_option linter.unusedSimpArgs false
set_option linter.unusedVariables false
/- The machine's texts of the functions of this seat, and that they are the program's. Printed by gen2.py. -/
set_option maxRecDepth 100000
namespace Go.Abs
@[reducible] def i_winnowerlaw12_RulesTable : FuncId := 3
@[reducible] def i_winnowerlaw5_ClassJoins : FuncId := 4
@[reducible] def i_winnowerlaw5_ClassTells : FuncId := 5
@[reducible] def i_winnowerlaw5_ClassTurned : FuncId := 6
@[reducible] def i_rules_Kind : FuncId := 7
@[reducible] def i_winnowerref12_Kind : FuncId := 8
@[reducible] def i_rules_Name : FuncId := 9
@[reducible] def i_winnowerref12_Name : FuncId := 10
@[reducible] def i_rules_Pattern : FuncId := 11
@[reducible] def i_winnowerref12_Pattern : FuncId := 12
@[reducible] def i_winnowerlaw12_known : FuncId := 13
@[reducible] def i_winnowerref5_Has : FuncId := 14
@[reducible] def i_class_Has : FuncId := 15
@[reducible] def i_class_Not : FuncId := 16
@[reducible] def i_class_Join : FuncId := 17
@[reducible] def i_winnowerref5_Join : FuncId := 18
@[reducible] def i_class_Meet : FuncId := 19
@[reducible] def i_winnowerref5_Meet : FuncId := 20
@[reducible] def i_winnowerlaw5_known : FuncId := 21
@[reducible] def i_class_List : FuncId := 22
@[reducible] def i_winnowerref5_List : FuncId := 23
@[reducible] def i_class_Ranges : FuncId := 24
@[reducible] def i_winnowerref5_Ranges : FuncId := 25
@[reducible] def i_class_Count : FuncId := 26
@[reducible] def i_class_Of : FuncId := 27
@[reducible] def i_winnowerref5_Of : FuncId := 28
@[reducible] def i_class_Range : FuncId := 29
@[reducible] def i_winnowerref5_Range : FuncId := 30
@[reducible] def i_slices_Index_string_string : FuncId := 31
@[reducible] def i_rules_names : FuncId := 32
@[reducible] def i_winnowerref5_Not : FuncId := 33
@[reducible] def i_math_bits_OnesCount64 : FuncId := 34
def a_winnowerlaw12_RulesTable : AFunc :=
{ ntmps := 47, results := [.t 4], body :=
  (.seq (.region false [⟨(some 4), .mov (.c (.bool false)), none⟩])
  (.seq (.seq (.region false [⟨(some 9), .mov (.t 1), none⟩,
    ⟨(some 10), .lenS (.t 9), none⟩,
    ⟨(some 11), .bin .gtr (.t 10) (.c (.int .i64 (100))), none⟩])
  (.cond (.t 11)
    (.seq (.region false [⟨(some 4), .mov (.c (.bool true)), none⟩])
    .ret)
    .skip))
  (.seq (.region false [⟨(some 13), .mov (.t 1), none⟩,
    ⟨(some 14), .call i_rules_Kind [(.t 13)], none⟩,
    ⟨(some 12), .mov (.t 14), none⟩,
    ⟨(some 15), .extract (.t 12) 0, none⟩,
    ⟨(some 16), .extract (.t 12) 1, none⟩,
    ⟨(some 5), .mov (.t 15), none⟩,
    ⟨(some 6), .mov (.t 16), none⟩])
  (.seq (.region false [⟨(some 18), .mov (.t 1), none⟩,
    ⟨(some 19), .call i_winnowerref12_Kind [(.t 18)], none⟩,
    ⟨(some 17), .mov (.t 19), none⟩,
    ⟨(some 20), .extract (.t 17) 0, none⟩,
    ⟨(some 21), .extract (.t 17) 1, none⟩,
    ⟨(some 7), .mov (.t 20), none⟩,
    ⟨(some 8), .mov (.t 21), none⟩])
  (.seq (.region false [⟨(some 22), .mov (.t 0), none⟩,
    ⟨(some 23), .call i_rules_Name [(.t 22)], none⟩,
    ⟨(some 24), .mov (.t 0), none⟩,
    ⟨(some 25), .call i_winnowerref12_Name [(.t 24)], none⟩,
    ⟨(some 26), .bin .eql (.t 23) (.t 25), none⟩,
    ⟨(some 27), .mov (.t 26), none⟩,
    ⟨(some 28), .mov (.t 0), (some (5, true))⟩,
    ⟨(some 29), .call i_rules_Pattern [(.t 28)], (some (5, true))⟩,
    ⟨(some 30), .mov (.t 0), (some (5, true))⟩,
    ⟨(some 31), .call i_winnowerref12_Pattern [(.t 30)], (some (5, true))⟩,
    ⟨(some 32), .bin .eql (.t 29) (.t 31), (some (5, true))⟩,
    ⟨(some 33), .pick (.t 27) (.t 32) (.c (.bool false)), none⟩,
    ⟨(some 34), .mov (.t 33), none⟩,
    ⟨(some 35), .mov (.t 5), (some (12, true))⟩,
    ⟨(some 36), .mov (.t 7), (some (12, true))⟩,
    ⟨(some 37), .bin .eql (.t 35) (.t 36), (some (12, true))⟩,
    ⟨(some 38), .pick (.t 34) (.t 37) (.c (.bool false)), none⟩,
    ⟨(some 39), .mov (.t 38), none⟩,
    ⟨(some 40), .mov (.t 6), (some (17, true))⟩,
    ⟨(some 41), .mov (.t 8), (some (17, true))⟩,
    ⟨(some 42), .eqv false .bool (.t 40) (.t 41), (some (17, true))⟩,
    ⟨(some 43), .pick (.t 39) (.t 42) (.c (.bool false)), none⟩,
    ⟨(some 44), .mov (.t 43), none⟩,
    ⟨(some 45), .call i_winnowerlaw12_known [], (some (22, true))⟩,
    ⟨(some 46), .pick (.t 44) (.t 45) (.c (.bool false)), none⟩,
    ⟨(some 4), .mov (.t 46), none⟩])
  .ret))))) }
def a_winnowerlaw5_ClassJoins : AFunc :=
{ ntmps := 72, results := [.t 4], body :=
  (.seq (.region false [⟨(some 4), .mov (.c (.bool false)), none⟩])
  (.seq (.seq (.region false [⟨(some 9), .mov (.t 0), none⟩,
    ⟨(some 10), .len (.t 9), none⟩,
    ⟨(some 11), .bin .gtr (.t 10) (.c (.int .i64 (50))), none⟩])
  (.cond (.t 11)
    (.seq (.region false [⟨(some 4), .mov (.c (.bool true)), none⟩])
    .ret)
    .skip))
  (.seq (.region false [⟨(some 5), .mov (.c (.bool false)), none⟩,
    ⟨(some 6), .mov (.c (.bool true)), none⟩])
  (.seq (.seq (.region false [⟨(some 7), .mov (.c (.int .i64 (0))), none⟩])
  (.block 0
    (.loop
      (.seq (.seq (.region false [⟨(some 12), .mov (.t 7), none⟩,
        ⟨(some 13), .mov (.t 0), none⟩,
        ⟨(some 14), .len (.t 13), none⟩,
        ⟨(some 15), .bin .lss (.t 12) (.t 14), none⟩])
      (.cond (.t 15)
        .skip
        (.exit 0)))
      (.seq (.block 1
        (.seq (.region false [⟨(some 18), .mov (.t 0), none⟩,
          ⟨(some 19), .mov (.t 7), none⟩,
          ⟨(some 20), .idxSl 4 (.t 18) (.t 19), none⟩,
          ⟨(some 21), .load (.tag 1) true 4 (.t 20), none⟩,
          ⟨(some 22), .mov (.t 1), none⟩,
          ⟨(some 23), .call i_winnowerref5_Has [(.t 21), (.t 22)], none⟩,
          ⟨(some 8), .mov (.t 23), none⟩])
        (.seq (.region false [⟨(some 24), .mov (.t 5), none⟩,
          ⟨(some 25), .mov (.t 24), none⟩,
          ⟨(some 26), .mov (.t 8), (some (1, false))⟩,
          ⟨(some 27), .pick (.t 25) (.c (.bool true)) (.t 26), none⟩,
          ⟨(some 28), .mov (.t 6), none⟩,
          ⟨(some 29), .mov (.t 28), none⟩,
          ⟨(some 30), .mov (.t 8), (some (5, true))⟩,
          ⟨(some 31), .pick (.t 29) (.t 30) (.c (.bool false)), none⟩,
          ⟨(some 5), .mov (.t 27), none⟩,
          ⟨(some 6), .mov (.t 31), none⟩])
        (.seq (.region false [⟨(some 32), .mov (.t 0), none⟩,
          ⟨(some 33), .mov (.t 7), none⟩,
          ⟨(some 34), .idxSl 4 (.t 32) (.t 33), none⟩,
          ⟨(some 35), .load (.tag 1) true 4 (.t 34), none⟩,
          ⟨(some 36), .call i_class_Not [(.t 35)], none⟩,
          ⟨(some 37), .mov (.t 1), none⟩,
          ⟨(some 38), .call i_class_Has [(.t 36), (.t 37)], none⟩,
          ⟨(some 39), .mov (.t 8), none⟩,
          ⟨(some 40), .eqv false .bool (.t 38) (.t 39), none⟩])
        (.cond (.t 40)
          (.seq (.region false [⟨(some 4), .mov (.c (.bool false)), none⟩])
          .ret)
          .skip)))))
      (.region false [⟨(some 16), .mov (.t 7), none⟩,
        ⟨(some 17), .bin .add (.t 16) (.c (.int .i64 (1))), none⟩,
        ⟨(some 7), .mov (.t 17), none⟩]))))))
  (.seq (.region false [⟨(some 41), .mov (.t 0), none⟩,
    ⟨(some 42), .call i_class_Join [(.t 41)], none⟩,
    ⟨(some 43), .mov (.t 0), none⟩,
    ⟨(some 44), .call i_winnowerref5_Join [(.t 43)], none⟩,
    ⟨(some 45), .eqv false (.arr 4 1 .int) (.t 42) (.t 44), none⟩,
    ⟨(some 46), .mov (.t 45), none⟩,
    ⟨(some 47), .mov (.t 0), (some (5, true))⟩,
    ⟨(some 48), .call i_class_Meet [(.t 47)], (some (5, true))⟩,
    ⟨(some 49), .mov (.t 0), (some (5, true))⟩,
    ⟨(some 50), .call i_winnowerref5_Meet [(.t 49)], (some (5, true))⟩,
    ⟨(some 51), .eqv false (.arr 4 1 .int) (.t 48) (.t 50), (some (5, true))⟩,
    ⟨(some 52), .pick (.t 46) (.t 51) (.c (.bool false)), none⟩,
    ⟨(some 53), .mov (.t 52), none⟩,
    ⟨(some 54), .mov (.t 0), (some (12, true))⟩,
    ⟨(some 55), .call i_class_Join [(.t 54)], (some (12, true))⟩,
    ⟨(some 56), .mov (.t 1), (some (12, true))⟩,
    ⟨(some 57), .call i_class_Has [(.t 55), (.t 56)], (some (12, true))⟩,
    ⟨(some 58), .mov (.t 5), (some (12, true))⟩,
    ⟨(some 59), .eqv false .bool (.t 57) (.t 58), (some (12, true))⟩,
    ⟨(some 60), .pick (.t 53) (.t 59) (.c (.bool false)), none⟩,
    ⟨(some 61), .mov (.t 60), none⟩,
    ⟨(some 62), .mov (.t 0), (some (20, true))⟩,
    ⟨(some 63), .call i_class_Meet [(.t 62)], (some (20, true))⟩,
    ⟨(some 64), .mov (.t 1), (some (20, true))⟩,
    ⟨(some 65), .call i_class_Has [(.t 63), (.t 64)], (some (20, true))⟩,
    ⟨(some 66), .mov (.t 6), (some (20, true))⟩,
    ⟨(some 67), .eqv false .bool (.t 65) (.t 66), (some (20, true))⟩,
    ⟨(some 68), .pick (.t 61) (.t 67) (.c (.bool false)), none⟩,
    ⟨(some 69), .mov (.t 68), none⟩,
    ⟨(some 70), .call i_winnowerlaw5_known [], (some (28, true))⟩,
    ⟨(some 71), .pick (.t 69) (.t 70) (.c (.bool false)), none⟩,
    ⟨(some 4), .mov (.t 71), none⟩])
  .ret))))) }
def a_winnowerlaw5_ClassTells : AFunc :=
{ ntmps := 85, results := [.t 8], body :=
  (.seq (.region false [⟨(some 5), .box true 1 (.t 1), none⟩,
    ⟨(some 8), .mov (.c (.bool false)), none⟩])
  (.seq (.seq (.region false [⟨(some 14), .mov (.t 0), none⟩,
    ⟨(some 15), .len (.t 14), none⟩,
    ⟨(some 16), .bin .gtr (.t 15) (.c (.int .i64 (500))), none⟩])
  (.cond (.t 16)
    (.seq (.region false [⟨(some 8), .mov (.c (.bool true)), none⟩])
    .ret)
    .skip))
  (.seq (.region true [⟨(some 17), .load (.reg 5) true 4 (.t 5), none⟩,
    ⟨(some 18), .call i_class_List [(.t 17)], none⟩,
    ⟨(some 19), .load (.reg 5) true 4 (.t 5), none⟩,
    ⟨(some 20), .call i_winnowerref5_List [(.t 19)], none⟩,
    ⟨(some 9), .mov (.t 18), none⟩,
    ⟨(some 10), .mov (.t 20), none⟩])
  (.seq (.region true [⟨(some 21), .load (.reg 5) true 4 (.t 5), none⟩,
    ⟨(some 22), .call i_class_Ranges [(.t 21)], none⟩,
    ⟨(some 23), .load (.reg 5) true 4 (.t 5), none⟩,
    ⟨(some 24), .call i_winnowerref5_Ranges [(.t 23)], none⟩,
    ⟨(some 11), .mov (.t 22), none⟩,
    ⟨(some 12), .mov (.t 24), none⟩])
  (.seq (.seq (.region false [⟨(some 25), .mov (.t 9), none⟩,
    ⟨(some 26), .strOf (.t 25), none⟩,
    ⟨(some 27), .mov (.t 10), none⟩,
    ⟨(some 28), .strOf (.t 27), none⟩,
    ⟨(some 29), .bin .neq (.t 26) (.t 28), none⟩,
    ⟨(some 30), .mov (.t 29), none⟩,
    ⟨(some 31), .mov (.t 11), (some (5, false))⟩,
    ⟨(some 32), .len (.t 31), (some (5, false))⟩,
    ⟨(some 33), .mov (.t 12), (some (5, false))⟩,
    ⟨(some 34), .len (.t 33), (some (5, false))⟩,
    ⟨(some 35), .bin .neq (.t 32) (.t 34), (some (5, false))⟩,
    ⟨(some 36), .pick (.t 30) (.c (.bool true)) (.t 35), none⟩,
    ⟨(some 37), .mov (.t 36), none⟩,
    ⟨(some 38), .load (.reg 5) true 4 (.t 5), (some (12, false))⟩,
    ⟨(some 39), .call i_class_Count [(.t 38)], (some (12, false))⟩,
    ⟨(some 40), .mov (.t 10), (some (12, false))⟩,
    ⟨(some 41), .len (.t 40), (some (12, false))⟩,
    ⟨(some 42), .bin .neq (.t 39) (.t 41), (some (12, false))⟩,
    ⟨(some 43), .pick (.t 37) (.c (.bool true)) (.t 42), none⟩])
  (.cond (.t 43)
    (.seq (.region false [⟨(some 8), .mov (.c (.bool false)), none⟩])
    .ret)
    .skip))
  (.seq (.seq (.region false [⟨(some 13), .mov (.c (.int .i64 (0))), none⟩])
  (.block 0
    (.loop
      (.seq (.seq (.region false [⟨(some 44), .mov (.t 13), none⟩,
        ⟨(some 45), .mov (.t 11), none⟩,
        ⟨(some 46), .len (.t 45), none⟩,
        ⟨(some 47), .bin .lss (.t 44) (.t 46), none⟩])
      (.cond (.t 47)
        .skip
        (.exit 0)))
      (.seq (.block 1
        (.seq (.region true [⟨(some 50), .mov (.t 11), none⟩,
          ⟨(some 51), .mov (.t 13), none⟩,
          ⟨(some 52), .idxSl 2 (.t 50) (.t 51), none⟩,
          ⟨(some 53), .load (.tag 2) true 2 (.t 52), none⟩,
          ⟨(some 54), .mov (.t 12), none⟩,
          ⟨(some 55), .mov (.t 13), none⟩,
          ⟨(some 56), .idxSl 2 (.t 54) (.t 55), none⟩,
          ⟨(some 57), .load (.tag 2) true 2 (.t 56), none⟩,
          ⟨(some 58), .eqv true (.arr 2 1 .int) (.t 53) (.t 57), none⟩])
        (.cond (.t 58)
          (.seq (.region false [⟨(some 8), .mov (.c (.bool false)), none⟩])
          .ret)
          .skip)))
      (.region false [⟨(some 48), .mov (.t 13), none⟩,
        ⟨(some 49), .bin .add (.t 48) (.c (.int .i64 (1))), none⟩,
        ⟨(some 13), .mov (.t 49), none⟩]))))))
  (.seq (.region true [⟨(some 59), .mov (.t 0), none⟩,
    ⟨(some 60), .call i_class_Of [(.t 59)], none⟩,
    ⟨(some 61), .mov (.t 0), none⟩,
    ⟨(some 62), .call i_winnowerref5_Of [(.t 61)], none⟩,
    ⟨(some 63), .eqv false (.arr 4 1 .int) (.t 60) (.t 62), none⟩,
    ⟨(some 64), .mov (.t 63), none⟩,
    ⟨(some 65), .mov (.t 2), (some (5, true))⟩,
    ⟨(some 66), .mov (.t 3), (some (5, true))⟩,
    ⟨(some 67), .call i_class_Range [(.t 65), (.t 66)], (some (5, true))⟩,
    ⟨(some 68), .mov (.t 2), (some (5, true))⟩,
    ⟨(some 69), .mov (.t 3), (some (5, true))⟩,
    ⟨(some 70), .call i_winnowerref5_Range [(.t 68), (.t 69)], (some (5, true))⟩,
    ⟨(some 71), .eqv false (.arr 4 1 .int) (.t 67) (.t 70), (some (5, true))⟩,
    ⟨(some 72), .pick (.t 64) (.t 71) (.c (.bool false)), none⟩,
    ⟨(some 73), .mov (.t 72), none⟩,
    ⟨(some 74), .load (.reg 5) true 4 (.t 5), (some (14, true))⟩,
    ⟨(some 75), .mov (.t 2), (some (14, true))⟩,
    ⟨(some 76), .call i_class_Has [(.t 74), (.t 75)], (some (14, true))⟩,
    ⟨(some 77), .load (.reg 5) true 4 (.t 5), (some (14, true))⟩,
    ⟨(some 78), .mov (.t 2), (some (14, true))⟩,
    ⟨(some 79), .call i_winnowerref5_Has [(.t 77), (.t 78)], (some (14, true))⟩,
    ⟨(some 80), .eqv false .bool (.t 76) (.t 79), (some (14, true))⟩,
    ⟨(some 81), .pick (.t 73) (.t 80) (.c (.bool false)), none⟩,
    ⟨(some 82), .mov (.t 81), none⟩,
    ⟨(some 83), .call i_winnowerlaw5_known [], (some (23, true))⟩,
    ⟨(some 84), .pick (.t 82) (.t 83) (.c (.bool false)), none⟩,
    ⟨(some 8), .mov (.t 84), none⟩])
  .ret))))))) }
def a_winnowerlaw5_ClassTurned : AFunc :=
{ ntmps := 74, results := [.t 4], body :=
  (.seq (.region false [⟨(some 2), .box true 1 (.t 0), none⟩,
    ⟨(some 3), .box true 1 (.t 1), none⟩,
    ⟨(some 4), .mov (.c (.bool false)), none⟩])
  (.seq (.region false [⟨(some 5), .mov (.c .nils), none⟩])
  (.seq (.region false [⟨(some 8), .load (.reg 2) true 4 (.t 2), none⟩,
    ⟨(some 9), .call i_class_Ranges [(.t 8)], none⟩,
    ⟨(some 6), .mov (.t 9), none⟩])
  (.seq (.seq (.region false [⟨(some 7), .mov (.c (.int .i64 (0))), none⟩])
  (.block 0
    (.loop
      (.seq (.seq (.region false [⟨(some 10), .mov (.t 7), none⟩,
        ⟨(some 11), .mov (.t 6), none⟩,
        ⟨(some 12), .len (.t 11), none⟩,
        ⟨(some 13), .bin .lss (.t 10) (.t 12), none⟩])
      (.cond (.t 13)
        .skip
        (.exit 0)))
      (.seq (.block 1
        (.region true [⟨(some 16), .mov (.t 5), none⟩,
          ⟨(some 17), .mov (.t 6), none⟩,
          ⟨(some 18), .mov (.t 7), none⟩,
          ⟨(some 19), .idxSl 2 (.t 17) (.t 18), none⟩,
          ⟨(some 20), .idxArr 2 1 (.t 19) (.c (.int .i64 (0))), none⟩,
          ⟨(some 21), .load (.tag 2) false 1 (.t 20), none⟩,
          ⟨(some 22), .mov (.t 6), none⟩,
          ⟨(some 23), .mov (.t 7), none⟩,
          ⟨(some 24), .idxSl 2 (.t 22) (.t 23), none⟩,
          ⟨(some 25), .idxArr 2 1 (.t 24) (.c (.int .i64 (1))), none⟩,
          ⟨(some 26), .load (.tag 2) false 1 (.t 25), none⟩,
          ⟨(some 27), .call i_class_Range [(.t 21), (.t 26)], none⟩,
          ⟨(some 28), .bslice false 1 4 1 [(.int .u64 0), (.int .u64 0), (.int .u64 0), (.int .u64 0)] [(0, 4, (.t 27))], none⟩,
          ⟨(some 29), .append 1 4 32 (.t 16) (.t 28), none⟩,
          ⟨(some 5), .mov (.t 29), none⟩]))
      (.region false [⟨(some 14), .mov (.t 7), none⟩,
        ⟨(some 15), .bin .add (.t 14) (.c (.int .i64 (1))), none⟩,
        ⟨(some 7), .mov (.t 15), none⟩]))))))
  (.seq (.region true [⟨(some 30), .load (.reg 2) true 4 (.t 2), none⟩,
    ⟨(some 31), .load (.reg 3) true 4 (.t 3), none⟩,
    ⟨(some 32), .bslice false 1 4 2 [(.int .u64 0), (.int .u64 0), (.int .u64 0), (.int .u64 0)] [(0, 4, (.t 30)), (4, 4, (.t 31))], none⟩,
    ⟨(some 33), .call i_class_Join [(.t 32)], none⟩,
    ⟨(some 34), .call i_class_Not [(.t 33)], none⟩,
    ⟨(some 35), .load (.reg 2) true 4 (.t 2), none⟩,
    ⟨(some 36), .call i_class_Not [(.t 35)], none⟩,
    ⟨(some 37), .load (.reg 3) true 4 (.t 3), none⟩,
    ⟨(some 38), .call i_class_Not [(.t 37)], none⟩,
    ⟨(some 39), .bslice false 1 4 2 [(.int .u64 0), (.int .u64 0), (.int .u64 0), (.int .u64 0)] [(0, 4, (.t 36)), (4, 4, (.t 38))], none⟩,
    ⟨(some 40), .call i_class_Meet [(.t 39)], none⟩,
    ⟨(some 41), .eqv false (.arr 4 1 .int) (.t 34) (.t 40), none⟩,
    ⟨(some 42), .mov (.t 41), none⟩,
    ⟨(some 43), .load (.reg 2) true 4 (.t 2), (some (12, true))⟩,
    ⟨(some 44), .call i_class_Not [(.t 43)], (some (12, true))⟩,
    ⟨(some 45), .call i_class_Not [(.t 44)], (some (12, true))⟩,
    ⟨(some 46), .load (.reg 2) true 4 (.t 2), (some (12, true))⟩,
    ⟨(some 47), .eqv false (.arr 4 1 .int) (.t 45) (.t 46), (some (12, true))⟩,
    ⟨(some 48), .pick (.t 42) (.t 47) (.c (.bool false)), none⟩,
    ⟨(some 49), .mov (.t 48), none⟩,
    ⟨(some 50), .load (.reg 2) true 4 (.t 2), (some (19, true))⟩,
    ⟨(some 51), .call i_class_List [(.t 50)], (some (19, true))⟩,
    ⟨(some 52), .call i_class_Of [(.t 51)], (some (19, true))⟩,
    ⟨(some 53), .load (.reg 2) true 4 (.t 2), (some (19, true))⟩,
    ⟨(some 54), .eqv false (.arr 4 1 .int) (.t 52) (.t 53), (some (19, true))⟩,
    ⟨(some 55), .pick (.t 49) (.t 54) (.c (.bool false)), none⟩,
    ⟨(some 56), .mov (.t 55), none⟩,
    ⟨(some 57), .mov (.t 5), (some (26, true))⟩,
    ⟨(some 58), .call i_class_Join [(.t 57)], (some (26, true))⟩,
    ⟨(some 59), .load (.reg 2) true 4 (.t 2), (some (26, true))⟩,
    ⟨(some 60), .eqv false (.arr 4 1 .int) (.t 58) (.t 59), (some (26, true))⟩,
    ⟨(some 61), .pick (.t 56) (.t 60) (.c (.bool false)), none⟩,
    ⟨(some 62), .mov (.t 61), none⟩,
    ⟨(some 63), .load (.reg 2) true 4 (.t 2), (some (32, true))⟩,
    ⟨(some 64), .call i_class_Count [(.t 63)], (some (32, true))⟩,
    ⟨(some 65), .load (.reg 2) true 4 (.t 2), (some (32, true))⟩,
    ⟨(some 66), .call i_class_Not [(.t 65)], (some (32, true))⟩,
    ⟨(some 67), .call i_class_Count [(.t 66)], (some (32, true))⟩,
    ⟨(some 68), .bin .add (.t 64) (.t 67), (some (32, true))⟩,
    ⟨(some 69), .bin .eql (.t 68) (.c (.int .i64 (256))), (some (32, true))⟩,
    ⟨(some 70), .pick (.t 62) (.t 69) (.c (.bool false)), none⟩,
    ⟨(some 71), .mov (.t 70), none⟩,
    ⟨(some 72), .call i_winnowerlaw5_known [], (some (41, true))⟩,
    ⟨(some 73), .pick (.t 71) (.t 72) (.c (.bool false)), none⟩,
    ⟨(some 4), .mov (.t 73), none⟩])
  .ret))))) }
def a_rules_Kind : AFunc :=
{ ntmps := 11, results := [.t 2, .t 3], body :=
  (.seq (.region false [⟨(some 2), .mov (.c (.int .i64 (0))), none⟩,
    ⟨(some 3), .mov (.c (.bool false)), none⟩])
  (.seq (.region false [⟨(some 5), .call i_rules_names [], none⟩,
    ⟨(some 6), .mov (.t 0), none⟩,
    ⟨(some 7), .call i_slices_Index_string_string [(.t 5), (.t 6)], none⟩,
    ⟨(some 4), .mov (.t 7), none⟩])
  (.seq (.region false [⟨(some 8), .mov (.t 4), none⟩,
    ⟨(some 9), .mov (.t 4), none⟩,
    ⟨(some 10), .bin .geq (.t 9) (.c (.int .i64 (0))), none⟩,
    ⟨(some 2), .mov (.t 8), none⟩,
    ⟨(some 3), .mov (.t 10), none⟩])
  .ret))) }
def a_winnowerref12_Kind : AFunc :=
{ ntmps := 14, results := [.t 2, .t 3], body :=
  (.seq (.region false [⟨(some 2), .mov (.c (.int .i64 (0))), none⟩,
    ⟨(some 3), .mov (.c (.bool false)), none⟩])
  (.seq (.seq (.region false [⟨(some 4), .mov (.c (.int .i64 (0))), none⟩])
  (.block 0
    (.loop
      (.seq (.seq (.region false [⟨(some 5), .mov (.t 4), none⟩,
        ⟨(some 6), .bin .lss (.t 5) (.c (.int .i64 (9))), none⟩])
      (.cond (.t 6)
        .skip
        (.exit 0)))
      (.seq (.block 1
        (.seq (.region false [⟨(some 9), .mov (.t 4), none⟩,
          ⟨(some 10), .call i_winnowerref12_Name [(.t 9)], none⟩,
          ⟨(some 11), .mov (.t 0), none⟩,
          ⟨(some 12), .bin .eql (.t 10) (.t 11), none⟩])
        (.cond (.t 12)
          (.seq (.region false [⟨(some 13), .mov (.t 4), none⟩,
            ⟨(some 2), .mov (.t 13), none⟩,
            ⟨(some 3), .mov (.c (.bool true)), none⟩])
          .ret)
          .skip)))
      (.region false [⟨(some 7), .mov (.t 4), none⟩,
        ⟨(some 8), .bin .add (.t 7) (.c (.int .i64 (1))), none⟩,
        ⟨(some 4), .mov (.t 8), none⟩]))))))
  (.seq (.region false [⟨(some 2), .mov (.c (.int .i64 (-1))), none⟩,
    ⟨(some 3), .mov (.c (.bool false)), none⟩])
  .ret))) }
def a_rules_Name : AFunc :=
{ ntmps := 13, results := [.t 2], body :=
  (.seq (.region false [⟨(some 2), .mov (.c (.str [])), none⟩])
  (.seq (.seq (.region false [⟨(some 3), .mov (.t 0), none⟩,
    ⟨(some 4), .bin .lss (.t 3) (.c (.int .i64 (0))), none⟩,
    ⟨(some 5), .mov (.t 4), none⟩,
    ⟨(some 6), .mov (.t 0), (some (2, false))⟩,
    ⟨(some 7), .bin .geq (.t 6) (.c (.int .i64 (9))), (some (2, false))⟩,
    ⟨(some 8), .pick (.t 5) (.c (.bool true)) (.t 7), none⟩])
  (.cond (.t 8)
    (.seq (.region false [⟨(some 2), .mov (.c (.str [])), none⟩])
    .ret)
    .skip))
  (.seq (.region false [⟨(some 9), .call i_rules_names [], none⟩,
    ⟨(some 10), .mov (.t 0), none⟩,
    ⟨(some 11), .idxSl 1 (.t 9) (.t 10), none⟩,
    ⟨(some 12), .load (.tag 3) false 1 (.t 11), none⟩,
    ⟨(some 2), .mov (.t 12), none⟩])
  .ret))) }
def a_winnowerref12_Name : AFunc :=
{ ntmps := 17, results := [.t 2], body :=
  (.seq (.region false [⟨(some 2), .mov (.c (.str [])), none⟩])
  (.seq (.region false [⟨(some 4), .bslice false 3 1 9 [(.str [])] [(0, 1, (.c (.str [115, 116, 97, 109, 112]))), (1, 1, (.c (.str [105, 112]))), (2, 1, (.c (.str [109, 97, 99]))), (3, 1, (.c (.str [104, 101, 120]))), (4, 1, (.c (.str [110, 117, 109, 98, 101, 114]))), (5, 1, (.c (.str [113, 117, 111, 116, 101, 100]))), (6, 1, (.c (.str [119, 111, 114, 100]))), (7, 1, (.c (.str [98, 108, 97, 110, 107]))), (8, 1, (.c (.str [111, 116, 104, 101, 114])))], none⟩,
    ⟨(some 3), .mov (.t 4), none⟩])
  (.seq (.seq (.region false [⟨(some 5), .mov (.t 0), none⟩,
    ⟨(some 6), .bin .lss (.t 5) (.c (.int .i64 (0))), none⟩,
    ⟨(some 7), .mov (.t 6), none⟩,
    ⟨(some 8), .mov (.t 0), (some (2, false))⟩,
    ⟨(some 9), .mov (.t 3), (some (2, false))⟩,
    ⟨(some 10), .len (.t 9), (some (2, false))⟩,
    ⟨(some 11), .bin .geq (.t 8) (.t 10), (some (2, false))⟩,
    ⟨(some 12), .pick (.t 7) (.c (.bool true)) (.t 11), none⟩])
  (.cond (.t 12)
    (.seq (.region false [⟨(some 2), .mov (.c (.str [])), none⟩])
    .ret)
    .skip))
  (.seq (.region false [⟨(some 13), .mov (.t 3), none⟩,
    ⟨(some 14), .mov (.t 0), none⟩,
    ⟨(some 15), .idxSl 1 (.t 13) (.t 14), none⟩,
    ⟨(some 16), .load (.tag 3) false 1 (.t 15), none⟩,
    ⟨(some 2), .mov (.t 16), none⟩])
  .ret)))) }
def a_rules_Pattern : AFunc :=
{ ntmps := 22, results := [.t 2], body :=
  (.seq (.region false [⟨(some 2), .mov (.c (.str [])), none⟩])
  (.seq (.seq (.region false [⟨(some 3), .mov (.t 0), none⟩])
  (.block 0
    (.seq (.region false [⟨(some 5), .bin .eql (.t 3) (.c (.int .i64 (0))), none⟩,
      ⟨(some 4), .mov (.t 5), none⟩])
    (.cond (.t 4)
      (.seq (.region false [⟨(some 2), .mov (.c (.str [91, 48, 45, 57, 93, 123, 52, 125, 92, 120, 50, 100, 91, 48, 45, 57, 93, 123, 50, 125, 92, 120, 50, 100, 91, 48, 45, 57, 93, 123, 50, 125, 84, 91, 48, 45, 57, 93, 123, 50, 125, 58, 91, 48, 45, 57, 93, 123, 50, 125, 58, 91, 48, 45, 57, 93, 123, 50, 125])), none⟩])
      .ret)
      (.seq (.region false [⟨(some 7), .bin .eql (.t 3) (.c (.int .i64 (1))), none⟩,
        ⟨(some 6), .mov (.t 7), none⟩])
      (.cond (.t 6)
        (.seq (.region false [⟨(some 2), .mov (.c (.str [91, 48, 45, 57, 93, 123, 49, 44, 51, 125, 40, 92, 46, 91, 48, 45, 57, 93, 123, 49, 44, 51, 125, 41, 123, 51, 125])), none⟩])
        .ret)
        (.seq (.region false [⟨(some 9), .bin .eql (.t 3) (.c (.int .i64 (2))), none⟩,
          ⟨(some 8), .mov (.t 9), none⟩])
        (.cond (.t 8)
          (.seq (.region false [⟨(some 2), .mov (.c (.str [91, 48, 45, 57, 97, 45, 102, 93, 123, 50, 125, 40, 58, 91, 48, 45, 57, 97, 45, 102, 93, 123, 50, 125, 41, 123, 53, 125])), none⟩])
          .ret)
          (.seq (.region false [⟨(some 11), .bin .eql (.t 3) (.c (.int .i64 (3))), none⟩,
            ⟨(some 10), .mov (.t 11), none⟩])
          (.cond (.t 10)
            (.seq (.region false [⟨(some 2), .mov (.c (.str [48, 120, 91, 48, 45, 57, 97, 45, 102, 65, 45, 70, 93, 43])), none⟩])
            .ret)
            (.seq (.region false [⟨(some 13), .bin .eql (.t 3) (.c (.int .i64 (4))), none⟩,
              ⟨(some 12), .mov (.t 13), none⟩])
            (.cond (.t 12)
              (.seq (.region false [⟨(some 2), .mov (.c (.str [92, 45, 63, 91, 48, 45, 57, 93, 43, 40, 92, 46, 91, 48, 45, 57, 93, 43, 41, 63])), none⟩])
              .ret)
              (.seq (.region false [⟨(some 15), .bin .eql (.t 3) (.c (.int .i64 (5))), none⟩,
                ⟨(some 14), .mov (.t 15), none⟩])
              (.cond (.t 14)
                (.seq (.region false [⟨(some 2), .mov (.c (.str [34, 40, 91, 94, 34, 92, 92, 93, 124, 92, 92, 46, 41, 42, 34])), none⟩])
                .ret)
                (.seq (.region false [⟨(some 17), .bin .eql (.t 3) (.c (.int .i64 (6))), none⟩,
                  ⟨(some 16), .mov (.t 17), none⟩])
                (.cond (.t 16)
                  (.seq (.region false [⟨(some 2), .mov (.c (.str [91, 65, 45, 90, 97, 45, 122, 95, 93, 91, 65, 45, 90, 97, 45, 122, 48, 45, 57, 95, 93, 42])), none⟩])
                  .ret)
                  (.seq (.region false [⟨(some 19), .bin .eql (.t 3) (.c (.int .i64 (7))), none⟩,
                    ⟨(some 18), .mov (.t 19), none⟩])
                  (.cond (.t 18)
                    (.seq (.region false [⟨(some 2), .mov (.c (.str [91, 32, 92, 116, 93, 43])), none⟩])
                    .ret)
                    (.seq (.region false [⟨(some 21), .bin .eql (.t 3) (.c (.int .i64 (8))), none⟩,
                      ⟨(some 20), .mov (.t 21), none⟩])
                    (.cond (.t 20)
                      (.seq (.region false [⟨(some 2), .mov (.c (.str [46])), none⟩])
                      .ret)
                      .skip))))))))))))))))))))
  (.seq (.region false [⟨(some 2), .mov (.c (.str [])), none⟩])
  .ret))) }
def a_winnowerref12_Pattern : AFunc :=
{ ntmps := 17, results := [.t 2], body :=
  (.seq (.region false [⟨(some 2), .mov (.c (.str [])), none⟩])
  (.seq (.region false [⟨(some 4), .bslice false 3 1 9 [(.str [])] [(0, 1, (.c (.str [91, 48, 45, 57, 93, 123, 52, 125, 92, 120, 50, 100, 91, 48, 45, 57, 93, 123, 50, 125, 92, 120, 50, 100, 91, 48, 45, 57, 93, 123, 50, 125, 84, 91, 48, 45, 57, 93, 123, 50, 125, 58, 91, 48, 45, 57, 93, 123, 50, 125, 58, 91, 48, 45, 57, 93, 123, 50, 125]))), (1, 1, (.c (.str [91, 48, 45, 57, 93, 123, 49, 44, 51, 125, 40, 92, 46, 91, 48, 45, 57, 93, 123, 49, 44, 51, 125, 41, 123, 51, 125]))), (2, 1, (.c (.str [91, 48, 45, 57, 97, 45, 102, 93, 123, 50, 125, 40, 58, 91, 48, 45, 57, 97, 45, 102, 93, 123, 50, 125, 41, 123, 53, 125]))), (3, 1, (.c (.str [48, 120, 91, 48, 45, 57, 97, 45, 102, 65, 45, 70, 93, 43]))), (4, 1, (.c (.str [92, 45, 63, 91, 48, 45, 57, 93, 43, 40, 92, 46, 91, 48, 45, 57, 93, 43, 41, 63]))), (5, 1, (.c (.str [34, 40, 91, 94, 34, 92, 92, 93, 124, 92, 92, 46, 41, 42, 34]))), (6, 1, (.c (.str [91, 65, 45, 90, 97, 45, 122, 95, 93, 91, 65, 45, 90, 97, 45, 122, 48, 45, 57, 95, 93, 42]))), (7, 1, (.c (.str [91, 32, 92, 116, 93, 43]))), (8, 1, (.c (.str [46])))], none⟩,
    ⟨(some 3), .mov (.t 4), none⟩])
  (.seq (.seq (.region false [⟨(some 5), .mov (.t 0), none⟩,
    ⟨(some 6), .bin .lss (.t 5) (.c (.int .i64 (0))), none⟩,
    ⟨(some 7), .mov (.t 6), none⟩,
    ⟨(some 8), .mov (.t 0), (some (2, false))⟩,
    ⟨(some 9), .mov (.t 3), (some (2, false))⟩,
    ⟨(some 10), .len (.t 9), (some (2, false))⟩,
    ⟨(some 11), .bin .geq (.t 8) (.t 10), (some (2, false))⟩,
    ⟨(some 12), .pick (.t 7) (.c (.bool true)) (.t 11), none⟩])
  (.cond (.t 12)
    (.seq (.region false [⟨(some 2), .mov (.c (.str [])), none⟩])
    .ret)
    .skip))
  (.seq (.region false [⟨(some 13), .mov (.t 3), none⟩,
    ⟨(some 14), .mov (.t 0), none⟩,
    ⟨(some 15), .idxSl 1 (.t 13) (.t 14), none⟩,
    ⟨(some 16), .load (.tag 3) false 1 (.t 15), none⟩,
    ⟨(some 2), .mov (.t 16), none⟩])
  .ret)))) }
def a_winnowerlaw12_known : AFunc :=
{ ntmps := 16, results := [.t 0], body :=
  (.seq (.region false [⟨(some 0), .mov (.c (.bool false)), none⟩])
  (.seq (.region false [⟨(some 4), .call i_rules_Kind [(.c (.str [105, 112]))], none⟩,
    ⟨(some 3), .mov (.t 4), none⟩,
    ⟨(some 5), .extract (.t 3) 0, none⟩,
    ⟨(some 6), .extract (.t 3) 1, none⟩,
    ⟨(some 1), .mov (.t 5), none⟩,
    ⟨(some 2), .mov (.t 6), none⟩])
  (.seq (.region false [⟨(some 7), .mov (.t 2), none⟩,
    ⟨(some 8), .mov (.t 7), none⟩,
    ⟨(some 9), .mov (.t 1), (some (1, true))⟩,
    ⟨(some 10), .bin .eql (.t 9) (.c (.int .i64 (1))), (some (1, true))⟩,
    ⟨(some 11), .pick (.t 8) (.t 10) (.c (.bool false)), none⟩,
    ⟨(some 12), .mov (.t 11), none⟩,
    ⟨(some 13), .call i_rules_Name [(.c (.int .i64 (8)))], (some (5, true))⟩,
    ⟨(some 14), .bin .eql (.t 13) (.c (.str [111, 116, 104, 101, 114])), (some (5, true))⟩,
    ⟨(some 15), .pick (.t 12) (.t 14) (.c (.bool false)), none⟩,
    ⟨(some 0), .mov (.t 15), none⟩])
  .ret))) }
def a_winnowerref5_Has : AFunc :=
{ ntmps := 15, results := [.t 4], body :=
  (.seq (.region false [⟨(some 2), .box true 1 (.t 0), none⟩,
    ⟨(some 4), .mov (.c (.bool false)), none⟩])
  (.seq (.region false [⟨(some 5), .mov (.t 1), none⟩,
    ⟨(some 6), .bin .quo (.t 5) (.c (.int .u8 (64))), none⟩,
    ⟨(some 7), .idxArr 4 1 (.t 2) (.t 6), none⟩,
    ⟨(some 8), .load (.reg 2) false 1 (.t 7), none⟩,
    ⟨(some 9), .mov (.t 1), none⟩,
    ⟨(some 10), .bin .rem (.t 9) (.c (.int .u8 (64))), none⟩,
    ⟨(some 11), .conv .u64 (.t 10), none⟩,
    ⟨(some 12), .bin .shr (.t 8) (.t 11), none⟩,
    ⟨(some 13), .bin .and (.t 12) (.c (.int .u64 (1))), none⟩,
    ⟨(some 14), .bin .eql (.t 13) (.c (.int .u64 (1))), none⟩,
    ⟨(some 4), .mov (.t 14), none⟩])
  .ret)) }
def a_class_Has : AFunc :=
{ ntmps := 14, results := [.t 4], body :=
  (.seq (.region false [⟨(some 2), .box true 1 (.t 0), none⟩,
    ⟨(some 4), .mov (.c (.bool false)), none⟩])
  (.seq (.region false [⟨(some 5), .mov (.t 1), none⟩,
    ⟨(some 6), .bin .quo (.t 5) (.c (.int .u8 (64))), none⟩,
    ⟨(some 7), .idxArr 4 1 (.t 2) (.t 6), none⟩,
    ⟨(some 8), .load (.reg 2) false 1 (.t 7), none⟩,
    ⟨(some 9), .mov (.t 1), none⟩,
    ⟨(some 10), .bin .rem (.t 9) (.c (.int .u8 (64))), none⟩,
    ⟨(some 11), .bin .shr (.t 8) (.t 10), none⟩,
    ⟨(some 12), .bin .and (.t 11) (.c (.int .u64 (1))), none⟩,
    ⟨(some 13), .bin .eql (.t 12) (.c (.int .u64 (1))), none⟩,
    ⟨(some 4), .mov (.t 13), none⟩])
  .ret)) }
def a_class_Not : AFunc :=
{ ntmps := 16, results := [.cell 2 true 4], body :=
  (.seq (.region false [⟨(some 1), .box true 1 (.t 0), none⟩,
    ⟨(some 2), .alloc true 1 [(.int .u64 0), (.int .u64 0), (.int .u64 0), (.int .u64 0)], none⟩])
  (.seq (.seq (.region false [⟨(some 5), .load (.reg 1) true 4 (.t 1), none⟩,
    ⟨(some 6), .mov (.c (.int .i64 (0))), none⟩])
  (.block 0
    (.loop
      (.seq (.region false [⟨(some 7), .bin .lss (.t 6) (.c (.int .i64 (4))), none⟩])
      (.seq (.cond (.t 7)
        .skip
        (.exit 0))
      (.seq (.block 1
        (.seq (.region false [⟨(some 8), .mov (.t 6), none⟩,
          ⟨(some 9), .idxAgg false 4 1 (.t 5) (.t 6), none⟩,
          ⟨(some 3), .mov (.t 8), none⟩,
          ⟨(some 4), .mov (.t 9), none⟩])
        (.region false [⟨(some 10), .mov (.t 3), none⟩,
          ⟨(some 11), .mov (.t 4), none⟩,
          ⟨(some 12), .un .xor (.t 11), none⟩,
          ⟨(some 13), .idxArr 4 1 (.t 1) (.t 10), none⟩,
          ⟨none, .store (.reg 1) 1 (.t 13) (.t 12), none⟩])))
      (.region false [⟨(some 14), .bin .add (.t 6) (.c (.int .i64 (1))), none⟩,
        ⟨(some 6), .mov (.t 14), none⟩])))))))
  (.seq (.region false [⟨(some 15), .load (.reg 1) true 4 (.t 1), none⟩,
    ⟨none, .store (.reg 2) 4 (.t 2) (.t 15), none⟩])
  .ret))) }
def a_class_Join : AFunc :=
{ ntmps := 28, results := [.cell 2 true 4], body :=
  (.seq (.region false [⟨(some 2), .alloc true 1 [(.int .u64 0), (.int .u64 0), (.int .u64 0), (.int .u64 0)], none⟩])
  (.seq (.region false [⟨(some 3), .alloc true 1 [(.int .u64 0), (.int .u64 0), (.int .u64 0), (.int .u64 0)], none⟩])
  (.seq (.seq (.region false [⟨(some 8), .mov (.t 0), none⟩,
    ⟨(some 9), .len (.t 8), none⟩,
    ⟨(some 10), .mov (.c (.int .i64 (0))), none⟩])
  (.block 0
    (.loop
      (.seq (.region false [⟨(some 11), .bin .lss (.t 10) (.t 9), none⟩])
      (.seq (.cond (.t 11)
        .skip
        (.exit 0))
      (.seq (.block 1
        (.seq (.region false [⟨(some 12), .idxSl 4 (.t 8) (.t 10), none⟩,
          ⟨(some 13), .load (.tag 1) true 4 (.t 12), none⟩,
          ⟨(some 5), .alloc true 1 [(.int .u64 0), (.int .u64 0), (.int .u64 0), (.int .u64 0)], none⟩,
          ⟨none, .store (.reg 5) 4 (.t 5) (.t 13), none⟩])
        (.seq (.region false [⟨(some 14), .load (.reg 5) true 4 (.t 5), none⟩,
          ⟨(some 15), .mov (.c (.int .i64 (0))), none⟩])
        (.block 2
          (.loop
            (.seq (.region false [⟨(some 16), .bin .lss (.t 15) (.c (.int .i64 (4))), none⟩])
            (.seq (.cond (.t 16)
              .skip
              (.exit 2))
            (.seq (.block 3
              (.seq (.region false [⟨(some 17), .mov (.t 15), none⟩,
                ⟨(some 18), .idxAgg false 4 1 (.t 14) (.t 15), none⟩,
                ⟨(some 6), .mov (.t 17), none⟩,
                ⟨(some 7), .mov (.t 18), none⟩])
              (.region false [⟨(some 19), .mov (.t 6), none⟩,
                ⟨(some 20), .idxArr 4 1 (.t 3) (.t 19), none⟩,
                ⟨(some 21), .load (.reg 3) false 1 (.t 20), none⟩,
                ⟨(some 22), .mov (.t 7), none⟩,
                ⟨(some 23), .bin .or (.t 21) (.t 22), none⟩,
                ⟨(some 24), .idxArr 4 1 (.t 3) (.t 19), none⟩,
                ⟨none, .store (.reg 3) 1 (.t 24) (.t 23), none⟩])))
            (.region false [⟨(some 25), .bin .add (.t 15) (.c (.int .i64 (1))), none⟩,
              ⟨(some 15), .mov (.t 25), none⟩])))))))))
      (.region false [⟨(some 26), .bin .add (.t 10) (.c (.int .i64 (1))), none⟩,
        ⟨(some 10), .mov (.t 26), none⟩])))))))
  (.seq (.region false [⟨(some 27), .load (.reg 3) true 4 (.t 3), none⟩,
    ⟨none, .store (.reg 2) 4 (.t 2) (.t 27), none⟩])
  .ret)))) }
def a_winnowerref5_Join : AFunc :=
{ ntmps := 29, results := [.cell 2 true 4], body :=
  (.seq (.region false [⟨(some 2), .alloc true 1 [(.int .u64 0), (.int .u64 0), (.int .u64 0), (.int .u64 0)], none⟩])
  (.seq (.region false [⟨(some 3), .alloc true 1 [(.int .u64 0), (.int .u64 0), (.int .u64 0), (.int .u64 0)], none⟩])
  (.seq (.seq (.region false [⟨(some 4), .mov (.c (.int .i64 (0))), none⟩])
  (.block 0
    (.loop
      (.seq (.seq (.region false [⟨(some 6), .mov (.t 4), none⟩,
        ⟨(some 7), .mov (.t 0), none⟩,
        ⟨(some 8), .len (.t 7), none⟩,
        ⟨(some 9), .bin .lss (.t 6) (.t 8), none⟩])
      (.cond (.t 9)
        .skip
        (.exit 0)))
      (.seq (.block 1
        (.seq (.region false [⟨(some 5), .mov (.c (.int .i64 (0))), none⟩])
        (.block 2
          (.loop
            (.seq (.seq (.region false [⟨(some 12), .mov (.t 5), none⟩,
              ⟨(some 13), .bin .lss (.t 12) (.c (.int .i64 (4))), none⟩])
            (.cond (.t 13)
              .skip
              (.exit 2)))
            (.seq (.block 3
              (.region true [⟨(some 16), .mov (.t 5), none⟩,
                ⟨(some 17), .mov (.t 5), none⟩,
                ⟨(some 18), .idxArr 4 1 (.t 3) (.t 17), none⟩,
                ⟨(some 19), .load (.reg 3) false 1 (.t 18), none⟩,
                ⟨(some 20), .mov (.t 0), none⟩,
                ⟨(some 21), .mov (.t 4), none⟩,
                ⟨(some 22), .mov (.t 5), none⟩,
                ⟨(some 23), .idxSl 4 (.t 20) (.t 21), none⟩,
                ⟨(some 24), .idxArr 4 1 (.t 23) (.t 22), none⟩,
                ⟨(some 25), .load (.tag 1) false 1 (.t 24), none⟩,
                ⟨(some 26), .bin .or (.t 19) (.t 25), none⟩,
                ⟨(some 27), .idxArr 4 1 (.t 3) (.t 16), none⟩,
                ⟨none, .store (.reg 3) 1 (.t 27) (.t 26), none⟩]))
            (.region false [⟨(some 14), .mov (.t 5), none⟩,
              ⟨(some 15), .bin .add (.t 14) (.c (.int .i64 (1))), none⟩,
              ⟨(some 5), .mov (.t 15), none⟩])))))))
      (.region false [⟨(some 10), .mov (.t 4), none⟩,
        ⟨(some 11), .bin .add (.t 10) (.c (.int .i64 (1))), none⟩,
        ⟨(some 4), .mov (.t 11), none⟩]))))))
  (.seq (.region false [⟨(some 28), .load (.reg 3) true 4 (.t 3), none⟩,
    ⟨none, .store (.reg 2) 4 (.t 2) (.t 28), none⟩])
  .ret)))) }
def a_class_Meet : AFunc :=
{ ntmps := 30, results := [.cell 2 true 4], body :=
  (.seq (.region false [⟨(some 2), .alloc true 1 [(.int .u64 0), (.int .u64 0), (.int .u64 0), (.int .u64 0)], none⟩])
  (.seq (.region false [⟨(some 8), .build [(.int .u64 0), (.int .u64 0), (.int .u64 0), (.int .u64 0)] [], none⟩,
    ⟨(some 9), .call i_class_Not [(.t 8)], none⟩,
    ⟨(some 3), .alloc true 1 [(.int .u64 0), (.int .u64 0), (.int .u64 0), (.int .u64 0)], none⟩,
    ⟨none, .store (.reg 3) 4 (.t 3) (.t 9), none⟩])
  (.seq (.seq (.region false [⟨(some 10), .mov (.t 0), none⟩,
    ⟨(some 11), .len (.t 10), none⟩,
    ⟨(some 12), .mov (.c (.int .i64 (0))), none⟩])
  (.block 0
    (.loop
      (.seq (.region false [⟨(some 13), .bin .lss (.t 12) (.t 11), none⟩])
      (.seq (.cond (.t 13)
        .skip
        (.exit 0))
      (.seq (.block 1
        (.seq (.region false [⟨(some 14), .idxSl 4 (.t 10) (.t 12), none⟩,
          ⟨(some 15), .load (.tag 1) true 4 (.t 14), none⟩,
          ⟨(some 5), .alloc true 1 [(.int .u64 0), (.int .u64 0), (.int .u64 0), (.int .u64 0)], none⟩,
          ⟨none, .store (.reg 5) 4 (.t 5) (.t 15), none⟩])
        (.seq (.region false [⟨(some 16), .load (.reg 5) true 4 (.t 5), none⟩,
          ⟨(some 17), .mov (.c (.int .i64 (0))), none⟩])
        (.block 2
          (.loop
            (.seq (.region false [⟨(some 18), .bin .lss (.t 17) (.c (.int .i64 (4))), none⟩])
            (.seq (.cond (.t 18)
              .skip
              (.exit 2))
            (.seq (.block 3
              (.seq (.region false [⟨(some 19), .mov (.t 17), none⟩,
                ⟨(some 20), .idxAgg false 4 1 (.t 16) (.t 17), none⟩,
                ⟨(some 6), .mov (.t 19), none⟩,
                ⟨(some 7), .mov (.t 20), none⟩])
              (.region false [⟨(some 21), .mov (.t 6), none⟩,
                ⟨(some 22), .idxArr 4 1 (.t 3) (.t 21), none⟩,
                ⟨(some 23), .load (.reg 3) false 1 (.t 22), none⟩,
                ⟨(some 24), .mov (.t 7), none⟩,
                ⟨(some 25), .bin .and (.t 23) (.t 24), none⟩,
                ⟨(some 26), .idxArr 4 1 (.t 3) (.t 21), none⟩,
                ⟨none, .store (.reg 3) 1 (.t 26) (.t 25), none⟩])))
            (.region false [⟨(some 27), .bin .add (.t 17) (.c (.int .i64 (1))), none⟩,
              ⟨(some 17), .mov (.t 27), none⟩])))))))))
      (.region false [⟨(some 28), .bin .add (.t 12) (.c (.int .i64 (1))), none⟩,
        ⟨(some 12), .mov (.t 28), none⟩])))))))
  (.seq (.region false [⟨(some 29), .load (.reg 3) true 4 (.t 3), none⟩,
    ⟨none, .store (.reg 2) 4 (.t 2) (.t 29), none⟩])
  .ret)))) }
def a_winnowerref5_Meet : AFunc :=
{ ntmps := 31, results := [.cell 2 true 4], body :=
  (.seq (.region false [⟨(some 2), .alloc true 1 [(.int .u64 0), (.int .u64 0), (.int .u64 0), (.int .u64 0)], none⟩])
  (.seq (.region false [⟨(some 6), .build [(.int .u64 0), (.int .u64 0), (.int .u64 0), (.int .u64 0)] [], none⟩,
    ⟨(some 7), .call i_winnowerref5_Not [(.t 6)], none⟩,
    ⟨(some 3), .alloc true 1 [(.int .u64 0), (.int .u64 0), (.int .u64 0), (.int .u64 0)], none⟩,
    ⟨none, .store (.reg 3) 4 (.t 3) (.t 7), none⟩])
  (.seq (.seq (.region false [⟨(some 4), .mov (.c (.int .i64 (0))), none⟩])
  (.block 0
    (.loop
      (.seq (.seq (.region false [⟨(some 8), .mov (.t 4), none⟩,
        ⟨(some 9), .mov (.t 0), none⟩,
        ⟨(some 10), .len (.t 9), none⟩,
        ⟨(some 11), .bin .lss (.t 8) (.t 10), none⟩])
      (.cond (.t 11)
        .skip
        (.exit 0)))
      (.seq (.block 1
        (.seq (.region false [⟨(some 5), .mov (.c (.int .i64 (0))), none⟩])
        (.block 2
          (.loop
            (.seq (.seq (.region false [⟨(some 14), .mov (.t 5), none⟩,
              ⟨(some 15), .bin .lss (.t 14) (.c (.int .i64 (4))), none⟩])
            (.cond (.t 15)
              .skip
              (.exit 2)))
            (.seq (.block 3
              (.region true [⟨(some 18), .mov (.t 5), none⟩,
                ⟨(some 19), .mov (.t 5), none⟩,
                ⟨(some 20), .idxArr 4 1 (.t 3) (.t 19), none⟩,
                ⟨(some 21), .load (.reg 3) false 1 (.t 20), none⟩,
                ⟨(some 22), .mov (.t 0), none⟩,
                ⟨(some 23), .mov (.t 4), none⟩,
                ⟨(some 24), .mov (.t 5), none⟩,
                ⟨(some 25), .idxSl 4 (.t 22) (.t 23), none⟩,
                ⟨(some 26), .idxArr 4 1 (.t 25) (.t 24), none⟩,
                ⟨(some 27), .load (.tag 1) false 1 (.t 26), none⟩,
                ⟨(some 28), .bin .and (.t 21) (.t 27), none⟩,
                ⟨(some 29), .idxArr 4 1 (.t 3) (.t 18), none⟩,
                ⟨none, .store (.reg 3) 1 (.t 29) (.t 28), none⟩]))
            (.region false [⟨(some 16), .mov (.t 5), none⟩,
              ⟨(some 17), .bin .add (.t 16) (.c (.int .i64 (1))), none⟩,
              ⟨(some 5), .mov (.t 17), none⟩])))))))
      (.region false [⟨(some 12), .mov (.t 4), none⟩,
        ⟨(some 13), .bin .add (.t 12) (.c (.int .i64 (1))), none⟩,
        ⟨(some 4), .mov (.t 13), none⟩]))))))
  (.seq (.region false [⟨(some 30), .load (.reg 3) true 4 (.t 3), none⟩,
    ⟨none, .store (.reg 2) 4 (.t 2) (.t 30), none⟩])
  .ret)))) }
def a_winnowerlaw5_known : AFunc :=
{ ntmps := 22, results := [.t 0], body :=
  (.seq (.region false [⟨(some 0), .mov (.c (.bool false)), none⟩])
  (.seq (.region false [⟨(some 2), .bslice false 4 1 3 [(.int .u8 0)] [(0, 1, (.c (.int .u8 (97)))), (1, 1, (.c (.int .u8 (98)))), (2, 1, (.c (.int .u8 (100))))], none⟩,
    ⟨(some 3), .call i_class_Of [(.t 2)], none⟩,
    ⟨(some 4), .call i_class_Ranges [(.t 3)], none⟩,
    ⟨(some 1), .mov (.t 4), none⟩])
  (.seq (.region false [⟨(some 5), .mov (.t 1), none⟩,
    ⟨(some 6), .len (.t 5), none⟩,
    ⟨(some 7), .bin .eql (.t 6) (.c (.int .i64 (2))), none⟩,
    ⟨(some 8), .mov (.t 7), none⟩,
    ⟨(some 9), .mov (.t 1), (some (3, true))⟩,
    ⟨(some 10), .idxSl 2 (.t 9) (.c (.int .i64 (0))), (some (3, true))⟩,
    ⟨(some 11), .load (.tag 2) true 2 (.t 10), (some (3, true))⟩,
    ⟨(some 12), .build [(.int .u8 0), (.int .u8 0)] [(0, 1, (.c (.int .u8 (97)))), (1, 1, (.c (.int .u8 (98))))], (some (3, true))⟩,
    ⟨(some 13), .eqv false (.arr 2 1 .int) (.t 11) (.t 12), (some (3, true))⟩,
    ⟨(some 14), .pick (.t 8) (.t 13) (.c (.bool false)), none⟩,
    ⟨(some 15), .mov (.t 14), none⟩,
    ⟨(some 16), .mov (.t 1), (some (10, true))⟩,
    ⟨(some 17), .idxSl 2 (.t 16) (.c (.int .i64 (1))), (some (10, true))⟩,
    ⟨(some 18), .load (.tag 2) true 2 (.t 17), (some (10, true))⟩,
    ⟨(some 19), .build [(.int .u8 0), (.int .u8 0)] [(0, 1, (.c (.int .u8 (100)))), (1, 1, (.c (.int .u8 (100))))], (some (10, true))⟩,
    ⟨(some 20), .eqv false (.arr 2 1 .int) (.t 18) (.t 19), (some (10, true))⟩,
    ⟨(some 21), .pick (.t 15) (.t 20) (.c (.bool false)), none⟩,
    ⟨(some 0), .mov (.t 21), none⟩])
  .ret))) }
def a_class_List : AFunc :=
{ ntmps := 19, results := [.t 2], body :=
  (.seq (.region false [⟨(some 1), .box true 1 (.t 0), none⟩,
    ⟨(some 2), .mov (.c .nils), none⟩])
  (.seq (.region false [⟨(some 3), .mov (.c .nils), none⟩])
  (.seq (.seq (.region false [⟨(some 5), .mov (.c (.int .i64 (0))), none⟩])
  (.block 0
    (.loop
      (.seq (.region false [⟨(some 6), .bin .lss (.t 5) (.c (.int .i64 (256))), none⟩])
      (.seq (.cond (.t 6)
        .skip
        (.exit 0))
      (.seq (.block 1
        (.seq (.region false [⟨(some 7), .mov (.t 5), none⟩,
          ⟨(some 4), .mov (.t 7), none⟩])
        (.seq (.region false [⟨(some 8), .load (.reg 1) true 4 (.t 1), none⟩,
          ⟨(some 9), .mov (.t 4), none⟩,
          ⟨(some 10), .conv .u8 (.t 9), none⟩,
          ⟨(some 11), .call i_class_Has [(.t 8), (.t 10)], none⟩])
        (.cond (.t 11)
          (.region false [⟨(some 12), .mov (.t 3), none⟩,
            ⟨(some 13), .mov (.t 4), none⟩,
            ⟨(some 14), .conv .u8 (.t 13), none⟩,
            ⟨(some 15), .bslice false 4 1 1 [(.int .u8 0)] [(0, 1, (.t 14))], none⟩,
            ⟨(some 16), .append 4 1 1 (.t 12) (.t 15), none⟩,
            ⟨(some 3), .mov (.t 16), none⟩])
          .skip))))
      (.region false [⟨(some 17), .bin .add (.t 5) (.c (.int .i64 (1))), none⟩,
        ⟨(some 5), .mov (.t 17), none⟩])))))))
  (.seq (.region false [⟨(some 18), .mov (.t 3), none⟩,
    ⟨(some 2), .mov (.t 18), none⟩])
  .ret)))) }
def a_winnowerref5_List : AFunc :=
{ ntmps := 19, results := [.t 2], body :=
  (.seq (.region false [⟨(some 1), .box true 1 (.t 0), none⟩,
    ⟨(some 2), .mov (.c .nils), none⟩])
  (.seq (.region false [⟨(some 3), .mov (.c .nils), none⟩])
  (.seq (.seq (.region false [⟨(some 4), .mov (.c (.int .i64 (0))), none⟩])
  (.block 0
    (.loop
      (.seq (.seq (.region false [⟨(some 5), .mov (.t 4), none⟩,
        ⟨(some 6), .bin .lss (.t 5) (.c (.int .i64 (256))), none⟩])
      (.cond (.t 6)
        .skip
        (.exit 0)))
      (.seq (.block 1
        (.seq (.region false [⟨(some 9), .load (.reg 1) true 4 (.t 1), none⟩,
          ⟨(some 10), .mov (.t 4), none⟩,
          ⟨(some 11), .conv .u8 (.t 10), none⟩,
          ⟨(some 12), .call i_winnowerref5_Has [(.t 9), (.t 11)], none⟩])
        (.cond (.t 12)
          (.region false [⟨(some 13), .mov (.t 3), none⟩,
            ⟨(some 14), .mov (.t 4), none⟩,
            ⟨(some 15), .conv .u8 (.t 14), none⟩,
            ⟨(some 16), .bslice false 4 1 1 [(.int .u8 0)] [(0, 1, (.t 15))], none⟩,
            ⟨(some 17), .append 4 1 1 (.t 13) (.t 16), none⟩,
            ⟨(some 3), .mov (.t 17), none⟩])
          .skip)))
      (.region false [⟨(some 7), .mov (.t 4), none⟩,
        ⟨(some 8), .bin .add (.t 7) (.c (.int .i64 (1))), none⟩,
        ⟨(some 4), .mov (.t 8), none⟩]))))))
  (.seq (.region false [⟨(some 18), .mov (.t 3), none⟩,
    ⟨(some 2), .mov (.t 18), none⟩])
  .ret)))) }
def a_class_Ranges : AFunc :=
{ ntmps := 42, results := [.t 2], body :=
  (.seq (.region false [⟨(some 1), .box true 1 (.t 0), none⟩,
    ⟨(some 2), .mov (.c .nils), none⟩])
  (.seq (.region false [⟨(some 3), .mov (.c .nils), none⟩])
  (.seq (.seq (.region false [⟨(some 7), .load (.reg 1) true 4 (.t 1), none⟩,
    ⟨(some 8), .call i_class_List [(.t 7)], none⟩,
    ⟨(some 9), .len (.t 8), none⟩,
    ⟨(some 10), .mov (.c (.int .i64 (0))), none⟩])
  (.block 0
    (.loop
      (.seq (.region false [⟨(some 11), .bin .lss (.t 10) (.t 9), none⟩])
      (.seq (.cond (.t 11)
        .skip
        (.exit 0))
      (.seq (.block 1
        (.seq (.region false [⟨(some 12), .idxSl 1 (.t 8) (.t 10), none⟩,
          ⟨(some 13), .load (.tag 4) false 1 (.t 12), none⟩,
          ⟨(some 5), .mov (.t 13), none⟩])
        (.seq (.region false [⟨(some 14), .mov (.t 3), none⟩,
          ⟨(some 15), .len (.t 14), none⟩,
          ⟨(some 16), .bin .sub (.t 15) (.c (.int .i64 (1))), none⟩,
          ⟨(some 6), .mov (.t 16), none⟩])
        (.seq (.region false [⟨(some 17), .mov (.t 6), none⟩,
          ⟨(some 18), .bin .geq (.t 17) (.c (.int .i64 (0))), none⟩,
          ⟨(some 19), .mov (.t 18), none⟩,
          ⟨(some 20), .mov (.t 3), (some (2, true))⟩,
          ⟨(some 21), .mov (.t 6), (some (2, true))⟩,
          ⟨(some 22), .idxSl 2 (.t 20) (.t 21), (some (2, true))⟩,
          ⟨(some 23), .idxArr 2 1 (.t 22) (.c (.int .i64 (1))), (some (2, true))⟩,
          ⟨(some 24), .load (.tag 2) false 1 (.t 23), (some (2, true))⟩,
          ⟨(some 25), .bin .add (.t 24) (.c (.int .u8 (1))), (some (2, true))⟩,
          ⟨(some 26), .mov (.t 5), (some (2, true))⟩,
          ⟨(some 27), .bin .eql (.t 25) (.t 26), (some (2, true))⟩,
          ⟨(some 28), .pick (.t 19) (.t 27) (.c (.bool false)), none⟩])
        (.cond (.t 28)
          (.region false [⟨(some 29), .mov (.t 3), none⟩,
            ⟨(some 30), .mov (.t 6), none⟩,
            ⟨(some 31), .mov (.t 5), none⟩,
            ⟨(some 32), .idxSl 2 (.t 29) (.t 30), none⟩,
            ⟨(some 33), .idxArr 2 1 (.t 32) (.c (.int .i64 (1))), none⟩,
            ⟨none, .store (.tag 2) 1 (.t 33) (.t 31), none⟩])
          (.region false [⟨(some 34), .mov (.t 3), none⟩,
            ⟨(some 35), .mov (.t 5), none⟩,
            ⟨(some 36), .mov (.t 5), none⟩,
            ⟨(some 37), .build [(.int .u8 0), (.int .u8 0)] [(0, 1, (.t 35)), (1, 1, (.t 36))], none⟩,
            ⟨(some 38), .bslice false 2 2 1 [(.int .u8 0), (.int .u8 0)] [(0, 2, (.t 37))], none⟩,
            ⟨(some 39), .append 2 2 2 (.t 34) (.t 38), none⟩,
            ⟨(some 3), .mov (.t 39), none⟩]))))))
      (.region false [⟨(some 40), .bin .add (.t 10) (.c (.int .i64 (1))), none⟩,
        ⟨(some 10), .mov (.t 40), none⟩])))))))
  (.seq (.region false [⟨(some 41), .mov (.t 3), none⟩,
    ⟨(some 2), .mov (.t 41), none⟩])
  .ret)))) }
def a_winnowerref5_Ranges : AFunc :=
{ ntmps := 54, results := [.t 2], body :=
  (.seq (.region false [⟨(some 1), .box true 1 (.t 0), none⟩,
    ⟨(some 2), .mov (.c .nils), none⟩])
  (.seq (.region false [⟨(some 3), .mov (.c .nils), none⟩])
  (.seq (.region false [⟨(some 6), .load (.reg 1) true 4 (.t 1), none⟩,
    ⟨(some 7), .call i_winnowerref5_List [(.t 6)], none⟩,
    ⟨(some 4), .mov (.t 7), none⟩])
  (.seq (.seq (.region false [⟨(some 5), .mov (.c (.int .i64 (0))), none⟩])
  (.block 0
    (.loop
      (.seq (.seq (.region false [⟨(some 8), .mov (.t 5), none⟩,
        ⟨(some 9), .mov (.t 4), none⟩,
        ⟨(some 10), .len (.t 9), none⟩,
        ⟨(some 11), .bin .lss (.t 8) (.t 10), none⟩])
      (.cond (.t 11)
        .skip
        (.exit 0)))
      (.seq (.block 1
        (.seq (.region true [⟨(some 14), .mov (.t 5), none⟩,
          ⟨(some 15), .bin .gtr (.t 14) (.c (.int .i64 (0))), none⟩,
          ⟨(some 16), .mov (.t 15), none⟩,
          ⟨(some 17), .mov (.t 4), (some (2, true))⟩,
          ⟨(some 18), .mov (.t 5), (some (2, true))⟩,
          ⟨(some 19), .bin .sub (.t 18) (.c (.int .i64 (1))), (some (2, true))⟩,
          ⟨(some 20), .idxSl 1 (.t 17) (.t 19), (some (2, true))⟩,
          ⟨(some 21), .load (.tag 4) false 1 (.t 20), (some (2, true))⟩,
          ⟨(some 22), .conv .i64 (.t 21), (some (2, true))⟩,
          ⟨(some 23), .bin .add (.t 22) (.c (.int .i64 (1))), (some (2, true))⟩,
          ⟨(some 24), .mov (.t 4), (some (2, true))⟩,
          ⟨(some 25), .mov (.t 5), (some (2, true))⟩,
          ⟨(some 26), .idxSl 1 (.t 24) (.t 25), (some (2, true))⟩,
          ⟨(some 27), .load (.tag 4) false 1 (.t 26), (some (2, true))⟩,
          ⟨(some 28), .conv .i64 (.t 27), (some (2, true))⟩,
          ⟨(some 29), .bin .eql (.t 23) (.t 28), (some (2, true))⟩,
          ⟨(some 30), .pick (.t 16) (.t 29) (.c (.bool false)), none⟩])
        (.cond (.t 30)
          (.region true [⟨(some 31), .mov (.t 3), none⟩,
            ⟨(some 32), .mov (.t 3), none⟩,
            ⟨(some 33), .len (.t 32), none⟩,
            ⟨(some 34), .bin .sub (.t 33) (.c (.int .i64 (1))), none⟩,
            ⟨(some 35), .mov (.t 4), none⟩,
            ⟨(some 36), .mov (.t 5), none⟩,
            ⟨(some 37), .idxSl 1 (.t 35) (.t 36), none⟩,
            ⟨(some 38), .load (.tag 4) false 1 (.t 37), none⟩,
            ⟨(some 39), .idxSl 2 (.t 31) (.t 34), none⟩,
            ⟨(some 40), .idxArr 2 1 (.t 39) (.c (.int .i64 (1))), none⟩,
            ⟨none, .store (.tag 2) 1 (.t 40) (.t 38), none⟩])
          (.region true [⟨(some 41), .mov (.t 3), none⟩,
            ⟨(some 42), .mov (.t 4), none⟩,
            ⟨(some 43), .mov (.t 5), none⟩,
            ⟨(some 44), .idxSl 1 (.t 42) (.t 43), none⟩,
            ⟨(some 45), .load (.tag 4) false 1 (.t 44), none⟩,
            ⟨(some 46), .mov (.t 4), none⟩,
            ⟨(some 47), .mov (.t 5), none⟩,
            ⟨(some 48), .idxSl 1 (.t 46) (.t 47), none⟩,
            ⟨(some 49), .load (.tag 4) false 1 (.t 48), none⟩,
            ⟨(some 50), .build [(.int .u8 0), (.int .u8 0)] [(0, 1, (.t 45)), (1, 1, (.t 49))], none⟩,
            ⟨(some 51), .bslice false 2 2 1 [(.int .u8 0), (.int .u8 0)] [(0, 2, (.t 50))], none⟩,
            ⟨(some 52), .append 2 2 2 (.t 41) (.t 51), none⟩,
            ⟨(some 3), .mov (.t 52), none⟩]))))
      (.region false [⟨(some 12), .mov (.t 5), none⟩,
        ⟨(some 13), .bin .add (.t 12) (.c (.int .i64 (1))), none⟩,
        ⟨(some 5), .mov (.t 13), none⟩]))))))
  (.seq (.region false [⟨(some 53), .mov (.t 3), none⟩,
    ⟨(some 2), .mov (.t 53), none⟩])
  .ret))))) }
def a_class_Count : AFunc :=
{ ntmps := 16, results := [.t 2], body :=
  (.seq (.region false [⟨(some 1), .box true 1 (.t 0), none⟩,
    ⟨(some 2), .mov (.c (.int .i64 (0))), none⟩])
  (.seq (.region false [⟨(some 3), .mov (.c (.int .i64 (0))), none⟩])
  (.seq (.seq (.region false [⟨(some 6), .load (.reg 1) true 4 (.t 1), none⟩,
    ⟨(some 7), .mov (.c (.int .i64 (0))), none⟩])
  (.block 0
    (.loop
      (.seq (.region false [⟨(some 8), .bin .lss (.t 7) (.c (.int .i64 (4))), none⟩])
      (.seq (.cond (.t 8)
        .skip
        (.exit 0))
      (.seq (.block 1
        (.seq (.region false [⟨(some 9), .idxAgg false 4 1 (.t 6) (.t 7), none⟩,
          ⟨(some 5), .mov (.t 9), none⟩])
        (.region false [⟨(some 10), .mov (.t 3), none⟩,
          ⟨(some 11), .mov (.t 5), none⟩,
          ⟨(some 12), .call i_math_bits_OnesCount64 [(.t 11)], none⟩,
          ⟨(some 13), .bin .add (.t 10) (.t 12), none⟩,
          ⟨(some 3), .mov (.t 13), none⟩])))
      (.region false [⟨(some 14), .bin .add (.t 7) (.c (.int .i64 (1))), none⟩,
        ⟨(some 7), .mov (.t 14), none⟩])))))))
  (.seq (.region false [⟨(some 15), .mov (.t 3), none⟩,
    ⟨(some 2), .mov (.t 15), none⟩])
  .ret)))) }
def a_class_Of : AFunc :=
{ ntmps := 23, results := [.cell 2 true 4], body :=
  (.seq (.region false [⟨(some 2), .alloc true 1 [(.int .u64 0), (.int .u64 0), (.int .u64 0), (.int .u64 0)], none⟩])
  (.seq (.region false [⟨(some 3), .alloc true 1 [(.int .u64 0), (.int .u64 0), (.int .u64 0), (.int .u64 0)], none⟩])
  (.seq (.seq (.region false [⟨(some 6), .mov (.t 0), none⟩,
    ⟨(some 7), .len (.t 6), none⟩,
    ⟨(some 8), .mov (.c (.int .i64 (0))), none⟩])
  (.block 0
    (.loop
      (.seq (.region false [⟨(some 9), .bin .lss (.t 8) (.t 7), none⟩])
      (.seq (.cond (.t 9)
        .skip
        (.exit 0))
      (.seq (.block 1
        (.seq (.region false [⟨(some 10), .idxSl 1 (.t 6) (.t 8), none⟩,
          ⟨(some 11), .load (.tag 4) false 1 (.t 10), none⟩,
          ⟨(some 5), .mov (.t 11), none⟩])
        (.region false [⟨(some 12), .mov (.t 5), none⟩,
          ⟨(some 13), .bin .quo (.t 12) (.c (.int .u8 (64))), none⟩,
          ⟨(some 14), .idxArr 4 1 (.t 3) (.t 13), none⟩,
          ⟨(some 15), .load (.reg 3) false 1 (.t 14), none⟩,
          ⟨(some 16), .mov (.t 5), none⟩,
          ⟨(some 17), .bin .rem (.t 16) (.c (.int .u8 (64))), none⟩,
          ⟨(some 18), .bin .shl (.c (.int .u64 (1))) (.t 17), none⟩,
          ⟨(some 19), .bin .or (.t 15) (.t 18), none⟩,
          ⟨(some 20), .idxArr 4 1 (.t 3) (.t 13), none⟩,
          ⟨none, .store (.reg 3) 1 (.t 20) (.t 19), none⟩])))
      (.region false [⟨(some 21), .bin .add (.t 8) (.c (.int .i64 (1))), none⟩,
        ⟨(some 8), .mov (.t 21), none⟩])))))))
  (.seq (.region false [⟨(some 22), .load (.reg 3) true 4 (.t 3), none⟩,
    ⟨none, .store (.reg 2) 4 (.t 2) (.t 22), none⟩])
  .ret)))) }
def a_winnowerref5_Of : AFunc :=
{ ntmps := 33, results := [.cell 2 true 4], body :=
  (.seq (.region false [⟨(some 2), .alloc true 1 [(.int .u64 0), (.int .u64 0), (.int .u64 0), (.int .u64 0)], none⟩])
  (.seq (.region false [⟨(some 3), .alloc true 1 [(.int .u64 0), (.int .u64 0), (.int .u64 0), (.int .u64 0)], none⟩])
  (.seq (.seq (.region false [⟨(some 4), .mov (.c (.int .i64 (0))), none⟩])
  (.block 0
    (.loop
      (.seq (.seq (.region false [⟨(some 5), .mov (.t 4), none⟩,
        ⟨(some 6), .mov (.t 0), none⟩,
        ⟨(some 7), .len (.t 6), none⟩,
        ⟨(some 8), .bin .lss (.t 5) (.t 7), none⟩])
      (.cond (.t 8)
        .skip
        (.exit 0)))
      (.seq (.block 1
        (.region true [⟨(some 11), .mov (.t 0), none⟩,
          ⟨(some 12), .mov (.t 4), none⟩,
          ⟨(some 13), .idxSl 1 (.t 11) (.t 12), none⟩,
          ⟨(some 14), .load (.tag 4) false 1 (.t 13), none⟩,
          ⟨(some 15), .bin .quo (.t 14) (.c (.int .u8 (64))), none⟩,
          ⟨(some 16), .mov (.t 0), none⟩,
          ⟨(some 17), .mov (.t 4), none⟩,
          ⟨(some 18), .idxSl 1 (.t 16) (.t 17), none⟩,
          ⟨(some 19), .load (.tag 4) false 1 (.t 18), none⟩,
          ⟨(some 20), .bin .quo (.t 19) (.c (.int .u8 (64))), none⟩,
          ⟨(some 21), .idxArr 4 1 (.t 3) (.t 20), none⟩,
          ⟨(some 22), .load (.reg 3) false 1 (.t 21), none⟩,
          ⟨(some 23), .mov (.t 0), none⟩,
          ⟨(some 24), .mov (.t 4), none⟩,
          ⟨(some 25), .idxSl 1 (.t 23) (.t 24), none⟩,
          ⟨(some 26), .load (.tag 4) false 1 (.t 25), none⟩,
          ⟨(some 27), .bin .rem (.t 26) (.c (.int .u8 (64))), none⟩,
          ⟨(some 28), .conv .u64 (.t 27), none⟩,
          ⟨(some 29), .bin .shl (.c (.int .u64 (1))) (.t 28), none⟩,
          ⟨(some 30), .bin .or (.t 22) (.t 29), none⟩,
          ⟨(some 31), .idxArr 4 1 (.t 3) (.t 15), none⟩,
          ⟨none, .store (.reg 3) 1 (.t 31) (.t 30), none⟩]))
      (.region false [⟨(some 9), .mov (.t 4), none⟩,
        ⟨(some 10), .bin .add (.t 9) (.c (.int .i64 (1))), none⟩,
        ⟨(some 4), .mov (.t 10), none⟩]))))))
  (.seq (.region false [⟨(some 32), .load (.reg 3) true 4 (.t 3), none⟩,
    ⟨none, .store (.reg 2) 4 (.t 2) (.t 32), none⟩])
  .ret)))) }
def a_class_Range : AFunc :=
{ ntmps := 25, results := [.cell 4 true 4], body :=
  (.seq (.region false [⟨(some 4), .alloc true 1 [(.int .u64 0), (.int .u64 0), (.int .u64 0), (.int .u64 0)], none⟩])
  (.seq (.region false [⟨(some 5), .alloc true 1 [(.int .u64 0), (.int .u64 0), (.int .u64 0), (.int .u64 0)], none⟩])
  (.seq (.seq (.region false [⟨(some 7), .mov (.t 0), none⟩,
    ⟨(some 8), .conv .i64 (.t 7), none⟩,
    ⟨(some 6), .mov (.t 8), none⟩])
  (.block 0
    (.loop
      (.seq (.seq (.region false [⟨(some 9), .mov (.t 6), none⟩,
        ⟨(some 10), .mov (.t 1), none⟩,
        ⟨(some 11), .conv .i64 (.t 10), none⟩,
        ⟨(some 12), .bin .leq (.t 9) (.t 11), none⟩])
      (.cond (.t 12)
        .skip
        (.exit 0)))
      (.seq (.block 1
        (.region true [⟨(some 15), .mov (.t 6), none⟩,
          ⟨(some 16), .bin .quo (.t 15) (.c (.int .i64 (64))), none⟩,
          ⟨(some 17), .idxArr 4 1 (.t 5) (.t 16), none⟩,
          ⟨(some 18), .load (.reg 5) false 1 (.t 17), none⟩,
          ⟨(some 19), .mov (.t 6), none⟩,
          ⟨(some 20), .bin .rem (.t 19) (.c (.int .i64 (64))), none⟩,
          ⟨(some 21), .bin .shl (.c (.int .u64 (1))) (.t 20), none⟩,
          ⟨(some 22), .bin .or (.t 18) (.t 21), none⟩,
          ⟨(some 23), .idxArr 4 1 (.t 5) (.t 16), none⟩,
          ⟨none, .store (.reg 5) 1 (.t 23) (.t 22), none⟩]))
      (.region false [⟨(some 13), .mov (.t 6), none⟩,
        ⟨(some 14), .bin .add (.t 13) (.c (.int .i64 (1))), none⟩,
        ⟨(some 6), .mov (.t 14), none⟩]))))))
  (.seq (.region false [⟨(some 24), .load (.reg 5) true 4 (.t 5), none⟩,
    ⟨none, .store (.reg 4) 4 (.t 4) (.t 24), none⟩])
  .ret)))) }
def a_winnowerref5_Range : AFunc :=
{ ntmps := 22, results := [.cell 4 true 4], body :=
  (.seq (.region false [⟨(some 4), .alloc true 1 [(.int .u64 0), (.int .u64 0), (.int .u64 0), (.int .u64 0)], none⟩])
  (.seq (.region false [⟨(some 5), .mov (.c .nils), none⟩])
  (.seq (.seq (.region false [⟨(some 7), .mov (.t 0), none⟩,
    ⟨(some 8), .conv .i64 (.t 7), none⟩,
    ⟨(some 6), .mov (.t 8), none⟩])
  (.block 0
    (.loop
      (.seq (.seq (.region false [⟨(some 9), .mov (.t 6), none⟩,
        ⟨(some 10), .mov (.t 1), none⟩,
        ⟨(some 11), .conv .i64 (.t 10), none⟩,
        ⟨(some 12), .bin .leq (.t 9) (.t 11), none⟩])
      (.cond (.t 12)
        .skip
        (.exit 0)))
      (.seq (.block 1
        (.region false [⟨(some 15), .mov (.t 5), none⟩,
          ⟨(some 16), .mov (.t 6), none⟩,
          ⟨(some 17), .conv .u8 (.t 16), none⟩,
          ⟨(some 18), .bslice false 4 1 1 [(.int .u8 0)] [(0, 1, (.t 17))], none⟩,
          ⟨(some 19), .append 4 1 1 (.t 15) (.t 18), none⟩,
          ⟨(some 5), .mov (.t 19), none⟩]))
      (.region false [⟨(some 13), .mov (.t 6), none⟩,
        ⟨(some 14), .bin .add (.t 13) (.c (.int .i64 (1))), none⟩,
        ⟨(some 6), .mov (.t 14), none⟩]))))))
  (.seq (.region false [⟨(some 20), .mov (.t 5), none⟩,
    ⟨(some 21), .call i_winnowerref5_Of [(.t 20)], none⟩,
    ⟨none, .store (.reg 4) 4 (.t 4) (.t 21), none⟩])
  .ret)))) }
def a_slices_Index_string_string : AFunc :=
{ ntmps := 19, results := [.t 4], body :=
  (.seq (.region false [⟨(some 4), .mov (.c (.int .i64 (0))), none⟩])
  (.seq (.seq (.region false [⟨(some 6), .mov (.t 0), none⟩,
    ⟨(some 7), .len (.t 6), none⟩,
    ⟨(some 8), .mov (.c (.int .i64 (0))), none⟩])
  (.block 0
    (.loop
      (.seq (.region false [⟨(some 9), .bin .lss (.t 8) (.t 7), none⟩])
      (.seq (.cond (.t 9)
        .skip
        (.exit 0))
      (.seq (.block 1
        (.seq (.region false [⟨(some 10), .mov (.t 8), none⟩,
          ⟨(some 5), .mov (.t 10), none⟩])
        (.seq (.region false [⟨(some 11), .mov (.t 1), none⟩,
          ⟨(some 12), .mov (.t 0), none⟩,
          ⟨(some 13), .mov (.t 5), none⟩,
          ⟨(some 14), .idxSl 1 (.t 12) (.t 13), none⟩,
          ⟨(some 15), .load (.tag 3) false 1 (.t 14), none⟩,
          ⟨(some 16), .bin .eql (.t 11) (.t 15), none⟩])
        (.cond (.t 16)
          (.seq (.region false [⟨(some 17), .mov (.t 5), none⟩,
            ⟨(some 4), .mov (.t 17), none⟩])
          .ret)
          .skip))))
      (.region false [⟨(some 18), .bin .add (.t 8) (.c (.int .i64 (1))), none⟩,
        ⟨(some 8), .mov (.t 18), none⟩])))))))
  (.seq (.region false [⟨(some 4), .mov (.c (.int .i64 (-1))), none⟩])
  .ret))) }
def a_rules_names : AFunc :=
{ ntmps := 2, results := [.t 0], body :=
  (.seq (.region false [⟨(some 0), .mov (.c .nils), none⟩])
  (.seq (.region false [⟨(some 1), .bslice false 3 1 9 [(.str [])] [(0, 1, (.c (.str [115, 116, 97, 109, 112]))), (1, 1, (.c (.str [105, 112]))), (2, 1, (.c (.str [109, 97, 99]))), (3, 1, (.c (.str [104, 101, 120]))), (4, 1, (.c (.str [110, 117, 109, 98, 101, 114]))), (5, 1, (.c (.str [113, 117, 111, 116, 101, 100]))), (6, 1, (.c (.str [119, 111, 114, 100]))), (7, 1, (.c (.str [98, 108, 97, 110, 107]))), (8, 1, (.c (.str [111, 116, 104, 101, 114])))], none⟩,
    ⟨(some 0), .mov (.t 1), none⟩])
  .ret)) }
def a_winnowerref5_Not : AFunc :=
{ ntmps := 16, results := [.cell 2 true 4], body :=
  (.seq (.region false [⟨(some 1), .box true 1 (.t 0), none⟩,
    ⟨(some 2), .alloc true 1 [(.int .u64 0), (.int .u64 0), (.int .u64 0), (.int .u64 0)], none⟩])
  (.seq (.region false [⟨(some 3), .alloc true 1 [(.int .u64 0), (.int .u64 0), (.int .u64 0), (.int .u64 0)], none⟩])
  (.seq (.seq (.region false [⟨(some 4), .mov (.c (.int .i64 (0))), none⟩])
  (.block 0
    (.loop
      (.seq (.seq (.region false [⟨(some 5), .mov (.t 4), none⟩,
        ⟨(some 6), .bin .lss (.t 5) (.c (.int .i64 (4))), none⟩])
      (.cond (.t 6)
        .skip
        (.exit 0)))
      (.seq (.block 1
        (.region false [⟨(some 9), .mov (.t 4), none⟩,
          ⟨(some 10), .mov (.t 4), none⟩,
          ⟨(some 11), .idxArr 4 1 (.t 1) (.t 10), none⟩,
          ⟨(some 12), .load (.reg 1) false 1 (.t 11), none⟩,
          ⟨(some 13), .un .xor (.t 12), none⟩,
          ⟨(some 14), .idxArr 4 1 (.t 3) (.t 9), none⟩,
          ⟨none, .store (.reg 3) 1 (.t 14) (.t 13), none⟩]))
      (.region false [⟨(some 7), .mov (.t 4), none⟩,
        ⟨(some 8), .bin .add (.t 7) (.c (.int .i64 (1))), none⟩,
        ⟨(some 4), .mov (.t 8), none⟩]))))))
  (.seq (.region false [⟨(some 15), .load (.reg 3) true 4 (.t 3), none⟩,
    ⟨none, .store (.reg 2) 4 (.t 2) (.t 15), none⟩])
  .ret)))) }
def a_math_bits_OnesCount64 : AFunc :=
{ ntmps := 35, results := [.t 2], body :=
  (.seq (.region false [⟨(some 2), .mov (.c (.int .i64 (0))), none⟩])
  (.seq (.region false [⟨(some 3), .mov (.t 0), none⟩,
    ⟨(some 4), .bin .shr (.t 3) (.c (.int .u64 (1))), none⟩,
    ⟨(some 5), .bin .and (.t 4) (.c (.int .u64 (6148914691236517205))), none⟩,
    ⟨(some 6), .mov (.t 0), none⟩,
    ⟨(some 7), .bin .and (.t 6) (.c (.int .u64 (6148914691236517205))), none⟩,
    ⟨(some 8), .bin .add (.t 5) (.t 7), none⟩,
    ⟨(some 0), .mov (.t 8), none⟩])
  (.seq (.region false [⟨(some 9), .mov (.t 0), none⟩,
    ⟨(some 10), .bin .shr (.t 9) (.c (.int .u64 (2))), none⟩,
    ⟨(some 11), .bin .and (.t 10) (.c (.int .u64 (3689348814741910323))), none⟩,
    ⟨(some 12), .mov (.t 0), none⟩,
    ⟨(some 13), .bin .and (.t 12) (.c (.int .u64 (3689348814741910323))), none⟩,
    ⟨(some 14), .bin .add (.t 11) (.t 13), none⟩,
    ⟨(some 0), .mov (.t 14), none⟩])
  (.seq (.region false [⟨(some 15), .mov (.t 0), none⟩,
    ⟨(some 16), .bin .shr (.t 15) (.c (.int .u64 (4))), none⟩,
    ⟨(some 17), .mov (.t 0), none⟩,
    ⟨(some 18), .bin .add (.t 16) (.t 17), none⟩,
    ⟨(some 19), .bin .and (.t 18) (.c (.int .u64 (1085102592571150095))), none⟩,
    ⟨(some 0), .mov (.t 19), none⟩])
  (.seq (.region false [⟨(some 20), .mov (.t 0), none⟩,
    ⟨(some 21), .mov (.t 0), none⟩,
    ⟨(some 22), .bin .shr (.t 21) (.c (.int .u64 (8))), none⟩,
    ⟨(some 23), .bin .add (.t 20) (.t 22), none⟩,
    ⟨(some 0), .mov (.t 23), none⟩])
  (.seq (.region false [⟨(some 24), .mov (.t 0), none⟩,
    ⟨(some 25), .mov (.t 0), none⟩,
    ⟨(some 26), .bin .shr (.t 25) (.c (.int .u64 (16))), none⟩,
    ⟨(some 27), .bin .add (.t 24) (.t 26), none⟩,
    ⟨(some 0), .mov (.t 27), none⟩])
  (.seq (.region false [⟨(some 28), .mov (.t 0), none⟩,
    ⟨(some 29), .mov (.t 0), none⟩,
    ⟨(some 30), .bin .shr (.t 29) (.c (.int .u64 (32))), none⟩,
    ⟨(some 31), .bin .add (.t 28) (.t 30), none⟩,
    ⟨(some 0), .mov (.t 31), none⟩])
  (.seq (.region false [⟨(some 32), .mov (.t 0), none⟩,
    ⟨(some 33), .conv .i64 (.t 32), none⟩,
    ⟨(some 34), .bin .and (.t 33) (.c (.int .i64 (127))), none⟩,
    ⟨(some 2), .mov (.t 34), none⟩])
  .ret)))))))) }
def cMode : FuncId → Mode
  | 17 => .fresh
  | _ => .pure
def cFuncs : FuncId → Option AFunc
  | 3 => some a_winnowerlaw12_RulesTable
  | 4 => some a_winnowerlaw5_ClassJoins
  | 5 => some a_winnowerlaw5_ClassTells
  | 6 => some a_winnowerlaw5_ClassTurned
  | 7 => some a_rules_Kind
  | 8 => some a_winnowerref12_Kind
  | 9 => some a_rules_Name
  | 10 => some a_winnowerref12_Name
  | 11 => some a_rules_Pattern
  | 12 => some a_winnowerref12_Pattern
  | 13 => some a_winnowerlaw12_known
  | 14 => some a_winnowerref5_Has
  | 15 => some a_class_Has
  | 16 => some a_class_Not
  | 17 => some a_class_Join
  | 18 => some a_winnowerref5_Join
  | 19 => some a_class_Meet
  | 20 => some a_winnowerref5_Meet
  | 21 => some a_winnowerlaw5_known
  | 22 => some a_class_List
  | 23 => some a_winnowerref5_List
  | 24 => some a_class_Ranges
  | 25 => some a_winnowerref5_Ranges
  | 26 => some a_class_Count
  | 27 => some a_class_Of
  | 28 => some a_winnowerref5_Of
  | 29 => some a_class_Range
  | 30 => some a_winnowerref5_Range
  | 31 => some a_slices_Index_string_string
  | 32 => some a_rules_names
  | 33 => some a_winnowerref5_Not
  | 34 => some a_math_bits_OnesCount64
  | _ => none
@[reducible] def C : Machine := ⟨cFuncs, fun _ => none, cMode⟩
theorem m_winnowerlaw12_RulesTable : cMode i_winnowerlaw12_RulesTable = .pure := rfl
theorem c_winnowerlaw12_RulesTable (args : List AV) (h : AHeap) : callL C i_winnowerlaw12_RulesTable args h = match argsR h args with | some xs => (match pcL C i_winnowerlaw12_RulesTable xs with | some v => some (v, args.foldl (frz depth) h) | none => none) | none => none := callL_pureE rfl rfl args h
theorem m_winnowerlaw5_ClassJoins : cMode i_winnowerlaw5_ClassJoins = .pure := rfl
theorem c_winnowerlaw5_ClassJoins (args : List AV) (h : AHeap) : callL C i_winnowerlaw5_ClassJoins args h = match argsR h args with | some xs => (match pcL C i_winnowerlaw5_ClassJoins xs with | some v => some (v, args.foldl (frz depth) h) | none => none) | none => none := callL_pureE rfl rfl args h
theorem m_winnowerlaw5_ClassTells : cMode i_winnowerlaw5_ClassTells = .pure := rfl
theorem c_winnowerlaw5_ClassTells (args : List AV) (h : AHeap) : callL C i_winnowerlaw5_ClassTells args h = match argsR h args with | some xs => (match pcL C i_winnowerlaw5_ClassTells xs with | some v => some (v, args.foldl (frz depth) h) | none => none) | none => none := callL_pureE rfl rfl args h
theorem m_winnowerlaw5_ClassTurned : cMode i_winnowerlaw5_ClassTurned = .pure := rfl
theorem c_winnowerlaw5_ClassTurned (args : List AV) (h : AHeap) : callL C i_winnowerlaw5_ClassTurned args h = match argsR h args with | some xs => (match pcL C i_winnowerlaw5_ClassTurned xs with | some v => some (v, args.foldl (frz depth) h) | none => none) | none => none := callL_pureE rfl rfl args h
theorem m_rules_Kind : cMode i_rules_Kind = .pure := rfl
theorem c_rules_Kind (args : List AV) (h : AHeap) : callL C i_rules_Kind args h = match argsR h args with | some xs => (match pcL C i_rules_Kind xs with | some v => some (v, args.foldl (frz depth) h) | none => none) | none => none := callL_pureE rfl rfl args h
theorem m_winnowerref12_Kind : cMode i_winnowerref12_Kind = .pure := rfl
theorem c_winnowerref12_Kind (args : List AV) (h : AHeap) : callL C i_winnowerref12_Kind args h = match argsR h args with | some xs => (match pcL C i_winnowerref12_Kind xs with | some v => some (v, args.foldl (frz depth) h) | none => none) | none => none := callL_pureE rfl rfl args h
theorem m_rules_Name : cMode i_rules_Name = .pure := rfl
theorem c_rules_Name (args : List AV) (h : AHeap) : callL C i_rules_Name args h = match argsR h args with | some xs => (match pcL C i_rules_Name xs with | some v => some (v, args.foldl (frz depth) h) | none => none) | none => none := callL_pureE rfl rfl args h
theorem m_winnowerref12_Name : cMode i_winnowerref12_Name = .pure := rfl
theorem c_winnowerref12_Name (args : List AV) (h : AHeap) : callL C i_winnowerref12_Name args h = match argsR h args with | some xs => (match pcL C i_winnowerref12_Name xs with | some v => some (v, args.foldl (frz depth) h) | none => none) | none => none := callL_pureE rfl rfl args h
theorem m_rules_Pattern : cMode i_rules_Pattern = .pure := rfl
theorem c_rules_Pattern (args : List AV) (h : AHeap) : callL C i_rules_Pattern args h = match argsR h args with | some xs => (match pcL C i_rules_Pattern xs with | some v => some (v, args.foldl (frz depth) h) | none => none) | none => none := callL_pureE rfl rfl args h
theorem m_winnowerref12_Pattern : cMode i_winnowerref12_Pattern = .pure := rfl
theorem c_winnowerref12_Pattern (args : List AV) (h : AHeap) : callL C i_winnowerref12_Pattern args h = match argsR h args with | some xs => (match pcL C i_winnowerref12_Pattern xs with | some v => some (v, args.foldl (frz depth) h) | none => none) | none => none := callL_pureE rfl rfl args h
theorem m_winnowerlaw12_known : cMode i_winnowerlaw12_known = .pure := rfl
theorem c_winnowerlaw12_known (args : List AV) (h : AHeap) : callL C i_winnowerlaw12_known args h = match argsR h args with | some xs => (match pcL C i_winnowerlaw12_known xs with | some v => some (v, args.foldl (frz depth) h) | none => none) | none => none := callL_pureE rfl rfl args h
theorem m_winnowerref5_Has : cMode i_winnowerref5_Has = .pure := rfl
theorem c_winnowerref5_Has (args : List AV) (h : AHeap) : callL C i_winnowerref5_Has args h = match argsR h args with | some xs => (match pcL C i_winnowerref5_Has xs with | some v => some (v, args.foldl (frz depth) h) | none => none) | none => none := callL_pureE rfl rfl args h
theorem m_class_Has : cMode i_class_Has = .pure := rfl
theorem c_class_Has (args : List AV) (h : AHeap) : callL C i_class_Has args h = match argsR h args with | some xs => (match pcL C i_class_Has xs with | some v => some (v, args.foldl (frz depth) h) | none => none) | none => none := callL_pureE rfl rfl args h
theorem m_class_Not : cMode i_class_Not = .pure := rfl
theorem c_class_Not (args : List AV) (h : AHeap) : callL C i_class_Not args h = match argsR h args with | some xs => (match pcL C i_class_Not xs with | some v => some (v, args.foldl (frz depth) h) | none => none) | none => none := callL_pureE rfl rfl args h
theorem m_class_Join : cMode i_class_Join = .fresh := rfl
theorem c_class_Join (args : List AV) (h : AHeap) : callL C i_class_Join args h = match argsR h args with | some xs => (match pcL C i_class_Join xs with | some v => if notPs v = true then some (v, args.foldl (frz depth) h) else callO C i_class_Join args h | none => callO C i_class_Join args h) | none => callO C i_class_Join args h := callL_freshE rfl rfl args h
theorem m_winnowerref5_Join : cMode i_winnowerref5_Join = .pure := rfl
theorem c_winnowerref5_Join (args : List AV) (h : AHeap) : callL C i_winnowerref5_Join args h = match argsR h args with | some xs => (match pcL C i_winnowerref5_Join xs with | some v => some (v, args.foldl (frz depth) h) | none => none) | none => none := callL_pureE rfl rfl args h
theorem m_class_Meet : cMode i_class_Meet = .pure := rfl
theorem c_class_Meet (args : List AV) (h : AHeap) : callL C i_class_Meet args h = match argsR h args with | some xs => (match pcL C i_class_Meet xs with | some v => some (v, args.foldl (frz depth) h) | none => none) | none => none := callL_pureE rfl rfl args h
theorem m_winnowerref5_Meet : cMode i_winnowerref5_Meet = .pure := rfl
theorem c_winnowerref5_Meet (args : List AV) (h : AHeap) : callL C i_winnowerref5_Meet args h = match argsR h args with | some xs => (match pcL C i_winnowerref5_Meet xs with | some v => some (v, args.foldl (frz depth) h) | none => none) | none => none := callL_pureE rfl rfl args h
theorem m_winnowerlaw5_known : cMode i_winnowerlaw5_known = .pure := rfl
theorem c_winnowerlaw5_known (args : List AV) (h : AHeap) : callL C i_winnowerlaw5_known args h = match argsR h args with | some xs => (match pcL C i_winnowerlaw5_known xs with | some v => some (v, args.foldl (frz depth) h) | none => none) | none => none := callL_pureE rfl rfl args h
theorem m_class_List : cMode i_class_List = .pure := rfl
theorem c_class_List (args : List AV) (h : AHeap) : callL C i_class_List args h = match argsR h args with | some xs => (match pcL C i_class_List xs with | some v => some (v, args.foldl (frz depth) h) | none => none) | none => none := callL_pureE rfl rfl args h
theorem m_winnowerref5_List : cMode i_winnowerref5_List = .pure := rfl
theorem c_winnowerref5_List (args : List AV) (h : AHeap) : callL C i_winnowerref5_List args h = match argsR h args with | some xs => (match pcL C i_winnowerref5_List xs with | some v => some (v, args.foldl (frz depth) h) | none => none) | none => none := callL_pureE rfl rfl args h
theorem m_class_Ranges : cMode i_class_Ranges = .pure := rfl
theorem c_class_Ranges (args : List AV) (h : AHeap) : callL C i_class_Ranges args h = match argsR h args with | some xs => (match pcL C i_class_Ranges xs with | some v => some (v, args.foldl (frz depth) h) | none => none) | none => none := callL_pureE rfl rfl args h
theorem m_winnowerref5_Ranges : cMode i_winnowerref5_Ranges = .pure := rfl
theorem c_winnowerref5_Ranges (args : List AV) (h : AHeap) : callL C i_winnowerref5_Ranges args h = match argsR h args with | some xs => (match pcL C i_winnowerref5_Ranges xs with | some v => some (v, args.foldl (frz depth) h) | none => none) | none => none := callL_pureE rfl rfl args h
theorem m_class_Count : cMode i_class_Count = .pure := rfl
theorem c_class_Count (args : List AV) (h : AHeap) : callL C i_class_Count args h = match argsR h args with | some xs => (match pcL C i_class_Count xs with | some v => some (v, args.foldl (frz depth) h) | none => none) | none => none := callL_pureE rfl rfl args h
theorem m_class_Of : cMode i_class_Of = .pure := rfl
theorem c_class_Of (args : List AV) (h : AHeap) : callL C i_class_Of args h = match argsR h args with | some xs => (match pcL C i_class_Of xs with | some v => some (v, args.foldl (frz depth) h) | none => none) | none => none := callL_pureE rfl rfl args h
theorem m_winnowerref5_Of : cMode i_winnowerref5_Of = .pure := rfl
theorem c_winnowerref5_Of (args : List AV) (h : AHeap) : callL C i_winnowerref5_Of args h = match argsR h args with | some xs => (match pcL C i_winnowerref5_Of xs with | some v => some (v, args.foldl (frz depth) h) | none => none) | none => none := callL_pureE rfl rfl args h
theorem m_class_Range : cMode i_class_Range = .pure := rfl
theorem c_class_Range (args : List AV) (h : AHeap) : callL C i_class_Range args h = match argsR h args with | some xs => (match pcL C i_class_Range xs with | some v => some (v, args.foldl (frz depth) h) | none => none) | none => none := callL_pureE rfl rfl args h
theorem m_winnowerref5_Range : cMode i_winnowerref5_Range = .pure := rfl
theorem c_winnowerref5_Range (args : List AV) (h : AHeap) : callL C i_winnowerref5_Range args h = match argsR h args with | some xs => (match pcL C i_winnowerref5_Range xs with | some v => some (v, args.foldl (frz depth) h) | none => none) | none => none := callL_pureE rfl rfl args h
theorem m_slices_Index_string_string : cMode i_slices_Index_string_string = .pure := rfl
theorem c_slices_Index_string_string (args : List AV) (h : AHeap) : callL C i_slices_Index_string_string args h = match argsR h args with | some xs => (match pcL C i_slices_Index_string_string xs with | some v => some (v, args.foldl (frz depth) h) | none => none) | none => none := callL_pureE rfl rfl args h
theorem m_rules_names : cMode i_rules_names = .pure := rfl
theorem c_rules_names (args : List AV) (h : AHeap) : callL C i_rules_names args h = match argsR h args with | some xs => (match pcL C i_rules_names xs with | some v => some (v, args.foldl (frz depth) h) | none => none) | none => none := callL_pureE rfl rfl args h
theorem m_winnowerref5_Not : cMode i_winnowerref5_Not = .pure := rfl
theorem c_winnowerref5_Not (args : List AV) (h : AHeap) : callL C i_winnowerref5_Not args h = match argsR h args with | some xs => (match pcL C i_winnowerref5_Not xs with | some v => some (v, args.foldl (frz depth) h) | none => none) | none => none := callL_pureE rfl rfl args h
theorem m_math_bits_OnesCount64 : cMode i_math_bits_OnesCount64 = .pure := rfl
theorem c_math_bits_OnesCount64 (args : List AV) (h : AHeap) : callL C i_math_bits_OnesCount64 args h = match argsR h args with | some xs => (match pcL C i_math_bits_OnesCount64 xs with | some v => some (v, args.foldl (frz depth) h) | none => none) | none => none := callL_pureE rfl rfl args h
theorem RC : type_of% (And.intro @m_winnowerlaw12_RulesTable (And.intro @c_winnowerlaw12_RulesTable (And.intro @m_winnowerlaw5_ClassJoins (And.intro @c_winnowerlaw5_ClassJoins (And.intro @m_winnowerlaw5_ClassTells (And.intro @c_winnowerlaw5_ClassTells (And.intro @m_winnowerlaw5_ClassTurned (And.intro @c_winnowerlaw5_ClassTurned (And.intro @m_rules_Kind (And.intro @c_rules_Kind (And.intro @m_winnowerref12_Kind (And.intro @c_winnowerref12_Kind (And.intro @m_rules_Name (And.intro @c_rules_Name (And.intro @m_winnowerref12_Name (And.intro @c_winnowerref12_Name (And.intro @m_rules_Pattern (And.intro @c_rules_Pattern (And.intro @m_winnowerref12_Pattern (And.intro @c_winnowerref12_Pattern (And.intro @m_winnowerlaw12_known (And.intro @c_winnowerlaw12_known (And.intro @m_winnowerref5_Has (And.intro @c_winnowerref5_Has (And.intro @m_class_Has (And.intro @c_class_Has (And.intro @m_class_Not (And.intro @c_class_Not (And.intro @m_class_Join (And.intro @c_class_Join (And.intro @m_winnowerref5_Join (And.intro @c_winnowerref5_Join (And.intro @m_class_Meet (And.intro @c_class_Meet (And.intro @m_winnowerref5_Meet (And.intro @c_winnowerref5_Meet (And.intro @m_winnowerlaw5_known (And.intro @c_winnowerlaw5_known (And.intro @m_class_List (And.intro @c_class_List (And.intro @m_winnowerref5_List (And.intro @c_winnowerref5_List (And.intro @m_class_Ranges (And.intro @c_class_Ranges (And.intro @m_winnowerref5_Ranges (And.intro @c_winnowerref5_Ranges (And.intro @m_class_Count (And.intro @c_class_Count (And.intro @m_class_Of (And.intro @c_class_Of (And.intro @m_winnowerref5_Of (And.intro @c_winnowerref5_Of (And.intro @m_class_Range (And.intro @c_class_Range (And.intro @m_winnowerref5_Range (And.intro @c_winnowerref5_Range (And.intro @m_slices_Index_string_string (And.intro @c_slices_Index_string_string (And.intro @m_rules_names (And.intro @c_rules_names (And.intro @m_winnowerref5_Not (And.intro @c_winnowerref5_Not (And.intro @m_math_bits_OnesCount64 (And.intro @c_math_bits_OnesCount64 (And.intro @notPs_agg (And.intro @notPs_tuple (And.intro @notPs_int (And.intro @notPs_bool (And.intro @notPs_str (And.intro @notPs_ps (And.intro @mode_ps (And.intro @mode_pf (And.intro @mode_ss (And.intro @mode_ff (And.intro @mode_sf (@mode_fs)))))))))))))))))))))))))))))))))))))))))))))))))))))))))))))))))))))))))))) :=
  And.intro @m_winnowerlaw12_RulesTable (And.intro @c_winnowerlaw12_RulesTable (And.intro @m_winnowerlaw5_ClassJoins (And.intro @c_winnowerlaw5_ClassJoins (And.intro @m_winnowerlaw5_ClassTells (And.intro @c_winnowerlaw5_ClassTells (And.intro @m_winnowerlaw5_ClassTurned (And.intro @c_winnowerlaw5_ClassTurned (And.intro @m_rules_Kind (And.intro @c_rules_Kind (And.intro @m_winnowerref12_Kind (And.intro @c_winnowerref12_Kind (And.intro @m_rules_Name (And.intro @c_rules_Name (And.intro @m_winnowerref12_Name (And.intro @c_winnowerref12_Name (And.intro @m_rules_Pattern (And.intro @c_rules_Pattern (And.intro @m_winnowerref12_Pattern (And.intro @c_winnowerref12_Pattern (And.intro @m_winnowerlaw12_known (And.intro @c_winnowerlaw12_known (And.intro @m_winnowerref5_Has (And.intro @c_winnowerref5_Has (And.intro @m_class_Has (And.intro @c_class_Has (And.intro @m_class_Not (And.intro @c_class_Not (And.intro @m_class_Join (And.intro @c_class_Join (And.intro @m_winnowerref5_Join (And.intro @c_winnowerref5_Join (And.intro @m_class_Meet (And.intro @c_class_Meet (And.intro @m_winnowerref5_Meet (And.intro @c_winnowerref5_Meet (And.intro @m_winnowerlaw5_known (And.intro @c_winnowerlaw5_known (And.intro @m_class_List (And.intro @c_class_List (And.intro @m_winnowerref5_List (And.intro @c_winnowerref5_List (And.intro @m_class_Ranges (And.intro @c_class_Ranges (And.intro @m_winnowerref5_Ranges (And.intro @c_winnowerref5_Ranges (And.intro @m_class_Count (And.intro @c_class_Count (And.intro @m_class_Of (And.intro @c_class_Of (And.intro @m_winnowerref5_Of (And.intro @c_winnowerref5_Of (And.intro @m_class_Range (And.intro @c_class_Range (And.intro @m_winnowerref5_Range (And.intro @c_winnowerref5_Range (And.intro @m_slices_Index_string_string (And.intro @c_slices_Index_string_string (And.intro @m_rules_names (And.intro @c_rules_names (And.intro @m_winnowerref5_Not (And.intro @c_winnowerref5_Not (And.intro @m_math_bits_OnesCount64 (And.intro @c_math_bits_OnesCount64 (And.intro @notPs_agg (And.intro @notPs_tuple (And.intro @notPs_int (And.intro @notPs_bool (And.intro @notPs_str (And.intro @notPs_ps (And.intro @mode_ps (And.intro @mode_pf (And.intro @mode_ss (And.intro @mode_ff (And.intro @mode_sf (@mode_fs)))))))))))))))))))))))))))))))))))))))))))))))))))))))))))))))))))))))))))
theorem f_winnowerlaw12_RulesTable : C.funcs i_winnowerlaw12_RulesTable = some a_winnowerlaw12_RulesTable := rfl
theorem k_winnowerlaw12_RulesTable : chkFunc Proofs.Try.prog C.mode Proofs.Try.f3 a_winnowerlaw12_RulesTable = true := by kernel_rfl
theorem f_winnowerlaw5_ClassJoins : C.funcs i_winnowerlaw5_ClassJoins = some a_winnowerlaw5_ClassJoins := rfl
theorem k_winnowerlaw5_ClassJoins : chkFunc Proofs.Try.prog C.mode Proofs.Try.f4 a_winnowerlaw5_ClassJoins = true := by kernel_rfl
theorem f_winnowerlaw5_ClassTells : C.funcs i_winnowerlaw5_ClassTells = some a_winnowerlaw5_ClassTells := rfl
theorem k_winnowerlaw5_ClassTells : chkFunc Proofs.Try.prog C.mode Proofs.Try.f5 a_winnowerlaw5_ClassTells = true := by kernel_rfl
theorem f_winnowerlaw5_ClassTurned : C.funcs i_winnowerlaw5_ClassTurned = some a_winnowerlaw5_ClassTurned := rfl
theorem k_winnowerlaw5_ClassTurned : chkFunc Proofs.Try.prog C.mode Proofs.Try.f6 a_winnowerlaw5_ClassTurned = true := by kernel_rfl
theorem f_rules_Kind : C.funcs i_rules_Kind = some a_rules_Kind := rfl
theorem k_rules_Kind : chkFunc Proofs.Try.prog C.mode Proofs.Try.f7 a_rules_Kind = true := by kernel_rfl
theorem f_winnowerref12_Kind : C.funcs i_winnowerref12_Kind = some a_winnowerref12_Kind := rfl
theorem k_winnowerref12_Kind : chkFunc Proofs.Try.prog C.mode Proofs.Try.f8 a_winnowerref12_Kind = true := by kernel_rfl
theorem f_rules_Name : C.funcs i_rules_Name = some a_rules_Name := rfl
theorem k_rules_Name : chkFunc Proofs.Try.prog C.mode Proofs.Try.f9 a_rules_Name = true := by kernel_rfl
theorem f_winnowerref12_Name : C.funcs i_winnowerref12_Name = some a_winnowerref12_Name := rfl
theorem k_winnowerref12_Name : chkFunc Proofs.Try.prog C.mode Proofs.Try.f10 a_winnowerref12_Name = true := by kernel_rfl
theorem f_rules_Pattern : C.funcs i_rules_Pattern = some a_rules_Pattern := rfl
theorem k_rules_Pattern : chkFunc Proofs.Try.prog C.mode Proofs.Try.f11 a_rules_Pattern = true := by kernel_rfl
theorem f_winnowerref12_Pattern : C.funcs i_winnowerref12_Pattern = some a_winnowerref12_Pattern := rfl
theorem k_winnowerref12_Pattern : chkFunc Proofs.Try.prog C.mode Proofs.Try.f12 a_winnowerref12_Pattern = true := by kernel_rfl
theorem f_winnowerlaw12_known : C.funcs i_winnowerlaw12_known = some a_winnowerlaw12_known := rfl
theorem k_winnowerlaw12_known : chkFunc Proofs.Try.prog C.mode Proofs.Try.f13 a_winnowerlaw12_known = true := by kernel_rfl
theorem f_winnowerref5_Has : C.funcs i_winnowerref5_Has = some a_winnowerref5_Has := rfl
theorem k_winnowerref5_Has : chkFunc Proofs.Try.prog C.mode Proofs.Try.f14 a_winnowerref5_Has = true := by kernel_rfl
theorem f_class_Has : C.funcs i_class_Has = some a_class_Has := rfl
theorem k_class_Has : chkFunc Proofs.Try.prog C.mode Proofs.Try.f15 a_class_Has = true := by kernel_rfl
theorem f_class_Not : C.funcs i_class_Not = some a_class_Not := rfl
theorem k_class_Not : chkFunc Proofs.Try.prog C.mode Proofs.Try.f16 a_class_Not = true := by kernel_rfl
theorem f_class_Join : C.funcs i_class_Join = some a_class_Join := rfl
theorem k_class_Join : chkFunc Proofs.Try.prog C.mode Proofs.Try.f17 a_class_Join = true := by kernel_rfl
theorem f_winnowerref5_Join : C.funcs i_winnowerref5_Join = some a_winnowerref5_Join := rfl
theorem k_winnowerref5_Join : chkFunc Proofs.Try.prog C.mode Proofs.Try.f18 a_winnowerref5_Join = true := by kernel_rfl
theorem f_class_Meet : C.funcs i_class_Meet = some a_class_Meet := rfl
theorem k_class_Meet : chkFunc Proofs.Try.prog C.mode Proofs.Try.f19 a_class_Meet = true := by kernel_rfl
theorem f_winnowerref5_Meet : C.funcs i_winnowerref5_Meet = some a_winnowerref5_Meet := rfl
theorem k_winnowerref5_Meet : chkFunc Proofs.Try.prog C.mode Proofs.Try.f20 a_winnowerref5_Meet = true := by kernel_rfl
theorem f_winnowerlaw5_known : C.funcs i_winnowerlaw5_known = some a_winnowerlaw5_known := rfl
theorem k_winnowerlaw5_known : chkFunc Proofs.Try.prog C.mode Proofs.Try.f21 a_winnowerlaw5_known = true := by kernel_rfl
theorem f_class_List : C.funcs i_class_List = some a_class_List := rfl
theorem k_class_List : chkFunc Proofs.Try.prog C.mode Proofs.Try.f22 a_class_List = true := by kernel_rfl
theorem f_winnowerref5_List : C.funcs i_winnowerref5_List = some a_winnowerref5_List := rfl
theorem k_winnowerref5_List : chkFunc Proofs.Try.prog C.mode Proofs.Try.f23 a_winnowerref5_List = true := by kernel_rfl
theorem f_class_Ranges : C.funcs i_class_Ranges = some a_class_Ranges := rfl
theorem k_class_Ranges : chkFunc Proofs.Try.prog C.mode Proofs.Try.f24 a_class_Ranges = true := by kernel_rfl
theorem f_winnowerref5_Ranges : C.funcs i_winnowerref5_Ranges = some a_winnowerref5_Ranges := rfl
theorem k_winnowerref5_Ranges : chkFunc Proofs.Try.prog C.mode Proofs.Try.f25 a_winnowerref5_Ranges = true := by kernel_rfl
theorem f_class_Count : C.funcs i_class_Count = some a_class_Count := rfl
theorem k_class_Count : chkFunc Proofs.Try.prog C.mode Proofs.Try.f26 a_class_Count = true := by kernel_rfl
theorem f_class_Of : C.funcs i_class_Of = some a_class_Of := rfl
theorem k_class_Of : chkFunc Proofs.Try.prog C.mode Proofs.Try.f27 a_class_Of = true := by kernel_rfl
theorem f_winnowerref5_Of : C.funcs i_winnowerref5_Of = some a_winnowerref5_Of := rfl
theorem k_winnowerref5_Of : chkFunc Proofs.Try.prog C.mode Proofs.Try.f28 a_winnowerref5_Of = true := by kernel_rfl
theorem f_class_Range : C.funcs i_class_Range = some a_class_Range := rfl
theorem k_class_Range : chkFunc Proofs.Try.prog C.mode Proofs.Try.f29 a_class_Range = true := by kernel_rfl
theorem f_winnowerref5_Range : C.funcs i_winnowerref5_Range = some a_winnowerref5_Range := rfl
theorem k_winnowerref5_Range : chkFunc Proofs.Try.prog C.mode Proofs.Try.f30 a_winnowerref5_Range = true := by kernel_rfl
theorem f_slices_Index_string_string : C.funcs i_slices_Index_string_string = some a_slices_Index_string_string := rfl
theorem k_slices_Index_string_string : chkFunc Proofs.Try.prog C.mode Proofs.Try.f31 a_slices_Index_string_string = true := by kernel_rfl
theorem f_rules_names : C.funcs i_rules_names = some a_rules_names := rfl
theorem k_rules_names : chkFunc Proofs.Try.prog C.mode Proofs.Try.f32 a_rules_names = true := by kernel_rfl
theorem f_winnowerref5_Not : C.funcs i_winnowerref5_Not = some a_winnowerref5_Not := rfl
theorem k_winnowerref5_Not : chkFunc Proofs.Try.prog C.mode Proofs.Try.f33 a_winnowerref5_Not = true := by kernel_rfl
theorem f_math_bits_OnesCount64 : C.funcs i_math_bits_OnesCount64 = some a_math_bits_OnesCount64 := rfl
theorem k_math_bits_OnesCount64 : chkFunc Proofs.Try.prog C.mode Proofs.Try.f34 a_math_bits_OnesCount64 = true := by kernel_rfl
theorem cok : COk Proofs.Try.prog C := by
  refine ⟨fun f fa h => ?_, fun f g h => by cases h⟩
  have h : cFuncs f = some fa := h
  unfold cFuncs at h
  split at h
  · injection h with h; subst h; exact ⟨_, Proofs.Try.func3, k_winnowerlaw12_RulesTable, by kernel_rfl⟩
  · injection h with h; subst h; exact ⟨_, Proofs.Try.func4, k_winnowerlaw5_ClassJoins, by kernel_rfl⟩
  · injection h with h; subst h; exact ⟨_, Proofs.Try.func5, k_winnowerlaw5_ClassTells, by kernel_rfl⟩
  · injection h with h; subst h; exact ⟨_, Proofs.Try.func6, k_winnowerlaw5_ClassTurned, by kernel_rfl⟩
  · injection h with h; subst h; exact ⟨_, Proofs.Try.func7, k_rules_Kind, by kernel_rfl⟩
  · injection h with h; subst h; exact ⟨_, Proofs.Try.func8, k_winnowerref12_Kind, by kernel_rfl⟩
  · injection h with h; subst h; exact ⟨_, Proofs.Try.func9, k_rules_Name, by kernel_rfl⟩
  · injection h with h; subst h; exact ⟨_, Proofs.Try.func10, k_winnowerref12_Name, by kernel_rfl⟩
  · injection h with h; subst h; exact ⟨_, Proofs.Try.func11, k_rules_Pattern, by kernel_rfl⟩
  · injection h with h; subst h; exact ⟨_, Proofs.Try.func12, k_winnowerref12_Pattern, by kernel_rfl⟩
  · injection h with h; subst h; exact ⟨_, Proofs.Try.func13, k_winnowerlaw12_known, by kernel_rfl⟩
  · injection h with h; subst h; exact ⟨_, Proofs.Try.func14, k_winnowerref5_Has, by kernel_rfl⟩
  · injection h with h; subst h; exact ⟨_, Proofs.Try.func15, k_class_Has, by kernel_rfl⟩
  · injection h with h; subst h; exact ⟨_, Proofs.Try.func16, k_class_Not, by kernel_rfl⟩
  · injection h with h; subst h; exact ⟨_, Proofs.Try.func17, k_class_Join, by kernel_rfl⟩
  · injection h with h; subst h; exact ⟨_, Proofs.Try.func18, k_winnowerref5_Join, by kernel_rfl⟩
  · injection h with h; subst h; exact ⟨_, Proofs.Try.func19, k_class_Meet, by kernel_rfl⟩
  · injection h with h; subst h; exact ⟨_, Proofs.Try.func20, k_winnowerref5_Meet, by kernel_rfl⟩
  · injection h with h; subst h; exact ⟨_, Proofs.Try.func21, k_winnowerlaw5_known, by kernel_rfl⟩
  · injection h with h; subst h; exact ⟨_, Proofs.Try.func22, k_class_List, by kernel_rfl⟩
  · injection h with h; subst h; exact ⟨_, Proofs.Try.func23, k_winnowerref5_List, by kernel_rfl⟩
  · injection h with h; subst h; exact ⟨_, Proofs.Try.func24, k_class_Ranges, by kernel_rfl⟩
  · injection h with h; subst h; exact ⟨_, Proofs.Try.func25, k_winnowerref5_Ranges, by kernel_rfl⟩
  · injection h with h; subst h; exact ⟨_, Proofs.Try.func26, k_class_Count, by kernel_rfl⟩
  · injection h with h; subst h; exact ⟨_, Proofs.Try.func27, k_class_Of, by kernel_rfl⟩
  · injection h with h; subst h; exact ⟨_, Proofs.Try.func28, k_winnowerref5_Of, by kernel_rfl⟩
  · injection h with h; subst h; exact ⟨_, Proofs.Try.func29, k_class_Range, by kernel_rfl⟩
  · injection h with h; subst h; exact ⟨_, Proofs.Try.func30, k_winnowerref5_Range, by kernel_rfl⟩
  · injection h with h; subst h; exact ⟨_, Proofs.Try.func31, k_slices_Index_string_string, by kernel_rfl⟩
  · injection h with h; subst h; exact ⟨_, Proofs.Try.func32, k_rules_names, by kernel_rfl⟩
  · injection h with h; subst h; exact ⟨_, Proofs.Try.func33, k_winnowerref5_Not, by kernel_rfl⟩
  · injection h with h; subst h; exact ⟨_, Proofs.Try.func34, k_math_bits_OnesCount64, by kernel_rfl⟩
  · cases h
end Go.Abs

/- What the functions on sets of bytes answer. -/
namespace Go.Abs
open S
set_option maxRecDepth 10000

theorem class_Has_ok (s : BSet) (b : Nat) (hb : b < 256) : pcL C i_class_Has [.agg (scells s), .int .u8 b] = some (.bool (s.getLsbD b)) := by
  refine pcL_of rfl f_class_Has ?_
  repeat (first | (refine Wp.seq ?_) | (refine Wp.block ?_) | (refine Wp.skip ?_) | (apply Wp.region; focus (simp (maxSteps := 1000000) (disch := first | omega | assumption | (simp only [R5]; first | done | omega)) only [R1, R2, R3, R4, R5, R6, RC, Nat.reduceEqDiff, Nat.reduceAdd, Nat.reduceSub, Nat.reduceMul, Nat.reduceLT, Nat.reduceLeDiff, Nat.reduceBEq, reduceIte, Int.reduceEq, Int.reduceLT, Int.reduceLE, Int.reduceAdd, Int.reduceSub, Int.reduceNeg, Int.reduceMul, reduceCtorEq, Int.reduceToNat]; with_reducible rfl)) | (refine Wp.condT ?_ ?_; focus (simp (maxSteps := 1000000) (disch := first | omega | assumption | (simp only [R5]; first | done | omega)) only [R1, R2, R3, R4, R5, R6, RC, Nat.reduceEqDiff, Nat.reduceAdd, Nat.reduceSub, Nat.reduceMul, Nat.reduceLT, Nat.reduceLeDiff, Nat.reduceBEq, reduceIte, Int.reduceEq, Int.reduceLT, Int.reduceLE, Int.reduceAdd, Int.reduceSub, Int.reduceNeg, Int.reduceMul, reduceCtorEq, Int.reduceToNat]; done)) | (refine Wp.condF ?_ ?_; focus (simp (maxSteps := 1000000) (disch := first | omega | assumption | (simp only [R5]; first | done | omega)) only [R1, R2, R3, R4, R5, R6, RC, Nat.reduceEqDiff, Nat.reduceAdd, Nat.reduceSub, Nat.reduceMul, Nat.reduceLT, Nat.reduceLeDiff, Nat.reduceBEq, reduceIte, Int.reduceEq, Int.reduceLT, Int.reduceLE, Int.reduceAdd, Int.reduceSub, Int.reduceNeg, Int.reduceMul, reduceCtorEq, Int.reduceToNat]; done)) | (refine Wp.exit ⟨fun _ => ?_, fun h => absurd rfl h⟩) | (refine Wp.exit ⟨fun h => absurd h (by decide), fun _ => ⟨fun _ => ?_, fun h => absurd rfl h⟩⟩))
  refine Wp.ret (ret_ok (by simp (maxSteps := 1000000) (disch := first | omega | assumption | (simp only [R5, a_class_Has]; first | done | omega)) only [R1, R2, R3, R4, R5, R6, RC, Nat.reduceEqDiff, Nat.reduceAdd, Nat.reduceSub, Nat.reduceMul, Nat.reduceLT, Nat.reduceLeDiff, Nat.reduceBEq, reduceIte, Int.reduceEq, Int.reduceLT, Int.reduceLE, Int.reduceAdd, Int.reduceSub, Int.reduceNeg, Int.reduceMul, reduceCtorEq, Int.reduceToNat, a_class_Has]; with_reducible rfl) ?_)
  simp (maxSteps := 1000000) (disch := first | omega | assumption | (simp only [R5, has_bit s hb]; first | done | omega)) only [R1, R2, R3, R4, R5, R6, RC, Nat.reduceEqDiff, Nat.reduceAdd, Nat.reduceSub, Nat.reduceMul, Nat.reduceLT, Nat.reduceLeDiff, Nat.reduceBEq, reduceIte, Int.reduceEq, Int.reduceLT, Int.reduceLE, Int.reduceAdd, Int.reduceSub, Int.reduceNeg, Int.reduceMul, reduceCtorEq, Int.reduceToNat, has_bit s hb]

theorem winnowerref5_Has_ok (s : BSet) (b : Nat) (hb : b < 256) : pcL C i_winnowerref5_Has [.agg (scells s), .int .u8 b] = some (.bool (s.getLsbD b)) := by
  refine pcL_of rfl f_winnowerref5_Has ?_
  repeat (first | (refine Wp.seq ?_) | (refine Wp.block ?_) | (refine Wp.skip ?_) | (apply Wp.region; focus (simp (maxSteps := 1000000) (disch := first | omega | assumption | (simp only [R5]; first | done | omega)) only [R1, R2, R3, R4, R5, R6, RC, Nat.reduceEqDiff, Nat.reduceAdd, Nat.reduceSub, Nat.reduceMul, Nat.reduceLT, Nat.reduceLeDiff, Nat.reduceBEq, reduceIte, Int.reduceEq, Int.reduceLT, Int.reduceLE, Int.reduceAdd, Int.reduceSub, Int.reduceNeg, Int.reduceMul, reduceCtorEq, Int.reduceToNat]; with_reducible rfl)) | (refine Wp.condT ?_ ?_; focus (simp (maxSteps := 1000000) (disch := first | omega | assumption | (simp only [R5]; first | done | omega)) only [R1, R2, R3, R4, R5, R6, RC, Nat.reduceEqDiff, Nat.reduceAdd, Nat.reduceSub, Nat.reduceMul, Nat.reduceLT, Nat.reduceLeDiff, Nat.reduceBEq, reduceIte, Int.reduceEq, Int.reduceLT, Int.reduceLE, Int.reduceAdd, Int.reduceSub, Int.reduceNeg, Int.reduceMul, reduceCtorEq, Int.reduceToNat]; done)) | (refine Wp.condF ?_ ?_; focus (simp (maxSteps := 1000000) (disch := first | omega | assumption | (simp only [R5]; first | done | omega)) only [R1, R2, R3, R4, R5, R6, RC, Nat.reduceEqDiff, Nat.reduceAdd, Nat.reduceSub, Nat.reduceMul, Nat.reduceLT, Nat.reduceLeDiff, Nat.reduceBEq, reduceIte, Int.reduceEq, Int.reduceLT, Int.reduceLE, Int.reduceAdd, Int.reduceSub, Int.reduceNeg, Int.reduceMul, reduceCtorEq, Int.reduceToNat]; done)) | (refine Wp.exit ⟨fun _ => ?_, fun h => absurd rfl h⟩) | (refine Wp.exit ⟨fun h => absurd h (by decide), fun _ => ⟨fun _ => ?_, fun h => absurd rfl h⟩⟩))
  refine Wp.ret (ret_ok (by simp (maxSteps := 1000000) (disch := first | omega | assumption | (simp only [R5, a_winnowerref5_Has]; first | done | omega)) only [R1, R2, R3, R4, R5, R6, RC, Nat.reduceEqDiff, Nat.reduceAdd, Nat.reduceSub, Nat.reduceMul, Nat.reduceLT, Nat.reduceLeDiff, Nat.reduceBEq, reduceIte, Int.reduceEq, Int.reduceLT, Int.reduceLE, Int.reduceAdd, Int.reduceSub, Int.reduceNeg, Int.reduceMul, reduceCtorEq, Int.reduceToNat, a_winnowerref5_Has]; with_reducible rfl) ?_)
  simp (maxSteps := 1000000) (disch := first | omega | assumption | (simp only [R5, has_bit s hb]; first | done | omega)) only [R1, R2, R3, R4, R5, R6, RC, Nat.reduceEqDiff, Nat.reduceAdd, Nat.reduceSub, Nat.reduceMul, Nat.reduceLT, Nat.reduceLeDiff, Nat.reduceBEq, reduceIte, Int.reduceEq, Int.reduceLT, Int.reduceLE, Int.reduceAdd, Int.reduceSub, Int.reduceNeg, Int.reduceMul, reduceCtorEq, Int.reduceToNat, has_bit s hb]

/-! ### the set of some bytes -/
def setOfN (l : List Nat) : BSet := l.foldl (fun s b => s ||| 1#256 <<< b) 0
def setOf (l : List UInt8) : BSet := setOfN (l.map UInt8.toNat)
theorem setOfN_snoc (l : List Nat) (b : Nat) : setOfN (l ++ [b]) = setOfN l ||| 1#256 <<< b := by
  unfold setOfN
  rw [List.foldl_append]; rfl
theorem setOf_take {l : List UInt8} {i : Nat} (h : i < l.length) : setOf (l.take (i + 1)) = setOf (l.take i) ||| 1#256 <<< (l[i]).toNat := by
  unfold setOf
  rw [List.take_add_one, List.getElem?_eq_getElem h, List.map_append]
  exact setOfN_snoc _ _

theorem class_Of_ok (l : List UInt8) (hl : l.length ≤ 9223372036854775807) : pcL C i_class_Of [.ps (bcells l) l.length none] = some (.agg (scells (setOf l))) := by
  refine pcL_of rfl f_class_Of ?_

  repeat (first | (refine Wp.seq ?_) | (refine Wp.block ?_) | (refine Wp.skip ?_) | (apply Wp.region; focus (simp (maxSteps := 1000000) (disch := first | omega | assumption | (simp only [R5, scells_zero]; first | done | omega)) only [R1, R2, R3, R4, R5, R6, RC, Nat.reduceEqDiff, Nat.reduceAdd, Nat.reduceSub, Nat.reduceMul, Nat.reduceLT, Nat.reduceLeDiff, Nat.reduceBEq, reduceIte, Int.reduceEq, Int.reduceLT, Int.reduceLE, Int.reduceAdd, Int.reduceSub, Int.reduceNeg, Int.reduceMul, reduceCtorEq, Int.reduceToNat, scells_zero]; with_reducible rfl)) | (refine Wp.condT ?_ ?_; focus (simp (maxSteps := 1000000) (disch := first | omega | assumption | (simp only [R5, scells_zero]; first | done | omega)) only [R1, R2, R3, R4, R5, R6, RC, Nat.reduceEqDiff, Nat.reduceAdd, Nat.reduceSub, Nat.reduceMul, Nat.reduceLT, Nat.reduceLeDiff, Nat.reduceBEq, reduceIte, Int.reduceEq, Int.reduceLT, Int.reduceLE, Int.reduceAdd, Int.reduceSub, Int.reduceNeg, Int.reduceMul, reduceCtorEq, Int.reduceToNat, scells_zero]; done)) | (refine Wp.condF ?_ ?_; focus (simp (maxSteps := 1000000) (disch := first | omega | assumption | (simp only [R5, scells_zero]; first | done | omega)) only [R1, R2, R3, R4, R5, R6, RC, Nat.reduceEqDiff, Nat.reduceAdd, Nat.reduceSub, Nat.reduceMul, Nat.reduceLT, Nat.reduceLeDiff, Nat.reduceBEq, reduceIte, Int.reduceEq, Int.reduceLT, Int.reduceLE, Int.reduceAdd, Int.reduceSub, Int.reduceNeg, Int.reduceMul, reduceCtorEq, Int.reduceToNat, scells_zero]; done)) | (refine Wp.exit ⟨fun _ => ?_, fun h => absurd rfl h⟩) | (refine Wp.exit ⟨fun h => absurd h (by decide), fun _ => ⟨fun _ => ?_, fun h => absurd rfl h⟩⟩))
  refine Wp.count l.length (fun i s => ∃ t c, s = ⟨t, [], c⟩ ∧ Sl t [(6, .ps (bcells l) l.length none), (7, .int .i64 l.length), (8, .int .i64 i), (3, .reg 1 (scells (setOf (l.take i)))), (2, .reg 0 (scells 0))]) ?_ ?_ ?_
  · exact ⟨_, _, rfl, by simp (maxSteps := 1000000) (disch := first | omega | assumption | (simp only [R5, Sl]; first | done | omega)) only [R1, R2, R3, R4, R5, R6, RC, Nat.reduceEqDiff, Nat.reduceAdd, Nat.reduceSub, Nat.reduceMul, Nat.reduceLT, Nat.reduceLeDiff, Nat.reduceBEq, reduceIte, Int.reduceEq, Int.reduceLT, Int.reduceLE, Int.reduceAdd, Int.reduceSub, Int.reduceNeg, Int.reduceMul, reduceCtorEq, Int.reduceToNat, Sl]; rfl⟩
  · rintro i _ hi ⟨t, c, rfl, hs⟩
    have hb := (l[i]).toNat_lt
    simp only [Sl] at hs
    repeat (first | (refine Wp.seq ?_) | (refine Wp.block ?_) | (refine Wp.skip ?_) | (apply Wp.region; focus (simp (maxSteps := 1000000) (disch := first | omega | assumption | (simp only [R5, hs]; first | done | omega)) only [R1, R2, R3, R4, R5, R6, RC, Nat.reduceEqDiff, Nat.reduceAdd, Nat.reduceSub, Nat.reduceMul, Nat.reduceLT, Nat.reduceLeDiff, Nat.reduceBEq, reduceIte, Int.reduceEq, Int.reduceLT, Int.reduceLE, Int.reduceAdd, Int.reduceSub, Int.reduceNeg, Int.reduceMul, reduceCtorEq, Int.reduceToNat, hs]; with_reducible rfl)) | (refine Wp.condT ?_ ?_; focus (simp (maxSteps := 1000000) (disch := first | omega | assumption | (simp only [R5, hs]; first | done | omega)) only [R1, R2, R3, R4, R5, R6, RC, Nat.reduceEqDiff, Nat.reduceAdd, Nat.reduceSub, Nat.reduceMul, Nat.reduceLT, Nat.reduceLeDiff, Nat.reduceBEq, reduceIte, Int.reduceEq, Int.reduceLT, Int.reduceLE, Int.reduceAdd, Int.reduceSub, Int.reduceNeg, Int.reduceMul, reduceCtorEq, Int.reduceToNat, hs]; done)) | (refine Wp.condF ?_ ?_; focus (simp (maxSteps := 1000000) (disch := first | omega | assumption | (simp only [R5, hs]; first | done | omega)) only [R1, R2, R3, R4, R5, R6, RC, Nat.reduceEqDiff, Nat.reduceAdd, Nat.reduceSub, Nat.reduceMul, Nat.reduceLT, Nat.reduceLeDiff, Nat.reduceBEq, reduceIte, Int.reduceEq, Int.reduceLT, Int.reduceLE, Int.reduceAdd, Int.reduceSub, Int.reduceNeg, Int.reduceMul, reduceCtorEq, Int.reduceToNat, hs]; done)) | (refine Wp.exit ⟨fun _ => ?_, fun h => absurd rfl h⟩) | (refine Wp.exit ⟨fun h => absurd h (by decide), fun _ => ⟨fun _ => ?_, fun h => absurd rfl h⟩⟩))
    exact ⟨_, _, rfl, by simp (maxSteps := 1000000) (disch := first | omega | assumption | (simp only [R5, Sl, hs, setOf_take hi, scells_set_or _ hb]; first | done | omega)) only [R1, R2, R3, R4, R5, R6, RC, Nat.reduceEqDiff, Nat.reduceAdd, Nat.reduceSub, Nat.reduceMul, Nat.reduceLT, Nat.reduceLeDiff, Nat.reduceBEq, reduceIte, Int.reduceEq, Int.reduceLT, Int.reduceLE, Int.reduceAdd, Int.reduceSub, Int.reduceNeg, Int.reduceMul, reduceCtorEq, Int.reduceToNat, Sl, hs, setOf_take hi, scells_set_or _ hb]; done⟩
  · rintro _ ⟨t, c, rfl, hs⟩
    simp only [Sl, List.take_length] at hs
    repeat (first | (refine Wp.seq ?_) | (refine Wp.block ?_) | (refine Wp.skip ?_) | (apply Wp.region; focus (simp (maxSteps := 1000000) (disch := first | omega | assumption | (simp only [R5, hs]; first | done | omega)) only [R1, R2, R3, R4, R5, R6, RC, Nat.reduceEqDiff, Nat.reduceAdd, Nat.reduceSub, Nat.reduceMul, Nat.reduceLT, Nat.reduceLeDiff, Nat.reduceBEq, reduceIte, Int.reduceEq, Int.reduceLT, Int.reduceLE, Int.reduceAdd, Int.reduceSub, Int.reduceNeg, Int.reduceMul, reduceCtorEq, Int.reduceToNat, hs]; with_reducible rfl)) | (refine Wp.condT ?_ ?_; focus (simp (maxSteps := 1000000) (disch := first | omega | assumption | (simp only [R5, hs]; first | done | omega)) only [R1, R2, R3, R4, R5, R6, RC, Nat.reduceEqDiff, Nat.reduceAdd, Nat.reduceSub, Nat.reduceMul, Nat.reduceLT, Nat.reduceLeDiff, Nat.reduceBEq, reduceIte, Int.reduceEq, Int.reduceLT, Int.reduceLE, Int.reduceAdd, Int.reduceSub, Int.reduceNeg, Int.reduceMul, reduceCtorEq, Int.reduceToNat, hs]; done)) | (refine Wp.condF ?_ ?_; focus (simp (maxSteps := 1000000) (disch := first | omega | assumption | (simp only [R5, hs]; first | done | omega)) only [R1, R2, R3, R4, R5, R6, RC, Nat.reduceEqDiff, Nat.reduceAdd, Nat.reduceSub, Nat.reduceMul, Nat.reduceLT, Nat.reduceLeDiff, Nat.reduceBEq, reduceIte, Int.reduceEq, Int.reduceLT, Int.reduceLE, Int.reduceAdd, Int.reduceSub, Int.reduceNeg, Int.reduceMul, reduceCtorEq, Int.reduceToNat, hs]; done)) | (refine Wp.exit ⟨fun _ => ?_, fun h => absurd rfl h⟩) | (refine Wp.exit ⟨fun h => absurd h (by decide), fun _ => ⟨fun _ => ?_, fun h => absurd rfl h⟩⟩))
    refine Wp.ret (ret_ok (by simp (maxSteps := 1000000) (disch := first | omega | assumption | (simp only [R5, a_class_Of, hs]; first | done | omega)) only [R1, R2, R3, R4, R5, R6, RC, Nat.reduceEqDiff, Nat.reduceAdd, Nat.reduceSub, Nat.reduceMul, Nat.reduceLT, Nat.reduceLeDiff, Nat.reduceBEq, reduceIte, Int.reduceEq, Int.reduceLT, Int.reduceLE, Int.reduceAdd, Int.reduceSub, Int.reduceNeg, Int.reduceMul, reduceCtorEq, Int.reduceToNat, a_class_Of, hs]; with_reducible rfl) ?_)
    simp (maxSteps := 1000000) (disch := first | omega | assumption | (simp only [R5]; first | done | omega)) only [R1, R2, R3, R4, R5, R6, RC, Nat.reduceEqDiff, Nat.reduceAdd, Nat.reduceSub, Nat.reduceMul, Nat.reduceLT, Nat.reduceLeDiff, Nat.reduceBEq, reduceIte, Int.reduceEq, Int.reduceLT, Int.reduceLE, Int.reduceAdd, Int.reduceSub, Int.reduceNeg, Int.reduceMul, reduceCtorEq, Int.reduceToNat]

theorem winnowerref5_Of_ok (l : List UInt8) (hl : l.length ≤ 9223372036854775807) : pcL C i_winnowerref5_Of [.ps (bcells l) l.length none] = some (.agg (scells (setOf l))) := by
  refine pcL_of rfl f_winnowerref5_Of ?_

  repeat (first | (refine Wp.seq ?_) | (refine Wp.block ?_) | (refine Wp.skip ?_) | (apply Wp.region; focus (simp (maxSteps := 1000000) (disch := first | omega | assumption | (simp only [R5, scells_zero]; first | done | omega)) only [R1, R2, R3, R4, R5, R6, RC, Nat.reduceEqDiff, Nat.reduceAdd, Nat.reduceSub, Nat.reduceMul, Nat.reduceLT, Nat.reduceLeDiff, Nat.reduceBEq, reduceIte, Int.reduceEq, Int.reduceLT, Int.reduceLE, Int.reduceAdd, Int.reduceSub, Int.reduceNeg, Int.reduceMul, reduceCtorEq, Int.reduceToNat, scells_zero]; with_reducible rfl)) | (refine Wp.condT ?_ ?_; focus (simp (maxSteps := 1000000) (disch := first | omega | assumption | (simp only [R5, scells_zero]; first | done | omega)) only [R1, R2, R3, R4, R5, R6, RC, Nat.reduceEqDiff, Nat.reduceAdd, Nat.reduceSub, Nat.reduceMul, Nat.reduceLT, Nat.reduceLeDiff, Nat.reduceBEq, reduceIte, Int.reduceEq, Int.reduceLT, Int.reduceLE, Int.reduceAdd, Int.reduceSub, Int.reduceNeg, Int.reduceMul, reduceCtorEq, Int.reduceToNat, scells_zero]; done)) | (refine Wp.condF ?_ ?_; focus (simp (maxSteps := 1000000) (disch := first | omega | assumption | (simp only [R5, scells_zero]; first | done | omega)) only [R1, R2, R3, R4, R5, R6, RC, Nat.reduceEqDiff, Nat.reduceAdd, Nat.reduceSub, Nat.reduceMul, Nat.reduceLT, Nat.reduceLeDiff, Nat.reduceBEq, reduceIte, Int.reduceEq, Int.reduceLT, Int.reduceLE, Int.reduceAdd, Int.reduceSub, Int.reduceNeg, Int.reduceMul, reduceCtorEq, Int.reduceToNat, scells_zero]; done)) | (refine Wp.exit ⟨fun _ => ?_, fun h => absurd rfl h⟩) | (refine Wp.exit ⟨fun h => absurd h (by decide), fun _ => ⟨fun _ => ?_, fun h => absurd rfl h⟩⟩))
  refine Wp.count l.length (fun i s => ∃ t c, s = ⟨t, [], c⟩ ∧ Sl t [(0, .ps (bcells l) l.length none), (4, .int .i64 i), (3, .reg 1 (scells (setOf (l.take i)))), (2, .reg 0 (scells 0))]) ?_ ?_ ?_
  · exact ⟨_, _, rfl, by simp (maxSteps := 1000000) (disch := first | omega | assumption | (simp only [R5, Sl]; first | done | omega)) only [R1, R2, R3, R4, R5, R6, RC, Nat.reduceEqDiff, Nat.reduceAdd, Nat.reduceSub, Nat.reduceMul, Nat.reduceLT, Nat.reduceLeDiff, Nat.reduceBEq, reduceIte, Int.reduceEq, Int.reduceLT, Int.reduceLE, Int.reduceAdd, Int.reduceSub, Int.reduceNeg, Int.reduceMul, reduceCtorEq, Int.reduceToNat, Sl]; rfl⟩
  · rintro i _ hi ⟨t, c, rfl, hs⟩
    have hb := (l[i]).toNat_lt
    simp only [Sl] at hs
    repeat (first | (refine Wp.seq ?_) | (refine Wp.block ?_) | (refine Wp.skip ?_) | (apply Wp.region; focus (simp (maxSteps := 1000000) (disch := first | omega | assumption | (simp only [R5, hs]; first | done | omega)) only [R1, R2, R3, R4, R5, R6, RC, Nat.reduceEqDiff, Nat.reduceAdd, Nat.reduceSub, Nat.reduceMul, Nat.reduceLT, Nat.reduceLeDiff, Nat.reduceBEq, reduceIte, Int.reduceEq, Int.reduceLT, Int.reduceLE, Int.reduceAdd, Int.reduceSub, Int.reduceNeg, Int.reduceMul, reduceCtorEq, Int.reduceToNat, hs]; with_reducible rfl)) | (refine Wp.condT ?_ ?_; focus (simp (maxSteps := 1000000) (disch := first | omega | assumption | (simp only [R5, hs]; first | done | omega)) only [R1, R2, R3, R4, R5, R6, RC, Nat.reduceEqDiff, Nat.reduceAdd, Nat.reduceSub, Nat.reduceMul, Nat.reduceLT, Nat.reduceLeDiff, Nat.reduceBEq, reduceIte, Int.reduceEq, Int.reduceLT, Int.reduceLE, Int.reduceAdd, Int.reduceSub, Int.reduceNeg, Int.reduceMul, reduceCtorEq, Int.reduceToNat, hs]; done)) | (refine Wp.condF ?_ ?_; focus (simp (maxSteps := 1000000) (disch := first | omega | assumption | (simp only [R5, hs]; first | done | omega)) only [R1, R2, R3, R4, R5, R6, RC, Nat.reduceEqDiff, Nat.reduceAdd, Nat.reduceSub, Nat.reduceMul, Nat.reduceLT, Nat.reduceLeDiff, Nat.reduceBEq, reduceIte, Int.reduceEq, Int.reduceLT, Int.reduceLE, Int.reduceAdd, Int.reduceSub, Int.reduceNeg, Int.reduceMul, reduceCtorEq, Int.reduceToNat, hs]; done)) | (refine Wp.exit ⟨fun _ => ?_, fun h => absurd rfl h⟩) | (refine Wp.exit ⟨fun h => absurd h (by decide), fun _ => ⟨fun _ => ?_, fun h => absurd rfl h⟩⟩))
    exact ⟨_, _, rfl, by simp (maxSteps := 1000000) (disch := first | omega | assumption | (simp only [R5, Sl, hs, setOf_take hi, scells_set_or _ hb]; first | done | omega)) only [R1, R2, R3, R4, R5, R6, RC, Nat.reduceEqDiff, Nat.reduceAdd, Nat.reduceSub, Nat.reduceMul, Nat.reduceLT, Nat.reduceLeDiff, Nat.reduceBEq, reduceIte, Int.reduceEq, Int.reduceLT, Int.reduceLE, Int.reduceAdd, Int.reduceSub, Int.reduceNeg, Int.reduceMul, reduceCtorEq, Int.reduceToNat, Sl, hs, setOf_take hi, scells_set_or _ hb]; done⟩
  · rintro _ ⟨t, c, rfl, hs⟩
    simp only [Sl, List.take_length] at hs
    repeat (first | (refine Wp.seq ?_) | (refine Wp.block ?_) | (refine Wp.skip ?_) | (apply Wp.region; focus (simp (maxSteps := 1000000) (disch := first | omega | assumption | (simp only [R5, hs]; first | done | omega)) only [R1, R2, R3, R4, R5, R6, RC, Nat.reduceEqDiff, Nat.reduceAdd, Nat.reduceSub, Nat.reduceMul, Nat.reduceLT, Nat.reduceLeDiff, Nat.reduceBEq, reduceIte, Int.reduceEq, Int.reduceLT, Int.reduceLE, Int.reduceAdd, Int.reduceSub, Int.reduceNeg, Int.reduceMul, reduceCtorEq, Int.reduceToNat, hs]; with_reducible rfl)) | (refine Wp.condT ?_ ?_; focus (simp (maxSteps := 1000000) (disch := first | omega | assumption | (simp only [R5, hs]; first | done | omega)) only [R1, R2, R3, R4, R5, R6, RC, Nat.reduceEqDiff, Nat.reduceAdd, Nat.reduceSub, Nat.reduceMul, Nat.reduceLT, Nat.reduceLeDiff, Nat.reduceBEq, reduceIte, Int.reduceEq, Int.reduceLT, Int.reduceLE, Int.reduceAdd, Int.reduceSub, Int.reduceNeg, Int.reduceMul, reduceCtorEq, Int.reduceToNat, hs]; done)) | (refine Wp.condF ?_ ?_; focus (simp (maxSteps := 1000000) (disch := first | omega | assumption | (simp only [R5, hs]; first | done | omega)) only [R1, R2, R3, R4, R5, R6, RC, Nat.reduceEqDiff, Nat.reduceAdd, Nat.reduceSub, Nat.reduceMul, Nat.reduceLT, Nat.reduceLeDiff, Nat.reduceBEq, reduceIte, Int.reduceEq, Int.reduceLT, Int.reduceLE, Int.reduceAdd, Int.reduceSub, Int.reduceNeg, Int.reduceMul, reduceCtorEq, Int.reduceToNat, hs]; done)) | (refine Wp.exit ⟨fun _ => ?_, fun h => absurd rfl h⟩) | (refine Wp.exit ⟨fun h => absurd h (by decide), fun _ => ⟨fun _ => ?_, fun h => absurd rfl h⟩⟩))
    refine Wp.ret (ret_ok (by simp (maxSteps := 1000000) (disch := first | omega | assumption | (simp only [R5, a_winnowerref5_Of, hs]; first | done | omega)) only [R1, R2, R3, R4, R5, R6, RC, Nat.reduceEqDiff, Nat.reduceAdd, Nat.reduceSub, Nat.reduceMul, Nat.reduceLT, Nat.reduceLeDiff, Nat.reduceBEq, reduceIte, Int.reduceEq, Int.reduceLT, Int.reduceLE, Int.reduceAdd, Int.reduceSub, Int.reduceNeg, Int.reduceMul, reduceCtorEq, Int.reduceToNat, a_winnowerref5_Of, hs]; with_reducible rfl) ?_)
    simp (maxSteps := 1000000) (disch := first | omega | assumption | (simp only [R5]; first | done | omega)) only [R1, R2, R3, R4, R5, R6, RC, Nat.reduceEqDiff, Nat.reduceAdd, Nat.reduceSub, Nat.reduceMul, Nat.reduceLT, Nat.reduceLeDiff, Nat.reduceBEq, reduceIte, Int.reduceEq, Int.reduceLT, Int.reduceLE, Int.reduceAdd, Int.reduceSub, Int.reduceNeg, Int.reduceMul, reduceCtorEq, Int.reduceToNat]

/-! ### all other bytes -/
theorem class_Not_ok (s : BSet) : pcL C i_class_Not [.agg (scells s)] = some (.agg (scells (~~~s))) := by
  refine pcL_of rfl f_class_Not ?_
  repeat (first | (refine Wp.seq ?_) | (refine Wp.block ?_) | (refine Wp.skip ?_) | (apply Wp.region; focus (simp (maxSteps := 1000000) (disch := first | omega | assumption | (simp only [R5, scells_zero]; first | done | omega)) only [R1, R2, R3, R4, R5, R6, RC, Nat.reduceEqDiff, Nat.reduceAdd, Nat.reduceSub, Nat.reduceMul, Nat.reduceLT, Nat.reduceLeDiff, Nat.reduceBEq, reduceIte, Int.reduceEq, Int.reduceLT, Int.reduceLE, Int.reduceAdd, Int.reduceSub, Int.reduceNeg, Int.reduceMul, reduceCtorEq, Int.reduceToNat, scells_zero]; with_reducible rfl)) | (refine Wp.condT ?_ ?_; focus (simp (maxSteps := 1000000) (disch := first | omega | assumption | (simp only [R5, scells_zero]; first | done | omega)) only [R1, R2, R3, R4, R5, R6, RC, Nat.reduceEqDiff, Nat.reduceAdd, Nat.reduceSub, Nat.reduceMul, Nat.reduceLT, Nat.reduceLeDiff, Nat.reduceBEq, reduceIte, Int.reduceEq, Int.reduceLT, Int.reduceLE, Int.reduceAdd, Int.reduceSub, Int.reduceNeg, Int.reduceMul, reduceCtorEq, Int.reduceToNat, scells_zero]; done)) | (refine Wp.condF ?_ ?_; focus (simp (maxSteps := 1000000) (disch := first | omega | assumption | (simp only [R5, scells_zero]; first | done | omega)) only [R1, R2, R3, R4, R5, R6, RC, Nat.reduceEqDiff, Nat.reduceAdd, Nat.reduceSub, Nat.reduceMul, Nat.reduceLT, Nat.reduceLeDiff, Nat.reduceBEq, reduceIte, Int.reduceEq, Int.reduceLT, Int.reduceLE, Int.reduceAdd, Int.reduceSub, Int.reduceNeg, Int.reduceMul, reduceCtorEq, Int.reduceToNat, scells_zero]; done)) | (refine Wp.exit ⟨fun _ => ?_, fun h => absurd rfl h⟩) | (refine Wp.exit ⟨fun h => absurd h (by decide), fun _ => ⟨fun _ => ?_, fun h => absurd rfl h⟩⟩))
  refine Wp.count 4 (fun i st => ∃ t c, st = ⟨t, [], c⟩ ∧ Sl t [(5, .agg (scells s)), (6, .int .i64 i), (1, .reg 0 (wcells fun j => if j < i then ~~~sword s j else sword s j)), (2, .reg 1 (scells 0))]) ?_ ?_ ?_
  · exact ⟨_, _, rfl, by simp (maxSteps := 1000000) (disch := first | omega | assumption | (simp only [R5, Sl, Nat.not_lt_zero]; first | done | omega)) only [R1, R2, R3, R4, R5, R6, RC, Nat.reduceEqDiff, Nat.reduceAdd, Nat.reduceSub, Nat.reduceMul, Nat.reduceLT, Nat.reduceLeDiff, Nat.reduceBEq, reduceIte, Int.reduceEq, Int.reduceLT, Int.reduceLE, Int.reduceAdd, Int.reduceSub, Int.reduceNeg, Int.reduceMul, reduceCtorEq, Int.reduceToNat, Sl, Nat.not_lt_zero]; rfl⟩
  · rintro i _ hi ⟨t, c, rfl, hs⟩
    simp only [Sl] at hs
    repeat (first | (refine Wp.seq ?_) | (refine Wp.block ?_) | (refine Wp.skip ?_) | (apply Wp.region; focus (simp (maxSteps := 1000000) (disch := first | omega | assumption | (simp only [R5, hs]; first | done | omega)) only [R1, R2, R3, R4, R5, R6, RC, Nat.reduceEqDiff, Nat.reduceAdd, Nat.reduceSub, Nat.reduceMul, Nat.reduceLT, Nat.reduceLeDiff, Nat.reduceBEq, reduceIte, Int.reduceEq, Int.reduceLT, Int.reduceLE, Int.reduceAdd, Int.reduceSub, Int.reduceNeg, Int.reduceMul, reduceCtorEq, Int.reduceToNat, hs]; with_reducible rfl)) | (refine Wp.condT ?_ ?_; focus (simp (maxSteps := 1000000) (disch := first | omega | assumption | (simp only [R5, hs]; first | done | omega)) only [R1, R2, R3, R4, R5, R6, RC, Nat.reduceEqDiff, Nat.reduceAdd, Nat.reduceSub, Nat.reduceMul, Nat.reduceLT, Nat.reduceLeDiff, Nat.reduceBEq, reduceIte, Int.reduceEq, Int.reduceLT, Int.reduceLE, Int.reduceAdd, Int.reduceSub, Int.reduceNeg, Int.reduceMul, reduceCtorEq, Int.reduceToNat, hs]; done)) | (refine Wp.condF ?_ ?_; focus (simp (maxSteps := 1000000) (disch := first | omega | assumption | (simp only [R5, hs]; first | done | omega)) only [R1, R2, R3, R4, R5, R6, RC, Nat.reduceEqDiff, Nat.reduceAdd, Nat.reduceSub, Nat.reduceMul, Nat.reduceLT, Nat.reduceLeDiff, Nat.reduceBEq, reduceIte, Int.reduceEq, Int.reduceLT, Int.reduceLE, Int.reduceAdd, Int.reduceSub, Int.reduceNeg, Int.reduceMul, reduceCtorEq, Int.reduceToNat, hs]; done)) | (refine Wp.exit ⟨fun _ => ?_, fun h => absurd rfl h⟩) | (refine Wp.exit ⟨fun h => absurd h (by decide), fun _ => ⟨fun _ => ?_, fun h => absurd rfl h⟩⟩))
    refine ⟨_, _, rfl, ?_⟩
    simp (maxSteps := 1000000) (disch := first | omega | assumption | (simp only [R5, Sl, hs]; first | done | omega)) only [R1, R2, R3, R4, R5, R6, RC, Nat.reduceEqDiff, Nat.reduceAdd, Nat.reduceSub, Nat.reduceMul, Nat.reduceLT, Nat.reduceLeDiff, Nat.reduceBEq, reduceIte, Int.reduceEq, Int.reduceLT, Int.reduceLE, Int.reduceAdd, Int.reduceSub, Int.reduceNeg, Int.reduceMul, reduceCtorEq, Int.reduceToNat, Sl, hs]
    refine congrArg _ (wcells_eq fun j hj => ?_)
    by_cases h : j = i
    · subst h; simp
    · have : (j < i + 1) = (j < i) := by apply propext; omega
      simp [h, this]
  · rintro _ ⟨t, c, rfl, hs⟩
    have e : (wcells fun j => if j < 4 then ~~~sword s j else sword s j) = scells (~~~s) := by
      rw [wcells_s]
      exact wcells_eq fun j hj => by rw [if_pos hj, sword_not s hj]
    simp only [Sl, e] at hs
    repeat (first | (refine Wp.seq ?_) | (refine Wp.block ?_) | (refine Wp.skip ?_) | (apply Wp.region; focus (simp (maxSteps := 1000000) (disch := first | omega | assumption | (simp only [R5, hs]; first | done | omega)) only [R1, R2, R3, R4, R5, R6, RC, Nat.reduceEqDiff, Nat.reduceAdd, Nat.reduceSub, Nat.reduceMul, Nat.reduceLT, Nat.reduceLeDiff, Nat.reduceBEq, reduceIte, Int.reduceEq, Int.reduceLT, Int.reduceLE, Int.reduceAdd, Int.reduceSub, Int.reduceNeg, Int.reduceMul, reduceCtorEq, Int.reduceToNat, hs]; with_reducible rfl)) | (refine Wp.condT ?_ ?_; focus (simp (maxSteps := 1000000) (disch := first | omega | assumption | (simp only [R5, hs]; first | done | omega)) only [R1, R2, R3, R4, R5, R6, RC, Nat.reduceEqDiff, Nat.reduceAdd, Nat.reduceSub, Nat.reduceMul, Nat.reduceLT, Nat.reduceLeDiff, Nat.reduceBEq, reduceIte, Int.reduceEq, Int.reduceLT, Int.reduceLE, Int.reduceAdd, Int.reduceSub, Int.reduceNeg, Int.reduceMul, reduceCtorEq, Int.reduceToNat, hs]; done)) | (refine Wp.condF ?_ ?_; focus (simp (maxSteps := 1000000) (disch := first | omega | assumption | (simp only [R5, hs]; first | done | omega)) only [R1, R2, R3, R4, R5, R6, RC, Nat.reduceEqDiff, Nat.reduceAdd, Nat.reduceSub, Nat.reduceMul, Nat.reduceLT, Nat.reduceLeDiff, Nat.reduceBEq, reduceIte, Int.reduceEq, Int.reduceLT, Int.reduceLE, Int.reduceAdd, Int.reduceSub, Int.reduceNeg, Int.reduceMul, reduceCtorEq, Int.reduceToNat, hs]; done)) | (refine Wp.exit ⟨fun _ => ?_, fun h => absurd rfl h⟩) | (refine Wp.exit ⟨fun h => absurd h (by decide), fun _ => ⟨fun _ => ?_, fun h => absurd rfl h⟩⟩))
    refine Wp.ret (ret_ok (by simp (maxSteps := 1000000) (disch := first | omega | assumption | (simp only [R5, a_class_Not, hs]; first | done | omega)) only [R1, R2, R3, R4, R5, R6, RC, Nat.reduceEqDiff, Nat.reduceAdd, Nat.reduceSub, Nat.reduceMul, Nat.reduceLT, Nat.reduceLeDiff, Nat.reduceBEq, reduceIte, Int.reduceEq, Int.reduceLT, Int.reduceLE, Int.reduceAdd, Int.reduceSub, Int.reduceNeg, Int.reduceMul, reduceCtorEq, Int.reduceToNat, a_class_Not, hs]; with_reducible rfl) ?_)
    simp (maxSteps := 1000000) (disch := first | omega | assumption | (simp only [R5]; first | done | omega)) only [R1, R2, R3, R4, R5, R6, RC, Nat.reduceEqDiff, Nat.reduceAdd, Nat.reduceSub, Nat.reduceMul, Nat.reduceLT, Nat.reduceLeDiff, Nat.reduceBEq, reduceIte, Int.reduceEq, Int.reduceLT, Int.reduceLE, Int.reduceAdd, Int.reduceSub, Int.reduceNeg, Int.reduceMul, reduceCtorEq, Int.reduceToNat]

theorem winnowerref5_Not_ok (s : BSet) : pcL C i_winnowerref5_Not [.agg (scells s)] = some (.agg (scells (~~~s))) := by
  refine pcL_of rfl f_winnowerref5_Not ?_
  repeat (first | (refine Wp.seq ?_) | (refine Wp.block ?_) | (refine Wp.skip ?_) | (apply Wp.region; focus (simp (maxSteps := 1000000) (disch := first | omega | assumption | (simp only [R5, scells_zero]; first | done | omega)) only [R1, R2, R3, R4, R5, R6, RC, Nat.reduceEqDiff, Nat.reduceAdd, Nat.reduceSub, Nat.reduceMul, Nat.reduceLT, Nat.reduceLeDiff, Nat.reduceBEq, reduceIte, Int.reduceEq, Int.reduceLT, Int.reduceLE, Int.reduceAdd, Int.reduceSub, Int.reduceNeg, Int.reduceMul, reduceCtorEq, Int.reduceToNat, scells_zero]; with_reducible rfl)) | (refine Wp.condT ?_ ?_; focus (simp (maxSteps := 1000000) (disch := first | omega | assumption | (simp only [R5, scells_zero]; first | done | omega)) only [R1, R2, R3, R4, R5, R6, RC, Nat.reduceEqDiff, Nat.reduceAdd, Nat.reduceSub, Nat.reduceMul, Nat.reduceLT, Nat.reduceLeDiff, Nat.reduceBEq, reduceIte, Int.reduceEq, Int.reduceLT, Int.reduceLE, Int.reduceAdd, Int.reduceSub, Int.reduceNeg, Int.reduceMul, reduceCtorEq, Int.reduceToNat, scells_zero]; done)) | (refine Wp.condF ?_ ?_; focus (simp (maxSteps := 1000000) (disch := first | omega | assumption | (simp only [R5, scells_zero]; first | done | omega)) only [R1, R2, R3, R4, R5, R6, RC, Nat.reduceEqDiff, Nat.reduceAdd, Nat.reduceSub, Nat.reduceMul, Nat.reduceLT, Nat.reduceLeDiff, Nat.reduceBEq, reduceIte, Int.reduceEq, Int.reduceLT, Int.reduceLE, Int.reduceAdd, Int.reduceSub, Int.reduceNeg, Int.reduceMul, reduceCtorEq, Int.reduceToNat, scells_zero]; done)) | (refine Wp.exit ⟨fun _ => ?_, fun h => absurd rfl h⟩) | (refine Wp.exit ⟨fun h => absurd h (by decide), fun _ => ⟨fun _ => ?_, fun h => absurd rfl h⟩⟩))
  refine Wp.count 4 (fun i st => ∃ t c, st = ⟨t, [], c⟩ ∧ Sl t [(1, .reg 0 (scells s)), (4, .int .i64 i), (3, .reg 2 (wcells fun j => if j < i then ~~~sword s j else 0)), (2, .reg 1 (scells 0))]) ?_ ?_ ?_
  · exact ⟨_, _, rfl, by simp (maxSteps := 1000000) (disch := first | omega | assumption | (simp only [R5, Sl, Nat.not_lt_zero]; first | done | omega)) only [R1, R2, R3, R4, R5, R6, RC, Nat.reduceEqDiff, Nat.reduceAdd, Nat.reduceSub, Nat.reduceMul, Nat.reduceLT, Nat.reduceLeDiff, Nat.reduceBEq, reduceIte, Int.reduceEq, Int.reduceLT, Int.reduceLE, Int.reduceAdd, Int.reduceSub, Int.reduceNeg, Int.reduceMul, reduceCtorEq, Int.reduceToNat, Sl, Nat.not_lt_zero]; rfl⟩
  · rintro i _ hi ⟨t, c, rfl, hs⟩
    simp only [Sl] at hs
    repeat (first | (refine Wp.seq ?_) | (refine Wp.block ?_) | (refine Wp.skip ?_) | (apply Wp.region; focus (simp (maxSteps := 1000000) (disch := first | omega | assumption | (simp only [R5, hs]; first | done | omega)) only [R1, R2, R3, R4, R5, R6, RC, Nat.reduceEqDiff, Nat.reduceAdd, Nat.reduceSub, Nat.reduceMul, Nat.reduceLT, Nat.reduceLeDiff, Nat.reduceBEq, reduceIte, Int.reduceEq, Int.reduceLT, Int.reduceLE, Int.reduceAdd, Int.reduceSub, Int.reduceNeg, Int.reduceMul, reduceCtorEq, Int.reduceToNat, hs]; with_reducible rfl)) | (refine Wp.condT ?_ ?_; focus (simp (maxSteps := 1000000) (disch := first | omega | assumption | (simp only [R5, hs]; first | done | omega)) only [R1, R2, R3, R4, R5, R6, RC, Nat.reduceEqDiff, Nat.reduceAdd, Nat.reduceSub, Nat.reduceMul, Nat.reduceLT, Nat.reduceLeDiff, Nat.reduceBEq, reduceIte, Int.reduceEq, Int.reduceLT, Int.reduceLE, Int.reduceAdd, Int.reduceSub, Int.reduceNeg, Int.reduceMul, reduceCtorEq, Int.reduceToNat, hs]; done)) | (refine Wp.condF ?_ ?_; focus (simp (maxSteps := 1000000) (disch := first | omega | assumption | (simp only [R5, hs]; first | done | omega)) only [R1, R2, R3, R4, R5, R6, RC, Nat.reduceEqDiff, Nat.reduceAdd, Nat.reduceSub, Nat.reduceMul, Nat.reduceLT, Nat.reduceLeDiff, Nat.reduceBEq, reduceIte, Int.reduceEq, Int.reduceLT, Int.reduceLE, Int.reduceAdd, Int.reduceSub, Int.reduceNeg, Int.reduceMul, reduceCtorEq, Int.reduceToNat, hs]; done)) | (refine Wp.exit ⟨fun _ => ?_, fun h => absurd rfl h⟩) | (refine Wp.exit ⟨fun h => absurd h (by decide), fun _ => ⟨fun _ => ?_, fun h => absurd rfl h⟩⟩))
    refine ⟨_, _, rfl, ?_⟩
    simp (maxSteps := 1000000) (disch := first | omega | assumption | (simp only [R5, Sl, hs]; first | done | omega)) only [R1, R2, R3, R4, R5, R6, RC, Nat.reduceEqDiff, Nat.reduceAdd, Nat.reduceSub, Nat.reduceMul, Nat.reduceLT, Nat.reduceLeDiff, Nat.reduceBEq, reduceIte, Int.reduceEq, Int.reduceLT, Int.reduceLE, Int.reduceAdd, Int.reduceSub, Int.reduceNeg, Int.reduceMul, reduceCtorEq, Int.reduceToNat, Sl, hs]
    refine congrArg _ (wcells_eq fun j hj => ?_)
    by_cases h : j = i
    · subst h; simp
    · have : (j < i + 1) = (j < i) := by apply propext; omega
      simp [h, this]
  · rintro _ ⟨t, c, rfl, hs⟩
    have e : (wcells fun j => if j < 4 then ~~~sword s j else 0) = scells (~~~s) := by
      rw [wcells_s]
      exact wcells_eq fun j hj => by rw [if_pos hj, sword_not s hj]
    simp only [Sl, e] at hs
    repeat (first | (refine Wp.seq ?_) | (refine Wp.block ?_) | (refine Wp.skip ?_) | (apply Wp.region; focus (simp (maxSteps := 1000000) (disch := first | omega | assumption | (simp only [R5, hs]; first | done | omega)) only [R1, R2, R3, R4, R5, R6, RC, Nat.reduceEqDiff, Nat.reduceAdd, Nat.reduceSub, Nat.reduceMul, Nat.reduceLT, Nat.reduceLeDiff, Nat.reduceBEq, reduceIte, Int.reduceEq, Int.reduceLT, Int.reduceLE, Int.reduceAdd, Int.reduceSub, Int.reduceNeg, Int.reduceMul, reduceCtorEq, Int.reduceToNat, hs]; with_reducible rfl)) | (refine Wp.condT ?_ ?_; focus (simp (maxSteps := 1000000) (disch := first | omega | assumption | (simp only [R5, hs]; first | done | omega)) only [R1, R2, R3, R4, R5, R6, RC, Nat.reduceEqDiff, Nat.reduceAdd, Nat.reduceSub, Nat.reduceMul, Nat.reduceLT, Nat.reduceLeDiff, Nat.reduceBEq, reduceIte, Int.reduceEq, Int.reduceLT, Int.reduceLE, Int.reduceAdd, Int.reduceSub, Int.reduceNeg, Int.reduceMul, reduceCtorEq, Int.reduceToNat, hs]; done)) | (refine Wp.condF ?_ ?_; focus (simp (maxSteps := 1000000) (disch := first | omega | assumption | (simp only [R5, hs]; first | done | omega)) only [R1, R2, R3, R4, R5, R6, RC, Nat.reduceEqDiff, Nat.reduceAdd, Nat.reduceSub, Nat.reduceMul, Nat.reduceLT, Nat.reduceLeDiff, Nat.reduceBEq, reduceIte, Int.reduceEq, Int.reduceLT, Int.reduceLE, Int.reduceAdd, Int.reduceSub, Int.reduceNeg, Int.reduceMul, reduceCtorEq, Int.reduceToNat, hs]; done)) | (refine Wp.exit ⟨fun _ => ?_, fun h => absurd rfl h⟩) | (refine Wp.exit ⟨fun h => absurd h (by decide), fun _ => ⟨fun _ => ?_, fun h => absurd rfl h⟩⟩))
    refine Wp.ret (ret_ok (by simp (maxSteps := 1000000) (disch := first | omega | assumption | (simp only [R5, a_winnowerref5_Not, hs]; first | done | omega)) only [R1, R2, R3, R4, R5, R6, RC, Nat.reduceEqDiff, Nat.reduceAdd, Nat.reduceSub, Nat.reduceMul, Nat.reduceLT, Nat.reduceLeDiff, Nat.reduceBEq, reduceIte, Int.reduceEq, Int.reduceLT, Int.reduceLE, Int.reduceAdd, Int.reduceSub, Int.reduceNeg, Int.reduceMul, reduceCtorEq, Int.reduceToNat, a_winnowerref5_Not, hs]; with_reducible rfl) ?_)
    simp (maxSteps := 1000000) (disch := first | omega | assumption | (simp only [R5]; first | done | omega)) only [R1, R2, R3, R4, R5, R6, RC, Nat.reduceEqDiff, Nat.reduceAdd, Nat.reduceSub, Nat.reduceMul, Nat.reduceLT, Nat.reduceLeDiff, Nat.reduceBEq, reduceIte, Int.reduceEq, Int.reduceLT, Int.reduceLE, Int.reduceAdd, Int.reduceSub, Int.reduceNeg, Int.reduceMul, reduceCtorEq, Int.reduceToNat]

def joinS (l : List BSet) : BSet := l.foldl (· ||| ·) 0
def meetS (l : List BSet) : BSet := l.foldl (· &&& ·) (~~~0)
theorem joinS_take {l : List BSet} {i : Nat} (h : i < l.length) : joinS (l.take (i + 1)) = joinS (l.take i) ||| l[i] := by
  unfold joinS
  rw [List.take_add_one, List.getElem?_eq_getElem h, List.foldl_append]; rfl
theorem meetS_take {l : List BSet} {i : Nat} (h : i < l.length) : meetS (l.take (i + 1)) = meetS (l.take i) &&& l[i] := by
  unfold meetS
  rw [List.take_add_one, List.getElem?_eq_getElem h, List.foldl_append]; rfl

theorem class_Join_ok (l : List BSet) (hl : l.length ≤ 9223372036854775807) : pcL C i_class_Join [.ps (setcells l) l.length none] = some (.agg (scells (joinS l))) := by
  refine pcL_of rfl f_class_Join ?_

  repeat (first | (refine Wp.seq ?_) | (refine Wp.block ?_) | (refine Wp.skip ?_) | (apply Wp.region; focus (simp (maxSteps := 1000000) (disch := first | omega | assumption | (simp only [R5, scells_zero]; first | done | omega)) only [R1, R2, R3, R4, R5, R6, RC, Nat.reduceEqDiff, Nat.reduceAdd, Nat.reduceSub, Nat.reduceMul, Nat.reduceLT, Nat.reduceLeDiff, Nat.reduceBEq, reduceIte, Int.reduceEq, Int.reduceLT, Int.reduceLE, Int.reduceAdd, Int.reduceSub, Int.reduceNeg, Int.reduceMul, reduceCtorEq, Int.reduceToNat, scells_zero]; with_reducible rfl)) | (refine Wp.condT ?_ ?_; focus (simp (maxSteps := 1000000) (disch := first | omega | assumption | (simp only [R5, scells_zero]; first | done | omega)) only [R1, R2, R3, R4, R5, R6, RC, Nat.reduceEqDiff, Nat.reduceAdd, Nat.reduceSub, Nat.reduceMul, Nat.reduceLT, Nat.reduceLeDiff, Nat.reduceBEq, reduceIte, Int.reduceEq, Int.reduceLT, Int.reduceLE, Int.reduceAdd, Int.reduceSub, Int.reduceNeg, Int.reduceMul, reduceCtorEq, Int.reduceToNat, scells_zero]; done)) | (refine Wp.condF ?_ ?_; focus (simp (maxSteps := 1000000) (disch := first | omega | assumption | (simp only [R5, scells_zero]; first | done | omega)) only [R1, R2, R3, R4, R5, R6, RC, Nat.reduceEqDiff, Nat.reduceAdd, Nat.reduceSub, Nat.reduceMul, Nat.reduceLT, Nat.reduceLeDiff, Nat.reduceBEq, reduceIte, Int.reduceEq, Int.reduceLT, Int.reduceLE, Int.reduceAdd, Int.reduceSub, Int.reduceNeg, Int.reduceMul, reduceCtorEq, Int.reduceToNat, scells_zero]; done)) | (refine Wp.exit ⟨fun _ => ?_, fun h => absurd rfl h⟩) | (refine Wp.exit ⟨fun h => absurd h (by decide), fun _ => ⟨fun _ => ?_, fun h => absurd rfl h⟩⟩))
  refine Wp.count l.length (fun i s => ∃ t c, s = ⟨t, [], c⟩ ∧ Sl t [(8, .ps (setcells l) l.length none), (9, .int .i64 l.length), (10, .int .i64 i), (3, .reg 1 (scells (joinS (l.take i)))), (2, .reg 0 (scells 0))]) ?_ ?_ ?_
  · exact ⟨_, _, rfl, by simp (maxSteps := 1000000) (disch := first | omega | assumption | (simp only [R5, Sl]; first | done | omega)) only [R1, R2, R3, R4, R5, R6, RC, Nat.reduceEqDiff, Nat.reduceAdd, Nat.reduceSub, Nat.reduceMul, Nat.reduceLT, Nat.reduceLeDiff, Nat.reduceBEq, reduceIte, Int.reduceEq, Int.reduceLT, Int.reduceLE, Int.reduceAdd, Int.reduceSub, Int.reduceNeg, Int.reduceMul, reduceCtorEq, Int.reduceToNat, Sl]; rfl⟩
  · rintro i _ hi ⟨t, c, rfl, hs⟩
    simp only [Sl] at hs
    repeat (first | (refine Wp.seq ?_) | (refine Wp.block ?_) | (refine Wp.skip ?_) | (apply Wp.region; focus (simp (maxSteps := 1000000) (disch := first | omega | assumption | (simp only [R5, hs, scells_zero]; first | done | omega)) only [R1, R2, R3, R4, R5, R6, RC, Nat.reduceEqDiff, Nat.reduceAdd, Nat.reduceSub, Nat.reduceMul, Nat.reduceLT, Nat.reduceLeDiff, Nat.reduceBEq, reduceIte, Int.reduceEq, Int.reduceLT, Int.reduceLE, Int.reduceAdd, Int.reduceSub, Int.reduceNeg, Int.reduceMul, reduceCtorEq, Int.reduceToNat, hs, scells_zero]; with_reducible rfl)) | (refine Wp.condT ?_ ?_; focus (simp (maxSteps := 1000000) (disch := first | omega | assumption | (simp only [R5, hs, scells_zero]; first | done | omega)) only [R1, R2, R3, R4, R5, R6, RC, Nat.reduceEqDiff, Nat.reduceAdd, Nat.reduceSub, Nat.reduceMul, Nat.reduceLT, Nat.reduceLeDiff, Nat.reduceBEq, reduceIte, Int.reduceEq, Int.reduceLT, Int.reduceLE, Int.reduceAdd, Int.reduceSub, Int.reduceNeg, Int.reduceMul, reduceCtorEq, Int.reduceToNat, hs, scells_zero]; done)) | (refine Wp.condF ?_ ?_; focus (simp (maxSteps := 1000000) (disch := first | omega | assumption | (simp only [R5, hs, scells_zero]; first | done | omega)) only [R1, R2, R3, R4, R5, R6, RC, Nat.reduceEqDiff, Nat.reduceAdd, Nat.reduceSub, Nat.reduceMul, Nat.reduceLT, Nat.reduceLeDiff, Nat.reduceBEq, reduceIte, Int.reduceEq, Int.reduceLT, Int.reduceLE, Int.reduceAdd, Int.reduceSub, Int.reduceNeg, Int.reduceMul, reduceCtorEq, Int.reduceToNat, hs, scells_zero]; done)) | (refine Wp.exit ⟨fun _ => ?_, fun h => absurd rfl h⟩) | (refine Wp.exit ⟨fun h => absurd h (by decide), fun _ => ⟨fun _ => ?_, fun h => absurd rfl h⟩⟩))
    refine Wp.count 4 (fun j st => ∃ t c, st = ⟨t, [], c⟩ ∧ Sl t [(8, .ps (setcells l) l.length none), (9, .int .i64 l.length), (10, .int .i64 i), (3, .reg 1 (wcells fun k => if k < j then sword (joinS (l.take i)) k ||| sword l[i] k else sword (joinS (l.take i)) k)), (2, .reg 0 (scells 0)), (14, .agg (scells l[i])), (15, .int .i64 j)]) ?_ ?_ ?_
    · exact ⟨_, _, rfl, by simp (maxSteps := 1000000) (disch := first | omega | assumption | (simp only [R5, Sl, hs, Nat.not_lt_zero]; first | done | omega)) only [R1, R2, R3, R4, R5, R6, RC, Nat.reduceEqDiff, Nat.reduceAdd, Nat.reduceSub, Nat.reduceMul, Nat.reduceLT, Nat.reduceLeDiff, Nat.reduceBEq, reduceIte, Int.reduceEq, Int.reduceLT, Int.reduceLE, Int.reduceAdd, Int.reduceSub, Int.reduceNeg, Int.reduceMul, reduceCtorEq, Int.reduceToNat, Sl, hs, Nat.not_lt_zero]; rfl⟩
    · rintro j _ hj ⟨t, c, rfl, hs⟩
      simp only [Sl] at hs
      repeat (first | (refine Wp.seq ?_) | (refine Wp.block ?_) | (refine Wp.skip ?_) | (apply Wp.region; focus (simp (maxSteps := 1000000) (disch := first | omega | assumption | (simp only [R5, hs]; first | done | omega)) only [R1, R2, R3, R4, R5, R6, RC, Nat.reduceEqDiff, Nat.reduceAdd, Nat.reduceSub, Nat.reduceMul, Nat.reduceLT, Nat.reduceLeDiff, Nat.reduceBEq, reduceIte, Int.reduceEq, Int.reduceLT, Int.reduceLE, Int.reduceAdd, Int.reduceSub, Int.reduceNeg, Int.reduceMul, reduceCtorEq, Int.reduceToNat, hs]; with_reducible rfl)) | (refine Wp.condT ?_ ?_; focus (simp (maxSteps := 1000000) (disch := first | omega | assumption | (simp only [R5, hs]; first | done | omega)) only [R1, R2, R3, R4, R5, R6, RC, Nat.reduceEqDiff, Nat.reduceAdd, Nat.reduceSub, Nat.reduceMul, Nat.reduceLT, Nat.reduceLeDiff, Nat.reduceBEq, reduceIte, Int.reduceEq, Int.reduceLT, Int.reduceLE, Int.reduceAdd, Int.reduceSub, Int.reduceNeg, Int.reduceMul, reduceCtorEq, Int.reduceToNat, hs]; done)) | (refine Wp.condF ?_ ?_; focus (simp (maxSteps := 1000000) (disch := first | omega | assumption | (simp only [R5, hs]; first | done | omega)) only [R1, R2, R3, R4, R5, R6, RC, Nat.reduceEqDiff, Nat.reduceAdd, Nat.reduceSub, Nat.reduceMul, Nat.reduceLT, Nat.reduceLeDiff, Nat.reduceBEq, reduceIte, Int.reduceEq, Int.reduceLT, Int.reduceLE, Int.reduceAdd, Int.reduceSub, Int.reduceNeg, Int.reduceMul, reduceCtorEq, Int.reduceToNat, hs]; done)) | (refine Wp.exit ⟨fun _ => ?_, fun h => absurd rfl h⟩) | (refine Wp.exit ⟨fun h => absurd h (by decide), fun _ => ⟨fun _ => ?_, fun h => absurd rfl h⟩⟩))
      refine ⟨_, _, rfl, ?_⟩
      simp (maxSteps := 1000000) (disch := first | omega | assumption | (simp only [R5, Sl, hs]; first | done | omega)) only [R1, R2, R3, R4, R5, R6, RC, Nat.reduceEqDiff, Nat.reduceAdd, Nat.reduceSub, Nat.reduceMul, Nat.reduceLT, Nat.reduceLeDiff, Nat.reduceBEq, reduceIte, Int.reduceEq, Int.reduceLT, Int.reduceLE, Int.reduceAdd, Int.reduceSub, Int.reduceNeg, Int.reduceMul, reduceCtorEq, Int.reduceToNat, Sl, hs]
      refine congrArg _ (wcells_eq fun k hk => ?_)
      by_cases h : k = j
      · subst h; simp
      · have : (k < j + 1) = (k < j) := by apply propext; omega
        simp [h, this]
    · rintro _ ⟨t, c, rfl, hs⟩
      have e : (wcells fun k => if k < 4 then sword (joinS (l.take i)) k ||| sword l[i] k else sword (joinS (l.take i)) k) = scells (joinS (l.take (i + 1))) := by
        rw [wcells_s, joinS_take hi]
        exact wcells_eq fun j hj => by rw [if_pos hj, sword_or]
      simp only [Sl, e] at hs
      repeat (first | (refine Wp.seq ?_) | (refine Wp.block ?_) | (refine Wp.skip ?_) | (apply Wp.region; focus (simp (maxSteps := 1000000) (disch := first | omega | assumption | (simp only [R5, hs]; first | done | omega)) only [R1, R2, R3, R4, R5, R6, RC, Nat.reduceEqDiff, Nat.reduceAdd, Nat.reduceSub, Nat.reduceMul, Nat.reduceLT, Nat.reduceLeDiff, Nat.reduceBEq, reduceIte, Int.reduceEq, Int.reduceLT, Int.reduceLE, Int.reduceAdd, Int.reduceSub, Int.reduceNeg, Int.reduceMul, reduceCtorEq, Int.reduceToNat, hs]; with_reducible rfl)) | (refine Wp.condT ?_ ?_; focus (simp (maxSteps := 1000000) (disch := first | omega | assumption | (simp only [R5, hs]; first | done | omega)) only [R1, R2, R3, R4, R5, R6, RC, Nat.reduceEqDiff, Nat.reduceAdd, Nat.reduceSub, Nat.reduceMul, Nat.reduceLT, Nat.reduceLeDiff, Nat.reduceBEq, reduceIte, Int.reduceEq, Int.reduceLT, Int.reduceLE, Int.reduceAdd, Int.reduceSub, Int.reduceNeg, Int.reduceMul, reduceCtorEq, Int.reduceToNat, hs]; done)) | (refine Wp.condF ?_ ?_; focus (simp (maxSteps := 1000000) (disch := first | omega | assumption | (simp only [R5, hs]; first | done | omega)) only [R1, R2, R3, R4, R5, R6, RC, Nat.reduceEqDiff, Nat.reduceAdd, Nat.reduceSub, Nat.reduceMul, Nat.reduceLT, Nat.reduceLeDiff, Nat.reduceBEq, reduceIte, Int.reduceEq, Int.reduceLT, Int.reduceLE, Int.reduceAdd, Int.reduceSub, Int.reduceNeg, Int.reduceMul, reduceCtorEq, Int.reduceToNat, hs]; done)) | (refine Wp.exit ⟨fun _ => ?_, fun h => absurd rfl h⟩) | (refine Wp.exit ⟨fun h => absurd h (by decide), fun _ => ⟨fun _ => ?_, fun h => absurd rfl h⟩⟩))
      exact ⟨_, _, rfl, by simp (maxSteps := 1000000) (disch := first | omega | assumption | (simp only [R5, Sl, hs]; first | done | omega)) only [R1, R2, R3, R4, R5, R6, RC, Nat.reduceEqDiff, Nat.reduceAdd, Nat.reduceSub, Nat.reduceMul, Nat.reduceLT, Nat.reduceLeDiff, Nat.reduceBEq, reduceIte, Int.reduceEq, Int.reduceLT, Int.reduceLE, Int.reduceAdd, Int.reduceSub, Int.reduceNeg, Int.reduceMul, reduceCtorEq, Int.reduceToNat, Sl, hs]; done⟩
  · rintro _ ⟨t, c, rfl, hs⟩
    simp only [Sl, List.take_length] at hs
    repeat (first | (refine Wp.seq ?_) | (refine Wp.block ?_) | (refine Wp.skip ?_) | (apply Wp.region; focus (simp (maxSteps := 1000000) (disch := first | omega | assumption | (simp only [R5, hs]; first | done | omega)) only [R1, R2, R3, R4, R5, R6, RC, Nat.reduceEqDiff, Nat.reduceAdd, Nat.reduceSub, Nat.reduceMul, Nat.reduceLT, Nat.reduceLeDiff, Nat.reduceBEq, reduceIte, Int.reduceEq, Int.reduceLT, Int.reduceLE, Int.reduceAdd, Int.reduceSub, Int.reduceNeg, Int.reduceMul, reduceCtorEq, Int.reduceToNat, hs]; with_reducible rfl)) | (refine Wp.condT ?_ ?_; focus (simp (maxSteps := 1000000) (disch := first | omega | assumption | (simp only [R5, hs]; first | done | omega)) only [R1, R2, R3, R4, R5, R6, RC, Nat.reduceEqDiff, Nat.reduceAdd, Nat.reduceSub, Nat.reduceMul, Nat.reduceLT, Nat.reduceLeDiff, Nat.reduceBEq, reduceIte, Int.reduceEq, Int.reduceLT, Int.reduceLE, Int.reduceAdd, Int.reduceSub, Int.reduceNeg, Int.reduceMul, reduceCtorEq, Int.reduceToNat, hs]; done)) | (refine Wp.condF ?_ ?_; focus (simp (maxSteps := 1000000) (disch := first | omega | assumption | (simp only [R5, hs]; first | done | omega)) only [R1, R2, R3, R4, R5, R6, RC, Nat.reduceEqDiff, Nat.reduceAdd, Nat.reduceSub, Nat.reduceMul, Nat.reduceLT, Nat.reduceLeDiff, Nat.reduceBEq, reduceIte, Int.reduceEq, Int.reduceLT, Int.reduceLE, Int.reduceAdd, Int.reduceSub, Int.reduceNeg, Int.reduceMul, reduceCtorEq, Int.reduceToNat, hs]; done)) | (refine Wp.exit ⟨fun _ => ?_, fun h => absurd rfl h⟩) | (refine Wp.exit ⟨fun h => absurd h (by decide), fun _ => ⟨fun _ => ?_, fun h => absurd rfl h⟩⟩))
    refine Wp.ret (ret_ok (by simp (maxSteps := 1000000) (disch := first | omega | assumption | (simp only [R5, a_class_Join, hs]; first | done | omega)) only [R1, R2, R3, R4, R5, R6, RC, Nat.reduceEqDiff, Nat.reduceAdd, Nat.reduceSub, Nat.reduceMul, Nat.reduceLT, Nat.reduceLeDiff, Nat.reduceBEq, reduceIte, Int.reduceEq, Int.reduceLT, Int.reduceLE, Int.reduceAdd, Int.reduceSub, Int.reduceNeg, Int.reduceMul, reduceCtorEq, Int.reduceToNat, a_class_Join, hs]; with_reducible rfl) ?_)
    simp (maxSteps := 1000000) (disch := first | omega | assumption | (simp only [R5]; first | done | omega)) only [R1, R2, R3, R4, R5, R6, RC, Nat.reduceEqDiff, Nat.reduceAdd, Nat.reduceSub, Nat.reduceMul, Nat.reduceLT, Nat.reduceLeDiff, Nat.reduceBEq, reduceIte, Int.reduceEq, Int.reduceLT, Int.reduceLE, Int.reduceAdd, Int.reduceSub, Int.reduceNeg, Int.reduceMul, reduceCtorEq, Int.reduceToNat]

theorem class_Meet_ok (l : List BSet) (hl : l.length ≤ 9223372036854775807) : pcL C i_class_Meet [.ps (setcells l) l.length none] = some (.agg (scells (meetS l))) := by
  refine pcL_of rfl f_class_Meet ?_
  repeat (first | (refine Wp.seq ?_) | (refine Wp.block ?_) | (refine Wp.skip ?_) | (apply Wp.region; focus (simp (maxSteps := 1000000) (disch := first | omega | assumption | (simp only [R5, scells_zero, class_Not_ok]; first | done | omega)) only [R1, R2, R3, R4, R5, R6, RC, Nat.reduceEqDiff, Nat.reduceAdd, Nat.reduceSub, Nat.reduceMul, Nat.reduceLT, Nat.reduceLeDiff, Nat.reduceBEq, reduceIte, Int.reduceEq, Int.reduceLT, Int.reduceLE, Int.reduceAdd, Int.reduceSub, Int.reduceNeg, Int.reduceMul, reduceCtorEq, Int.reduceToNat, scells_zero, class_Not_ok]; with_reducible rfl)) | (refine Wp.condT ?_ ?_; focus (simp (maxSteps := 1000000) (disch := first | omega | assumption | (simp only [R5, scells_zero, class_Not_ok]; first | done | omega)) only [R1, R2, R3, R4, R5, R6, RC, Nat.reduceEqDiff, Nat.reduceAdd, Nat.reduceSub, Nat.reduceMul, Nat.reduceLT, Nat.reduceLeDiff, Nat.reduceBEq, reduceIte, Int.reduceEq, Int.reduceLT, Int.reduceLE, Int.reduceAdd, Int.reduceSub, Int.reduceNeg, Int.reduceMul, reduceCtorEq, Int.reduceToNat, scells_zero, class_Not_ok]; done)) | (refine Wp.condF ?_ ?_; focus (simp (maxSteps := 1000000) (disch := first | omega | assumption | (simp only [R5, scells_zero, class_Not_ok]; first | done | omega)) only [R1, R2, R3, R4, R5, R6, RC, Nat.reduceEqDiff, Nat.reduceAdd, Nat.reduceSub, Nat.reduceMul, Nat.reduceLT, Nat.reduceLeDiff, Nat.reduceBEq, reduceIte, Int.reduceEq, Int.reduceLT, Int.reduceLE, Int.reduceAdd, Int.reduceSub, Int.reduceNeg, Int.reduceMul, reduceCtorEq, Int.reduceToNat, scells_zero, class_Not_ok]; done)) | (refine Wp.exit ⟨fun _ => ?_, fun h => absurd rfl h⟩) | (refine Wp.exit ⟨fun h => absurd h (by decide), fun _ => ⟨fun _ => ?_, fun h => absurd rfl h⟩⟩))
  refine Wp.count l.length (fun i s => ∃ t c, s = ⟨t, [], c⟩ ∧ Sl t [(10, .ps (setcells l) l.length none), (11, .int .i64 l.length), (12, .int .i64 i), (3, .reg 1 (scells (meetS (l.take i)))), (2, .reg 0 (scells 0))]) ?_ ?_ ?_
  · exact ⟨_, _, rfl, by simp (maxSteps := 1000000) (disch := first | omega | assumption | (simp only [R5, Sl]; first | done | omega)) only [R1, R2, R3, R4, R5, R6, RC, Nat.reduceEqDiff, Nat.reduceAdd, Nat.reduceSub, Nat.reduceMul, Nat.reduceLT, Nat.reduceLeDiff, Nat.reduceBEq, reduceIte, Int.reduceEq, Int.reduceLT, Int.reduceLE, Int.reduceAdd, Int.reduceSub, Int.reduceNeg, Int.reduceMul, reduceCtorEq, Int.reduceToNat, Sl]; rfl⟩
  · rintro i _ hi ⟨t, c, rfl, hs⟩
    simp only [Sl] at hs
    repeat (first | (refine Wp.seq ?_) | (refine Wp.block ?_) | (refine Wp.skip ?_) | (apply Wp.region; focus (simp (maxSteps := 1000000) (disch := first | omega | assumption | (simp only [R5, hs, scells_zero]; first | done | omega)) only [R1, R2, R3, R4, R5, R6, RC, Nat.reduceEqDiff, Nat.reduceAdd, Nat.reduceSub, Nat.reduceMul, Nat.reduceLT, Nat.reduceLeDiff, Nat.reduceBEq, reduceIte, Int.reduceEq, Int.reduceLT, Int.reduceLE, Int.reduceAdd, Int.reduceSub, Int.reduceNeg, Int.reduceMul, reduceCtorEq, Int.reduceToNat, hs, scells_zero]; with_reducible rfl)) | (refine Wp.condT ?_ ?_; focus (simp (maxSteps := 1000000) (disch := first | omega | assumption | (simp only [R5, hs, scells_zero]; first | done | omega)) only [R1, R2, R3, R4, R5, R6, RC, Nat.reduceEqDiff, Nat.reduceAdd, Nat.reduceSub, Nat.reduceMul, Nat.reduceLT, Nat.reduceLeDiff, Nat.reduceBEq, reduceIte, Int.reduceEq, Int.reduceLT, Int.reduceLE, Int.reduceAdd, Int.reduceSub, Int.reduceNeg, Int.reduceMul, reduceCtorEq, Int.reduceToNat, hs, scells_zero]; done)) | (refine Wp.condF ?_ ?_; focus (simp (maxSteps := 1000000) (disch := first | omega | assumption | (simp only [R5, hs, scells_zero]; first | done | omega)) only [R1, R2, R3, R4, R5, R6, RC, Nat.reduceEqDiff, Nat.reduceAdd, Nat.reduceSub, Nat.reduceMul, Nat.reduceLT, Nat.reduceLeDiff, Nat.reduceBEq, reduceIte, Int.reduceEq, Int.reduceLT, Int.reduceLE, Int.reduceAdd, Int.reduceSub, Int.reduceNeg, Int.reduceMul, reduceCtorEq, Int.reduceToNat, hs, scells_zero]; done)) | (refine Wp.exit ⟨fun _ => ?_, fun h => absurd rfl h⟩) | (refine Wp.exit ⟨fun h => absurd h (by decide), fun _ => ⟨fun _ => ?_, fun h => absurd rfl h⟩⟩))
    refine Wp.count 4 (fun j st => ∃ t c, st = ⟨t, [], c⟩ ∧ Sl t [(10, .ps (setcells l) l.length none), (11, .int .i64 l.length), (12, .int .i64 i), (3, .reg 1 (wcells fun k => if k < j then sword (meetS (l.take i)) k &&& sword l[i] k else sword (meetS (l.take i)) k)), (2, .reg 0 (scells 0)), (16, .agg (scells l[i])), (17, .int .i64 j)]) ?_ ?_ ?_
    · exact ⟨_, _, rfl, by simp (maxSteps := 1000000) (disch := first | omega | assumption | (simp only [R5, Sl, hs, Nat.not_lt_zero]; first | done | omega)) only [R1, R2, R3, R4, R5, R6, RC, Nat.reduceEqDiff, Nat.reduceAdd, Nat.reduceSub, Nat.reduceMul, Nat.reduceLT, Nat.reduceLeDiff, Nat.reduceBEq, reduceIte, Int.reduceEq, Int.reduceLT, Int.reduceLE, Int.reduceAdd, Int.reduceSub, Int.reduceNeg, Int.reduceMul, reduceCtorEq, Int.reduceToNat, Sl, hs, Nat.not_lt_zero]; rfl⟩
    · rintro j _ hj ⟨t, c, rfl, hs⟩
      simp only [Sl] at hs
      repeat (first | (refine Wp.seq ?_) | (refine Wp.block ?_) | (refine Wp.skip ?_) | (apply Wp.region; focus (simp (maxSteps := 1000000) (disch := first | omega | assumption | (simp only [R5, hs]; first | done | omega)) only [R1, R2, R3, R4, R5, R6, RC, Nat.reduceEqDiff, Nat.reduceAdd, Nat.reduceSub, Nat.reduceMul, Nat.reduceLT, Nat.reduceLeDiff, Nat.reduceBEq, reduceIte, Int.reduceEq, Int.reduceLT, Int.reduceLE, Int.reduceAdd, Int.reduceSub, Int.reduceNeg, Int.reduceMul, reduceCtorEq, Int.reduceToNat, hs]; with_reducible rfl)) | (refine Wp.condT ?_ ?_; focus (simp (maxSteps := 1000000) (disch := first | omega | assumption | (simp only [R5, hs]; first | done | omega)) only [R1, R2, R3, R4, R5, R6, RC, Nat.reduceEqDiff, Nat.reduceAdd, Nat.reduceSub, Nat.reduceMul, Nat.reduceLT, Nat.reduceLeDiff, Nat.reduceBEq, reduceIte, Int.reduceEq, Int.reduceLT, Int.reduceLE, Int.reduceAdd, Int.reduceSub, Int.reduceNeg, Int.reduceMul, reduceCtorEq, Int.reduceToNat, hs]; done)) | (refine Wp.condF ?_ ?_; focus (simp (maxSteps := 1000000) (disch := first | omega | assumption | (simp only [R5, hs]; first | done | omega)) only [R1, R2, R3, R4, R5, R6, RC, Nat.reduceEqDiff, Nat.reduceAdd, Nat.reduceSub, Nat.reduceMul, Nat.reduceLT, Nat.reduceLeDiff, Nat.reduceBEq, reduceIte, Int.reduceEq, Int.reduceLT, Int.reduceLE, Int.reduceAdd, Int.reduceSub, Int.reduceNeg, Int.reduceMul, reduceCtorEq, Int.reduceToNat, hs]; done)) | (refine Wp.exit ⟨fun _ => ?_, fun h => absurd rfl h⟩) | (refine Wp.exit ⟨fun h => absurd h (by decide), fun _ => ⟨fun _ => ?_, fun h => absurd rfl h⟩⟩))
      refine ⟨_, _, rfl, ?_⟩
      simp (maxSteps := 1000000) (disch := first | omega | assumption | (simp only [R5, Sl, hs]; first | done | omega)) only [R1, R2, R3, R4, R5, R6, RC, Nat.reduceEqDiff, Nat.reduceAdd, Nat.reduceSub, Nat.reduceMul, Nat.reduceLT, Nat.reduceLeDiff, Nat.reduceBEq, reduceIte, Int.reduceEq, Int.reduceLT, Int.reduceLE, Int.reduceAdd, Int.reduceSub, Int.reduceNeg, Int.reduceMul, reduceCtorEq, Int.reduceToNat, Sl, hs]
      refine congrArg _ (wcells_eq fun k hk => ?_)
      by_cases h : k = j
      · subst h; simp
      · have : (k < j + 1) = (k < j) := by apply propext; omega
        simp [h, this]
    · rintro _ ⟨t, c, rfl, hs⟩
      have e : (wcells fun k => if k < 4 then sword (meetS (l.take i)) k &&& sword l[i] k else sword (meetS (l.take i)) k) = scells (meetS (l.take (i + 1))) := by
        rw [wcells_s, meetS_take hi]
        exact wcells_eq fun j hj => by rw [if_pos hj, sword_and]
      simp only [Sl, e] at hs
      repeat (first | (refine Wp.seq ?_) | (refine Wp.block ?_) | (refine Wp.skip ?_) | (apply Wp.region; focus (simp (maxSteps := 1000000) (disch := first | omega | assumption | (simp only [R5, hs]; first | done | omega)) only [R1, R2, R3, R4, R5, R6, RC, Nat.reduceEqDiff, Nat.reduceAdd, Nat.reduceSub, Nat.reduceMul, Nat.reduceLT, Nat.reduceLeDiff, Nat.reduceBEq, reduceIte, Int.reduceEq, Int.reduceLT, Int.reduceLE, Int.reduceAdd, Int.reduceSub, Int.reduceNeg, Int.reduceMul, reduceCtorEq, Int.reduceToNat, hs]; with_reducible rfl)) | (refine Wp.condT ?_ ?_; focus (simp (maxSteps := 1000000) (disch := first | omega | assumption | (simp only [R5, hs]; first | done | omega)) only [R1, R2, R3, R4, R5, R6, RC, Nat.reduceEqDiff, Nat.reduceAdd, Nat.reduceSub, Nat.reduceMul, Nat.reduceLT, Nat.reduceLeDiff, Nat.reduceBEq, reduceIte, Int.reduceEq, Int.reduceLT, Int.reduceLE, Int.reduceAdd, Int.reduceSub, Int.reduceNeg, Int.reduceMul, reduceCtorEq, Int.reduceToNat, hs]; done)) | (refine Wp.condF ?_ ?_; focus (simp (maxSteps := 1000000) (disch := first | omega | assumption | (simp only [R5, hs]; first | done | omega)) only [R1, R2, R3, R4, R5, R6, RC, Nat.reduceEqDiff, Nat.reduceAdd, Nat.reduceSub, Nat.reduceMul, Nat.reduceLT, Nat.reduceLeDiff, Nat.reduceBEq, reduceIte, Int.reduceEq, Int.reduceLT, Int.reduceLE, Int.reduceAdd, Int.reduceSub, Int.reduceNeg, Int.reduceMul, reduceCtorEq, Int.reduceToNat, hs]; done)) | (refine Wp.exit ⟨fun _ => ?_, fun h => absurd rfl h⟩) | (refine Wp.exit ⟨fun h => absurd h (by decide), fun _ => ⟨fun _ => ?_, fun h => absurd rfl h⟩⟩))
      exact ⟨_, _, rfl, by simp (maxSteps := 1000000) (disch := first | omega | assumption | (simp only [R5, Sl, hs]; first | done | omega)) only [R1, R2, R3, R4, R5, R6, RC, Nat.reduceEqDiff, Nat.reduceAdd, Nat.reduceSub, Nat.reduceMul, Nat.reduceLT, Nat.reduceLeDiff, Nat.reduceBEq, reduceIte, Int.reduceEq, Int.reduceLT, Int.reduceLE, Int.reduceAdd, Int.reduceSub, Int.reduceNeg, Int.reduceMul, reduceCtorEq, Int.reduceToNat, Sl, hs]; done⟩
  · rintro _ ⟨t, c, rfl, hs⟩
    simp only [Sl, List.take_length] at hs
    repeat (first | (refine Wp.seq ?_) | (refine Wp.block ?_) | (refine Wp.skip ?_) | (apply Wp.region; focus (simp (maxSteps := 1000000) (disch := first | omega | assumption | (simp only [R5, hs]; first | done | omega)) only [R1, R2, R3, R4, R5, R6, RC, Nat.reduceEqDiff, Nat.reduceAdd, Nat.reduceSub, Nat.reduceMul, Nat.reduceLT, Nat.reduceLeDiff, Nat.reduceBEq, reduceIte, Int.reduceEq, Int.reduceLT, Int.reduceLE, Int.reduceAdd, Int.reduceSub, Int.reduceNeg, Int.reduceMul, reduceCtorEq, Int.reduceToNat, hs]; with_reducible rfl)) | (refine Wp.condT ?_ ?_; focus (simp (maxSteps := 1000000) (disch := first | omega | assumption | (simp only [R5, hs]; first | done | omega)) only [R1, R2, R3, R4, R5, R6, RC, Nat.reduceEqDiff, Nat.reduceAdd, Nat.reduceSub, Nat.reduceMul, Nat.reduceLT, Nat.reduceLeDiff, Nat.reduceBEq, reduceIte, Int.reduceEq, Int.reduceLT, Int.reduceLE, Int.reduceAdd, Int.reduceSub, Int.reduceNeg, Int.reduceMul, reduceCtorEq, Int.reduceToNat, hs]; done)) | (refine Wp.condF ?_ ?_; focus (simp (maxSteps := 1000000) (disch := first | omega | assumption | (simp only [R5, hs]; first | done | omega)) only [R1, R2, R3, R4, R5, R6, RC, Nat.reduceEqDiff, Nat.reduceAdd, Nat.reduceSub, Nat.reduceMul, Nat.reduceLT, Nat.reduceLeDiff, Nat.reduceBEq, reduceIte, Int.reduceEq, Int.reduceLT, Int.reduceLE, Int.reduceAdd, Int.reduceSub, Int.reduceNeg, Int.reduceMul, reduceCtorEq, Int.reduceToNat, hs]; done)) | (refine Wp.exit ⟨fun _ => ?_, fun h => absurd rfl h⟩) | (refine Wp.exit ⟨fun h => absurd h (by decide), fun _ => ⟨fun _ => ?_, fun h => absurd rfl h⟩⟩))
    refine Wp.ret (ret_ok (by simp (maxSteps := 1000000) (disch := first | omega | assumption | (simp only [R5, a_class_Meet, hs]; first | done | omega)) only [R1, R2, R3, R4, R5, R6, RC, Nat.reduceEqDiff, Nat.reduceAdd, Nat.reduceSub, Nat.reduceMul, Nat.reduceLT, Nat.reduceLeDiff, Nat.reduceBEq, reduceIte, Int.reduceEq, Int.reduceLT, Int.reduceLE, Int.reduceAdd, Int.reduceSub, Int.reduceNeg, Int.reduceMul, reduceCtorEq, Int.reduceToNat, a_class_Meet, hs]; with_reducible rfl) ?_)
    simp (maxSteps := 1000000) (disch := first | omega | assumption | (simp only [R5]; first | done | omega)) only [R1, R2, R3, R4, R5, R6, RC, Nat.reduceEqDiff, Nat.reduceAdd, Nat.reduceSub, Nat.reduceMul, Nat.reduceLT, Nat.reduceLeDiff, Nat.reduceBEq, reduceIte, Int.reduceEq, Int.reduceLT, Int.reduceLE, Int.reduceAdd, Int.reduceSub, Int.reduceNeg, Int.reduceMul, reduceCtorEq, Int.reduceToNat]

theorem winnowerref5_Join_ok (l : List BSet) (hl : l.length ≤ 9223372036854775807) : pcL C i_winnowerref5_Join [.ps (setcells l) l.length none] = some (.agg (scells (joinS l))) := by
  refine pcL_of rfl f_winnowerref5_Join ?_
  repeat (first | (refine Wp.seq ?_) | (refine Wp.block ?_) | (refine Wp.skip ?_) | (apply Wp.region; focus (simp (maxSteps := 1000000) (disch := first | omega | assumption | (simp only [R5, scells_zero]; first | done | omega)) only [R1, R2, R3, R4, R5, R6, RC, Nat.reduceEqDiff, Nat.reduceAdd, Nat.reduceSub, Nat.reduceMul, Nat.reduceLT, Nat.reduceLeDiff, Nat.reduceBEq, reduceIte, Int.reduceEq, Int.reduceLT, Int.reduceLE, Int.reduceAdd, Int.reduceSub, Int.reduceNeg, Int.reduceMul, reduceCtorEq, Int.reduceToNat, scells_zero]; with_reducible rfl)) | (refine Wp.condT ?_ ?_; focus (simp (maxSteps := 1000000) (disch := first | omega | assumption | (simp only [R5, scells_zero]; first | done | omega)) only [R1, R2, R3, R4, R5, R6, RC, Nat.reduceEqDiff, Nat.reduceAdd, Nat.reduceSub, Nat.reduceMul, Nat.reduceLT, Nat.reduceLeDiff, Nat.reduceBEq, reduceIte, Int.reduceEq, Int.reduceLT, Int.reduceLE, Int.reduceAdd, Int.reduceSub, Int.reduceNeg, Int.reduceMul, reduceCtorEq, Int.reduceToNat, scells_zero]; done)) | (refine Wp.condF ?_ ?_; focus (simp (maxSteps := 1000000) (disch := first | omega | assumption | (simp only [R5, scells_zero]; first | done | omega)) only [R1, R2, R3, R4, R5, R6, RC, Nat.reduceEqDiff, Nat.reduceAdd, Nat.reduceSub, Nat.reduceMul, Nat.reduceLT, Nat.reduceLeDiff, Nat.reduceBEq, reduceIte, Int.reduceEq, Int.reduceLT, Int.reduceLE, Int.reduceAdd, Int.reduceSub, Int.reduceNeg, Int.reduceMul, reduceCtorEq, Int.reduceToNat, scells_zero]; done)) | (refine Wp.exit ⟨fun _ => ?_, fun h => absurd rfl h⟩) | (refine Wp.exit ⟨fun h => absurd h (by decide), fun _ => ⟨fun _ => ?_, fun h => absurd rfl h⟩⟩))
  refine Wp.count l.length (fun i s => ∃ t c, s = ⟨t, [], c⟩ ∧ Sl t [(0, .ps (setcells l) l.length none), (4, .int .i64 i), (3, .reg 1 (scells (joinS (l.take i)))), (2, .reg 0 (scells 0))]) ?_ ?_ ?_
  · exact ⟨_, _, rfl, by simp (maxSteps := 1000000) (disch := first | omega | assumption | (simp only [R5, Sl]; first | done | omega)) only [R1, R2, R3, R4, R5, R6, RC, Nat.reduceEqDiff, Nat.reduceAdd, Nat.reduceSub, Nat.reduceMul, Nat.reduceLT, Nat.reduceLeDiff, Nat.reduceBEq, reduceIte, Int.reduceEq, Int.reduceLT, Int.reduceLE, Int.reduceAdd, Int.reduceSub, Int.reduceNeg, Int.reduceMul, reduceCtorEq, Int.reduceToNat, Sl]; rfl⟩
  · rintro i _ hi ⟨t, c, rfl, hs⟩
    simp only [Sl] at hs
    repeat (first | (refine Wp.seq ?_) | (refine Wp.block ?_) | (refine Wp.skip ?_) | (apply Wp.region; focus (simp (maxSteps := 1000000) (disch := first | omega | assumption | (simp only [R5, hs, scells_zero]; first | done | omega)) only [R1, R2, R3, R4, R5, R6, RC, Nat.reduceEqDiff, Nat.reduceAdd, Nat.reduceSub, Nat.reduceMul, Nat.reduceLT, Nat.reduceLeDiff, Nat.reduceBEq, reduceIte, Int.reduceEq, Int.reduceLT, Int.reduceLE, Int.reduceAdd, Int.reduceSub, Int.reduceNeg, Int.reduceMul, reduceCtorEq, Int.reduceToNat, hs, scells_zero]; with_reducible rfl)) | (refine Wp.condT ?_ ?_; focus (simp (maxSteps := 1000000) (disch := first | omega | assumption | (simp only [R5, hs, scells_zero]; first | done | omega)) only [R1, R2, R3, R4, R5, R6, RC, Nat.reduceEqDiff, Nat.reduceAdd, Nat.reduceSub, Nat.reduceMul, Nat.reduceLT, Nat.reduceLeDiff, Nat.reduceBEq, reduceIte, Int.reduceEq, Int.reduceLT, Int.reduceLE, Int.reduceAdd, Int.reduceSub, Int.reduceNeg, Int.reduceMul, reduceCtorEq, Int.reduceToNat, hs, scells_zero]; done)) | (refine Wp.condF ?_ ?_; focus (simp (maxSteps := 1000000) (disch := first | omega | assumption | (simp only [R5, hs, scells_zero]; first | done | omega)) only [R1, R2, R3, R4, R5, R6, RC, Nat.reduceEqDiff, Nat.reduceAdd, Nat.reduceSub, Nat.reduceMul, Nat.reduceLT, Nat.reduceLeDiff, Nat.reduceBEq, reduceIte, Int.reduceEq, Int.reduceLT, Int.reduceLE, Int.reduceAdd, Int.reduceSub, Int.reduceNeg, Int.reduceMul, reduceCtorEq, Int.reduceToNat, hs, scells_zero]; done)) | (refine Wp.exit ⟨fun _ => ?_, fun h => absurd rfl h⟩) | (refine Wp.exit ⟨fun h => absurd h (by decide), fun _ => ⟨fun _ => ?_, fun h => absurd rfl h⟩⟩))
    refine Wp.count 4 (fun j st => ∃ t c, st = ⟨t, [], c⟩ ∧ Sl t [(0, .ps (setcells l) l.length none), (4, .int .i64 i), (3, .reg 1 (wcells fun k => if k < j then sword (joinS (l.take i)) k ||| sword l[i] k else sword (joinS (l.take i)) k)), (2, .reg 0 (scells 0)), (5, .int .i64 j)]) ?_ ?_ ?_
    · exact ⟨_, _, rfl, by simp (maxSteps := 1000000) (disch := first | omega | assumption | (simp only [R5, Sl, hs, Nat.not_lt_zero]; first | done | omega)) only [R1, R2, R3, R4, R5, R6, RC, Nat.reduceEqDiff, Nat.reduceAdd, Nat.reduceSub, Nat.reduceMul, Nat.reduceLT, Nat.reduceLeDiff, Nat.reduceBEq, reduceIte, Int.reduceEq, Int.reduceLT, Int.reduceLE, Int.reduceAdd, Int.reduceSub, Int.reduceNeg, Int.reduceMul, reduceCtorEq, Int.reduceToNat, Sl, hs, Nat.not_lt_zero]; rfl⟩
    · rintro j _ hj ⟨t, c, rfl, hs⟩
      simp only [Sl] at hs
      repeat (first | (refine Wp.seq ?_) | (refine Wp.block ?_) | (refine Wp.skip ?_) | (apply Wp.region; focus (simp (maxSteps := 1000000) (disch := first | omega | assumption | (simp only [R5, hs]; first | done | omega)) only [R1, R2, R3, R4, R5, R6, RC, Nat.reduceEqDiff, Nat.reduceAdd, Nat.reduceSub, Nat.reduceMul, Nat.reduceLT, Nat.reduceLeDiff, Nat.reduceBEq, reduceIte, Int.reduceEq, Int.reduceLT, Int.reduceLE, Int.reduceAdd, Int.reduceSub, Int.reduceNeg, Int.reduceMul, reduceCtorEq, Int.reduceToNat, hs]; with_reducible rfl)) | (refine Wp.condT ?_ ?_; focus (simp (maxSteps := 1000000) (disch := first | omega | assumption | (simp only [R5, hs]; first | done | omega)) only [R1, R2, R3, R4, R5, R6, RC, Nat.reduceEqDiff, Nat.reduceAdd, Nat.reduceSub, Nat.reduceMul, Nat.reduceLT, Nat.reduceLeDiff, Nat.reduceBEq, reduceIte, Int.reduceEq, Int.reduceLT, Int.reduceLE, Int.reduceAdd, Int.reduceSub, Int.reduceNeg, Int.reduceMul, reduceCtorEq, Int.reduceToNat, hs]; done)) | (refine Wp.condF ?_ ?_; focus (simp (maxSteps := 1000000) (disch := first | omega | assumption | (simp only [R5, hs]; first | done | omega)) only [R1, R2, R3, R4, R5, R6, RC, Nat.reduceEqDiff, Nat.reduceAdd, Nat.reduceSub, Nat.reduceMul, Nat.reduceLT, Nat.reduceLeDiff, Nat.reduceBEq, reduceIte, Int.reduceEq, Int.reduceLT, Int.reduceLE, Int.reduceAdd, Int.reduceSub, Int.reduceNeg, Int.reduceMul, reduceCtorEq, Int.reduceToNat, hs]; done)) | (refine Wp.exit ⟨fun _ => ?_, fun h => absurd rfl h⟩) | (refine Wp.exit ⟨fun h => absurd h (by decide), fun _ => ⟨fun _ => ?_, fun h => absurd rfl h⟩⟩))
      refine ⟨_, _, rfl, ?_⟩
      simp (maxSteps := 1000000) (disch := first | omega | assumption | (simp only [R5, Sl, hs]; first | done | omega)) only [R1, R2, R3, R4, R5, R6, RC, Nat.reduceEqDiff, Nat.reduceAdd, Nat.reduceSub, Nat.reduceMul, Nat.reduceLT, Nat.reduceLeDiff, Nat.reduceBEq, reduceIte, Int.reduceEq, Int.reduceLT, Int.reduceLE, Int.reduceAdd, Int.reduceSub, Int.reduceNeg, Int.reduceMul, reduceCtorEq, Int.reduceToNat, Sl, hs]
      refine congrArg _ (wcells_eq fun k hk => ?_)
      by_cases h : k = j
      · subst h; simp
      · have : (k < j + 1) = (k < j) := by apply propext; omega
        simp [h, this]
    · rintro _ ⟨t, c, rfl, hs⟩
      have e : (wcells fun k => if k < 4 then sword (joinS (l.take i)) k ||| sword l[i] k else sword (joinS (l.take i)) k) = scells (joinS (l.take (i + 1))) := by
        rw [wcells_s, joinS_take hi]
        exact wcells_eq fun j hj => by rw [if_pos hj, sword_or]
      simp only [Sl, e] at hs
      repeat (first | (refine Wp.seq ?_) | (refine Wp.block ?_) | (refine Wp.skip ?_) | (apply Wp.region; focus (simp (maxSteps := 1000000) (disch := first | omega | assumption | (simp only [R5, hs]; first | done | omega)) only [R1, R2, R3, R4, R5, R6, RC, Nat.reduceEqDiff, Nat.reduceAdd, Nat.reduceSub, Nat.reduceMul, Nat.reduceLT, Nat.reduceLeDiff, Nat.reduceBEq, reduceIte, Int.reduceEq, Int.reduceLT, Int.reduceLE, Int.reduceAdd, Int.reduceSub, Int.reduceNeg, Int.reduceMul, reduceCtorEq, Int.reduceToNat, hs]; with_reducible rfl)) | (refine Wp.condT ?_ ?_; focus (simp (maxSteps := 1000000) (disch := first | omega | assumption | (simp only [R5, hs]; first | done | omega)) only [R1, R2, R3, R4, R5, R6, RC, Nat.reduceEqDiff, Nat.reduceAdd, Nat.reduceSub, Nat.reduceMul, Nat.reduceLT, Nat.reduceLeDiff, Nat.reduceBEq, reduceIte, Int.reduceEq, Int.reduceLT, Int.reduceLE, Int.reduceAdd, Int.reduceSub, Int.reduceNeg, Int.reduceMul, reduceCtorEq, Int.reduceToNat, hs]; done)) | (refine Wp.condF ?_ ?_; focus (simp (maxSteps := 1000000) (disch := first | omega | assumption | (simp only [R5, hs]; first | done | omega)) only [R1, R2, R3, R4, R5, R6, RC, Nat.reduceEqDiff, Nat.reduceAdd, Nat.reduceSub, Nat.reduceMul, Nat.reduceLT, Nat.reduceLeDiff, Nat.reduceBEq, reduceIte, Int.reduceEq, Int.reduceLT, Int.reduceLE, Int.reduceAdd, Int.reduceSub, Int.reduceNeg, Int.reduceMul, reduceCtorEq, Int.reduceToNat, hs]; done)) | (refine Wp.exit ⟨fun _ => ?_, fun h => absurd rfl h⟩) | (refine Wp.exit ⟨fun h => absurd h (by decide), fun _ => ⟨fun _ => ?_, fun h => absurd rfl h⟩⟩))
      exact ⟨_, _, rfl, by simp (maxSteps := 1000000) (disch := first | omega | assumption | (simp only [R5, Sl, hs]; first | done | omega)) only [R1, R2, R3, R4, R5, R6, RC, Nat.reduceEqDiff, Nat.reduceAdd, Nat.reduceSub, Nat.reduceMul, Nat.reduceLT, Nat.reduceLeDiff, Nat.reduceBEq, reduceIte, Int.reduceEq, Int.reduceLT, Int.reduceLE, Int.reduceAdd, Int.reduceSub, Int.reduceNeg, Int.reduceMul, reduceCtorEq, Int.reduceToNat, Sl, hs]; done⟩
  · rintro _ ⟨t, c, rfl, hs⟩
    simp only [Sl, List.take_length] at hs
    repeat (first | (refine Wp.seq ?_) | (refine Wp.block ?_) | (refine Wp.skip ?_) | (apply Wp.region; focus (simp (maxSteps := 1000000) (disch := first | omega | assumption | (simp only [R5, hs]; first | done | omega)) only [R1, R2, R3, R4, R5, R6, RC, Nat.reduceEqDiff, Nat.reduceAdd, Nat.reduceSub, Nat.reduceMul, Nat.reduceLT, Nat.reduceLeDiff, Nat.reduceBEq, reduceIte, Int.reduceEq, Int.reduceLT, Int.reduceLE, Int.reduceAdd, Int.reduceSub, Int.reduceNeg, Int.reduceMul, reduceCtorEq, Int.reduceToNat, hs]; with_reducible rfl)) | (refine Wp.condT ?_ ?_; focus (simp (maxSteps := 1000000) (disch := first | omega | assumption | (simp only [R5, hs]; first | done | omega)) only [R1, R2, R3, R4, R5, R6, RC, Nat.reduceEqDiff, Nat.reduceAdd, Nat.reduceSub, Nat.reduceMul, Nat.reduceLT, Nat.reduceLeDiff, Nat.reduceBEq, reduceIte, Int.reduceEq, Int.reduceLT, Int.reduceLE, Int.reduceAdd, Int.reduceSub, Int.reduceNeg, Int.reduceMul, reduceCtorEq, Int.reduceToNat, hs]; done)) | (refine Wp.condF ?_ ?_; focus (simp (maxSteps := 1000000) (disch := first | omega | assumption | (simp only [R5, hs]; first | done | omega)) only [R1, R2, R3, R4, R5, R6, RC, Nat.reduceEqDiff, Nat.reduceAdd, Nat.reduceSub, Nat.reduceMul, Nat.reduceLT, Nat.reduceLeDiff, Nat.reduceBEq, reduceIte, Int.reduceEq, Int.reduceLT, Int.reduceLE, Int.reduceAdd, Int.reduceSub, Int.reduceNeg, Int.reduceMul, reduceCtorEq, Int.reduceToNat, hs]; done)) | (refine Wp.exit ⟨fun _ => ?_, fun h => absurd rfl h⟩) | (refine Wp.exit ⟨fun h => absurd h (by decide), fun _ => ⟨fun _ => ?_, fun h => absurd rfl h⟩⟩))
    refine Wp.ret (ret_ok (by simp (maxSteps := 1000000) (disch := first | omega | assumption | (simp only [R5, a_winnowerref5_Join, hs]; first | done | omega)) only [R1, R2, R3, R4, R5, R6, RC, Nat.reduceEqDiff, Nat.reduceAdd, Nat.reduceSub, Nat.reduceMul, Nat.reduceLT, Nat.reduceLeDiff, Nat.reduceBEq, reduceIte, Int.reduceEq, Int.reduceLT, Int.reduceLE, Int.reduceAdd, Int.reduceSub, Int.reduceNeg, Int.reduceMul, reduceCtorEq, Int.reduceToNat, a_winnowerref5_Join, hs]; with_reducible rfl) ?_)
    simp (maxSteps := 1000000) (disch := first | omega | assumption | (simp only [R5]; first | done | omega)) only [R1, R2, R3, R4, R5, R6, RC, Nat.reduceEqDiff, Nat.reduceAdd, Nat.reduceSub, Nat.reduceMul, Nat.reduceLT, Nat.reduceLeDiff, Nat.reduceBEq, reduceIte, Int.reduceEq, Int.reduceLT, Int.reduceLE, Int.reduceAdd, Int.reduceSub, Int.reduceNeg, Int.reduceMul, reduceCtorEq, Int.reduceToNat]

theorem winnowerref5_Meet_ok (l : List BSet) (hl : l.length ≤ 9223372036854775807) : pcL C i_winnowerref5_Meet [.ps (setcells l) l.length none] = some (.agg (scells (meetS l))) := by
  refine pcL_of rfl f_winnowerref5_Meet ?_
  repeat (first | (refine Wp.seq ?_) | (refine Wp.block ?_) | (refine Wp.skip ?_) | (apply Wp.region; focus (simp (maxSteps := 1000000) (disch := first | omega | assumption | (simp only [R5, scells_zero, winnowerref5_Not_ok]; first | done | omega)) only [R1, R2, R3, R4, R5, R6, RC, Nat.reduceEqDiff, Nat.reduceAdd, Nat.reduceSub, Nat.reduceMul, Nat.reduceLT, Nat.reduceLeDiff, Nat.reduceBEq, reduceIte, Int.reduceEq, Int.reduceLT, Int.reduceLE, Int.reduceAdd, Int.reduceSub, Int.reduceNeg, Int.reduceMul, reduceCtorEq, Int.reduceToNat, scells_zero, winnowerref5_Not_ok]; with_reducible rfl)) | (refine Wp.condT ?_ ?_; focus (simp (maxSteps := 1000000) (disch := first | omega | assumption | (simp only [R5, scells_zero, winnowerref5_Not_ok]; first | done | omega)) only [R1, R2, R3, R4, R5, R6, RC, Nat.reduceEqDiff, Nat.reduceAdd, Nat.reduceSub, Nat.reduceMul, Nat.reduceLT, Nat.reduceLeDiff, Nat.reduceBEq, reduceIte, Int.reduceEq, Int.reduceLT, Int.reduceLE, Int.reduceAdd, Int.reduceSub, Int.reduceNeg, Int.reduceMul, reduceCtorEq, Int.reduceToNat, scells_zero, winnowerref5_Not_ok]; done)) | (refine Wp.condF ?_ ?_; focus (simp (maxSteps := 1000000) (disch := first | omega | assumption | (simp only [R5, scells_zero, winnowerref5_Not_ok]; first | done | omega)) only [R1, R2, R3, R4, R5, R6, RC, Nat.reduceEqDiff, Nat.reduceAdd, Nat.reduceSub, Nat.reduceMul, Nat.reduceLT, Nat.reduceLeDiff, Nat.reduceBEq, reduceIte, Int.reduceEq, Int.reduceLT, Int.reduceLE, Int.reduceAdd, Int.reduceSub, Int.reduceNeg, Int.reduceMul, reduceCtorEq, Int.reduceToNat, scells_zero, winnowerref5_Not_ok]; done)) | (refine Wp.exit ⟨fun _ => ?_, fun h => absurd rfl h⟩) | (refine Wp.exit ⟨fun h => absurd h (by decide), fun _ => ⟨fun _ => ?_, fun h => absurd rfl h⟩⟩))
  refine Wp.count l.length (fun i s => ∃ t c, s = ⟨t, [], c⟩ ∧ Sl t [(0, .ps (setcells l) l.length none), (4, .int .i64 i), (3, .reg 1 (scells (meetS (l.take i)))), (2, .reg 0 (scells 0))]) ?_ ?_ ?_
  · exact ⟨_, _, rfl, by simp (maxSteps := 1000000) (disch := first | omega | assumption | (simp only [R5, Sl]; first | done | omega)) only [R1, R2, R3, R4, R5, R6, RC, Nat.reduceEqDiff, Nat.reduceAdd, Nat.reduceSub, Nat.reduceMul, Nat.reduceLT, Nat.reduceLeDiff, Nat.reduceBEq, reduceIte, Int.reduceEq, Int.reduceLT, Int.reduceLE, Int.reduceAdd, Int.reduceSub, Int.reduceNeg, Int.reduceMul, reduceCtorEq, Int.reduceToNat, Sl]; rfl⟩
  · rintro i _ hi ⟨t, c, rfl, hs⟩
    simp only [Sl] at hs
    repeat (first | (refine Wp.seq ?_) | (refine Wp.block ?_) | (refine Wp.skip ?_) | (apply Wp.region; focus (simp (maxSteps := 1000000) (disch := first | omega | assumption | (simp only [R5, hs, scells_zero]; first | done | omega)) only [R1, R2, R3, R4, R5, R6, RC, Nat.reduceEqDiff, Nat.reduceAdd, Nat.reduceSub, Nat.reduceMul, Nat.reduceLT, Nat.reduceLeDiff, Nat.reduceBEq, reduceIte, Int.reduceEq, Int.reduceLT, Int.reduceLE, Int.reduceAdd, Int.reduceSub, Int.reduceNeg, Int.reduceMul, reduceCtorEq, Int.reduceToNat, hs, scells_zero]; with_reducible rfl)) | (refine Wp.condT ?_ ?_; focus (simp (maxSteps := 1000000) (disch := first | omega | assumption | (simp only [R5, hs, scells_zero]; first | done | omega)) only [R1, R2, R3, R4, R5, R6, RC, Nat.reduceEqDiff, Nat.reduceAdd, Nat.reduceSub, Nat.reduceMul, Nat.reduceLT, Nat.reduceLeDiff, Nat.reduceBEq, reduceIte, Int.reduceEq, Int.reduceLT, Int.reduceLE, Int.reduceAdd, Int.reduceSub, Int.reduceNeg, Int.reduceMul, reduceCtorEq, Int.reduceToNat, hs, scells_zero]; done)) | (refine Wp.condF ?_ ?_; focus (simp (maxSteps := 1000000) (disch := first | omega | assumption | (simp only [R5, hs, scells_zero]; first | done | omega)) only [R1, R2, R3, R4, R5, R6, RC, Nat.reduceEqDiff, Nat.reduceAdd, Nat.reduceSub, Nat.reduceMul, Nat.reduceLT, Nat.reduceLeDiff, Nat.reduceBEq, reduceIte, Int.reduceEq, Int.reduceLT, Int.reduceLE, Int.reduceAdd, Int.reduceSub, Int.reduceNeg, Int.reduceMul, reduceCtorEq, Int.reduceToNat, hs, scells_zero]; done)) | (refine Wp.exit ⟨fun _ => ?_, fun h => absurd rfl h⟩) | (refine Wp.exit ⟨fun h => absurd h (by decide), fun _ => ⟨fun _ => ?_, fun h => absurd rfl h⟩⟩))
    refine Wp.count 4 (fun j st => ∃ t c, st = ⟨t, [], c⟩ ∧ Sl t [(0, .ps (setcells l) l.length none), (4, .int .i64 i), (3, .reg 1 (wcells fun k => if k < j then sword (meetS (l.take i)) k &&& sword l[i] k else sword (meetS (l.take i)) k)), (2, .reg 0 (scells 0)), (5, .int .i64 j)]) ?_ ?_ ?_
    · exact ⟨_, _, rfl, by simp (maxSteps := 1000000) (disch := first | omega | assumption | (simp only [R5, Sl, hs, Nat.not_lt_zero]; first | done | omega)) only [R1, R2, R3, R4, R5, R6, RC, Nat.reduceEqDiff, Nat.reduceAdd, Nat.reduceSub, Nat.reduceMul, Nat.reduceLT, Nat.reduceLeDiff, Nat.reduceBEq, reduceIte, Int.reduceEq, Int.reduceLT, Int.reduceLE, Int.reduceAdd, Int.reduceSub, Int.reduceNeg, Int.reduceMul, reduceCtorEq, Int.reduceToNat, Sl, hs, Nat.not_lt_zero]; rfl⟩
    · rintro j _ hj ⟨t, c, rfl, hs⟩
      simp only [Sl] at hs
      repeat (first | (refine Wp.seq ?_) | (refine Wp.block ?_) | (refine Wp.skip ?_) | (apply Wp.region; focus (simp (maxSteps := 1000000) (disch := first | omega | assumption | (simp only [R5, hs]; first | done | omega)) only [R1, R2, R3, R4, R5, R6, RC, Nat.reduceEqDiff, Nat.reduceAdd, Nat.reduceSub, Nat.reduceMul, Nat.reduceLT, Nat.reduceLeDiff, Nat.reduceBEq, reduceIte, Int.reduceEq, Int.reduceLT, Int.reduceLE, Int.reduceAdd, Int.reduceSub, Int.reduceNeg, Int.reduceMul, reduceCtorEq, Int.reduceToNat, hs]; with_reducible rfl)) | (refine Wp.condT ?_ ?_; focus (simp (maxSteps := 1000000) (disch := first | omega | assumption | (simp only [R5, hs]; first | done | omega)) only [R1, R2, R3, R4, R5, R6, RC, Nat.reduceEqDiff, Nat.reduceAdd, Nat.reduceSub, Nat.reduceMul, Nat.reduceLT, Nat.reduceLeDiff, Nat.reduceBEq, reduceIte, Int.reduceEq, Int.reduceLT, Int.reduceLE, Int.reduceAdd, Int.reduceSub, Int.reduceNeg, Int.reduceMul, reduceCtorEq, Int.reduceToNat, hs]; done)) | (refine Wp.condF ?_ ?_; focus (simp (maxSteps := 1000000) (disch := first | omega | assumption | (simp only [R5, hs]; first | done | omega)) only [R1, R2, R3, R4, R5, R6, RC, Nat.reduceEqDiff, Nat.reduceAdd, Nat.reduceSub, Nat.reduceMul, Nat.reduceLT, Nat.reduceLeDiff, Nat.reduceBEq, reduceIte, Int.reduceEq, Int.reduceLT, Int.reduceLE, Int.reduceAdd, Int.reduceSub, Int.reduceNeg, Int.reduceMul, reduceCtorEq, Int.reduceToNat, hs]; done)) | (refine Wp.exit ⟨fun _ => ?_, fun h => absurd rfl h⟩) | (refine Wp.exit ⟨fun h => absurd h (by decide), fun _ => ⟨fun _ => ?_, fun h => absurd rfl h⟩⟩))
      refine ⟨_, _, rfl, ?_⟩
      simp (maxSteps := 1000000) (disch := first | omega | assumption | (simp only [R5, Sl, hs]; first | done | omega)) only [R1, R2, R3, R4, R5, R6, RC, Nat.reduceEqDiff, Nat.reduceAdd, Nat.reduceSub, Nat.reduceMul, Nat.reduceLT, Nat.reduceLeDiff, Nat.reduceBEq, reduceIte, Int.reduceEq, Int.reduceLT, Int.reduceLE, Int.reduceAdd, Int.reduceSub, Int.reduceNeg, Int.reduceMul, reduceCtorEq, Int.reduceToNat, Sl, hs]
      refine congrArg _ (wcells_eq fun k hk => ?_)
      by_cases h : k = j
      · subst h; simp
      · have : (k < j + 1) = (k < j) := by apply propext; omega
        simp [h, this]
    · rintro _ ⟨t, c, rfl, hs⟩
      have e : (wcells fun k => if k < 4 then sword (meetS (l.take i)) k &&& sword l[i] k else sword (meetS (l.take i)) k) = scells (meetS (l.take (i + 1))) := by
        rw [wcells_s, meetS_take hi]
        exact wcells_eq fun j hj => by rw [if_pos hj, sword_and]
      simp only [Sl, e] at hs
      repeat (first | (refine Wp.seq ?_) | (refine Wp.block ?_) | (refine Wp.skip ?_) | (apply Wp.region; focus (simp (maxSteps := 1000000) (disch := first | omega | assumption | (simp only [R5, hs]; first | done | omega)) only [R1, R2, R3, R4, R5, R6, RC, Nat.reduceEqDiff, Nat.reduceAdd, Nat.reduceSub, Nat.reduceMul, Nat.reduceLT, Nat.reduceLeDiff, Nat.reduceBEq, reduceIte, Int.reduceEq, Int.reduceLT, Int.reduceLE, Int.reduceAdd, Int.reduceSub, Int.reduceNeg, Int.reduceMul, reduceCtorEq, Int.reduceToNat, hs]; with_reducible rfl)) | (refine Wp.condT ?_ ?_; focus (simp (maxSteps := 1000000) (disch := first | omega | assumption | (simp only [R5, hs]; first | done | omega)) only [R1, R2, R3, R4, R5, R6, RC, Nat.reduceEqDiff, Nat.reduceAdd, Nat.reduceSub, Nat.reduceMul, Nat.reduceLT, Nat.reduceLeDiff, Nat.reduceBEq, reduceIte, Int.reduceEq, Int.reduceLT, Int.reduceLE, Int.reduceAdd, Int.reduceSub, Int.reduceNeg, Int.reduceMul, reduceCtorEq, Int.reduceToNat, hs]; done)) | (refine Wp.condF ?_ ?_; focus (simp (maxSteps := 1000000) (disch := first | omega | assumption | (simp only [R5, hs]; first | done | omega)) only [R1, R2, R3, R4, R5, R6, RC, Nat.reduceEqDiff, Nat.reduceAdd, Nat.reduceSub, Nat.reduceMul, Nat.reduceLT, Nat.reduceLeDiff, Nat.reduceBEq, reduceIte, Int.reduceEq, Int.reduceLT, Int.reduceLE, Int.reduceAdd, Int.reduceSub, Int.reduceNeg, Int.reduceMul, reduceCtorEq, Int.reduceToNat, hs]; done)) | (refine Wp.exit ⟨fun _ => ?_, fun h => absurd rfl h⟩) | (refine Wp.exit ⟨fun h => absurd h (by decide), fun _ => ⟨fun _ => ?_, fun h => absurd rfl h⟩⟩))
      exact ⟨_, _, rfl, by simp (maxSteps := 1000000) (disch := first | omega | assumption | (simp only [R5, Sl, hs]; first | done | omega)) only [R1, R2, R3, R4, R5, R6, RC, Nat.reduceEqDiff, Nat.reduceAdd, Nat.reduceSub, Nat.reduceMul, Nat.reduceLT, Nat.reduceLeDiff, Nat.reduceBEq, reduceIte, Int.reduceEq, Int.reduceLT, Int.reduceLE, Int.reduceAdd, Int.reduceSub, Int.reduceNeg, Int.reduceMul, reduceCtorEq, Int.reduceToNat, Sl, hs]; done⟩
  · rintro _ ⟨t, c, rfl, hs⟩
    simp only [Sl, List.take_length] at hs
    repeat (first | (refine Wp.seq ?_) | (refine Wp.block ?_) | (refine Wp.skip ?_) | (apply Wp.region; focus (simp (maxSteps := 1000000) (disch := first | omega | assumption | (simp only [R5, hs]; first | done | omega)) only [R1, R2, R3, R4, R5, R6, RC, Nat.reduceEqDiff, Nat.reduceAdd, Nat.reduceSub, Nat.reduceMul, Nat.reduceLT, Nat.reduceLeDiff, Nat.reduceBEq, reduceIte, Int.reduceEq, Int.reduceLT, Int.reduceLE, Int.reduceAdd, Int.reduceSub, Int.reduceNeg, Int.reduceMul, reduceCtorEq, Int.reduceToNat, hs]; with_reducible rfl)) | (refine Wp.condT ?_ ?_; focus (simp (maxSteps := 1000000) (disch := first | omega | assumption | (simp only [R5, hs]; first | done | omega)) only [R1, R2, R3, R4, R5, R6, RC, Nat.reduceEqDiff, Nat.reduceAdd, Nat.reduceSub, Nat.reduceMul, Nat.reduceLT, Nat.reduceLeDiff, Nat.reduceBEq, reduceIte, Int.reduceEq, Int.reduceLT, Int.reduceLE, Int.reduceAdd, Int.reduceSub, Int.reduceNeg, Int.reduceMul, reduceCtorEq, Int.reduceToNat, hs]; done)) | (refine Wp.condF ?_ ?_; focus (simp (maxSteps := 1000000) (disch := first | omega | assumption | (simp only [R5, hs]; first | done | omega)) only [R1, R2, R3, R4, R5, R6, RC, Nat.reduceEqDiff, Nat.reduceAdd, Nat.reduceSub, Nat.reduceMul, Nat.reduceLT, Nat.reduceLeDiff, Nat.reduceBEq, reduceIte, Int.reduceEq, Int.reduceLT, Int.reduceLE, Int.reduceAdd, Int.reduceSub, Int.reduceNeg, Int.reduceMul, reduceCtorEq, Int.reduceToNat, hs]; done)) | (refine Wp.exit ⟨fun _ => ?_, fun h => absurd rfl h⟩) | (refine Wp.exit ⟨fun h => absurd h (by decide), fun _ => ⟨fun _ => ?_, fun h => absurd rfl h⟩⟩))
    refine Wp.ret (ret_ok (by simp (maxSteps := 1000000) (disch := first | omega | assumption | (simp only [R5, a_winnowerref5_Meet, hs]; first | done | omega)) only [R1, R2, R3, R4, R5, R6, RC, Nat.reduceEqDiff, Nat.reduceAdd, Nat.reduceSub, Nat.reduceMul, Nat.reduceLT, Nat.reduceLeDiff, Nat.reduceBEq, reduceIte, Int.reduceEq, Int.reduceLT, Int.reduceLE, Int.reduceAdd, Int.reduceSub, Int.reduceNeg, Int.reduceMul, reduceCtorEq, Int.reduceToNat, a_winnowerref5_Meet, hs]; with_reducible rfl) ?_)
    simp (maxSteps := 1000000) (disch := first | omega | assumption | (simp only [R5]; first | done | omega)) only [R1, R2, R3, R4, R5, R6, RC, Nat.reduceEqDiff, Nat.reduceAdd, Nat.reduceSub, Nat.reduceMul, Nat.reduceLT, Nat.reduceLeDiff, Nat.reduceBEq, reduceIte, Int.reduceEq, Int.reduceLT, Int.reduceLE, Int.reduceAdd, Int.reduceSub, Int.reduceNeg, Int.reduceMul, reduceCtorEq, Int.reduceToNat]

/-! ### all bytes from one to another -/
def rangeS (lo hi : Nat) : BSet := setOfN (List.range' lo (hi + 1 - lo))

theorem class_Range_ok (lo hi : Nat) (h1 : lo < 256) (h2 : hi < 256) : pcL C i_class_Range [.int .u8 lo, .int .u8 hi] = some (.agg (scells (rangeS lo hi))) := by
  refine pcL_of rfl f_class_Range ?_
  repeat (first | (refine Wp.seq ?_) | (refine Wp.block ?_) | (refine Wp.skip ?_) | (apply Wp.region; focus (simp (maxSteps := 1000000) (disch := first | omega | assumption | (simp only [R5, scells_zero]; first | done | omega)) only [R1, R2, R3, R4, R5, R6, RC, Nat.reduceEqDiff, Nat.reduceAdd, Nat.reduceSub, Nat.reduceMul, Nat.reduceLT, Nat.reduceLeDiff, Nat.reduceBEq, reduceIte, Int.reduceEq, Int.reduceLT, Int.reduceLE, Int.reduceAdd, Int.reduceSub, Int.reduceNeg, Int.reduceMul, reduceCtorEq, Int.reduceToNat, scells_zero]; with_reducible rfl)) | (refine Wp.condT ?_ ?_; focus (simp (maxSteps := 1000000) (disch := first | omega | assumption | (simp only [R5, scells_zero]; first | done | omega)) only [R1, R2, R3, R4, R5, R6, RC, Nat.reduceEqDiff, Nat.reduceAdd, Nat.reduceSub, Nat.reduceMul, Nat.reduceLT, Nat.reduceLeDiff, Nat.reduceBEq, reduceIte, Int.reduceEq, Int.reduceLT, Int.reduceLE, Int.reduceAdd, Int.reduceSub, Int.reduceNeg, Int.reduceMul, reduceCtorEq, Int.reduceToNat, scells_zero]; done)) | (refine Wp.condF ?_ ?_; focus (simp (maxSteps := 1000000) (disch := first | omega | assumption | (simp only [R5, scells_zero]; first | done | omega)) only [R1, R2, R3, R4, R5, R6, RC, Nat.reduceEqDiff, Nat.reduceAdd, Nat.reduceSub, Nat.reduceMul, Nat.reduceLT, Nat.reduceLeDiff, Nat.reduceBEq, reduceIte, Int.reduceEq, Int.reduceLT, Int.reduceLE, Int.reduceAdd, Int.reduceSub, Int.reduceNeg, Int.reduceMul, reduceCtorEq, Int.reduceToNat, scells_zero]; done)) | (refine Wp.exit ⟨fun _ => ?_, fun h => absurd rfl h⟩) | (refine Wp.exit ⟨fun h => absurd h (by decide), fun _ => ⟨fun _ => ?_, fun h => absurd rfl h⟩⟩))
  refine Wp.count (hi + 1 - lo) (fun i s => ∃ t c b, s = ⟨t, [], c⟩ ∧ b = lo + i ∧ Sl t [(1, .int .u8 hi), (6, .int .i64 (b : Nat)), (5, .reg 1 (scells (setOfN (List.range' lo i)))), (4, .reg 0 (scells 0))]) ?_ ?_ ?_
  · exact ⟨_, _, lo, rfl, rfl, by simp (maxSteps := 1000000) (disch := first | omega | assumption | (simp only [R5, Sl]; first | done | omega)) only [R1, R2, R3, R4, R5, R6, RC, Nat.reduceEqDiff, Nat.reduceAdd, Nat.reduceSub, Nat.reduceMul, Nat.reduceLT, Nat.reduceLeDiff, Nat.reduceBEq, reduceIte, Int.reduceEq, Int.reduceLT, Int.reduceLE, Int.reduceAdd, Int.reduceSub, Int.reduceNeg, Int.reduceMul, reduceCtorEq, Int.reduceToNat, Sl]; rfl⟩
  · rintro i _ hi ⟨t, c, b, rfl, hb, hs⟩
    simp only [Sl] at hs
    repeat (first | (refine Wp.seq ?_) | (refine Wp.block ?_) | (refine Wp.skip ?_) | (apply Wp.region; focus (simp (maxSteps := 1000000) (disch := first | omega | assumption | (simp only [R5, hs]; first | done | omega)) only [R1, R2, R3, R4, R5, R6, RC, Nat.reduceEqDiff, Nat.reduceAdd, Nat.reduceSub, Nat.reduceMul, Nat.reduceLT, Nat.reduceLeDiff, Nat.reduceBEq, reduceIte, Int.reduceEq, Int.reduceLT, Int.reduceLE, Int.reduceAdd, Int.reduceSub, Int.reduceNeg, Int.reduceMul, reduceCtorEq, Int.reduceToNat, hs]; with_reducible rfl)) | (refine Wp.condT ?_ ?_; focus (simp (maxSteps := 1000000) (disch := first | omega | assumption | (simp only [R5, hs]; first | done | omega)) only [R1, R2, R3, R4, R5, R6, RC, Nat.reduceEqDiff, Nat.reduceAdd, Nat.reduceSub, Nat.reduceMul, Nat.reduceLT, Nat.reduceLeDiff, Nat.reduceBEq, reduceIte, Int.reduceEq, Int.reduceLT, Int.reduceLE, Int.reduceAdd, Int.reduceSub, Int.reduceNeg, Int.reduceMul, reduceCtorEq, Int.reduceToNat, hs]; done)) | (refine Wp.condF ?_ ?_; focus (simp (maxSteps := 1000000) (disch := first | omega | assumption | (simp only [R5, hs]; first | done | omega)) only [R1, R2, R3, R4, R5, R6, RC, Nat.reduceEqDiff, Nat.reduceAdd, Nat.reduceSub, Nat.reduceMul, Nat.reduceLT, Nat.reduceLeDiff, Nat.reduceBEq, reduceIte, Int.reduceEq, Int.reduceLT, Int.reduceLE, Int.reduceAdd, Int.reduceSub, Int.reduceNeg, Int.reduceMul, reduceCtorEq, Int.reduceToNat, hs]; done)) | (refine Wp.exit ⟨fun _ => ?_, fun h => absurd rfl h⟩) | (refine Wp.exit ⟨fun h => absurd h (by decide), fun _ => ⟨fun _ => ?_, fun h => absurd rfl h⟩⟩))
    refine ⟨_, _, b + 1, rfl, by omega, ?_⟩
    have e : List.range' lo (i + 1) = List.range' lo i ++ [b] := by rw [List.range'_concat]; simp [hb]
    simp (maxSteps := 1000000) (disch := first | omega | assumption | (simp only [R5, Sl, hs, e, setOfN_snoc, scells_set_or _ (show b < 256 by omega)]; first | done | omega)) only [R1, R2, R3, R4, R5, R6, RC, Nat.reduceEqDiff, Nat.reduceAdd, Nat.reduceSub, Nat.reduceMul, Nat.reduceLT, Nat.reduceLeDiff, Nat.reduceBEq, reduceIte, Int.reduceEq, Int.reduceLT, Int.reduceLE, Int.reduceAdd, Int.reduceSub, Int.reduceNeg, Int.reduceMul, reduceCtorEq, Int.reduceToNat, Sl, hs, e, setOfN_snoc, scells_set_or _ (show b < 256 by omega)]
  · rintro _ ⟨t, c, b, rfl, hb, hs⟩
    simp only [Sl] at hs
    repeat (first | (refine Wp.seq ?_) | (refine Wp.block ?_) | (refine Wp.skip ?_) | (apply Wp.region; focus (simp (maxSteps := 1000000) (disch := first | omega | assumption | (simp only [R5, hs]; first | done | omega)) only [R1, R2, R3, R4, R5, R6, RC, Nat.reduceEqDiff, Nat.reduceAdd, Nat.reduceSub, Nat.reduceMul, Nat.reduceLT, Nat.reduceLeDiff, Nat.reduceBEq, reduceIte, Int.reduceEq, Int.reduceLT, Int.reduceLE, Int.reduceAdd, Int.reduceSub, Int.reduceNeg, Int.reduceMul, reduceCtorEq, Int.reduceToNat, hs]; with_reducible rfl)) | (refine Wp.condT ?_ ?_; focus (simp (maxSteps := 1000000) (disch := first | omega | assumption | (simp only [R5, hs]; first | done | omega)) only [R1, R2, R3, R4, R5, R6, RC, Nat.reduceEqDiff, Nat.reduceAdd, Nat.reduceSub, Nat.reduceMul, Nat.reduceLT, Nat.reduceLeDiff, Nat.reduceBEq, reduceIte, Int.reduceEq, Int.reduceLT, Int.reduceLE, Int.reduceAdd, Int.reduceSub, Int.reduceNeg, Int.reduceMul, reduceCtorEq, Int.reduceToNat, hs]; done)) | (refine Wp.condF ?_ ?_; focus (simp (maxSteps := 1000000) (disch := first | omega | assumption | (simp only [R5, hs]; first | done | omega)) only [R1, R2, R3, R4, R5, R6, RC, Nat.reduceEqDiff, Nat.reduceAdd, Nat.reduceSub, Nat.reduceMul, Nat.reduceLT, Nat.reduceLeDiff, Nat.reduceBEq, reduceIte, Int.reduceEq, Int.reduceLT, Int.reduceLE, Int.reduceAdd, Int.reduceSub, Int.reduceNeg, Int.reduceMul, reduceCtorEq, Int.reduceToNat, hs]; done)) | (refine Wp.exit ⟨fun _ => ?_, fun h => absurd rfl h⟩) | (refine Wp.exit ⟨fun h => absurd h (by decide), fun _ => ⟨fun _ => ?_, fun h => absurd rfl h⟩⟩))
    refine Wp.ret (ret_ok (by simp (maxSteps := 1000000) (disch := first | omega | assumption | (simp only [R5, a_class_Range, hs]; first | done | omega)) only [R1, R2, R3, R4, R5, R6, RC, Nat.reduceEqDiff, Nat.reduceAdd, Nat.reduceSub, Nat.reduceMul, Nat.reduceLT, Nat.reduceLeDiff, Nat.reduceBEq, reduceIte, Int.reduceEq, Int.reduceLT, Int.reduceLE, Int.reduceAdd, Int.reduceSub, Int.reduceNeg, Int.reduceMul, reduceCtorEq, Int.reduceToNat, a_class_Range, hs]; with_reducible rfl) ?_)
    simp (maxSteps := 1000000) (disch := first | omega | assumption | (simp only [R5, rangeS]; first | done | omega)) only [R1, R2, R3, R4, R5, R6, RC, Nat.reduceEqDiff, Nat.reduceAdd, Nat.reduceSub, Nat.reduceMul, Nat.reduceLT, Nat.reduceLeDiff, Nat.reduceBEq, reduceIte, Int.reduceEq, Int.reduceLT, Int.reduceLE, Int.reduceAdd, Int.reduceSub, Int.reduceNeg, Int.reduceMul, reduceCtorEq, Int.reduceToNat, rangeS]

theorem setOf_range (lo n : Nat) (h : lo + n ≤ 256) : setOf ((List.range' lo n).map UInt8.ofNat) = setOfN (List.range' lo n) := by
  unfold setOf
  congr 1
  rw [List.map_map]
  refine (List.map_congr_left fun x hx => ?_).trans (List.map_id _)
  have := List.mem_range'_1.1 hx
  simp only [Function.comp, id]
  exact UInt8.toNat_ofNat_of_lt' (show x < 256 by omega)
theorem u8_ofNat {b : Nat} (h : b < 256) : (AV.int .u8 b) = .int .u8 (UInt8.ofNat b).toNat := by
  rw [UInt8.toNat_ofNat_of_lt' (show b < 256 from h)]

theorem winnowerref5_Range_ok (lo hi : Nat) (h1 : lo < 256) (h2 : hi < 256) : pcL C i_winnowerref5_Range [.int .u8 lo, .int .u8 hi] = some (.agg (scells (rangeS lo hi))) := by
  refine pcL_of rfl f_winnowerref5_Range ?_
  repeat (first | (refine Wp.seq ?_) | (refine Wp.block ?_) | (refine Wp.skip ?_) | (apply Wp.region; focus (simp (maxSteps := 1000000) (disch := first | omega | assumption | (simp only [R5, scells_zero]; first | done | omega)) only [R1, R2, R3, R4, R5, R6, RC, Nat.reduceEqDiff, Nat.reduceAdd, Nat.reduceSub, Nat.reduceMul, Nat.reduceLT, Nat.reduceLeDiff, Nat.reduceBEq, reduceIte, Int.reduceEq, Int.reduceLT, Int.reduceLE, Int.reduceAdd, Int.reduceSub, Int.reduceNeg, Int.reduceMul, reduceCtorEq, Int.reduceToNat, scells_zero]; with_reducible rfl)) | (refine Wp.condT ?_ ?_; focus (simp (maxSteps := 1000000) (disch := first | omega | assumption | (simp only [R5, scells_zero]; first | done | omega)) only [R1, R2, R3, R4, R5, R6, RC, Nat.reduceEqDiff, Nat.reduceAdd, Nat.reduceSub, Nat.reduceMul, Nat.reduceLT, Nat.reduceLeDiff, Nat.reduceBEq, reduceIte, Int.reduceEq, Int.reduceLT, Int.reduceLE, Int.reduceAdd, Int.reduceSub, Int.reduceNeg, Int.reduceMul, reduceCtorEq, Int.reduceToNat, scells_zero]; done)) | (refine Wp.condF ?_ ?_; focus (simp (maxSteps := 1000000) (disch := first | omega | assumption | (simp only [R5, scells_zero]; first | done | omega)) only [R1, R2, R3, R4, R5, R6, RC, Nat.reduceEqDiff, Nat.reduceAdd, Nat.reduceSub, Nat.reduceMul, Nat.reduceLT, Nat.reduceLeDiff, Nat.reduceBEq, reduceIte, Int.reduceEq, Int.reduceLT, Int.reduceLE, Int.reduceAdd, Int.reduceSub, Int.reduceNeg, Int.reduceMul, reduceCtorEq, Int.reduceToNat, scells_zero]; done)) | (refine Wp.exit ⟨fun _ => ?_, fun h => absurd rfl h⟩) | (refine Wp.exit ⟨fun h => absurd h (by decide), fun _ => ⟨fun _ => ?_, fun h => absurd rfl h⟩⟩))
  refine Wp.count (hi + 1 - lo) (fun i s => ∃ t h c b v, s = ⟨t, h, c⟩ ∧ b = lo + i ∧ Own h 4 1 v (bcells ((List.range' lo i).map UInt8.ofNat)) i 0 ∧ Sl t [(1, .int .u8 hi), (6, .int .i64 (b : Nat)), (5, v), (4, .reg 0 (scells 0))]) ?_ ?_ ?_
  · exact ⟨_, _, _, lo, _, rfl, rfl, Own.nil _ _ _ _, by simp (maxSteps := 1000000) (disch := first | omega | assumption | (simp only [R5, Sl]; first | done | omega)) only [R1, R2, R3, R4, R5, R6, RC, Nat.reduceEqDiff, Nat.reduceAdd, Nat.reduceSub, Nat.reduceMul, Nat.reduceLT, Nat.reduceLeDiff, Nat.reduceBEq, reduceIte, Int.reduceEq, Int.reduceLT, Int.reduceLE, Int.reduceAdd, Int.reduceSub, Int.reduceNeg, Int.reduceMul, reduceCtorEq, Int.reduceToNat, Sl]⟩
  · rintro i _ hi ⟨t, h, c, b, v, rfl, hb, o, hs⟩
    simp only [Sl] at hs
    obtain ⟨v', h', ha, o', -⟩ := o.app (x := .ps [.int .u8 b] 1 (some 1)) (m := 1) rfl (more_ps 1 h [.int .u8 b] 1 _ rfl) rfl rfl (bytes := 1) (by omega) (by omega)
    repeat (first | (refine Wp.seq ?_) | (refine Wp.block ?_) | (refine Wp.skip ?_) | (apply Wp.region; focus (simp (maxSteps := 1000000) (disch := first | omega | assumption | (simp only [R5, hs, o.rval, ha]; first | done | omega)) only [R1, R2, R3, R4, R5, R6, RC, Nat.reduceEqDiff, Nat.reduceAdd, Nat.reduceSub, Nat.reduceMul, Nat.reduceLT, Nat.reduceLeDiff, Nat.reduceBEq, reduceIte, Int.reduceEq, Int.reduceLT, Int.reduceLE, Int.reduceAdd, Int.reduceSub, Int.reduceNeg, Int.reduceMul, reduceCtorEq, Int.reduceToNat, hs, o.rval, ha]; with_reducible rfl)) | (refine Wp.condT ?_ ?_; focus (simp (maxSteps := 1000000) (disch := first | omega | assumption | (simp only [R5, hs, o.rval, ha]; first | done | omega)) only [R1, R2, R3, R4, R5, R6, RC, Nat.reduceEqDiff, Nat.reduceAdd, Nat.reduceSub, Nat.reduceMul, Nat.reduceLT, Nat.reduceLeDiff, Nat.reduceBEq, reduceIte, Int.reduceEq, Int.reduceLT, Int.reduceLE, Int.reduceAdd, Int.reduceSub, Int.reduceNeg, Int.reduceMul, reduceCtorEq, Int.reduceToNat, hs, o.rval, ha]; done)) | (refine Wp.condF ?_ ?_; focus (simp (maxSteps := 1000000) (disch := first | omega | assumption | (simp only [R5, hs, o.rval, ha]; first | done | omega)) only [R1, R2, R3, R4, R5, R6, RC, Nat.reduceEqDiff, Nat.reduceAdd, Nat.reduceSub, Nat.reduceMul, Nat.reduceLT, Nat.reduceLeDiff, Nat.reduceBEq, reduceIte, Int.reduceEq, Int.reduceLT, Int.reduceLE, Int.reduceAdd, Int.reduceSub, Int.reduceNeg, Int.reduceMul, reduceCtorEq, Int.reduceToNat, hs, o.rval, ha]; done)) | (refine Wp.exit ⟨fun _ => ?_, fun h => absurd rfl h⟩) | (refine Wp.exit ⟨fun h => absurd h (by decide), fun _ => ⟨fun _ => ?_, fun h => absurd rfl h⟩⟩))
    refine ⟨_, _, _, b + 1, v', rfl, by omega, ?_, ?_⟩
    · have e : List.range' lo (i + 1) = List.range' lo i ++ [b] := by rw [List.range'_concat]; simp [hb]
      rw [e, List.map_append, bcells_app, List.map_singleton, bcells_cons, bcells_nil, ← u8_ofNat (by omega)]
      exact o'
    · simp (maxSteps := 1000000) (disch := first | omega | assumption | (simp only [R5, Sl, hs, o'.rval]; first | done | omega)) only [R1, R2, R3, R4, R5, R6, RC, Nat.reduceEqDiff, Nat.reduceAdd, Nat.reduceSub, Nat.reduceMul, Nat.reduceLT, Nat.reduceLeDiff, Nat.reduceBEq, reduceIte, Int.reduceEq, Int.reduceLT, Int.reduceLE, Int.reduceAdd, Int.reduceSub, Int.reduceNeg, Int.reduceMul, reduceCtorEq, Int.reduceToNat, Sl, hs, o'.rval]
  · rintro _ ⟨t, h, c, b, v, rfl, hb, o, hs⟩
    simp only [Sl] at hs
    have hok := winnowerref5_Of_ok ((List.range' lo (hi + 1 - lo)).map UInt8.ofNat) (by simp; omega)
    simp only [List.length_map, List.length_range'] at hok
    repeat (first | (refine Wp.seq ?_) | (refine Wp.block ?_) | (refine Wp.skip ?_) | (apply Wp.region; focus (simp (maxSteps := 1000000) (disch := first | omega | assumption | (simp only [R5, hs, o.rval, o.keeps, o.argR (bcells_flat _), hok]; first | done | omega)) only [R1, R2, R3, R4, R5, R6, RC, Nat.reduceEqDiff, Nat.reduceAdd, Nat.reduceSub, Nat.reduceMul, Nat.reduceLT, Nat.reduceLeDiff, Nat.reduceBEq, reduceIte, Int.reduceEq, Int.reduceLT, Int.reduceLE, Int.reduceAdd, Int.reduceSub, Int.reduceNeg, Int.reduceMul, reduceCtorEq, Int.reduceToNat, hs, o.rval, o.keeps, o.argR (bcells_flat _), hok]; with_reducible rfl)) | (refine Wp.condT ?_ ?_; focus (simp (maxSteps := 1000000) (disch := first | omega | assumption | (simp only [R5, hs, o.rval, o.keeps, o.argR (bcells_flat _), hok]; first | done | omega)) only [R1, R2, R3, R4, R5, R6, RC, Nat.reduceEqDiff, Nat.reduceAdd, Nat.reduceSub, Nat.reduceMul, Nat.reduceLT, Nat.reduceLeDiff, Nat.reduceBEq, reduceIte, Int.reduceEq, Int.reduceLT, Int.reduceLE, Int.reduceAdd, Int.reduceSub, Int.reduceNeg, Int.reduceMul, reduceCtorEq, Int.reduceToNat, hs, o.rval, o.keeps, o.argR (bcells_flat _), hok]; done)) | (refine Wp.condF ?_ ?_; focus (simp (maxSteps := 1000000) (disch := first | omega | assumption | (simp only [R5, hs, o.rval, o.keeps, o.argR (bcells_flat _), hok]; first | done | omega)) only [R1, R2, R3, R4, R5, R6, RC, Nat.reduceEqDiff, Nat.reduceAdd, Nat.reduceSub, Nat.reduceMul, Nat.reduceLT, Nat.reduceLeDiff, Nat.reduceBEq, reduceIte, Int.reduceEq, Int.reduceLT, Int.reduceLE, Int.reduceAdd, Int.reduceSub, Int.reduceNeg, Int.reduceMul, reduceCtorEq, Int.reduceToNat, hs, o.rval, o.keeps, o.argR (bcells_flat _), hok]; done)) | (refine Wp.exit ⟨fun _ => ?_, fun h => absurd rfl h⟩) | (refine Wp.exit ⟨fun h => absurd h (by decide), fun _ => ⟨fun _ => ?_, fun h => absurd rfl h⟩⟩))
    refine Wp.ret (ret_ok (by simp (maxSteps := 1000000) (disch := first | omega | assumption | (simp only [R5, a_winnowerref5_Range, hs]; first | done | omega)) only [R1, R2, R3, R4, R5, R6, RC, Nat.reduceEqDiff, Nat.reduceAdd, Nat.reduceSub, Nat.reduceMul, Nat.reduceLT, Nat.reduceLeDiff, Nat.reduceBEq, reduceIte, Int.reduceEq, Int.reduceLT, Int.reduceLE, Int.reduceAdd, Int.reduceSub, Int.reduceNeg, Int.reduceMul, reduceCtorEq, Int.reduceToNat, a_winnowerref5_Range, hs]; with_reducible rfl) ?_)
    simp (maxSteps := 1000000) (disch := first | omega | assumption | (simp only [R5, setOf_range lo (hi + 1 - lo) (by omega), rangeS]; first | done | omega)) only [R1, R2, R3, R4, R5, R6, RC, Nat.reduceEqDiff, Nat.reduceAdd, Nat.reduceSub, Nat.reduceMul, Nat.reduceLT, Nat.reduceLeDiff, Nat.reduceBEq, reduceIte, Int.reduceEq, Int.reduceLT, Int.reduceLE, Int.reduceAdd, Int.reduceSub, Int.reduceNeg, Int.reduceMul, reduceCtorEq, Int.reduceToNat, setOf_range lo (hi + 1 - lo) (by omega), rangeS]

end Go.Abs
