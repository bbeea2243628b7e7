/- Am: functions of the program, as the abstract machine runs them (printed by a program). -/
import Derived.Test.YtefbdhbfhgapeaaDoorAmSim
import Derived.Test.YtefbdhbfhgapeaaDoorAmQuiet
namespace Go.Am
def g0 : List V := [.sc (.string ⟨#[]⟩), .sc (.string ⟨#[108, 117, 105]⟩), .sc (.string ⟨#[97, 117, 105, 112, 99]⟩), .sc (.string ⟨#[106, 97, 108]⟩), .sc (.string ⟨#[106, 97, 108, 114]⟩), .sc (.string ⟨#[98, 101, 113]⟩), .sc (.string ⟨#[98, 110, 101]⟩), .sc (.string ⟨#[98, 108, 116]⟩), .sc (.string ⟨#[98, 103, 101]⟩), .sc (.string ⟨#[98, 108, 116, 117]⟩), .sc (.string ⟨#[98, 103, 101, 117]⟩), .sc (.string ⟨#[108, 98]⟩), .sc (.string ⟨#[108, 104]⟩), .sc (.string ⟨#[108, 119]⟩), .sc (.string ⟨#[108, 100]⟩), .sc (.string ⟨#[108, 98, 117]⟩), .sc (.string ⟨#[108, 104, 117]⟩), .sc (.string ⟨#[108, 119, 117]⟩), .sc (.string ⟨#[115, 98]⟩), .sc (.string ⟨#[115, 104]⟩), .sc (.string ⟨#[115, 119]⟩), .sc (.string ⟨#[115, 100]⟩), .sc (.string ⟨#[97, 100, 100, 105]⟩), .sc (.string ⟨#[115, 108, 116, 105]⟩), .sc (.string ⟨#[115, 108, 116, 105, 117]⟩), .sc (.string ⟨#[120, 111, 114, 105]⟩), .sc (.string ⟨#[111, 114, 105]⟩), .sc (.string ⟨#[97, 110, 100, 105]⟩), .sc (.string ⟨#[115, 108, 108, 105]⟩), .sc (.string ⟨#[115, 114, 108, 105]⟩), .sc (.string ⟨#[115, 114, 97, 105]⟩), .sc (.string ⟨#[97, 100, 100, 105, 119]⟩), .sc (.string ⟨#[115, 108, 108, 105, 119]⟩), .sc (.string ⟨#[115, 114, 108, 105, 119]⟩), .sc (.string ⟨#[115, 114, 97, 105, 119]⟩), .sc (.string ⟨#[97, 100, 100]⟩), .sc (.string ⟨#[115, 117, 98]⟩), .sc (.string ⟨#[115, 108, 108]⟩), .sc (.string ⟨#[115, 108, 116]⟩), .sc (.string ⟨#[115, 108, 116, 117]⟩), .sc (.string ⟨#[120, 111, 114]⟩), .sc (.string ⟨#[115, 114, 108]⟩), .sc (.string ⟨#[115, 114, 97]⟩), .sc (.string ⟨#[111, 114]⟩), .sc (.string ⟨#[97, 110, 100]⟩), .sc (.string ⟨#[97, 100, 100, 119]⟩), .sc (.string ⟨#[115, 117, 98, 119]⟩), .sc (.string ⟨#[115, 108, 108, 119]⟩), .sc (.string ⟨#[115, 114, 108, 119]⟩), .sc (.string ⟨#[115, 114, 97, 119]⟩), .sc (.string ⟨#[109, 117, 108]⟩), .sc (.string ⟨#[109, 117, 108, 104]⟩), .sc (.string ⟨#[109, 117, 108, 104, 115, 117]⟩), .sc (.string ⟨#[109, 117, 108, 104, 117]⟩), .sc (.string ⟨#[100, 105, 118]⟩), .sc (.string ⟨#[100, 105, 118, 117]⟩), .sc (.string ⟨#[114, 101, 109]⟩), .sc (.string ⟨#[114, 101, 109, 117]⟩), .sc (.string ⟨#[109, 117, 108, 119]⟩), .sc (.string ⟨#[100, 105, 118, 119]⟩), .sc (.string ⟨#[100, 105, 118, 117, 119]⟩), .sc (.string ⟨#[114, 101, 109, 119]⟩), .sc (.string ⟨#[114, 101, 109, 117, 119]⟩), .sc (.string ⟨#[102, 101, 110, 99, 101]⟩), .sc (.string ⟨#[101, 99, 97, 108, 108]⟩), .sc (.string ⟨#[101, 98, 114, 101, 97, 107]⟩), .sc (.string ⟨#[108, 114, 46, 119]⟩), .sc (.string ⟨#[115, 99, 46, 119]⟩), .sc (.string ⟨#[97, 109, 111, 115, 119, 97, 112, 46, 119]⟩), .sc (.string ⟨#[97, 109, 111, 97, 100, 100, 46, 119]⟩), .sc (.string ⟨#[97, 109, 111, 120, 111, 114, 46, 119]⟩), .sc (.string ⟨#[97, 109, 111, 97, 110, 100, 46, 119]⟩), .sc (.string ⟨#[97, 109, 111, 111, 114, 46, 119]⟩), .sc (.string ⟨#[97, 109, 111, 109, 105, 110, 46, 119]⟩), .sc (.string ⟨#[97, 109, 111, 109, 97, 120, 46, 119]⟩), .sc (.string ⟨#[97, 109, 111, 109, 105, 110, 117, 46, 119]⟩), .sc (.string ⟨#[97, 109, 111, 109, 97, 120, 117, 46, 119]⟩), .sc (.string ⟨#[108, 114, 46, 100]⟩), .sc (.string ⟨#[115, 99, 46, 100]⟩), .sc (.string ⟨#[97, 109, 111, 115, 119, 97, 112, 46, 100]⟩), .sc (.string ⟨#[97, 109, 111, 97, 100, 100, 46, 100]⟩), .sc (.string ⟨#[97, 109, 111, 120, 111, 114, 46, 100]⟩), .sc (.string ⟨#[97, 109, 111, 97, 110, 100, 46, 100]⟩), .sc (.string ⟨#[97, 109, 111, 111, 114, 46, 100]⟩), .sc (.string ⟨#[97, 109, 111, 109, 105, 110, 46, 100]⟩), .sc (.string ⟨#[97, 109, 111, 109, 97, 120, 46, 100]⟩), .sc (.string ⟨#[97, 109, 111, 109, 105, 110, 117, 46, 100]⟩), .sc (.string ⟨#[97, 109, 111, 109, 97, 120, 117, 46, 100]⟩)]
abbrev k_spinnakerlaw19_WindowNobody : Nat := 3
abbrev k_spinnakerlaw19_large : Nat := 4
abbrev k_spinnakerlaw19_awake : Nat := 5
abbrev k_window_Window_Reg : Nat := 6
abbrev k_window_Window_Retire : Nat := 7
abbrev k_spinnakerlaw19_same : Nat := 8
abbrev k_window_Window_Can : Nat := 9
abbrev k_window_Window_Execute : Nat := 10
abbrev k_spinnakerref04_Encode : Nat := 11
abbrev k_window_Fetch : Nat := 12
abbrev k_isa_Writes : Nat := 13
abbrev k_window_Window_at : Nat := 14
abbrev k_slices_Deletewindow_Entrywindow_Entry : Nat := 15
abbrev k_window_access : Nat := 16
abbrev k_window_reckons : Nat := 17
abbrev k_isa_Branch : Nat := 18
abbrev k_window_Window_operands : Nat := 19
abbrev k_window_Window_steer : Nat := 20
abbrev k_alu_Taken : Nat := 21
abbrev k_window_Entry_value : Nat := 22
abbrev k_window_reckon : Nat := 23
abbrev k_image_Place : Nat := 24
abbrev k_spinnakerref04_Word : Nat := 25
abbrev k_spinnakerref04_bits : Nat := 26
abbrev k_spinnakerref03_Form : Nat := 27
abbrev k_image_Fetch : Nat := 28
abbrev k_window_bad : Nat := 29
abbrev k_alu_Upper : Nat := 30
abbrev k_isa_May : Nat := 31
abbrev k_isa_Access : Nat := 32
abbrev k_isa_in : Nat := 33
abbrev k_isa_Reads : Nat := 34
abbrev k_alu_Taken_1 : Nat := 35
abbrev k_alu_Taken_2 : Nat := 36
abbrev k_isa_Form : Nat := 37
abbrev k_alu_Eval : Nat := 38
abbrev k_image_place : Nat := 39
abbrev k_spinnakerref04_words : Nat := 40
abbrev k_spinnakerref01_Bit : Nat := 41
abbrev k_spinnakerref01_Power : Nat := 42
abbrev k_spinnakerref03_letter : Nat := 43
abbrev k_dec_Decode : Nat := 44
abbrev k_isa_Wide : Nat := 45
abbrev k_isa_fields : Nat := 46
abbrev k_isa_register : Nat := 47
abbrev k_isa_immediate : Nat := 48
abbrev k_isa_Name : Nat := 49
abbrev k_isa_other : Nat := 50
abbrev k_alu_plain : Nat := 51
abbrev k_alu_short : Nat := 52
abbrev k_alu_times : Nat := 53
abbrev k_alu_shortTimes : Nat := 54
abbrev k_dec_parts : Nat := 55
abbrev k_dec_operation : Nat := 56
abbrev k_enc_Encode : Nat := 57
abbrev k_word_Fits : Nat := 58
abbrev k_alu_flag : Nat := 59
abbrev k_alu_half : Nat := 60
abbrev k_alu_quotient : Nat := 61
abbrev k_alu_quotientU : Nat := 62
abbrev k_alu_high : Nat := 63
abbrev k_dec_immediate : Nat := 64
abbrev k_dec_field : Nat := 65
abbrev k_dec_pick : Nat := 66
abbrev k_dec_immediates : Nat := 67
abbrev k_dec_small : Nat := 68
abbrev k_dec_whole : Nat := 69
abbrev k_dec_half : Nat := 70
abbrev k_dec_atomic : Nat := 71
abbrev k_dec_system : Nat := 72
abbrev k_enc_of : Nat := 73
abbrev k_enc_pack : Nat := 74
abbrev k_enc_registers : Nat := 75
abbrev k_enc_immediate : Nat := 76
abbrev k_math_bits_Mul64 : Nat := 77
abbrev k_dec_immediate_1 : Nat := 78
abbrev k_dec_signed : Nat := 79
abbrev k_word_Get : Nat := 80
abbrev k_dec_arith : Nat := 81
abbrev k_enc_arith : Nat := 82
abbrev k_enc_code_with : Nat := 83
abbrev k_enc_times : Nat := 84
abbrev k_enc_atomic : Nat := 85
abbrev k_word_Put : Nat := 86
abbrev k_enc_bit : Nat := 87
abbrev k_word_Sign : Nat := 88
abbrev k_word_may : Nat := 89
abbrev k_word_mask : Nat := 90
def f_spinnakerlaw19_WindowNobody : AFunc :=
  { nparams := 3, ntmps := 77, pure := true, results := [.tmp 6],
    body := (.seq (.region [⟨(some 3), .box 25 (.tmp 0), none, []⟩,
      ⟨(some 6), .mv (.val (.sc (.bool false))), none, []⟩])
    (.seq (.seq (.region [⟨(some 14), .load (some 3) (.tmp 3), none, []⟩,
      ⟨(some 15), .call (.val (.fn (.func 4) [] [])) [(.tmp 14)], none, []⟩])
    (.cond (.tmp 15)
      (.seq (.region [⟨(some 16), .call (.val (.fn (.func 5) [] [])) [], none, []⟩,
        ⟨(some 6), .mv (.tmp 16), none, []⟩])
      .ret)
      .skip))
    (.seq (.region [⟨(some 7), .mv (.val (.sc (.pointer none))), none, []⟩])
    (.seq (.region [⟨(some 18), .mv (.tmp 7), none, []⟩,
      ⟨(some 19), .mv (.tmp 1), none, []⟩,
      ⟨(some 20), .mv (.tmp 2), none, []⟩,
      ⟨(some 21), .call (.val (.fn (.func 6) [] [])) [(.tmp 18), (.tmp 19), (.tmp 20)], none, []⟩,
      ⟨(some 17), .mv (.tmp 21), none, []⟩,
      ⟨(some 22), .extract (.tmp 17) 0, none, []⟩,
      ⟨(some 23), .extract (.tmp 17) 1, none, []⟩,
      ⟨(some 8), .mv (.tmp 22), none, []⟩,
      ⟨(some 9), .mv (.tmp 23), none, []⟩])
    (.seq (.region [⟨(some 25), .mv (.tmp 7), none, []⟩,
      ⟨(some 26), .call (.val (.fn (.func 7) [] [])) [(.tmp 25)], none, []⟩,
      ⟨(some 24), .mv (.tmp 26), none, []⟩,
      ⟨(some 27), .extract (.tmp 24) 0, none, []⟩,
      ⟨(some 28), .extract (.tmp 24) 1, none, []⟩,
      ⟨(some 10), .alloc 36 [(.sc (.int .i64 (0))), (.sc (.int .i64 (0))), (.sc (.int .i64 (0))), (.sc (.int .i64 (0))), (.sc (.int .i64 (0))), (.sc (.int .i64 (0))), (.sc (.bool false)), (.sc (.bool false)), (.sc (.int .i64 (0))), (.sc (.int .i64 (0))), (.sc (.bool false)), (.sc (.int .i64 (0))), (.sc (.int .i64 (0))), (.sc (.bool false)), (.sc (.bool false)), (.sc (.bool false)), (.sc (.int .i64 (0))), (.sc (.int .i64 (0)))], none, []⟩,
      ⟨none, .store 18 (.tmp 10) (.tmp 27), none, []⟩,
      ⟨(some 11), .mv (.tmp 28), none, []⟩])
    (.seq (.region [⟨(some 30), .build [(.sc (.int .i64 (0))), (.sc (.int .i64 (0))), (.sc (.int .i64 (0))), (.sc (.int .i64 (0))), (.sc (.int .i64 (0))), (.sc (.int .i64 (0))), (.sc (.int .i64 (0))), (.sc (.int .i64 (0))), (.sc (.int .i64 (0))), (.sc (.int .i64 (0))), (.sc (.int .i64 (0))), (.sc (.int .i64 (0))), (.sc (.int .i64 (0))), (.sc (.int .i64 (0))), (.sc (.int .i64 (0))), (.sc (.int .i64 (0))), (.sc (.int .i64 (0))), (.sc (.int .i64 (0))), (.sc (.int .i64 (0))), (.sc (.int .i64 (0))), (.sc (.int .i64 (0))), (.sc (.int .i64 (0))), (.sc (.int .i64 (0))), (.sc (.int .i64 (0))), (.sc (.int .i64 (0))), (.sc (.int .i64 (0))), (.sc (.int .i64 (0))), (.sc (.int .i64 (0))), (.sc (.int .i64 (0))), (.sc (.int .i64 (0))), (.sc (.int .i64 (0))), (.sc (.int .i64 (0))), (.sc (.slice none 0 0))] [], none, []⟩,
      ⟨(some 31), .box 42 (.tmp 30), none, []⟩,
      ⟨(some 32), .call (.val (.fn (.func 7) [] [])) [(.tmp 31)], none, []⟩,
      ⟨(some 29), .mv (.tmp 32), none, []⟩,
      ⟨(some 33), .extract (.tmp 29) 0, none, []⟩,
      ⟨(some 34), .extract (.tmp 29) 1, none, []⟩,
      ⟨(some 12), .alloc 36 [(.sc (.int .i64 (0))), (.sc (.int .i64 (0))), (.sc (.int .i64 (0))), (.sc (.int .i64 (0))), (.sc (.int .i64 (0))), (.sc (.int .i64 (0))), (.sc (.bool false)), (.sc (.bool false)), (.sc (.int .i64 (0))), (.sc (.int .i64 (0))), (.sc (.bool false)), (.sc (.int .i64 (0))), (.sc (.int .i64 (0))), (.sc (.bool false)), (.sc (.bool false)), (.sc (.bool false)), (.sc (.int .i64 (0))), (.sc (.int .i64 (0)))], none, []⟩,
      ⟨none, .store 18 (.tmp 12) (.tmp 33), none, []⟩,
      ⟨(some 13), .mv (.tmp 34), none, []⟩])
    (.seq (.region [⟨(some 35), .mv (.tmp 8), none, []⟩,
      ⟨(some 36), .bin .eql (.tmp 35) (.val (.sc (.int .i64 (0)))), none, []⟩,
      ⟨(some 37), .mv (.tmp 36), none, []⟩,
      ⟨(some 38), .mv (.tmp 9), (some (37, true)), []⟩,
      ⟨(some 39), .un .not (.tmp 38), (some (37, true)), []⟩,
      ⟨(some 40), .pick (.tmp 37) (.tmp 39) (.val (.sc (.bool false))), none, []⟩,
      ⟨(some 41), .mv (.tmp 40), none, []⟩,
      ⟨(some 42), .mv (.tmp 11), (some (41, true)), []⟩,
      ⟨(some 43), .un .not (.tmp 42), (some (41, true)), []⟩,
      ⟨(some 44), .pick (.tmp 41) (.tmp 43) (.val (.sc (.bool false))), none, []⟩,
      ⟨(some 45), .mv (.tmp 44), none, []⟩,
      ⟨(some 46), .mv (.tmp 13), (some (45, true)), []⟩,
      ⟨(some 47), .un .not (.tmp 46), (some (45, true)), []⟩,
      ⟨(some 48), .pick (.tmp 45) (.tmp 47) (.val (.sc (.bool false))), none, []⟩,
      ⟨(some 49), .mv (.tmp 48), none, []⟩,
      ⟨(some 50), .load (some 18) (.tmp 10), (some (49, true)), []⟩,
      ⟨(some 51), .build [(.sc (.int .i64 (0))), (.sc (.int .i64 (0))), (.sc (.int .i64 (0))), (.sc (.int .i64 (0))), (.sc (.int .i64 (0))), (.sc (.int .i64 (0))), (.sc (.bool false)), (.sc (.bool false)), (.sc (.int .i64 (0))), (.sc (.int .i64 (0))), (.sc (.bool false)), (.sc (.int .i64 (0))), (.sc (.int .i64 (0))), (.sc (.bool false)), (.sc (.bool false)), (.sc (.bool false)), (.sc (.int .i64 (0))), (.sc (.int .i64 (0)))] [], (some (49, true)), []⟩,
      ⟨(some 52), .call (.val (.fn (.func 8) [] [])) [(.tmp 50), (.tmp 51)], (some (49, true)), []⟩,
      ⟨(some 53), .pick (.tmp 49) (.tmp 52) (.val (.sc (.bool false))), none, []⟩,
      ⟨(some 54), .mv (.tmp 53), none, []⟩,
      ⟨(some 55), .mv (.tmp 7), (some (54, true)), []⟩,
      ⟨(some 56), .mv (.tmp 1), (some (54, true)), []⟩,
      ⟨(some 57), .call (.val (.fn (.func 9) [] [])) [(.tmp 55), (.tmp 56)], (some (54, true)), []⟩,
      ⟨(some 58), .un .not (.tmp 57), (some (54, true)), []⟩,
      ⟨(some 59), .pick (.tmp 54) (.tmp 58) (.val (.sc (.bool false))), none, []⟩,
      ⟨(some 60), .mv (.tmp 59), none, []⟩,
      ⟨(some 61), .mv (.tmp 7), (some (60, true)), []⟩,
      ⟨(some 62), .load (some 3) (.tmp 3), (some (60, true)), []⟩,
      ⟨(some 63), .mv (.tmp 1), (some (60, true)), []⟩,
      ⟨(some 64), .call (.val (.fn (.func 10) [] [])) [(.tmp 61), (.tmp 62), (.tmp 63)], (some (60, true)), []⟩,
      ⟨(some 65), .un .not (.tmp 64), (some (60, true)), []⟩,
      ⟨(some 66), .pick (.tmp 60) (.tmp 65) (.val (.sc (.bool false))), none, []⟩,
      ⟨(some 67), .mv (.tmp 66), none, []⟩,
      ⟨(some 68), .build [(.sc (.int .i64 (0))), (.sc (.int .i64 (0))), (.sc (.int .i64 (0))), (.sc (.int .i64 (0))), (.sc (.int .i64 (0))), (.sc (.int .i64 (0))), (.sc (.int .i64 (0))), (.sc (.int .i64 (0))), (.sc (.int .i64 (0))), (.sc (.int .i64 (0))), (.sc (.int .i64 (0))), (.sc (.int .i64 (0))), (.sc (.int .i64 (0))), (.sc (.int .i64 (0))), (.sc (.int .i64 (0))), (.sc (.int .i64 (0))), (.sc (.int .i64 (0))), (.sc (.int .i64 (0))), (.sc (.int .i64 (0))), (.sc (.int .i64 (0))), (.sc (.int .i64 (0))), (.sc (.int .i64 (0))), (.sc (.int .i64 (0))), (.sc (.int .i64 (0))), (.sc (.int .i64 (0))), (.sc (.int .i64 (0))), (.sc (.int .i64 (0))), (.sc (.int .i64 (0))), (.sc (.int .i64 (0))), (.sc (.int .i64 (0))), (.sc (.int .i64 (0))), (.sc (.int .i64 (0))), (.sc (.slice none 0 0))] [], (some (67, true)), []⟩,
      ⟨(some 69), .box 42 (.tmp 68), (some (67, true)), []⟩,
      ⟨(some 70), .mv (.tmp 1), (some (67, true)), []⟩,
      ⟨(some 71), .call (.val (.fn (.func 9) [] [])) [(.tmp 69), (.tmp 70)], (some (67, true)), []⟩,
      ⟨(some 72), .un .not (.tmp 71), (some (67, true)), []⟩,
      ⟨(some 73), .pick (.tmp 67) (.tmp 72) (.val (.sc (.bool false))), none, []⟩,
      ⟨(some 74), .mv (.tmp 73), none, []⟩,
      ⟨(some 75), .call (.val (.fn (.func 5) [] [])) [], (some (74, true)), []⟩,
      ⟨(some 76), .pick (.tmp 74) (.tmp 75) (.val (.sc (.bool false))), none, []⟩,
      ⟨(some 6), .mv (.tmp 76), none, []⟩])
    .ret))))))) }

def f_spinnakerlaw19_large : AFunc :=
  { nparams := 1, ntmps := 13, pure := true, results := [.tmp 2],
    body := (.seq (.region [⟨(some 1), .box 25 (.tmp 0), none, []⟩,
      ⟨(some 2), .mv (.val (.sc (.bool false))), none, []⟩])
    (.seq (.region [⟨(some 3), .fieldAddr 0 (.tmp 1), none, []⟩,
      ⟨(some 4), .load none (.tmp 3), none, []⟩,
      ⟨(some 5), .len (.tmp 4), none, []⟩,
      ⟨(some 6), .bin .gtr (.tmp 5) (.val (.sc (.int .i64 (500)))), none, []⟩,
      ⟨(some 7), .mv (.tmp 6), none, []⟩,
      ⟨(some 8), .fieldAddr 1 (.tmp 1), (some (7, false)), []⟩,
      ⟨(some 9), .load none (.tmp 8), (some (7, false)), []⟩,
      ⟨(some 10), .len (.tmp 9), (some (7, false)), []⟩,
      ⟨(some 11), .bin .gtr (.tmp 10) (.val (.sc (.int .i64 (500)))), (some (7, false)), []⟩,
      ⟨(some 12), .pick (.tmp 7) (.val (.sc (.bool true))) (.tmp 11), none, []⟩,
      ⟨(some 2), .mv (.tmp 12), none, []⟩])
    .ret)) }

def f_spinnakerlaw19_awake : AFunc :=
  { nparams := 0, ntmps := 32, pure := true, br := [36], results := [.tmp 0],
    body := (.seq (.region [⟨(some 0), .mv (.val (.sc (.bool false))), none, []⟩])
    (.seq (.region [⟨(some 6), .build [(.sc (.int .i64 (0))), (.sc (.int .i64 (0))), (.sc (.int .i64 (0))), (.sc (.int .i64 (0))), (.sc (.int .i64 (0))), (.sc (.bool false)), (.sc (.bool false))] [(0, 1, (.val (.sc (.int .i64 (22))))), (1, 1, (.val (.sc (.int .i64 (5))))), (4, 1, (.val (.sc (.int .i64 (7)))))], none, []⟩,
      ⟨(some 7), .call (.val (.fn (.func 11) [] [])) [(.tmp 6)], none, []⟩,
      ⟨(some 8), .bslice false 48 1 [(.sc (.int .u32 (0)))] 1 [(0, (.tmp 7))], none, []⟩,
      ⟨(some 9), .bslice false 3 1 [(.sc (.int .i64 (0)))] 1 [(0, (.val (.sc (.int .i64 (0)))))], none, []⟩,
      ⟨(some 10), .build [(.sc (.slice none 0 0)), (.sc (.slice none 0 0)), (.sc (.slice none 0 0))] [(0, 1, (.tmp 8)), (2, 1, (.tmp 9))], none, []⟩,
      ⟨(some 1), .alloc 25 [(.sc (.slice none 0 0)), (.sc (.slice none 0 0)), (.sc (.slice none 0 0))], none, []⟩,
      ⟨none, .store 3 (.tmp 1) (.tmp 10), none, []⟩])
    (.seq (.region [⟨(some 11), .load (some 3) (.tmp 1), none, []⟩,
      ⟨(some 12), .call (.val (.fn (.func 12) [] [])) [(.tmp 11), (.val (.sc (.int .i64 (65536)))), (.val (.sc (.int .i64 (0))))], none, []⟩,
      ⟨(some 13), .bslice true 36 18 [(.sc (.int .i64 (0))), (.sc (.int .i64 (0))), (.sc (.int .i64 (0))), (.sc (.int .i64 (0))), (.sc (.int .i64 (0))), (.sc (.int .i64 (0))), (.sc (.bool false)), (.sc (.bool false)), (.sc (.int .i64 (0))), (.sc (.int .i64 (0))), (.sc (.bool false)), (.sc (.int .i64 (0))), (.sc (.int .i64 (0))), (.sc (.bool false)), (.sc (.bool false)), (.sc (.bool false)), (.sc (.int .i64 (0))), (.sc (.int .i64 (0)))] 1 [(0, (.tmp 12))], none, []⟩,
      ⟨(some 14), .build [(.sc (.int .i64 (0))), (.sc (.int .i64 (0))), (.sc (.int .i64 (0))), (.sc (.int .i64 (0))), (.sc (.int .i64 (0))), (.sc (.int .i64 (0))), (.sc (.int .i64 (0))), (.sc (.int .i64 (0))), (.sc (.int .i64 (0))), (.sc (.int .i64 (0))), (.sc (.int .i64 (0))), (.sc (.int .i64 (0))), (.sc (.int .i64 (0))), (.sc (.int .i64 (0))), (.sc (.int .i64 (0))), (.sc (.int .i64 (0))), (.sc (.int .i64 (0))), (.sc (.int .i64 (0))), (.sc (.int .i64 (0))), (.sc (.int .i64 (0))), (.sc (.int .i64 (0))), (.sc (.int .i64 (0))), (.sc (.int .i64 (0))), (.sc (.int .i64 (0))), (.sc (.int .i64 (0))), (.sc (.int .i64 (0))), (.sc (.int .i64 (0))), (.sc (.int .i64 (0))), (.sc (.int .i64 (0))), (.sc (.int .i64 (0))), (.sc (.int .i64 (0))), (.sc (.int .i64 (0))), (.sc (.slice none 0 0))] [(32, 1, (.tmp 13))], none, []⟩,
      ⟨(some 15), .box 42 (.tmp 14), none, []⟩,
      ⟨(some 2), .mv (.tmp 15), none, []⟩])
    (.seq (.region [⟨(some 16), .mv (.tmp 2), none, []⟩,
      ⟨(some 17), .load (some 3) (.tmp 1), none, []⟩,
      ⟨(some 18), .call (.val (.fn (.func 10) [] [])) [(.tmp 16), (.tmp 17), (.val (.sc (.int .i64 (0))))], none, []⟩,
      ⟨(some 3), .mv (.tmp 18), none, []⟩])
    (.seq (.region [⟨(some 20), .mv (.tmp 2), none, []⟩,
      ⟨(some 21), .call (.val (.fn (.func 6) [] [])) [(.tmp 20), (.val (.sc (.int .i64 (1)))), (.val (.sc (.int .i64 (5))))], none, []⟩,
      ⟨(some 19), .mv (.tmp 21), none, []⟩,
      ⟨(some 22), .extract (.tmp 19) 0, none, []⟩,
      ⟨(some 23), .extract (.tmp 19) 1, none, []⟩,
      ⟨(some 4), .mv (.tmp 22), none, []⟩,
      ⟨(some 5), .mv (.tmp 23), none, []⟩])
    (.seq (.region [⟨(some 24), .mv (.tmp 3), none, []⟩,
      ⟨(some 25), .mv (.tmp 24), none, []⟩,
      ⟨(some 26), .mv (.tmp 5), (some (25, true)), []⟩,
      ⟨(some 27), .pick (.tmp 25) (.tmp 26) (.val (.sc (.bool false))), none, []⟩,
      ⟨(some 28), .mv (.tmp 27), none, []⟩,
      ⟨(some 29), .mv (.tmp 4), (some (28, true)), []⟩,
      ⟨(some 30), .bin .eql (.tmp 29) (.val (.sc (.int .i64 (7)))), (some (28, true)), []⟩,
      ⟨(some 31), .pick (.tmp 28) (.tmp 30) (.val (.sc (.bool false))), none, []⟩,
      ⟨(some 0), .mv (.tmp 31), none, []⟩])
    .ret)))))) }

def f_window_Window_Reg : AFunc :=
  { nparams := 3, ntmps := 75, pure := true, results := [.tmp 6, .tmp 7],
    body := (.seq (.region [⟨(some 6), .mv (.val (.sc (.int .i64 (0)))), none, []⟩,
      ⟨(some 7), .mv (.val (.sc (.bool false))), none, []⟩])
    (.seq (.block 0 (.seq (.region [⟨(some 12), .mv (.tmp 0), none, []⟩,
        ⟨(some 13), .isNil false .ptr (.tmp 12), none, []⟩,
        ⟨(some 11), .mv (.tmp 13), none, []⟩])
      (.cond (.tmp 11)
        (.seq (.region [⟨(some 6), .mv (.val (.sc (.int .i64 (0)))), none, []⟩,
          ⟨(some 7), .mv (.val (.sc (.bool false))), none, []⟩])
        .ret)
        (.seq (.region [⟨(some 15), .mv (.tmp 2), none, []⟩,
          ⟨(some 16), .bin .leq (.tmp 15) (.val (.sc (.int .i64 (0)))), none, []⟩,
          ⟨(some 17), .mv (.tmp 16), none, []⟩,
          ⟨(some 18), .mv (.tmp 2), (some (17, false)), []⟩,
          ⟨(some 19), .bin .geq (.tmp 18) (.val (.sc (.int .i64 (32)))), (some (17, false)), []⟩,
          ⟨(some 20), .pick (.tmp 17) (.val (.sc (.bool true))) (.tmp 19), none, []⟩,
          ⟨(some 14), .mv (.tmp 20), none, []⟩])
        (.cond (.tmp 14)
          (.seq (.region [⟨(some 6), .mv (.val (.sc (.int .i64 (0)))), none, []⟩,
            ⟨(some 7), .mv (.val (.sc (.bool true))), none, []⟩])
          .ret)
          .skip)))))
    (.seq (.seq (.region [⟨(some 21), .mv (.tmp 1), none, []⟩,
      ⟨(some 22), .mv (.tmp 0), none, []⟩,
      ⟨(some 23), .nilCheck (.tmp 22), none, []⟩,
      ⟨(some 24), .fieldAddr 32 (.tmp 23), none, []⟩,
      ⟨(some 25), .load none (.tmp 24), none, []⟩,
      ⟨(some 26), .len (.tmp 25), none, []⟩,
      ⟨(some 27), .mnmx false [(.tmp 21), (.tmp 26)], none, []⟩,
      ⟨(some 28), .bin .sub (.tmp 27) (.val (.sc (.int .i64 (1)))), none, []⟩,
      ⟨(some 8), .mv (.tmp 28), none, []⟩])
    (.block 1 (.loop (.seq (.seq (.region [⟨(some 29), .mv (.tmp 8), none, []⟩,
          ⟨(some 30), .bin .geq (.tmp 29) (.val (.sc (.int .i64 (0)))), none, []⟩])
        (.cond (.tmp 30)
          .skip
          (.exit 1)))
        (.seq (.block 2 (.seq (.seq (.region [⟨(some 34), .mv (.tmp 0), none, []⟩,
            ⟨(some 35), .nilCheck (.tmp 34), none, []⟩,
            ⟨(some 36), .fieldAddr 32 (.tmp 35), none, []⟩,
            ⟨(some 37), .load none (.tmp 36), none, []⟩,
            ⟨(some 38), .mv (.tmp 8), none, []⟩,
            ⟨(some 39), .indexS 18 (.tmp 37) (.tmp 38), none, []⟩,
            ⟨(some 40), .fieldAddr 1 (.tmp 39), none, []⟩,
            ⟨(some 41), .load (some 7) (.tmp 40), none, []⟩,
            ⟨(some 42), .call (.val (.fn (.func 13) [] [])) [(.tmp 41)], none, []⟩,
            ⟨(some 33), .mv (.tmp 42), none, []⟩,
            ⟨(some 43), .extract (.tmp 33) 0, none, []⟩,
            ⟨(some 44), .extract (.tmp 33) 1, none, []⟩,
            ⟨(some 9), .mv (.tmp 43), none, []⟩,
            ⟨(some 10), .mv (.tmp 44), none, []⟩])
          (.seq (.region [⟨(some 45), .mv (.tmp 10), none, []⟩,
            ⟨(some 46), .un .not (.tmp 45), none, []⟩,
            ⟨(some 47), .mv (.tmp 46), none, []⟩,
            ⟨(some 48), .mv (.tmp 9), (some (47, false)), []⟩,
            ⟨(some 49), .mv (.tmp 2), (some (47, false)), []⟩,
            ⟨(some 50), .bin .neq (.tmp 48) (.tmp 49), (some (47, false)), []⟩,
            ⟨(some 51), .pick (.tmp 47) (.val (.sc (.bool true))) (.tmp 50), none, []⟩])
          (.cond (.tmp 51)
            (.exit 2)
            .skip)))
          (.seq (.seq (.region [⟨(some 52), .mv (.tmp 0), none, []⟩,
            ⟨(some 53), .nilCheck (.tmp 52), none, []⟩,
            ⟨(some 54), .fieldAddr 32 (.tmp 53), none, []⟩,
            ⟨(some 55), .load none (.tmp 54), none, []⟩,
            ⟨(some 56), .mv (.tmp 8), none, []⟩,
            ⟨(some 57), .indexS 18 (.tmp 55) (.tmp 56), none, []⟩,
            ⟨(some 58), .fieldAddr 13 (.tmp 57), none, []⟩,
            ⟨(some 59), .load none (.tmp 58), none, []⟩,
            ⟨(some 60), .un .not (.tmp 59), none, []⟩])
          (.cond (.tmp 60)
            (.seq (.region [⟨(some 6), .mv (.val (.sc (.int .i64 (0)))), none, []⟩,
              ⟨(some 7), .mv (.val (.sc (.bool false))), none, []⟩])
            .ret)
            .skip))
          (.seq (.region [⟨(some 61), .mv (.tmp 0), none, []⟩,
            ⟨(some 62), .nilCheck (.tmp 61), none, []⟩,
            ⟨(some 63), .fieldAddr 32 (.tmp 62), none, []⟩,
            ⟨(some 64), .load none (.tmp 63), none, []⟩,
            ⟨(some 65), .mv (.tmp 8), none, []⟩,
            ⟨(some 66), .indexS 18 (.tmp 64) (.tmp 65), none, []⟩,
            ⟨(some 67), .fieldAddr 12 (.tmp 66), none, []⟩,
            ⟨(some 68), .load none (.tmp 67), none, []⟩,
            ⟨(some 6), .mv (.tmp 68), none, []⟩,
            ⟨(some 7), .mv (.val (.sc (.bool true))), none, []⟩])
          .ret))))
        (.region [⟨(some 31), .mv (.tmp 8), none, []⟩,
          ⟨(some 32), .bin .sub (.tmp 31) (.val (.sc (.int .i64 (1)))), none, []⟩,
          ⟨(some 8), .mv (.tmp 32), none, []⟩]))))))
    (.seq (.region [⟨(some 69), .mv (.tmp 0), none, []⟩,
      ⟨(some 70), .mv (.tmp 2), none, []⟩,
      ⟨(some 71), .nilCheck (.tmp 69), none, []⟩,
      ⟨(some 72), .fieldAddr 0 (.tmp 71), none, []⟩,
      ⟨(some 73), .indexA 32 1 (.tmp 72) (.tmp 70), none, []⟩,
      ⟨(some 74), .load none (.tmp 73), none, []⟩,
      ⟨(some 6), .mv (.tmp 74), none, []⟩,
      ⟨(some 7), .mv (.val (.sc (.bool true))), none, []⟩])
    .ret)))) }

def f_window_Window_Retire : AFunc :=
  { nparams := 1, ntmps := 53, pure := true, results := [.cell 2 (some 18), .tmp 3],
    body := (.seq (.region [⟨(some 2), .alloc 36 [(.sc (.int .i64 (0))), (.sc (.int .i64 (0))), (.sc (.int .i64 (0))), (.sc (.int .i64 (0))), (.sc (.int .i64 (0))), (.sc (.int .i64 (0))), (.sc (.bool false)), (.sc (.bool false)), (.sc (.int .i64 (0))), (.sc (.int .i64 (0))), (.sc (.bool false)), (.sc (.int .i64 (0))), (.sc (.int .i64 (0))), (.sc (.bool false)), (.sc (.bool false)), (.sc (.bool false)), (.sc (.int .i64 (0))), (.sc (.int .i64 (0)))], none, []⟩,
      ⟨(some 3), .mv (.val (.sc (.bool false))), none, []⟩])
    (.seq (.region [⟨(some 8), .mv (.tmp 0), none, []⟩,
      ⟨(some 9), .call (.val (.fn (.func 14) [] [])) [(.tmp 8), (.val (.sc (.int .i64 (0))))], none, []⟩,
      ⟨(some 4), .mv (.tmp 9), none, []⟩])
    (.seq (.seq (.region [⟨(some 10), .mv (.tmp 4), none, []⟩,
      ⟨(some 11), .isNil false .ptr (.tmp 10), none, []⟩,
      ⟨(some 12), .mv (.tmp 11), none, []⟩,
      ⟨(some 13), .mv (.tmp 4), (some (12, false)), []⟩,
      ⟨(some 14), .nilCheck (.tmp 13), (some (12, false)), []⟩,
      ⟨(some 15), .fieldAddr 14 (.tmp 14), (some (12, false)), []⟩,
      ⟨(some 16), .load none (.tmp 15), (some (12, false)), []⟩,
      ⟨(some 17), .un .not (.tmp 16), (some (12, false)), []⟩,
      ⟨(some 18), .pick (.tmp 12) (.val (.sc (.bool true))) (.tmp 17), none, []⟩,
      ⟨(some 19), .mv (.tmp 18), none, []⟩,
      ⟨(some 20), .mv (.tmp 4), (some (19, false)), []⟩,
      ⟨(some 21), .nilCheck (.tmp 20), (some (19, false)), []⟩,
      ⟨(some 22), .fieldAddr 11 (.tmp 21), (some (19, false)), []⟩,
      ⟨(some 23), .load none (.tmp 22), (some (19, false)), []⟩,
      ⟨(some 24), .bin .neq (.tmp 23) (.val (.sc (.int .i64 (0)))), (some (19, false)), []⟩,
      ⟨(some 25), .pick (.tmp 19) (.val (.sc (.bool true))) (.tmp 24), none, []⟩])
    (.cond (.tmp 25)
      (.seq (.region [⟨(some 26), .build [(.sc (.int .i64 (0))), (.sc (.int .i64 (0))), (.sc (.int .i64 (0))), (.sc (.int .i64 (0))), (.sc (.int .i64 (0))), (.sc (.int .i64 (0))), (.sc (.bool false)), (.sc (.bool false)), (.sc (.int .i64 (0))), (.sc (.int .i64 (0))), (.sc (.bool false)), (.sc (.int .i64 (0))), (.sc (.int .i64 (0))), (.sc (.bool false)), (.sc (.bool false)), (.sc (.bool false)), (.sc (.int .i64 (0))), (.sc (.int .i64 (0)))] [], none, []⟩,
        ⟨none, .store 18 (.tmp 2) (.tmp 26), none, []⟩,
        ⟨(some 3), .mv (.val (.sc (.bool false))), none, []⟩])
      .ret)
      .skip))
    (.seq (.region [⟨(some 27), .mv (.tmp 4), none, []⟩,
      ⟨(some 28), .nilCheck (.tmp 27), none, []⟩,
      ⟨(some 29), .load (some 18) (.tmp 28), none, []⟩,
      ⟨(some 5), .alloc 36 [(.sc (.int .i64 (0))), (.sc (.int .i64 (0))), (.sc (.int .i64 (0))), (.sc (.int .i64 (0))), (.sc (.int .i64 (0))), (.sc (.int .i64 (0))), (.sc (.bool false)), (.sc (.bool false)), (.sc (.int .i64 (0))), (.sc (.int .i64 (0))), (.sc (.bool false)), (.sc (.int .i64 (0))), (.sc (.int .i64 (0))), (.sc (.bool false)), (.sc (.bool false)), (.sc (.bool false)), (.sc (.int .i64 (0))), (.sc (.int .i64 (0)))], none, []⟩,
      ⟨none, .store 18 (.tmp 5) (.tmp 29), none, []⟩])
    (.seq (.seq (.region [⟨(some 31), .fieldAddr 1 (.tmp 5), none, []⟩,
      ⟨(some 32), .load (some 7) (.tmp 31), none, []⟩,
      ⟨(some 33), .call (.val (.fn (.func 13) [] [])) [(.tmp 32)], none, []⟩,
      ⟨(some 30), .mv (.tmp 33), none, []⟩,
      ⟨(some 34), .extract (.tmp 30) 0, none, []⟩,
      ⟨(some 35), .extract (.tmp 30) 1, none, []⟩,
      ⟨(some 6), .mv (.tmp 34), none, []⟩,
      ⟨(some 7), .mv (.tmp 35), none, []⟩])
    (.seq (.region [⟨(some 36), .mv (.tmp 7), none, []⟩])
    (.cond (.tmp 36)
      (.region [⟨(some 37), .mv (.tmp 0), none, []⟩,
        ⟨(some 38), .mv (.tmp 6), none, []⟩,
        ⟨(some 39), .fieldAddr 12 (.tmp 5), none, []⟩,
        ⟨(some 40), .load none (.tmp 39), none, []⟩,
        ⟨(some 41), .nilCheck (.tmp 37), none, []⟩,
        ⟨(some 42), .fieldAddr 0 (.tmp 41), none, []⟩,
        ⟨(some 43), .indexA 32 1 (.tmp 42) (.tmp 38), none, []⟩,
        ⟨none, .store 1 (.tmp 43) (.tmp 40), none, []⟩])
      .skip)))
    (.seq (.region [⟨(some 44), .mv (.tmp 0), none, []⟩,
      ⟨(some 45), .mv (.tmp 0), none, []⟩,
      ⟨(some 46), .nilCheck (.tmp 45), none, []⟩,
      ⟨(some 47), .fieldAddr 32 (.tmp 46), none, []⟩,
      ⟨(some 48), .load none (.tmp 47), none, []⟩,
      ⟨(some 49), .call (.val (.fn (.func 15) [] [])) [(.tmp 48), (.val (.sc (.int .i64 (0)))), (.val (.sc (.int .i64 (1))))], none, []⟩,
      ⟨(some 50), .nilCheck (.tmp 44), none, []⟩,
      ⟨(some 51), .fieldAddr 32 (.tmp 50), none, []⟩,
      ⟨none, .store 1 (.tmp 51) (.tmp 49), none, []⟩])
    (.seq (.region [⟨(some 52), .load (some 18) (.tmp 5), none, []⟩,
      ⟨none, .store 18 (.tmp 2) (.tmp 52), none, []⟩,
      ⟨(some 3), .mv (.val (.sc (.bool true))), none, []⟩])
    .ret))))))) }

def f_spinnakerlaw19_same : AFunc :=
  { nparams := 2, ntmps := 8, pure := false, frz := true, results := [.tmp 4],
    body := (.seq (.region [⟨(some 2), .boxF 36 (.tmp 0), none, []⟩,
      ⟨(some 3), .boxF 44 (.tmp 1), none, []⟩,
      ⟨(some 4), .mv (.val (.sc (.bool false))), none, []⟩])
    (.seq (.region [⟨(some 5), .loadF (some 18) (.tmp 2), none, []⟩,
      ⟨(some 6), .loadF (some 18) (.tmp 3), none, []⟩,
      ⟨(some 7), .eqAgg false [(0, .i), (1, .i), (2, .i), (3, .i), (4, .i), (5, .i), (6, .b), (7, .b), (8, .i), (9, .i), (10, .b), (11, .i), (12, .i), (13, .b), (14, .b), (15, .b), (16, .i), (17, .i)] (.tmp 5) (.tmp 6), none, []⟩,
      ⟨(some 4), .mv (.tmp 7), none, []⟩])
    .ret)) }

def f_window_Window_Can : AFunc :=
  { nparams := 2, ntmps := 72, pure := true, results := [.tmp 4],
    body := (.seq (.region [⟨(some 4), .mv (.val (.sc (.bool false))), none, []⟩])
    (.seq (.region [⟨(some 12), .mv (.tmp 0), none, []⟩,
      ⟨(some 13), .mv (.tmp 1), none, []⟩,
      ⟨(some 14), .call (.val (.fn (.func 14) [] [])) [(.tmp 12), (.tmp 13)], none, []⟩,
      ⟨(some 5), .mv (.tmp 14), none, []⟩])
    (.seq (.seq (.region [⟨(some 15), .mv (.tmp 5), none, []⟩,
      ⟨(some 16), .isNil false .ptr (.tmp 15), none, []⟩,
      ⟨(some 17), .mv (.tmp 16), none, []⟩,
      ⟨(some 18), .mv (.tmp 5), (some (17, false)), []⟩,
      ⟨(some 19), .nilCheck (.tmp 18), (some (17, false)), []⟩,
      ⟨(some 20), .fieldAddr 11 (.tmp 19), (some (17, false)), []⟩,
      ⟨(some 21), .load none (.tmp 20), (some (17, false)), []⟩,
      ⟨(some 22), .bin .neq (.tmp 21) (.val (.sc (.int .i64 (0)))), (some (17, false)), []⟩,
      ⟨(some 23), .pick (.tmp 17) (.val (.sc (.bool true))) (.tmp 22), none, []⟩,
      ⟨(some 24), .mv (.tmp 23), none, []⟩,
      ⟨(some 25), .mv (.tmp 5), (some (24, false)), []⟩,
      ⟨(some 26), .nilCheck (.tmp 25), (some (24, false)), []⟩,
      ⟨(some 27), .fieldAddr 14 (.tmp 26), (some (24, false)), []⟩,
      ⟨(some 28), .load none (.tmp 27), (some (24, false)), []⟩,
      ⟨(some 29), .pick (.tmp 24) (.val (.sc (.bool true))) (.tmp 28), none, []⟩])
    (.cond (.tmp 29)
      (.seq (.region [⟨(some 4), .mv (.val (.sc (.bool false))), none, []⟩])
      .ret)
      .skip))
    (.seq (.region [⟨(some 30), .mv (.tmp 5), none, []⟩,
      ⟨(some 31), .nilCheck (.tmp 30), none, []⟩,
      ⟨(some 32), .fieldAddr 1 (.tmp 31), none, []⟩,
      ⟨(some 33), .fieldAddr 0 (.tmp 32), none, []⟩,
      ⟨(some 34), .load none (.tmp 33), none, []⟩,
      ⟨(some 6), .mv (.tmp 34), none, []⟩])
    (.seq (.block 0 (.seq (.region [⟨(some 36), .mv (.tmp 6), none, []⟩,
        ⟨(some 37), .call (.val (.fn (.func 16) [] [])) [(.tmp 36)], none, []⟩,
        ⟨(some 35), .mv (.tmp 37), none, []⟩])
      (.cond (.tmp 35)
        (.seq (.region [⟨(some 39), .mv (.tmp 0), none, []⟩,
          ⟨(some 40), .mv (.tmp 1), none, []⟩,
          ⟨(some 41), .mv (.tmp 5), none, []⟩,
          ⟨(some 42), .nilCheck (.tmp 41), none, []⟩,
          ⟨(some 43), .fieldAddr 1 (.tmp 42), none, []⟩,
          ⟨(some 44), .fieldAddr 2 (.tmp 43), none, []⟩,
          ⟨(some 45), .load none (.tmp 44), none, []⟩,
          ⟨(some 46), .call (.val (.fn (.func 6) [] [])) [(.tmp 39), (.tmp 40), (.tmp 45)], none, []⟩,
          ⟨(some 38), .mv (.tmp 46), none, []⟩,
          ⟨(some 47), .extract (.tmp 38) 0, none, []⟩,
          ⟨(some 48), .extract (.tmp 38) 1, none, []⟩,
          ⟨(some 7), .mv (.tmp 47), none, []⟩,
          ⟨(some 8), .mv (.tmp 48), none, []⟩])
        (.seq (.region [⟨(some 49), .mv (.tmp 5), none, []⟩,
          ⟨(some 50), .nilCheck (.tmp 49), none, []⟩,
          ⟨(some 51), .fieldAddr 10 (.tmp 50), none, []⟩,
          ⟨(some 52), .load none (.tmp 51), none, []⟩,
          ⟨(some 53), .un .not (.tmp 52), none, []⟩,
          ⟨(some 54), .mv (.tmp 53), none, []⟩,
          ⟨(some 55), .mv (.tmp 8), (some (54, true)), []⟩,
          ⟨(some 56), .pick (.tmp 54) (.tmp 55) (.val (.sc (.bool false))), none, []⟩,
          ⟨(some 4), .mv (.tmp 56), none, []⟩])
        .ret))
        (.seq (.seq (.region [⟨(some 58), .mv (.tmp 6), none, []⟩,
          ⟨(some 59), .call (.val (.fn (.func 17) [] [])) [(.tmp 58)], none, []⟩,
          ⟨(some 57), .mv (.tmp 59), none, []⟩])
        (.cond (.tmp 57)
          .skip
          (.seq (.region [⟨(some 60), .mv (.tmp 6), none, []⟩,
            ⟨(some 61), .call (.val (.fn (.func 18) [] [])) [(.tmp 60)], none, []⟩,
            ⟨(some 57), .mv (.tmp 61), none, []⟩])
          (.cond (.tmp 57)
            .skip
            (.region [⟨(some 62), .mv (.tmp 6), none, []⟩,
              ⟨(some 63), .bin .eql (.tmp 62) (.val (.sc (.int .i64 (4)))), none, []⟩,
              ⟨(some 57), .mv (.tmp 63), none, []⟩])))))
        (.cond (.tmp 57)
          (.seq (.region [⟨(some 65), .mv (.tmp 0), none, []⟩,
            ⟨(some 66), .mv (.tmp 1), none, []⟩,
            ⟨(some 67), .call (.val (.fn (.func 19) [] [])) [(.tmp 65), (.tmp 66)], none, []⟩,
            ⟨(some 64), .mv (.tmp 67), none, []⟩,
            ⟨(some 68), .extract (.tmp 64) 0, none, []⟩,
            ⟨(some 69), .extract (.tmp 64) 1, none, []⟩,
            ⟨(some 70), .extract (.tmp 64) 2, none, []⟩,
            ⟨(some 9), .mv (.tmp 68), none, []⟩,
            ⟨(some 10), .mv (.tmp 69), none, []⟩,
            ⟨(some 11), .mv (.tmp 70), none, []⟩])
          (.seq (.region [⟨(some 71), .mv (.tmp 11), none, []⟩,
            ⟨(some 4), .mv (.tmp 71), none, []⟩])
          .ret))
          .skip)))))
    (.seq (.region [⟨(some 4), .mv (.val (.sc (.bool false))), none, []⟩])
    .ret)))))) }

def f_window_Window_Execute : AFunc :=
  { nparams := 3, ntmps := 112, pure := true, results := [.tmp 6],
    body := (.seq (.region [⟨(some 4), .box 25 (.tmp 1), none, []⟩,
      ⟨(some 6), .mv (.val (.sc (.bool false))), none, []⟩])
    (.seq (.seq (.region [⟨(some 18), .mv (.tmp 0), none, []⟩,
      ⟨(some 19), .mv (.tmp 2), none, []⟩,
      ⟨(some 20), .call (.val (.fn (.func 9) [] [])) [(.tmp 18), (.tmp 19)], none, []⟩,
      ⟨(some 21), .un .not (.tmp 20), none, []⟩])
    (.cond (.tmp 21)
      (.seq (.region [⟨(some 6), .mv (.val (.sc (.bool false))), none, []⟩])
      .ret)
      .skip))
    (.seq (.region [⟨(some 22), .mv (.tmp 0), none, []⟩,
      ⟨(some 23), .nilCheck (.tmp 22), none, []⟩,
      ⟨(some 24), .fieldAddr 32 (.tmp 23), none, []⟩,
      ⟨(some 25), .load none (.tmp 24), none, []⟩,
      ⟨(some 26), .mv (.tmp 2), none, []⟩,
      ⟨(some 27), .indexS 18 (.tmp 25) (.tmp 26), none, []⟩,
      ⟨(some 7), .mv (.tmp 27), none, []⟩])
    (.seq (.region [⟨(some 28), .mv (.tmp 7), none, []⟩,
      ⟨(some 29), .nilCheck (.tmp 28), none, []⟩,
      ⟨(some 30), .fieldAddr 1 (.tmp 29), none, []⟩,
      ⟨(some 31), .load (some 7) (.tmp 30), none, []⟩,
      ⟨(some 8), .alloc 32 [(.sc (.int .i64 (0))), (.sc (.int .i64 (0))), (.sc (.int .i64 (0))), (.sc (.int .i64 (0))), (.sc (.int .i64 (0))), (.sc (.bool false)), (.sc (.bool false))], none, []⟩,
      ⟨none, .store 7 (.tmp 8) (.tmp 31), none, []⟩])
    (.seq (.region [⟨(some 33), .mv (.tmp 0), none, []⟩,
      ⟨(some 34), .mv (.tmp 2), none, []⟩,
      ⟨(some 35), .call (.val (.fn (.func 19) [] [])) [(.tmp 33), (.tmp 34)], none, []⟩,
      ⟨(some 32), .mv (.tmp 35), none, []⟩,
      ⟨(some 36), .extract (.tmp 32) 0, none, []⟩,
      ⟨(some 37), .extract (.tmp 32) 1, none, []⟩,
      ⟨(some 38), .extract (.tmp 32) 2, none, []⟩,
      ⟨(some 9), .mv (.tmp 36), none, []⟩,
      ⟨(some 10), .mv (.tmp 37), none, []⟩,
      ⟨(some 11), .mv (.tmp 38), none, []⟩])
    (.seq (.block 0 (.seq (.region [⟨(some 62), .fieldAddr 0 (.tmp 8), none, []⟩,
        ⟨(some 63), .load none (.tmp 62), none, []⟩,
        ⟨(some 64), .bin .eql (.tmp 63) (.val (.sc (.int .i64 (4)))), none, []⟩,
        ⟨(some 61), .mv (.tmp 64), none, []⟩])
      (.cond (.tmp 61)
        (.region [⟨(some 65), .mv (.tmp 0), none, []⟩,
          ⟨(some 66), .mv (.tmp 2), none, []⟩,
          ⟨(some 67), .mv (.tmp 9), none, []⟩,
          ⟨(some 68), .fieldAddr 4 (.tmp 8), none, []⟩,
          ⟨(some 69), .load none (.tmp 68), none, []⟩,
          ⟨(some 70), .bin .add (.tmp 67) (.tmp 69), none, []⟩,
          ⟨(some 71), .bin .andNot (.tmp 70) (.val (.sc (.int .i64 (1)))), none, []⟩,
          ⟨(some 72), .call (.val (.fn (.func 20) [] [])) [(.tmp 65), (.tmp 66), (.tmp 71)], none, []⟩])
        (.seq (.region [⟨(some 74), .fieldAddr 0 (.tmp 8), none, []⟩,
          ⟨(some 75), .load none (.tmp 74), none, []⟩,
          ⟨(some 76), .call (.val (.fn (.func 18) [] [])) [(.tmp 75)], none, []⟩,
          ⟨(some 73), .mv (.tmp 76), none, []⟩])
        (.cond (.tmp 73)
          (.seq (.region [⟨(some 77), .mv (.tmp 7), none, []⟩,
            ⟨(some 78), .nilCheck (.tmp 77), none, []⟩,
            ⟨(some 79), .fieldAddr 0 (.tmp 78), none, []⟩,
            ⟨(some 80), .load none (.tmp 79), none, []⟩,
            ⟨(some 81), .bin .add (.tmp 80) (.val (.sc (.int .i64 (4)))), none, []⟩,
            ⟨(some 12), .mv (.tmp 81), none, []⟩])
          (.seq (.seq (.region [⟨(some 83), .fieldAddr 0 (.tmp 8), none, []⟩,
            ⟨(some 84), .load none (.tmp 83), none, []⟩,
            ⟨(some 85), .mv (.tmp 9), none, []⟩,
            ⟨(some 86), .mv (.tmp 10), none, []⟩,
            ⟨(some 87), .call (.val (.fn (.func 21) [] [])) [(.tmp 84), (.tmp 85), (.tmp 86)], none, []⟩,
            ⟨(some 82), .mv (.tmp 87), none, []⟩,
            ⟨(some 88), .extract (.tmp 82) 0, none, []⟩,
            ⟨(some 89), .extract (.tmp 82) 1, none, []⟩,
            ⟨(some 13), .mv (.tmp 88), none, []⟩,
            ⟨(some 14), .mv (.tmp 89), none, []⟩])
          (.seq (.region [⟨(some 90), .mv (.tmp 13), none, []⟩])
          (.cond (.tmp 90)
            (.region [⟨(some 91), .mv (.tmp 7), none, []⟩,
              ⟨(some 92), .nilCheck (.tmp 91), none, []⟩,
              ⟨(some 93), .fieldAddr 0 (.tmp 92), none, []⟩,
              ⟨(some 94), .load none (.tmp 93), none, []⟩,
              ⟨(some 95), .fieldAddr 4 (.tmp 8), none, []⟩,
              ⟨(some 96), .load none (.tmp 95), none, []⟩,
              ⟨(some 97), .bin .add (.tmp 94) (.tmp 96), none, []⟩,
              ⟨(some 12), .mv (.tmp 97), none, []⟩])
            .skip)))
          (.region [⟨(some 98), .mv (.tmp 0), none, []⟩,
            ⟨(some 99), .mv (.tmp 2), none, []⟩,
            ⟨(some 100), .mv (.tmp 12), none, []⟩,
            ⟨(some 101), .call (.val (.fn (.func 20) [] [])) [(.tmp 98), (.tmp 99), (.tmp 100)], none, []⟩])))
          (.seq (.region [⟨(some 103), .fieldAddr 0 (.tmp 8), none, []⟩,
            ⟨(some 104), .load none (.tmp 103), none, []⟩,
            ⟨(some 105), .call (.val (.fn (.func 17) [] [])) [(.tmp 104)], none, []⟩,
            ⟨(some 102), .mv (.tmp 105), none, []⟩])
          (.cond (.tmp 102)
            (.region [⟨(some 106), .mv (.tmp 7), none, []⟩,
              ⟨(some 107), .load (some 7) (.tmp 8), none, []⟩,
              ⟨(some 108), .mv (.tmp 9), none, []⟩,
              ⟨(some 109), .mv (.tmp 10), none, []⟩,
              ⟨(some 110), .call (.val (.fn (.func 23) [] [])) [(.tmp 107), (.tmp 108), (.tmp 109)], none, []⟩,
              ⟨(some 111), .call (.val (.fn (.func 22) [] [])) [(.tmp 106), (.tmp 110)], none, []⟩])
            (.seq (.region [⟨(some 39), .mv (.tmp 9), none, []⟩,
              ⟨(some 40), .fieldAddr 4 (.tmp 8), none, []⟩,
              ⟨(some 41), .load none (.tmp 40), none, []⟩,
              ⟨(some 42), .bin .add (.tmp 39) (.tmp 41), none, []⟩,
              ⟨(some 15), .mv (.tmp 42), none, []⟩])
            (.seq (.seq (.region [⟨(some 44), .load (some 3) (.tmp 4), none, []⟩,
              ⟨(some 45), .mv (.tmp 15), none, []⟩,
              ⟨(some 46), .call (.val (.fn (.func 24) [] [])) [(.tmp 44), (.tmp 45)], none, []⟩,
              ⟨(some 43), .mv (.tmp 46), none, []⟩,
              ⟨(some 47), .extract (.tmp 43) 0, none, []⟩,
              ⟨(some 48), .extract (.tmp 43) 1, none, []⟩,
              ⟨(some 16), .mv (.tmp 47), none, []⟩,
              ⟨(some 17), .mv (.tmp 48), none, []⟩])
            (.seq (.region [⟨(some 49), .mv (.tmp 17), none, []⟩,
              ⟨(some 50), .un .not (.tmp 49), none, []⟩])
            (.cond (.tmp 50)
              (.seq (.region [⟨(some 51), .mv (.tmp 7), none, []⟩,
                ⟨(some 52), .nilCheck (.tmp 51), none, []⟩,
                ⟨(some 53), .fieldAddr 11 (.tmp 52), none, []⟩,
                ⟨none, .store 1 (.tmp 53) (.val (.sc (.int .i64 (6)))), none, []⟩])
              (.seq (.region [⟨(some 6), .mv (.val (.sc (.bool true))), none, []⟩])
              .ret))
              .skip)))
            (.region [⟨(some 54), .mv (.tmp 7), none, []⟩,
              ⟨(some 55), .mv (.tmp 7), none, []⟩,
              ⟨(some 56), .mv (.tmp 15), none, []⟩,
              ⟨(some 57), .nilCheck (.tmp 54), none, []⟩,
              ⟨(some 58), .fieldAddr 9 (.tmp 57), none, []⟩,
              ⟨none, .store 1 (.tmp 58) (.tmp 56), none, []⟩,
              ⟨(some 59), .nilCheck (.tmp 55), none, []⟩,
              ⟨(some 60), .fieldAddr 10 (.tmp 59), none, []⟩,
              ⟨none, .store 1 (.tmp 60) (.val (.sc (.bool true))), none, []⟩]))))))))))
    (.seq (.region [⟨(some 6), .mv (.val (.sc (.bool true))), none, []⟩])
    .ret))))))) }

def f_spinnakerref04_Encode : AFunc :=
  { nparams := 1, ntmps := 119, pure := true, bz := [32], results := [.tmp 2],
    body := (.seq (.region [⟨(some 1), .boxF 32 (.tmp 0), none, []⟩,
      ⟨(some 2), .mv (.val (.sc (.int .u32 (0)))), none, []⟩])
    (.seq (.region [⟨(some 4), .fieldAddr 0 (.tmp 1), none, []⟩,
      ⟨(some 5), .loadF none (.tmp 4), none, []⟩,
      ⟨(some 6), .call (.val (.fn (.func 25) [] [])) [(.tmp 5)], none, []⟩,
      ⟨(some 7), .fieldAddr 1 (.tmp 1), none, []⟩,
      ⟨(some 8), .loadF none (.tmp 7), none, []⟩,
      ⟨(some 9), .call (.val (.fn (.func 26) [] [])) [(.tmp 8), (.val (.sc (.int .i64 (0)))), (.val (.sc (.int .i64 (5)))), (.val (.sc (.int .i64 (7))))], none, []⟩,
      ⟨(some 10), .bin .or (.tmp 6) (.tmp 9), none, []⟩,
      ⟨(some 11), .fieldAddr 2 (.tmp 1), none, []⟩,
      ⟨(some 12), .loadF none (.tmp 11), none, []⟩,
      ⟨(some 13), .call (.val (.fn (.func 26) [] [])) [(.tmp 12), (.val (.sc (.int .i64 (0)))), (.val (.sc (.int .i64 (5)))), (.val (.sc (.int .i64 (15))))], none, []⟩,
      ⟨(some 14), .bin .or (.tmp 10) (.tmp 13), none, []⟩,
      ⟨(some 15), .fieldAddr 3 (.tmp 1), none, []⟩,
      ⟨(some 16), .loadF none (.tmp 15), none, []⟩,
      ⟨(some 17), .call (.val (.fn (.func 26) [] [])) [(.tmp 16), (.val (.sc (.int .i64 (0)))), (.val (.sc (.int .i64 (5)))), (.val (.sc (.int .i64 (20))))], none, []⟩,
      ⟨(some 18), .bin .or (.tmp 14) (.tmp 17), none, []⟩,
      ⟨(some 3), .mv (.tmp 18), none, []⟩])
    (.seq (.seq (.region [⟨(some 19), .fieldAddr 0 (.tmp 1), none, []⟩,
      ⟨(some 20), .load none (.tmp 19), none, []⟩,
      ⟨(some 21), .call (.val (.fn (.func 27) [] [])) [(.tmp 20)], none, []⟩])
    (.block 0 (.seq (.region [⟨(some 23), .bin .eql (.tmp 21) (.val (.sc (.int .i64 (1)))), none, []⟩,
        ⟨(some 22), .mv (.tmp 23), none, []⟩])
      (.cond (.tmp 22)
        (.region [⟨(some 24), .mv (.tmp 3), none, []⟩,
          ⟨(some 25), .fieldAddr 4 (.tmp 1), none, []⟩,
          ⟨(some 26), .load none (.tmp 25), none, []⟩,
          ⟨(some 27), .call (.val (.fn (.func 26) [] [])) [(.tmp 26), (.val (.sc (.int .i64 (0)))), (.val (.sc (.int .i64 (20)))), (.val (.sc (.int .i64 (12))))], none, []⟩,
          ⟨(some 28), .bin .or (.tmp 24) (.tmp 27), none, []⟩,
          ⟨(some 3), .mv (.tmp 28), none, []⟩])
        (.seq (.region [⟨(some 30), .bin .eql (.tmp 21) (.val (.sc (.int .i64 (2)))), none, []⟩,
          ⟨(some 29), .mv (.tmp 30), none, []⟩])
        (.cond (.tmp 29)
          (.region [⟨(some 31), .mv (.tmp 3), none, []⟩,
            ⟨(some 32), .fieldAddr 4 (.tmp 1), none, []⟩,
            ⟨(some 33), .load none (.tmp 32), none, []⟩,
            ⟨(some 34), .call (.val (.fn (.func 26) [] [])) [(.tmp 33), (.val (.sc (.int .i64 (20)))), (.val (.sc (.int .i64 (1)))), (.val (.sc (.int .i64 (31))))], none, []⟩,
            ⟨(some 35), .bin .or (.tmp 31) (.tmp 34), none, []⟩,
            ⟨(some 36), .fieldAddr 4 (.tmp 1), none, []⟩,
            ⟨(some 37), .load none (.tmp 36), none, []⟩,
            ⟨(some 38), .call (.val (.fn (.func 26) [] [])) [(.tmp 37), (.val (.sc (.int .i64 (1)))), (.val (.sc (.int .i64 (10)))), (.val (.sc (.int .i64 (21))))], none, []⟩,
            ⟨(some 39), .bin .or (.tmp 35) (.tmp 38), none, []⟩,
            ⟨(some 40), .fieldAddr 4 (.tmp 1), none, []⟩,
            ⟨(some 41), .load none (.tmp 40), none, []⟩,
            ⟨(some 42), .call (.val (.fn (.func 26) [] [])) [(.tmp 41), (.val (.sc (.int .i64 (11)))), (.val (.sc (.int .i64 (1)))), (.val (.sc (.int .i64 (20))))], none, []⟩,
            ⟨(some 43), .bin .or (.tmp 39) (.tmp 42), none, []⟩,
            ⟨(some 44), .fieldAddr 4 (.tmp 1), none, []⟩,
            ⟨(some 45), .load none (.tmp 44), none, []⟩,
            ⟨(some 46), .call (.val (.fn (.func 26) [] [])) [(.tmp 45), (.val (.sc (.int .i64 (12)))), (.val (.sc (.int .i64 (8)))), (.val (.sc (.int .i64 (12))))], none, []⟩,
            ⟨(some 47), .bin .or (.tmp 43) (.tmp 46), none, []⟩,
            ⟨(some 3), .mv (.tmp 47), none, []⟩])
          (.seq (.region [⟨(some 49), .bin .eql (.tmp 21) (.val (.sc (.int .i64 (3)))), none, []⟩,
            ⟨(some 48), .mv (.tmp 49), none, []⟩])
          (.cond (.tmp 48)
            (.region [⟨(some 50), .mv (.tmp 3), none, []⟩,
              ⟨(some 51), .fieldAddr 4 (.tmp 1), none, []⟩,
              ⟨(some 52), .load none (.tmp 51), none, []⟩,
              ⟨(some 53), .call (.val (.fn (.func 26) [] [])) [(.tmp 52), (.val (.sc (.int .i64 (0)))), (.val (.sc (.int .i64 (12)))), (.val (.sc (.int .i64 (20))))], none, []⟩,
              ⟨(some 54), .bin .or (.tmp 50) (.tmp 53), none, []⟩,
              ⟨(some 3), .mv (.tmp 54), none, []⟩])
            (.seq (.region [⟨(some 56), .bin .eql (.tmp 21) (.val (.sc (.int .i64 (4)))), none, []⟩,
              ⟨(some 55), .mv (.tmp 56), none, []⟩])
            (.cond (.tmp 55)
              (.region [⟨(some 57), .mv (.tmp 3), none, []⟩,
                ⟨(some 58), .call (.val (.fn (.func 26) [] [])) [(.val (.sc (.int .i64 (-1)))), (.val (.sc (.int .i64 (0)))), (.val (.sc (.int .i64 (5)))), (.val (.sc (.int .i64 (7))))], none, []⟩,
                ⟨(some 59), .bin .andNot (.tmp 57) (.tmp 58), none, []⟩,
                ⟨(some 60), .fieldAddr 4 (.tmp 1), none, []⟩,
                ⟨(some 61), .load none (.tmp 60), none, []⟩,
                ⟨(some 62), .call (.val (.fn (.func 26) [] [])) [(.tmp 61), (.val (.sc (.int .i64 (12)))), (.val (.sc (.int .i64 (1)))), (.val (.sc (.int .i64 (31))))], none, []⟩,
                ⟨(some 63), .bin .or (.tmp 59) (.tmp 62), none, []⟩,
                ⟨(some 64), .fieldAddr 4 (.tmp 1), none, []⟩,
                ⟨(some 65), .load none (.tmp 64), none, []⟩,
                ⟨(some 66), .call (.val (.fn (.func 26) [] [])) [(.tmp 65), (.val (.sc (.int .i64 (5)))), (.val (.sc (.int .i64 (6)))), (.val (.sc (.int .i64 (25))))], none, []⟩,
                ⟨(some 67), .bin .or (.tmp 63) (.tmp 66), none, []⟩,
                ⟨(some 68), .fieldAddr 4 (.tmp 1), none, []⟩,
                ⟨(some 69), .load none (.tmp 68), none, []⟩,
                ⟨(some 70), .call (.val (.fn (.func 26) [] [])) [(.tmp 69), (.val (.sc (.int .i64 (1)))), (.val (.sc (.int .i64 (4)))), (.val (.sc (.int .i64 (8))))], none, []⟩,
                ⟨(some 71), .bin .or (.tmp 67) (.tmp 70), none, []⟩,
                ⟨(some 72), .fieldAddr 4 (.tmp 1), none, []⟩,
                ⟨(some 73), .load none (.tmp 72), none, []⟩,
                ⟨(some 74), .call (.val (.fn (.func 26) [] [])) [(.tmp 73), (.val (.sc (.int .i64 (11)))), (.val (.sc (.int .i64 (1)))), (.val (.sc (.int .i64 (7))))], none, []⟩,
                ⟨(some 75), .bin .or (.tmp 71) (.tmp 74), none, []⟩,
                ⟨(some 3), .mv (.tmp 75), none, []⟩])
              (.seq (.region [⟨(some 77), .bin .eql (.tmp 21) (.val (.sc (.int .i64 (5)))), none, []⟩,
                ⟨(some 76), .mv (.tmp 77), none, []⟩])
              (.cond (.tmp 76)
                (.region [⟨(some 78), .mv (.tmp 3), none, []⟩,
                  ⟨(some 79), .call (.val (.fn (.func 26) [] [])) [(.val (.sc (.int .i64 (-1)))), (.val (.sc (.int .i64 (0)))), (.val (.sc (.int .i64 (5)))), (.val (.sc (.int .i64 (7))))], none, []⟩,
                  ⟨(some 80), .bin .andNot (.tmp 78) (.tmp 79), none, []⟩,
                  ⟨(some 81), .fieldAddr 4 (.tmp 1), none, []⟩,
                  ⟨(some 82), .load none (.tmp 81), none, []⟩,
                  ⟨(some 83), .call (.val (.fn (.func 26) [] [])) [(.tmp 82), (.val (.sc (.int .i64 (5)))), (.val (.sc (.int .i64 (7)))), (.val (.sc (.int .i64 (25))))], none, []⟩,
                  ⟨(some 84), .bin .or (.tmp 80) (.tmp 83), none, []⟩,
                  ⟨(some 85), .fieldAddr 4 (.tmp 1), none, []⟩,
                  ⟨(some 86), .load none (.tmp 85), none, []⟩,
                  ⟨(some 87), .call (.val (.fn (.func 26) [] [])) [(.tmp 86), (.val (.sc (.int .i64 (0)))), (.val (.sc (.int .i64 (5)))), (.val (.sc (.int .i64 (7))))], none, []⟩,
                  ⟨(some 88), .bin .or (.tmp 84) (.tmp 87), none, []⟩,
                  ⟨(some 3), .mv (.tmp 88), none, []⟩])
                (.seq (.region [⟨(some 90), .bin .eql (.tmp 21) (.val (.sc (.int .i64 (7)))), none, []⟩,
                  ⟨(some 89), .mv (.tmp 90), none, []⟩])
                (.cond (.tmp 89)
                  (.region [⟨(some 91), .mv (.tmp 3), none, []⟩,
                    ⟨(some 92), .fieldAddr 4 (.tmp 1), none, []⟩,
                    ⟨(some 93), .load none (.tmp 92), none, []⟩,
                    ⟨(some 94), .call (.val (.fn (.func 26) [] [])) [(.tmp 93), (.val (.sc (.int .i64 (0)))), (.val (.sc (.int .i64 (6)))), (.val (.sc (.int .i64 (20))))], none, []⟩,
                    ⟨(some 95), .bin .or (.tmp 91) (.tmp 94), none, []⟩,
                    ⟨(some 3), .mv (.tmp 95), none, []⟩])
                  (.seq (.region [⟨(some 97), .bin .eql (.tmp 21) (.val (.sc (.int .i64 (8)))), none, []⟩,
                    ⟨(some 96), .mv (.tmp 97), none, []⟩])
                  (.cond (.tmp 96)
                    (.region [⟨(some 98), .mv (.tmp 3), none, []⟩,
                      ⟨(some 99), .fieldAddr 4 (.tmp 1), none, []⟩,
                      ⟨(some 100), .load none (.tmp 99), none, []⟩,
                      ⟨(some 101), .call (.val (.fn (.func 26) [] [])) [(.tmp 100), (.val (.sc (.int .i64 (0)))), (.val (.sc (.int .i64 (5)))), (.val (.sc (.int .i64 (20))))], none, []⟩,
                      ⟨(some 102), .bin .or (.tmp 98) (.tmp 101), none, []⟩,
                      ⟨(some 3), .mv (.tmp 102), none, []⟩])
                    (.seq (.region [⟨(some 104), .bin .eql (.tmp 21) (.val (.sc (.int .i64 (9)))), none, []⟩,
                      ⟨(some 103), .mv (.tmp 104), none, []⟩])
                    (.cond (.tmp 103)
                      (.region [⟨(some 105), .mv (.tmp 3), none, []⟩,
                        ⟨(some 106), .fieldAddr 4 (.tmp 1), none, []⟩,
                        ⟨(some 107), .load none (.tmp 106), none, []⟩,
                        ⟨(some 108), .call (.val (.fn (.func 26) [] [])) [(.tmp 107), (.val (.sc (.int .i64 (0)))), (.val (.sc (.int .i64 (8)))), (.val (.sc (.int .i64 (20))))], none, []⟩,
                        ⟨(some 109), .bin .or (.tmp 105) (.tmp 108), none, []⟩,
                        ⟨(some 3), .mv (.tmp 109), none, []⟩])
                      .skip))))))))))))))))))
    (.seq (.seq (.region [⟨(some 110), .fieldAddr 5 (.tmp 1), none, []⟩,
      ⟨(some 111), .load none (.tmp 110), none, []⟩])
    (.cond (.tmp 111)
      (.region [⟨(some 112), .mv (.tmp 3), none, []⟩,
        ⟨(some 113), .bin .or (.tmp 112) (.val (.sc (.int .u32 (67108864)))), none, []⟩,
        ⟨(some 3), .mv (.tmp 113), none, []⟩])
      .skip))
    (.seq (.seq (.region [⟨(some 114), .fieldAddr 6 (.tmp 1), none, []⟩,
      ⟨(some 115), .load none (.tmp 114), none, []⟩])
    (.cond (.tmp 115)
      (.region [⟨(some 116), .mv (.tmp 3), none, []⟩,
        ⟨(some 117), .bin .or (.tmp 116) (.val (.sc (.int .u32 (33554432)))), none, []⟩,
        ⟨(some 3), .mv (.tmp 117), none, []⟩])
      .skip))
    (.seq (.region [⟨(some 118), .mv (.tmp 3), none, []⟩,
      ⟨(some 2), .mv (.tmp 118), none, []⟩])
    .ret)))))) }

def f_window_Fetch : AFunc :=
  { nparams := 3, ntmps := 88, pure := true, results := [.cell 6 (some 18)],
    body := (.seq (.region [⟨(some 3), .box 25 (.tmp 0), none, []⟩,
      ⟨(some 6), .alloc 36 [(.sc (.int .i64 (0))), (.sc (.int .i64 (0))), (.sc (.int .i64 (0))), (.sc (.int .i64 (0))), (.sc (.int .i64 (0))), (.sc (.int .i64 (0))), (.sc (.bool false)), (.sc (.bool false)), (.sc (.int .i64 (0))), (.sc (.int .i64 (0))), (.sc (.bool false)), (.sc (.int .i64 (0))), (.sc (.int .i64 (0))), (.sc (.bool false)), (.sc (.bool false)), (.sc (.bool false)), (.sc (.int .i64 (0))), (.sc (.int .i64 (0)))], none, []⟩])
    (.seq (.region [⟨(some 11), .load (some 3) (.tmp 3), none, []⟩,
      ⟨(some 12), .mv (.tmp 1), none, []⟩,
      ⟨(some 13), .call (.val (.fn (.func 28) [] [])) [(.tmp 11), (.tmp 12)], none, []⟩,
      ⟨(some 10), .mv (.tmp 13), none, []⟩,
      ⟨(some 14), .extract (.tmp 10) 0, none, []⟩,
      ⟨(some 15), .extract (.tmp 10) 1, none, []⟩,
      ⟨(some 7), .alloc 32 [(.sc (.int .i64 (0))), (.sc (.int .i64 (0))), (.sc (.int .i64 (0))), (.sc (.int .i64 (0))), (.sc (.int .i64 (0))), (.sc (.bool false)), (.sc (.bool false))], none, []⟩,
      ⟨none, .store 7 (.tmp 7) (.tmp 14), none, []⟩,
      ⟨(some 8), .mv (.tmp 15), none, []⟩])
    (.seq (.region [⟨(some 16), .mv (.tmp 1), none, []⟩,
      ⟨(some 17), .load (some 7) (.tmp 7), none, []⟩,
      ⟨(some 18), .mv (.tmp 1), none, []⟩,
      ⟨(some 19), .bin .add (.tmp 18) (.val (.sc (.int .i64 (4)))), none, []⟩,
      ⟨(some 20), .load (some 7) (.tmp 7), none, []⟩,
      ⟨(some 21), .mv (.tmp 8), none, []⟩,
      ⟨(some 22), .call (.val (.fn (.func 29) [] [])) [(.tmp 20), (.tmp 21)], none, []⟩,
      ⟨(some 23), .build [(.sc (.int .i64 (0))), (.sc (.int .i64 (0)))] [(0, 1, (.val (.sc (.int .i64 (-1)))))], none, []⟩,
      ⟨(some 24), .build [(.sc (.int .i64 (0))), (.sc (.int .i64 (0))), (.sc (.int .i64 (0))), (.sc (.int .i64 (0))), (.sc (.int .i64 (0))), (.sc (.int .i64 (0))), (.sc (.bool false)), (.sc (.bool false)), (.sc (.int .i64 (0))), (.sc (.int .i64 (0))), (.sc (.bool false)), (.sc (.int .i64 (0))), (.sc (.int .i64 (0))), (.sc (.bool false)), (.sc (.bool false)), (.sc (.bool false)), (.sc (.int .i64 (0))), (.sc (.int .i64 (0)))] [(0, 1, (.tmp 16)), (1, 7, (.tmp 17)), (8, 1, (.tmp 19)), (11, 1, (.tmp 22)), (16, 2, (.tmp 23))], none, []⟩,
      ⟨(some 9), .alloc 36 [(.sc (.int .i64 (0))), (.sc (.int .i64 (0))), (.sc (.int .i64 (0))), (.sc (.int .i64 (0))), (.sc (.int .i64 (0))), (.sc (.int .i64 (0))), (.sc (.bool false)), (.sc (.bool false)), (.sc (.int .i64 (0))), (.sc (.int .i64 (0))), (.sc (.bool false)), (.sc (.int .i64 (0))), (.sc (.int .i64 (0))), (.sc (.bool false)), (.sc (.bool false)), (.sc (.bool false)), (.sc (.int .i64 (0))), (.sc (.int .i64 (0)))], none, []⟩,
      ⟨none, .store 18 (.tmp 9) (.tmp 24), none, []⟩])
    (.seq (.block 0 (.seq (.region [⟨(some 26), .fieldAddr 11 (.tmp 9), none, []⟩,
        ⟨(some 27), .load none (.tmp 26), none, []⟩,
        ⟨(some 28), .bin .neq (.tmp 27) (.val (.sc (.int .i64 (0)))), none, []⟩,
        ⟨(some 25), .mv (.tmp 28), none, []⟩])
      (.cond (.tmp 25)
        .skip
        (.seq (.region [⟨(some 30), .fieldAddr 0 (.tmp 7), none, []⟩,
          ⟨(some 31), .load none (.tmp 30), none, []⟩,
          ⟨(some 32), .bin .eql (.tmp 31) (.val (.sc (.int .i64 (63)))), none, []⟩,
          ⟨(some 29), .mv (.tmp 32), none, []⟩])
        (.cond (.tmp 29)
          (.region [⟨(some 33), .fieldAddr 14 (.tmp 9), none, []⟩,
            ⟨none, .store 1 (.tmp 33) (.val (.sc (.bool true))), none, []⟩])
          (.seq (.region [⟨(some 35), .fieldAddr 0 (.tmp 7), none, []⟩,
            ⟨(some 36), .load none (.tmp 35), none, []⟩,
            ⟨(some 37), .bin .eql (.tmp 36) (.val (.sc (.int .i64 (1)))), none, []⟩,
            ⟨(some 34), .mv (.tmp 37), none, []⟩])
          (.cond (.tmp 34)
            (.region [⟨(some 38), .fieldAddr 4 (.tmp 7), none, []⟩,
              ⟨(some 39), .load none (.tmp 38), none, []⟩,
              ⟨(some 40), .call (.val (.fn (.func 30) [] [])) [(.tmp 39)], none, []⟩,
              ⟨(some 41), .call (.val (.fn (.func 22) [] [])) [(.tmp 9), (.tmp 40)], none, []⟩])
            (.seq (.region [⟨(some 43), .fieldAddr 0 (.tmp 7), none, []⟩,
              ⟨(some 44), .load none (.tmp 43), none, []⟩,
              ⟨(some 45), .bin .eql (.tmp 44) (.val (.sc (.int .i64 (2)))), none, []⟩,
              ⟨(some 42), .mv (.tmp 45), none, []⟩])
            (.cond (.tmp 42)
              (.region [⟨(some 46), .mv (.tmp 1), none, []⟩,
                ⟨(some 47), .fieldAddr 4 (.tmp 7), none, []⟩,
                ⟨(some 48), .load none (.tmp 47), none, []⟩,
                ⟨(some 49), .call (.val (.fn (.func 30) [] [])) [(.tmp 48)], none, []⟩,
                ⟨(some 50), .bin .add (.tmp 46) (.tmp 49), none, []⟩,
                ⟨(some 51), .call (.val (.fn (.func 22) [] [])) [(.tmp 9), (.tmp 50)], none, []⟩])
              (.seq (.region [⟨(some 53), .fieldAddr 0 (.tmp 7), none, []⟩,
                ⟨(some 54), .load none (.tmp 53), none, []⟩,
                ⟨(some 55), .bin .eql (.tmp 54) (.val (.sc (.int .i64 (3)))), none, []⟩,
                ⟨(some 52), .mv (.tmp 55), none, []⟩])
              (.cond (.tmp 52)
                (.seq (.region [⟨(some 56), .mv (.tmp 1), none, []⟩,
                  ⟨(some 57), .bin .add (.tmp 56) (.val (.sc (.int .i64 (4)))), none, []⟩,
                  ⟨(some 58), .call (.val (.fn (.func 22) [] [])) [(.tmp 9), (.tmp 57)], none, []⟩])
                (.region [⟨(some 59), .mv (.tmp 1), none, []⟩,
                  ⟨(some 60), .fieldAddr 4 (.tmp 7), none, []⟩,
                  ⟨(some 61), .load none (.tmp 60), none, []⟩,
                  ⟨(some 62), .bin .add (.tmp 59) (.tmp 61), none, []⟩,
                  ⟨(some 63), .fieldAddr 8 (.tmp 9), none, []⟩,
                  ⟨none, .store 1 (.tmp 63) (.tmp 62), none, []⟩]))
                (.seq (.region [⟨(some 65), .fieldAddr 0 (.tmp 7), none, []⟩,
                  ⟨(some 66), .load none (.tmp 65), none, []⟩,
                  ⟨(some 67), .bin .eql (.tmp 66) (.val (.sc (.int .i64 (4)))), none, []⟩,
                  ⟨(some 64), .mv (.tmp 67), none, []⟩])
                (.cond (.tmp 64)
                  (.region [⟨(some 68), .mv (.tmp 1), none, []⟩,
                    ⟨(some 69), .bin .add (.tmp 68) (.val (.sc (.int .i64 (4)))), none, []⟩,
                    ⟨(some 70), .mv (.tmp 2), none, []⟩,
                    ⟨(some 71), .fieldAddr 12 (.tmp 9), none, []⟩,
                    ⟨none, .store 1 (.tmp 71) (.tmp 69), none, []⟩,
                    ⟨(some 72), .fieldAddr 13 (.tmp 9), none, []⟩,
                    ⟨none, .store 1 (.tmp 72) (.val (.sc (.bool true))), none, []⟩,
                    ⟨(some 73), .fieldAddr 8 (.tmp 9), none, []⟩,
                    ⟨none, .store 1 (.tmp 73) (.tmp 70), none, []⟩])
                  (.seq (.region [⟨(some 75), .fieldAddr 0 (.tmp 7), none, []⟩,
                    ⟨(some 76), .load none (.tmp 75), none, []⟩,
                    ⟨(some 77), .call (.val (.fn (.func 18) [] [])) [(.tmp 76)], none, []⟩,
                    ⟨(some 78), .mv (.tmp 77), none, []⟩,
                    ⟨(some 79), .mv (.tmp 2), (some (78, true)), []⟩,
                    ⟨(some 80), .bin .neq (.tmp 79) (.val (.sc (.int .i64 (0)))), (some (78, true)), []⟩,
                    ⟨(some 81), .pick (.tmp 78) (.tmp 80) (.val (.sc (.bool false))), none, []⟩,
                    ⟨(some 74), .mv (.tmp 81), none, []⟩])
                  (.cond (.tmp 74)
                    (.region [⟨(some 82), .mv (.tmp 1), none, []⟩,
                      ⟨(some 83), .fieldAddr 4 (.tmp 7), none, []⟩,
                      ⟨(some 84), .load none (.tmp 83), none, []⟩,
                      ⟨(some 85), .bin .add (.tmp 82) (.tmp 84), none, []⟩,
                      ⟨(some 86), .fieldAddr 8 (.tmp 9), none, []⟩,
                      ⟨none, .store 1 (.tmp 86) (.tmp 85), none, []⟩])
                    .skip)))))))))))))))
    (.seq (.region [⟨(some 87), .load (some 18) (.tmp 9), none, []⟩,
      ⟨none, .store 18 (.tmp 6) (.tmp 87), none, []⟩])
    .ret))))) }

def f_isa_Writes : AFunc :=
  { nparams := 1, ntmps := 14, pure := false, frz := true, results := [.tmp 2, .tmp 3],
    body := (.seq (.region [⟨(some 1), .boxF 32 (.tmp 0), none, []⟩,
      ⟨(some 2), .mv (.val (.sc (.int .i64 (0)))), none, []⟩,
      ⟨(some 3), .mv (.val (.sc (.bool false))), none, []⟩])
    (.seq (.seq (.region [⟨(some 4), .loadF (some 7) (.tmp 1), none, []⟩,
      ⟨(some 5), .call (.val (.fn (.func 31) [] [])) [(.tmp 4)], none, []⟩,
      ⟨(some 6), .un .not (.tmp 5), none, []⟩,
      ⟨(some 7), .mv (.tmp 6), none, []⟩,
      ⟨(some 8), .fieldAddr 1 (.tmp 1), (some (7, false)), []⟩,
      ⟨(some 9), .loadF none (.tmp 8), (some (7, false)), []⟩,
      ⟨(some 10), .bin .eql (.tmp 9) (.val (.sc (.int .i64 (0)))), (some (7, false)), []⟩,
      ⟨(some 11), .pick (.tmp 7) (.val (.sc (.bool true))) (.tmp 10), none, []⟩])
    (.cond (.tmp 11)
      (.seq (.region [⟨(some 2), .mv (.val (.sc (.int .i64 (0)))), none, []⟩,
        ⟨(some 3), .mv (.val (.sc (.bool false))), none, []⟩])
      .ret)
      .skip))
    (.seq (.region [⟨(some 12), .fieldAddr 1 (.tmp 1), none, []⟩,
      ⟨(some 13), .loadF none (.tmp 12), none, []⟩,
      ⟨(some 2), .mv (.tmp 13), none, []⟩,
      ⟨(some 3), .mv (.val (.sc (.bool true))), none, []⟩])
    .ret))) }

def f_window_Window_at : AFunc :=
  { nparams := 2, ntmps := 26, pure := true, results := [.tmp 4],
    body := (.seq (.region [⟨(some 4), .mv (.val (.sc (.pointer none))), none, []⟩])
    (.seq (.seq (.region [⟨(some 5), .mv (.tmp 0), none, []⟩,
      ⟨(some 6), .isNil false .ptr (.tmp 5), none, []⟩,
      ⟨(some 7), .mv (.tmp 6), none, []⟩,
      ⟨(some 8), .mv (.tmp 1), (some (7, false)), []⟩,
      ⟨(some 9), .bin .lss (.tmp 8) (.val (.sc (.int .i64 (0)))), (some (7, false)), []⟩,
      ⟨(some 10), .pick (.tmp 7) (.val (.sc (.bool true))) (.tmp 9), none, []⟩,
      ⟨(some 11), .mv (.tmp 10), none, []⟩,
      ⟨(some 12), .mv (.tmp 1), (some (11, false)), []⟩,
      ⟨(some 13), .mv (.tmp 0), (some (11, false)), []⟩,
      ⟨(some 14), .nilCheck (.tmp 13), (some (11, false)), []⟩,
      ⟨(some 15), .fieldAddr 32 (.tmp 14), (some (11, false)), []⟩,
      ⟨(some 16), .load none (.tmp 15), (some (11, false)), []⟩,
      ⟨(some 17), .len (.tmp 16), (some (11, false)), []⟩,
      ⟨(some 18), .bin .geq (.tmp 12) (.tmp 17), (some (11, false)), []⟩,
      ⟨(some 19), .pick (.tmp 11) (.val (.sc (.bool true))) (.tmp 18), none, []⟩])
    (.cond (.tmp 19)
      (.seq (.region [⟨(some 4), .mv (.val (.sc (.pointer none))), none, []⟩])
      .ret)
      .skip))
    (.seq (.region [⟨(some 20), .mv (.tmp 0), none, []⟩,
      ⟨(some 21), .nilCheck (.tmp 20), none, []⟩,
      ⟨(some 22), .fieldAddr 32 (.tmp 21), none, []⟩,
      ⟨(some 23), .load none (.tmp 22), none, []⟩,
      ⟨(some 24), .mv (.tmp 1), none, []⟩,
      ⟨(some 25), .indexS 18 (.tmp 23) (.tmp 24), none, []⟩,
      ⟨(some 4), .mv (.tmp 25), none, []⟩])
    .ret))) }

def f_slices_Deletewindow_Entrywindow_Entry : AFunc :=
  { nparams := 3, ntmps := 33, pure := true, results := [.tmp 6],
    body := (.seq (.region [⟨(some 6), .mv (.val (.sc (.slice none 0 0))), none, []⟩])
    (.seq (.region [⟨(some 8), .mv (.tmp 0), none, []⟩,
      ⟨(some 9), .mv (.tmp 1), none, []⟩,
      ⟨(some 10), .mv (.tmp 2), none, []⟩,
      ⟨(some 11), .mv (.tmp 0), none, []⟩,
      ⟨(some 12), .len (.tmp 11), none, []⟩,
      ⟨(some 13), .slice 18 (.tmp 8) (some (.tmp 9)) (some (.tmp 10)) (some (.tmp 12)), none, []⟩])
    (.seq (.seq (.region [⟨(some 14), .mv (.tmp 1), none, []⟩,
      ⟨(some 15), .mv (.tmp 2), none, []⟩,
      ⟨(some 16), .bin .eql (.tmp 14) (.tmp 15), none, []⟩])
    (.cond (.tmp 16)
      (.seq (.region [⟨(some 17), .mv (.tmp 0), none, []⟩,
        ⟨(some 6), .mv (.tmp 17), none, []⟩])
      .ret)
      .skip))
    (.seq (.region [⟨(some 18), .mv (.tmp 0), none, []⟩,
      ⟨(some 19), .len (.tmp 18), none, []⟩,
      ⟨(some 7), .mv (.tmp 19), none, []⟩])
    (.seq (.region [⟨(some 20), .mv (.tmp 0), none, []⟩,
      ⟨(some 21), .mv (.tmp 1), none, []⟩,
      ⟨(some 22), .slice 18 (.tmp 20) none (some (.tmp 21)) none, none, []⟩,
      ⟨(some 23), .mv (.tmp 0), none, []⟩,
      ⟨(some 24), .mv (.tmp 2), none, []⟩,
      ⟨(some 25), .slice 18 (.tmp 23) (some (.tmp 24)) none none, none, []⟩,
      ⟨(some 26), .append 36 18 (.tmp 22) (.tmp 25), none, []⟩,
      ⟨(some 0), .mv (.tmp 26), none, []⟩])
    (.seq (.region [⟨(some 27), .mv (.tmp 0), none, []⟩,
      ⟨(some 28), .mv (.tmp 0), none, []⟩,
      ⟨(some 29), .len (.tmp 28), none, []⟩,
      ⟨(some 30), .mv (.tmp 7), none, []⟩,
      ⟨(some 31), .slice 18 (.tmp 27) (some (.tmp 29)) (some (.tmp 30)) none, none, []⟩,
      ⟨none, .fail, none, []⟩])
    (.seq (.region [⟨(some 32), .mv (.tmp 0), none, []⟩,
      ⟨(some 6), .mv (.tmp 32), none, []⟩])
    .ret))))))) }

def f_window_access : AFunc :=
  { nparams := 1, ntmps := 14, pure := false, frz := true, results := [.tmp 2],
    body := (.seq (.region [⟨(some 2), .mv (.val (.sc (.bool false))), none, []⟩])
    (.seq (.region [⟨(some 6), .mv (.tmp 0), none, []⟩,
      ⟨(some 7), .call (.val (.fn (.func 32) [] [])) [(.tmp 6)], none, []⟩,
      ⟨(some 5), .mv (.tmp 7), none, []⟩,
      ⟨(some 8), .extract (.tmp 5) 0, none, []⟩,
      ⟨(some 9), .extract (.tmp 5) 1, none, []⟩,
      ⟨(some 3), .mv (.tmp 8), none, []⟩,
      ⟨(some 4), .mv (.tmp 9), none, []⟩])
    (.seq (.region [⟨(some 10), .mv (.tmp 3), none, []⟩,
      ⟨(some 11), .mv (.tmp 10), none, []⟩,
      ⟨(some 12), .mv (.tmp 4), (some (11, false)), []⟩,
      ⟨(some 13), .pick (.tmp 11) (.val (.sc (.bool true))) (.tmp 12), none, []⟩,
      ⟨(some 2), .mv (.tmp 13), none, []⟩])
    .ret))) }

def f_window_reckons : AFunc :=
  { nparams := 1, ntmps := 9, pure := false, frz := true, results := [.tmp 2],
    body := (.seq (.region [⟨(some 2), .mv (.val (.sc (.bool false))), none, []⟩])
    (.seq (.region [⟨(some 3), .mv (.tmp 0), none, []⟩,
      ⟨(some 4), .bin .geq (.tmp 3) (.val (.sc (.int .i64 (22)))), none, []⟩,
      ⟨(some 5), .mv (.tmp 4), none, []⟩,
      ⟨(some 6), .mv (.tmp 0), (some (5, true)), []⟩,
      ⟨(some 7), .bin .leq (.tmp 6) (.val (.sc (.int .i64 (62)))), (some (5, true)), []⟩,
      ⟨(some 8), .pick (.tmp 5) (.tmp 7) (.val (.sc (.bool false))), none, []⟩,
      ⟨(some 2), .mv (.tmp 8), none, []⟩])
    .ret)) }

def f_isa_Branch : AFunc :=
  { nparams := 1, ntmps := 5, pure := false, frz := true, results := [.tmp 2],
    body := (.seq (.region [⟨(some 2), .mv (.val (.sc (.bool false))), none, []⟩])
    (.seq (.region [⟨(some 3), .mv (.tmp 0), none, []⟩,
      ⟨(some 4), .call (.val (.fn (.func 33) [] [])) [(.tmp 3), (.val (.sc (.int .i64 (5)))), (.val (.sc (.int .i64 (10))))], none, []⟩,
      ⟨(some 2), .mv (.tmp 4), none, []⟩])
    .ret)) }

def f_window_Window_operands : AFunc :=
  { nparams := 2, ntmps := 57, pure := true, results := [.tmp 4, .tmp 5, .tmp 6],
    body := (.seq (.region [⟨(some 4), .mv (.val (.sc (.int .i64 (0)))), none, []⟩,
      ⟨(some 5), .mv (.val (.sc (.int .i64 (0)))), none, []⟩,
      ⟨(some 6), .mv (.val (.sc (.bool false))), none, []⟩])
    (.seq (.region [⟨(some 14), .mv (.tmp 0), none, []⟩,
      ⟨(some 15), .nilCheck (.tmp 14), none, []⟩,
      ⟨(some 16), .fieldAddr 32 (.tmp 15), none, []⟩,
      ⟨(some 17), .load none (.tmp 16), none, []⟩,
      ⟨(some 18), .mv (.tmp 1), none, []⟩,
      ⟨(some 19), .indexS 18 (.tmp 17) (.tmp 18), none, []⟩,
      ⟨(some 20), .fieldAddr 1 (.tmp 19), none, []⟩,
      ⟨(some 21), .load (some 7) (.tmp 20), none, []⟩,
      ⟨(some 7), .alloc 32 [(.sc (.int .i64 (0))), (.sc (.int .i64 (0))), (.sc (.int .i64 (0))), (.sc (.int .i64 (0))), (.sc (.int .i64 (0))), (.sc (.bool false)), (.sc (.bool false))], none, []⟩,
      ⟨none, .store 7 (.tmp 7) (.tmp 21), none, []⟩])
    (.seq (.region [⟨(some 23), .mv (.tmp 0), none, []⟩,
      ⟨(some 24), .mv (.tmp 1), none, []⟩,
      ⟨(some 25), .fieldAddr 2 (.tmp 7), none, []⟩,
      ⟨(some 26), .load none (.tmp 25), none, []⟩,
      ⟨(some 27), .call (.val (.fn (.func 6) [] [])) [(.tmp 23), (.tmp 24), (.tmp 26)], none, []⟩,
      ⟨(some 22), .mv (.tmp 27), none, []⟩,
      ⟨(some 28), .extract (.tmp 22) 0, none, []⟩,
      ⟨(some 29), .extract (.tmp 22) 1, none, []⟩,
      ⟨(some 8), .mv (.tmp 28), none, []⟩,
      ⟨(some 9), .mv (.tmp 29), none, []⟩])
    (.seq (.region [⟨(some 31), .mv (.tmp 0), none, []⟩,
      ⟨(some 32), .mv (.tmp 1), none, []⟩,
      ⟨(some 33), .fieldAddr 3 (.tmp 7), none, []⟩,
      ⟨(some 34), .load none (.tmp 33), none, []⟩,
      ⟨(some 35), .call (.val (.fn (.func 6) [] [])) [(.tmp 31), (.tmp 32), (.tmp 34)], none, []⟩,
      ⟨(some 30), .mv (.tmp 35), none, []⟩,
      ⟨(some 36), .extract (.tmp 30) 0, none, []⟩,
      ⟨(some 37), .extract (.tmp 30) 1, none, []⟩,
      ⟨(some 10), .mv (.tmp 36), none, []⟩,
      ⟨(some 11), .mv (.tmp 37), none, []⟩])
    (.seq (.region [⟨(some 39), .load (some 7) (.tmp 7), none, []⟩,
      ⟨(some 40), .call (.val (.fn (.func 34) [] [])) [(.tmp 39)], none, []⟩,
      ⟨(some 38), .mv (.tmp 40), none, []⟩,
      ⟨(some 41), .extract (.tmp 38) 0, none, []⟩,
      ⟨(some 42), .extract (.tmp 38) 1, none, []⟩,
      ⟨(some 12), .mv (.tmp 41), none, []⟩,
      ⟨(some 13), .mv (.tmp 42), none, []⟩])
    (.seq (.region [⟨(some 43), .mv (.tmp 8), none, []⟩,
      ⟨(some 44), .mv (.tmp 10), none, []⟩,
      ⟨(some 45), .mv (.tmp 9), none, []⟩,
      ⟨(some 46), .mv (.tmp 45), none, []⟩,
      ⟨(some 47), .mv (.tmp 12), (some (46, false)), []⟩,
      ⟨(some 48), .un .not (.tmp 47), (some (46, false)), []⟩,
      ⟨(some 49), .pick (.tmp 46) (.val (.sc (.bool true))) (.tmp 48), none, []⟩,
      ⟨(some 50), .mv (.tmp 49), none, []⟩,
      ⟨(some 51), .mv (.tmp 11), (some (50, true)), []⟩,
      ⟨(some 52), .mv (.tmp 51), (some (50, true)), []⟩,
      ⟨(some 53), .mv (.tmp 13), (some (52, false)), []⟩,
      ⟨(some 54), .un .not (.tmp 53), (some (52, false)), []⟩,
      ⟨(some 55), .pick (.tmp 52) (.val (.sc (.bool true))) (.tmp 54), (some (50, true)), []⟩,
      ⟨(some 56), .pick (.tmp 50) (.tmp 55) (.val (.sc (.bool false))), none, []⟩,
      ⟨(some 4), .mv (.tmp 43), none, []⟩,
      ⟨(some 5), .mv (.tmp 44), none, []⟩,
      ⟨(some 6), .mv (.tmp 56), none, []⟩])
    .ret)))))) }

def f_window_Window_steer : AFunc :=
  { nparams := 3, ntmps := 38, pure := true, results := [],
    body := (.seq (.region [⟨(some 7), .mv (.tmp 0), none, []⟩,
      ⟨(some 8), .nilCheck (.tmp 7), none, []⟩,
      ⟨(some 9), .fieldAddr 32 (.tmp 8), none, []⟩,
      ⟨(some 10), .load none (.tmp 9), none, []⟩,
      ⟨(some 11), .mv (.tmp 1), none, []⟩,
      ⟨(some 12), .indexS 18 (.tmp 10) (.tmp 11), none, []⟩,
      ⟨(some 6), .mv (.tmp 12), none, []⟩])
    (.seq (.region [⟨(some 13), .mv (.tmp 6), none, []⟩,
      ⟨(some 14), .nilCheck (.tmp 13), none, []⟩,
      ⟨(some 15), .fieldAddr 14 (.tmp 14), none, []⟩,
      ⟨none, .store 1 (.tmp 15) (.val (.sc (.bool true))), none, []⟩])
    (.seq (.seq (.region [⟨(some 16), .mv (.tmp 2), none, []⟩,
      ⟨(some 17), .mv (.tmp 6), none, []⟩,
      ⟨(some 18), .nilCheck (.tmp 17), none, []⟩,
      ⟨(some 19), .fieldAddr 8 (.tmp 18), none, []⟩,
      ⟨(some 20), .load none (.tmp 19), none, []⟩,
      ⟨(some 21), .bin .eql (.tmp 16) (.tmp 20), none, []⟩])
    (.cond (.tmp 21)
      .ret
      .skip))
    (.seq (.region [⟨(some 22), .mv (.tmp 6), none, []⟩,
      ⟨(some 23), .mv (.tmp 2), none, []⟩,
      ⟨(some 24), .nilCheck (.tmp 22), none, []⟩,
      ⟨(some 25), .fieldAddr 8 (.tmp 24), none, []⟩,
      ⟨none, .store 1 (.tmp 25) (.tmp 23), none, []⟩])
    (.region [⟨(some 26), .mv (.tmp 0), none, []⟩,
      ⟨(some 27), .mv (.tmp 0), none, []⟩,
      ⟨(some 28), .nilCheck (.tmp 27), none, []⟩,
      ⟨(some 29), .fieldAddr 32 (.tmp 28), none, []⟩,
      ⟨(some 30), .load none (.tmp 29), none, []⟩,
      ⟨(some 31), .mv (.tmp 1), none, []⟩,
      ⟨(some 32), .bin .add (.tmp 31) (.val (.sc (.int .i64 (1)))), none, []⟩,
      ⟨(some 33), .mv (.tmp 1), none, []⟩,
      ⟨(some 34), .bin .add (.tmp 33) (.val (.sc (.int .i64 (1)))), none, []⟩,
      ⟨(some 35), .slice 18 (.tmp 30) none (some (.tmp 32)) (some (.tmp 34)), none, []⟩,
      ⟨(some 36), .nilCheck (.tmp 26), none, []⟩,
      ⟨(some 37), .fieldAddr 32 (.tmp 36), none, []⟩,
      ⟨none, .store 1 (.tmp 37) (.tmp 35), none, []⟩]))))) }

def f_alu_Taken : AFunc :=
  { nparams := 3, ntmps := 41, pure := true, results := [.tmp 6, .tmp 7],
    body := (.seq (.region [⟨(some 4), .box 3 (.tmp 1), none, []⟩,
      ⟨(some 5), .box 3 (.tmp 2), none, []⟩,
      ⟨(some 6), .mv (.val (.sc (.bool false))), none, []⟩,
      ⟨(some 7), .mv (.val (.sc (.bool false))), none, []⟩])
    (.seq (.region [⟨(some 10), .makeFunc (.func 35) [] [(.tmp 4), (.tmp 5)], none, []⟩,
      ⟨(some 8), .mv (.tmp 10), none, []⟩])
    (.seq (.region [⟨(some 11), .makeFunc (.func 36) [] [(.tmp 4), (.tmp 5)], none, []⟩,
      ⟨(some 9), .mv (.tmp 11), none, []⟩])
    (.seq (.seq (.region [⟨(some 12), .mv (.tmp 0), none, []⟩])
    (.block 0 (.seq (.region [⟨(some 14), .bin .eql (.tmp 12) (.val (.sc (.int .i64 (5)))), none, []⟩,
        ⟨(some 13), .mv (.tmp 14), none, []⟩])
      (.cond (.tmp 13)
        (.seq (.region [⟨(some 15), .load none (.tmp 4), none, []⟩,
          ⟨(some 16), .load none (.tmp 5), none, []⟩,
          ⟨(some 17), .bin .eql (.tmp 15) (.tmp 16), none, []⟩,
          ⟨(some 6), .mv (.tmp 17), none, []⟩,
          ⟨(some 7), .mv (.val (.sc (.bool true))), none, []⟩])
        .ret)
        (.seq (.region [⟨(some 19), .bin .eql (.tmp 12) (.val (.sc (.int .i64 (6)))), none, []⟩,
          ⟨(some 18), .mv (.tmp 19), none, []⟩])
        (.cond (.tmp 18)
          (.seq (.region [⟨(some 20), .load none (.tmp 4), none, []⟩,
            ⟨(some 21), .load none (.tmp 5), none, []⟩,
            ⟨(some 22), .bin .neq (.tmp 20) (.tmp 21), none, []⟩,
            ⟨(some 6), .mv (.tmp 22), none, []⟩,
            ⟨(some 7), .mv (.val (.sc (.bool true))), none, []⟩])
          .ret)
          (.seq (.region [⟨(some 24), .bin .eql (.tmp 12) (.val (.sc (.int .i64 (7)))), none, []⟩,
            ⟨(some 23), .mv (.tmp 24), none, []⟩])
          (.cond (.tmp 23)
            (.seq (.region [⟨(some 25), .mv (.tmp 8), none, []⟩,
              ⟨(some 26), .call (.tmp 25) [], none, []⟩,
              ⟨(some 6), .mv (.tmp 26), none, []⟩,
              ⟨(some 7), .mv (.val (.sc (.bool true))), none, []⟩])
            .ret)
            (.seq (.region [⟨(some 28), .bin .eql (.tmp 12) (.val (.sc (.int .i64 (8)))), none, []⟩,
              ⟨(some 27), .mv (.tmp 28), none, []⟩])
            (.cond (.tmp 27)
              (.seq (.region [⟨(some 29), .mv (.tmp 8), none, []⟩,
                ⟨(some 30), .call (.tmp 29) [], none, []⟩,
                ⟨(some 31), .un .not (.tmp 30), none, []⟩,
                ⟨(some 6), .mv (.tmp 31), none, []⟩,
                ⟨(some 7), .mv (.val (.sc (.bool true))), none, []⟩])
              .ret)
              (.seq (.region [⟨(some 33), .bin .eql (.tmp 12) (.val (.sc (.int .i64 (9)))), none, []⟩,
                ⟨(some 32), .mv (.tmp 33), none, []⟩])
              (.cond (.tmp 32)
                (.seq (.region [⟨(some 34), .mv (.tmp 9), none, []⟩,
                  ⟨(some 35), .call (.tmp 34) [], none, []⟩,
                  ⟨(some 6), .mv (.tmp 35), none, []⟩,
                  ⟨(some 7), .mv (.val (.sc (.bool true))), none, []⟩])
                .ret)
                (.seq (.region [⟨(some 37), .bin .eql (.tmp 12) (.val (.sc (.int .i64 (10)))), none, []⟩,
                  ⟨(some 36), .mv (.tmp 37), none, []⟩])
                (.cond (.tmp 36)
                  (.seq (.region [⟨(some 38), .mv (.tmp 9), none, []⟩,
                    ⟨(some 39), .call (.tmp 38) [], none, []⟩,
                    ⟨(some 40), .un .not (.tmp 39), none, []⟩,
                    ⟨(some 6), .mv (.tmp 40), none, []⟩,
                    ⟨(some 7), .mv (.val (.sc (.bool true))), none, []⟩])
                  .ret)
                  .skip))))))))))))))
    (.seq (.region [⟨(some 6), .mv (.val (.sc (.bool false))), none, []⟩,
      ⟨(some 7), .mv (.val (.sc (.bool false))), none, []⟩])
    .ret))))) }

def f_window_Entry_value : AFunc :=
  { nparams := 2, ntmps := 14, pure := true, results := [],
    body := (.region [⟨(some 4), .mv (.tmp 0), none, []⟩,
      ⟨(some 5), .mv (.tmp 0), none, []⟩,
      ⟨(some 6), .mv (.tmp 0), none, []⟩,
      ⟨(some 7), .mv (.tmp 1), none, []⟩,
      ⟨(some 8), .nilCheck (.tmp 4), none, []⟩,
      ⟨(some 9), .fieldAddr 12 (.tmp 8), none, []⟩,
      ⟨none, .store 1 (.tmp 9) (.tmp 7), none, []⟩,
      ⟨(some 10), .nilCheck (.tmp 5), none, []⟩,
      ⟨(some 11), .fieldAddr 13 (.tmp 10), none, []⟩,
      ⟨none, .store 1 (.tmp 11) (.val (.sc (.bool true))), none, []⟩,
      ⟨(some 12), .nilCheck (.tmp 6), none, []⟩,
      ⟨(some 13), .fieldAddr 14 (.tmp 12), none, []⟩,
      ⟨none, .store 1 (.tmp 13) (.val (.sc (.bool true))), none, []⟩]) }

def f_window_reckon : AFunc :=
  { nparams := 3, ntmps := 24, pure := false, frz := true, results := [.tmp 6],
    body := (.seq (.region [⟨(some 3), .boxF 32 (.tmp 0), none, []⟩,
      ⟨(some 6), .mv (.val (.sc (.int .i64 (0)))), none, []⟩])
    (.seq (.seq (.region [⟨(some 9), .fieldAddr 0 (.tmp 3), none, []⟩,
      ⟨(some 10), .loadF none (.tmp 9), none, []⟩,
      ⟨(some 11), .call (.val (.fn (.func 37) [] [])) [(.tmp 10)], none, []⟩,
      ⟨(some 12), .bin .neq (.tmp 11) (.val (.sc (.int .i64 (6)))), none, []⟩])
    (.cond (.tmp 12)
      (.region [⟨(some 13), .fieldAddr 4 (.tmp 3), none, []⟩,
        ⟨(some 14), .loadF none (.tmp 13), none, []⟩,
        ⟨(some 2), .mv (.tmp 14), none, []⟩])
      .skip))
    (.seq (.region [⟨(some 16), .fieldAddr 0 (.tmp 3), none, []⟩,
      ⟨(some 17), .loadF none (.tmp 16), none, []⟩,
      ⟨(some 18), .mv (.tmp 1), none, []⟩,
      ⟨(some 19), .mv (.tmp 2), none, []⟩,
      ⟨(some 20), .call (.val (.fn (.func 38) [] [])) [(.tmp 17), (.tmp 18), (.tmp 19)], none, []⟩,
      ⟨(some 15), .mv (.tmp 20), none, []⟩,
      ⟨(some 21), .extract (.tmp 15) 0, none, []⟩,
      ⟨(some 22), .extract (.tmp 15) 1, none, []⟩,
      ⟨(some 7), .mv (.tmp 21), none, []⟩,
      ⟨(some 8), .mv (.tmp 22), none, []⟩])
    (.seq (.region [⟨(some 23), .mv (.tmp 7), none, []⟩,
      ⟨(some 6), .mv (.tmp 23), none, []⟩])
    .ret)))) }

def f_image_Place : AFunc :=
  { nparams := 2, ntmps := 13, pure := true, results := [.tmp 4, .tmp 5],
    body := (.seq (.region [⟨(some 2), .box 25 (.tmp 0), none, []⟩,
      ⟨(some 4), .mv (.val (.sc (.int .i64 (0)))), none, []⟩,
      ⟨(some 5), .mv (.val (.sc (.bool false))), none, []⟩])
    (.seq (.region [⟨(some 6), .mv (.tmp 1), none, []⟩,
      ⟨(some 7), .fieldAddr 1 (.tmp 2), none, []⟩,
      ⟨(some 8), .load none (.tmp 7), none, []⟩,
      ⟨(some 9), .len (.tmp 8), none, []⟩,
      ⟨(some 10), .call (.val (.fn (.func 39) [] [])) [(.tmp 6), (.val (.sc (.int .i64 (16777216)))), (.val (.sc (.int .i64 (8)))), (.tmp 9)], none, []⟩,
      ⟨(some 11), .extract (.tmp 10) 0, none, []⟩,
      ⟨(some 12), .extract (.tmp 10) 1, none, []⟩,
      ⟨(some 4), .mv (.tmp 11), none, []⟩,
      ⟨(some 5), .mv (.tmp 12), none, []⟩])
    .ret)) }

def f_spinnakerref04_Word : AFunc :=
  { nparams := 1, ntmps := 16, pure := true, results := [.tmp 2],
    body := (.seq (.region [⟨(some 2), .mv (.val (.sc (.int .u32 (0)))), none, []⟩])
    (.seq (.region [⟨(some 4), .call (.val (.fn (.func 40) [] [])) [], none, []⟩,
      ⟨(some 3), .allocA 76 1 [(.sc (.int .u32 (0))), (.sc (.int .u32 (0))), (.sc (.int .u32 (0))), (.sc (.int .u32 (0))), (.sc (.int .u32 (0))), (.sc (.int .u32 (0))), (.sc (.int .u32 (0))), (.sc (.int .u32 (0))), (.sc (.int .u32 (0))), (.sc (.int .u32 (0))), (.sc (.int .u32 (0))), (.sc (.int .u32 (0))), (.sc (.int .u32 (0))), (.sc (.int .u32 (0))), (.sc (.int .u32 (0))), (.sc (.int .u32 (0))), (.sc (.int .u32 (0))), (.sc (.int .u32 (0))), (.sc (.int .u32 (0))), (.sc (.int .u32 (0))), (.sc (.int .u32 (0))), (.sc (.int .u32 (0))), (.sc (.int .u32 (0))), (.sc (.int .u32 (0))), (.sc (.int .u32 (0))), (.sc (.int .u32 (0))), (.sc (.int .u32 (0))), (.sc (.int .u32 (0))), (.sc (.int .u32 (0))), (.sc (.int .u32 (0))), (.sc (.int .u32 (0))), (.sc (.int .u32 (0))), (.sc (.int .u32 (0))), (.sc (.int .u32 (0))), (.sc (.int .u32 (0))), (.sc (.int .u32 (0))), (.sc (.int .u32 (0))), (.sc (.int .u32 (0))), (.sc (.int .u32 (0))), (.sc (.int .u32 (0))), (.sc (.int .u32 (0))), (.sc (.int .u32 (0))), (.sc (.int .u32 (0))), (.sc (.int .u32 (0))), (.sc (.int .u32 (0))), (.sc (.int .u32 (0))), (.sc (.int .u32 (0))), (.sc (.int .u32 (0))), (.sc (.int .u32 (0))), (.sc (.int .u32 (0))), (.sc (.int .u32 (0))), (.sc (.int .u32 (0))), (.sc (.int .u32 (0))), (.sc (.int .u32 (0))), (.sc (.int .u32 (0))), (.sc (.int .u32 (0))), (.sc (.int .u32 (0))), (.sc (.int .u32 (0))), (.sc (.int .u32 (0))), (.sc (.int .u32 (0))), (.sc (.int .u32 (0))), (.sc (.int .u32 (0))), (.sc (.int .u32 (0))), (.sc (.int .u32 (0))), (.sc (.int .u32 (0))), (.sc (.int .u32 (0))), (.sc (.int .u32 (0))), (.sc (.int .u32 (0))), (.sc (.int .u32 (0))), (.sc (.int .u32 (0))), (.sc (.int .u32 (0))), (.sc (.int .u32 (0))), (.sc (.int .u32 (0))), (.sc (.int .u32 (0))), (.sc (.int .u32 (0))), (.sc (.int .u32 (0)))], none, []⟩,
      ⟨none, .store 76 (.tmp 3) (.tmp 4), none, []⟩])
    (.seq (.seq (.region [⟨(some 5), .mv (.tmp 0), none, []⟩,
      ⟨(some 6), .bin .geq (.tmp 5) (.val (.sc (.int .i64 (77)))), none, []⟩])
    (.cond (.tmp 6)
      (.seq (.region [⟨(some 7), .mv (.tmp 0), none, []⟩,
        ⟨(some 8), .bin .sub (.tmp 7) (.val (.sc (.int .i64 (12)))), none, []⟩,
        ⟨(some 9), .indexA 76 1 (.tmp 3) (.tmp 8), none, []⟩,
        ⟨(some 10), .load none (.tmp 9), none, []⟩,
        ⟨(some 11), .bin .add (.tmp 10) (.val (.sc (.int .u32 (4096)))), none, []⟩,
        ⟨(some 2), .mv (.tmp 11), none, []⟩])
      .ret)
      .skip))
    (.seq (.region [⟨(some 12), .mv (.tmp 0), none, []⟩,
      ⟨(some 13), .bin .sub (.tmp 12) (.val (.sc (.int .i64 (1)))), none, []⟩,
      ⟨(some 14), .indexA 76 1 (.tmp 3) (.tmp 13), none, []⟩,
      ⟨(some 15), .load none (.tmp 14), none, []⟩,
      ⟨(some 2), .mv (.tmp 15), none, []⟩])
    .ret)))) }

def f_spinnakerref04_bits : AFunc :=
  { nparams := 4, ntmps := 31, pure := false, frz := true, results := [.tmp 8],
    body := (.seq (.region [⟨(some 8), .mv (.val (.sc (.int .u32 (0)))), none, []⟩])
    (.seq (.region [⟨(some 9), .mv (.val (.sc (.int .u64 (0)))), none, []⟩])
    (.seq (.seq (.region [⟨(some 10), .mv (.val (.sc (.int .i64 (0)))), none, []⟩])
    (.block 0 (.loop (.seq (.seq (.region [⟨(some 11), .mv (.tmp 10), none, []⟩,
          ⟨(some 12), .mv (.tmp 2), none, []⟩,
          ⟨(some 13), .bin .lss (.tmp 11) (.tmp 12), none, []⟩])
        (.cond (.tmp 13)
          .skip
          (.exit 0)))
        (.seq (.block 1 (.seq (.region [⟨(some 16), .mv (.tmp 0), none, []⟩,
            ⟨(some 17), .conv .u64 (.tmp 16), none, []⟩,
            ⟨(some 18), .mv (.tmp 1), none, []⟩,
            ⟨(some 19), .mv (.tmp 10), none, []⟩,
            ⟨(some 20), .bin .add (.tmp 18) (.tmp 19), none, []⟩,
            ⟨(some 21), .call (.val (.fn (.func 41) [] [])) [(.tmp 17), (.tmp 20)], none, []⟩,
            ⟨(some 22), .bin .eql (.tmp 21) (.val (.sc (.int .i64 (1)))), none, []⟩])
          (.cond (.tmp 22)
            (.region [⟨(some 23), .mv (.tmp 9), none, []⟩,
              ⟨(some 24), .mv (.tmp 3), none, []⟩,
              ⟨(some 25), .mv (.tmp 10), none, []⟩,
              ⟨(some 26), .bin .add (.tmp 24) (.tmp 25), none, []⟩,
              ⟨(some 27), .call (.val (.fn (.func 42) [] [])) [(.tmp 26)], none, []⟩,
              ⟨(some 28), .bin .add (.tmp 23) (.tmp 27), none, []⟩,
              ⟨(some 9), .mv (.tmp 28), none, []⟩])
            .skip)))
        (.region [⟨(some 14), .mv (.tmp 10), none, []⟩,
          ⟨(some 15), .bin .add (.tmp 14) (.val (.sc (.int .i64 (1)))), none, []⟩,
          ⟨(some 10), .mv (.tmp 15), none, []⟩]))))))
    (.seq (.region [⟨(some 29), .mv (.tmp 9), none, []⟩,
      ⟨(some 30), .conv .u32 (.tmp 29), none, []⟩,
      ⟨(some 8), .mv (.tmp 30), none, []⟩])
    .ret)))) }

def f_spinnakerref03_Form : AFunc :=
  { nparams := 1, ntmps := 29, pure := false, frz := true, results := [.tmp 2],
    body := (.seq (.region [⟨(some 2), .mv (.val (.sc (.int .i64 (0)))), none, []⟩])
    (.seq (.seq (.region [⟨(some 3), .mv (.tmp 0), none, []⟩,
      ⟨(some 4), .call (.val (.fn (.func 43) [] [])) [(.tmp 3)], none, []⟩])
    (.block 0 (.seq (.region [⟨(some 6), .bin .eql (.tmp 4) (.val (.sc (.int .u8 (85)))), none, []⟩,
        ⟨(some 5), .mv (.tmp 6), none, []⟩])
      (.cond (.tmp 5)
        (.seq (.region [⟨(some 2), .mv (.val (.sc (.int .i64 (1)))), none, []⟩])
        .ret)
        (.seq (.region [⟨(some 8), .bin .eql (.tmp 4) (.val (.sc (.int .u8 (74)))), none, []⟩,
          ⟨(some 7), .mv (.tmp 8), none, []⟩])
        (.cond (.tmp 7)
          (.seq (.region [⟨(some 2), .mv (.val (.sc (.int .i64 (2)))), none, []⟩])
          .ret)
          (.seq (.region [⟨(some 10), .bin .eql (.tmp 4) (.val (.sc (.int .u8 (73)))), none, []⟩,
            ⟨(some 9), .mv (.tmp 10), none, []⟩])
          (.cond (.tmp 9)
            (.seq (.region [⟨(some 2), .mv (.val (.sc (.int .i64 (3)))), none, []⟩])
            .ret)
            (.seq (.region [⟨(some 12), .bin .eql (.tmp 4) (.val (.sc (.int .u8 (66)))), none, []⟩,
              ⟨(some 11), .mv (.tmp 12), none, []⟩])
            (.cond (.tmp 11)
              (.seq (.region [⟨(some 2), .mv (.val (.sc (.int .i64 (4)))), none, []⟩])
              .ret)
              (.seq (.region [⟨(some 14), .bin .eql (.tmp 4) (.val (.sc (.int .u8 (83)))), none, []⟩,
                ⟨(some 13), .mv (.tmp 14), none, []⟩])
              (.cond (.tmp 13)
                (.seq (.region [⟨(some 2), .mv (.val (.sc (.int .i64 (5)))), none, []⟩])
                .ret)
                (.seq (.region [⟨(some 16), .bin .eql (.tmp 4) (.val (.sc (.int .u8 (82)))), none, []⟩,
                  ⟨(some 15), .mv (.tmp 16), none, []⟩])
                (.cond (.tmp 15)
                  (.seq (.region [⟨(some 2), .mv (.val (.sc (.int .i64 (6)))), none, []⟩])
                  .ret)
                  (.seq (.region [⟨(some 18), .bin .eql (.tmp 4) (.val (.sc (.int .u8 (72)))), none, []⟩,
                    ⟨(some 17), .mv (.tmp 18), none, []⟩])
                  (.cond (.tmp 17)
                    (.seq (.region [⟨(some 2), .mv (.val (.sc (.int .i64 (7)))), none, []⟩])
                    .ret)
                    (.seq (.region [⟨(some 20), .bin .eql (.tmp 4) (.val (.sc (.int .u8 (87)))), none, []⟩,
                      ⟨(some 19), .mv (.tmp 20), none, []⟩])
                    (.cond (.tmp 19)
                      (.seq (.region [⟨(some 2), .mv (.val (.sc (.int .i64 (8)))), none, []⟩])
                      .ret)
                      (.seq (.region [⟨(some 22), .bin .eql (.tmp 4) (.val (.sc (.int .u8 (70)))), none, []⟩,
                        ⟨(some 21), .mv (.tmp 22), none, []⟩])
                      (.cond (.tmp 21)
                        (.seq (.region [⟨(some 2), .mv (.val (.sc (.int .i64 (9)))), none, []⟩])
                        .ret)
                        (.seq (.region [⟨(some 24), .bin .eql (.tmp 4) (.val (.sc (.int .u8 (78)))), none, []⟩,
                          ⟨(some 23), .mv (.tmp 24), none, []⟩])
                        (.cond (.tmp 23)
                          (.seq (.region [⟨(some 2), .mv (.val (.sc (.int .i64 (0)))), none, []⟩])
                          .ret)
                          (.seq (.region [⟨(some 26), .bin .eql (.tmp 4) (.val (.sc (.int .u8 (76)))), none, []⟩,
                            ⟨(some 25), .mv (.tmp 26), none, []⟩])
                          (.cond (.tmp 25)
                            (.seq (.region [⟨(some 2), .mv (.val (.sc (.int .i64 (10)))), none, []⟩])
                            .ret)
                            (.seq (.region [⟨(some 28), .bin .eql (.tmp 4) (.val (.sc (.int .u8 (65)))), none, []⟩,
                              ⟨(some 27), .mv (.tmp 28), none, []⟩])
                            (.cond (.tmp 27)
                              (.seq (.region [⟨(some 2), .mv (.val (.sc (.int .i64 (11)))), none, []⟩])
                              .ret)
                              .skip))))))))))))))))))))))))))
    (.seq (.region [⟨(some 2), .mv (.val (.sc (.int .i64 (-1)))), none, []⟩])
    .ret))) }

def f_image_Fetch : AFunc :=
  { nparams := 2, ntmps := 25, pure := true, results := [.cell 4 (some 7), .tmp 5],
    body := (.seq (.region [⟨(some 2), .box 25 (.tmp 0), none, []⟩,
      ⟨(some 4), .alloc 32 [(.sc (.int .i64 (0))), (.sc (.int .i64 (0))), (.sc (.int .i64 (0))), (.sc (.int .i64 (0))), (.sc (.int .i64 (0))), (.sc (.bool false)), (.sc (.bool false))], none, []⟩,
      ⟨(some 5), .mv (.val (.sc (.bool false))), none, []⟩])
    (.seq (.region [⟨(some 9), .mv (.tmp 1), none, []⟩,
      ⟨(some 10), .fieldAddr 0 (.tmp 2), none, []⟩,
      ⟨(some 11), .load none (.tmp 10), none, []⟩,
      ⟨(some 12), .len (.tmp 11), none, []⟩,
      ⟨(some 13), .call (.val (.fn (.func 39) [] [])) [(.tmp 9), (.val (.sc (.int .i64 (65536)))), (.val (.sc (.int .i64 (4)))), (.tmp 12)], none, []⟩,
      ⟨(some 8), .mv (.tmp 13), none, []⟩,
      ⟨(some 14), .extract (.tmp 8) 0, none, []⟩,
      ⟨(some 15), .extract (.tmp 8) 1, none, []⟩,
      ⟨(some 6), .mv (.tmp 14), none, []⟩,
      ⟨(some 7), .mv (.tmp 15), none, []⟩])
    (.seq (.seq (.region [⟨(some 16), .mv (.tmp 7), none, []⟩,
      ⟨(some 17), .un .not (.tmp 16), none, []⟩])
    (.cond (.tmp 17)
      (.seq (.region [⟨(some 18), .build [(.sc (.int .i64 (0))), (.sc (.int .i64 (0))), (.sc (.int .i64 (0))), (.sc (.int .i64 (0))), (.sc (.int .i64 (0))), (.sc (.bool false)), (.sc (.bool false))] [], none, []⟩,
        ⟨none, .store 7 (.tmp 4) (.tmp 18), none, []⟩,
        ⟨(some 5), .mv (.val (.sc (.bool false))), none, []⟩])
      .ret)
      .skip))
    (.seq (.region [⟨(some 19), .fieldAddr 0 (.tmp 2), none, []⟩,
      ⟨(some 20), .load none (.tmp 19), none, []⟩,
      ⟨(some 21), .mv (.tmp 6), none, []⟩,
      ⟨(some 22), .indexS 1 (.tmp 20) (.tmp 21), none, []⟩,
      ⟨(some 23), .load none (.tmp 22), none, []⟩,
      ⟨(some 24), .call (.val (.fn (.func 44) [] [])) [(.tmp 23)], none, []⟩,
      ⟨none, .store 7 (.tmp 4) (.tmp 24), none, []⟩,
      ⟨(some 5), .mv (.val (.sc (.bool true))), none, []⟩])
    .ret)))) }

def f_window_bad : AFunc :=
  { nparams := 2, ntmps := 26, pure := false, frz := true, results := [.tmp 4],
    body := (.seq (.region [⟨(some 2), .boxF 32 (.tmp 0), none, []⟩,
      ⟨(some 4), .mv (.val (.sc (.int .i64 (0)))), none, []⟩])
    (.seq (.block 0 (.seq (.region [⟨(some 6), .mv (.tmp 1), none, []⟩,
        ⟨(some 7), .un .not (.tmp 6), none, []⟩,
        ⟨(some 5), .mv (.tmp 7), none, []⟩])
      (.cond (.tmp 5)
        (.seq (.region [⟨(some 4), .mv (.val (.sc (.int .i64 (5)))), none, []⟩])
        .ret)
        (.seq (.region [⟨(some 9), .fieldAddr 0 (.tmp 2), none, []⟩,
          ⟨(some 10), .loadF none (.tmp 9), none, []⟩,
          ⟨(some 11), .bin .eql (.tmp 10) (.val (.sc (.int .i64 (0)))), none, []⟩,
          ⟨(some 8), .mv (.tmp 11), none, []⟩])
        (.cond (.tmp 8)
          (.seq (.region [⟨(some 4), .mv (.val (.sc (.int .i64 (4)))), none, []⟩])
          .ret)
          (.seq (.region [⟨(some 13), .fieldAddr 0 (.tmp 2), none, []⟩,
            ⟨(some 14), .loadF none (.tmp 13), none, []⟩,
            ⟨(some 15), .bin .eql (.tmp 14) (.val (.sc (.int .i64 (65)))), none, []⟩,
            ⟨(some 12), .mv (.tmp 15), none, []⟩])
          (.cond (.tmp 12)
            (.seq (.region [⟨(some 4), .mv (.val (.sc (.int .i64 (7)))), none, []⟩])
            .ret)
            (.seq (.region [⟨(some 17), .fieldAddr 0 (.tmp 2), none, []⟩,
              ⟨(some 18), .loadF none (.tmp 17), none, []⟩,
              ⟨(some 19), .call (.val (.fn (.func 16) [] [])) [(.tmp 18)], none, []⟩,
              ⟨(some 20), .mv (.tmp 19), none, []⟩,
              ⟨(some 21), .fieldAddr 0 (.tmp 2), (some (20, true)), []⟩,
              ⟨(some 22), .loadF none (.tmp 21), (some (20, true)), []⟩,
              ⟨(some 23), .call (.val (.fn (.func 45) [] [])) [(.tmp 22)], (some (20, true)), []⟩,
              ⟨(some 24), .un .not (.tmp 23), (some (20, true)), []⟩,
              ⟨(some 25), .pick (.tmp 20) (.tmp 24) (.val (.sc (.bool false))), none, []⟩,
              ⟨(some 16), .mv (.tmp 25), none, []⟩])
            (.cond (.tmp 16)
              (.seq (.region [⟨(some 4), .mv (.val (.sc (.int .i64 (6)))), none, []⟩])
              .ret)
              .skip)))))))))
    (.seq (.region [⟨(some 4), .mv (.val (.sc (.int .i64 (0)))), none, []⟩])
    .ret))) }

def f_alu_Upper : AFunc :=
  { nparams := 1, ntmps := 5, pure := false, frz := true, results := [.tmp 2],
    body := (.seq (.region [⟨(some 2), .mv (.val (.sc (.int .i64 (0)))), none, []⟩])
    (.seq (.region [⟨(some 3), .mv (.tmp 0), none, []⟩,
      ⟨(some 4), .bin .shl (.tmp 3) (.val (.sc (.int .u64 (12)))), none, []⟩,
      ⟨(some 2), .mv (.tmp 4), none, []⟩])
    .ret)) }

def f_isa_May : AFunc :=
  { nparams := 1, ntmps := 60, pure := false, frz := true, results := [.tmp 2],
    body := (.seq (.region [⟨(some 1), .boxF 32 (.tmp 0), none, []⟩,
      ⟨(some 2), .mv (.val (.sc (.bool false))), none, []⟩])
    (.seq (.region [⟨(some 8), .fieldAddr 0 (.tmp 1), none, []⟩,
      ⟨(some 9), .loadF none (.tmp 8), none, []⟩,
      ⟨(some 10), .call (.val (.fn (.func 37) [] [])) [(.tmp 9)], none, []⟩,
      ⟨(some 3), .mv (.tmp 10), none, []⟩])
    (.seq (.seq (.region [⟨(some 11), .mv (.tmp 3), none, []⟩,
      ⟨(some 12), .bin .lss (.tmp 11) (.val (.sc (.int .i64 (0)))), none, []⟩])
    (.cond (.tmp 12)
      (.seq (.region [⟨(some 2), .mv (.val (.sc (.bool false))), none, []⟩])
      .ret)
      .skip))
    (.seq (.region [⟨(some 14), .mv (.tmp 3), none, []⟩,
      ⟨(some 15), .call (.val (.fn (.func 46) [] [])) [(.tmp 14)], none, []⟩,
      ⟨(some 13), .mv (.tmp 15), none, []⟩,
      ⟨(some 16), .extract (.tmp 13) 0, none, []⟩,
      ⟨(some 17), .extract (.tmp 13) 1, none, []⟩,
      ⟨(some 18), .extract (.tmp 13) 2, none, []⟩,
      ⟨(some 4), .mv (.tmp 16), none, []⟩,
      ⟨(some 5), .mv (.tmp 17), none, []⟩,
      ⟨(some 6), .mv (.tmp 18), none, []⟩])
    (.seq (.region [⟨(some 19), .mv (.tmp 3), none, []⟩,
      ⟨(some 20), .bin .eql (.tmp 19) (.val (.sc (.int .i64 (10)))), none, []⟩,
      ⟨(some 21), .mv (.tmp 20), none, []⟩,
      ⟨(some 22), .mv (.tmp 3), (some (21, false)), []⟩,
      ⟨(some 23), .bin .eql (.tmp 22) (.val (.sc (.int .i64 (11)))), (some (21, false)), []⟩,
      ⟨(some 24), .pick (.tmp 21) (.val (.sc (.bool true))) (.tmp 23), none, []⟩,
      ⟨(some 7), .mv (.tmp 24), none, []⟩])
    (.seq (.region [⟨(some 25), .fieldAddr 1 (.tmp 1), none, []⟩,
      ⟨(some 26), .loadF none (.tmp 25), none, []⟩,
      ⟨(some 27), .mv (.tmp 4), none, []⟩,
      ⟨(some 28), .call (.val (.fn (.func 47) [] [])) [(.tmp 26), (.tmp 27)], none, []⟩,
      ⟨(some 29), .mv (.tmp 28), none, []⟩,
      ⟨(some 30), .fieldAddr 2 (.tmp 1), (some (29, true)), []⟩,
      ⟨(some 31), .loadF none (.tmp 30), (some (29, true)), []⟩,
      ⟨(some 32), .mv (.tmp 5), (some (29, true)), []⟩,
      ⟨(some 33), .call (.val (.fn (.func 47) [] [])) [(.tmp 31), (.tmp 32)], (some (29, true)), []⟩,
      ⟨(some 34), .pick (.tmp 29) (.tmp 33) (.val (.sc (.bool false))), none, []⟩,
      ⟨(some 35), .mv (.tmp 34), none, []⟩,
      ⟨(some 36), .fieldAddr 3 (.tmp 1), (some (35, true)), []⟩,
      ⟨(some 37), .loadF none (.tmp 36), (some (35, true)), []⟩,
      ⟨(some 38), .mv (.tmp 6), (some (35, true)), []⟩,
      ⟨(some 39), .call (.val (.fn (.func 47) [] [])) [(.tmp 37), (.tmp 38)], (some (35, true)), []⟩,
      ⟨(some 40), .pick (.tmp 35) (.tmp 39) (.val (.sc (.bool false))), none, []⟩,
      ⟨(some 41), .mv (.tmp 40), none, []⟩,
      ⟨(some 42), .mv (.tmp 3), (some (41, true)), []⟩,
      ⟨(some 43), .fieldAddr 4 (.tmp 1), (some (41, true)), []⟩,
      ⟨(some 44), .loadF none (.tmp 43), (some (41, true)), []⟩,
      ⟨(some 45), .call (.val (.fn (.func 48) [] [])) [(.tmp 42), (.tmp 44)], (some (41, true)), []⟩,
      ⟨(some 46), .pick (.tmp 41) (.tmp 45) (.val (.sc (.bool false))), none, []⟩,
      ⟨(some 47), .mv (.tmp 46), none, []⟩,
      ⟨(some 48), .mv (.tmp 7), (some (47, true)), []⟩,
      ⟨(some 49), .mv (.tmp 48), (some (47, true)), []⟩,
      ⟨(some 50), .fieldAddr 5 (.tmp 1), (some (49, false)), []⟩,
      ⟨(some 51), .loadF none (.tmp 50), (some (49, false)), []⟩,
      ⟨(some 52), .un .not (.tmp 51), (some (49, false)), []⟩,
      ⟨(some 53), .mv (.tmp 52), (some (49, false)), []⟩,
      ⟨(some 54), .fieldAddr 6 (.tmp 1), (some (53, true)), []⟩,
      ⟨(some 55), .loadF none (.tmp 54), (some (53, true)), []⟩,
      ⟨(some 56), .un .not (.tmp 55), (some (53, true)), []⟩,
      ⟨(some 57), .pick (.tmp 53) (.tmp 56) (.val (.sc (.bool false))), (some (49, false)), []⟩,
      ⟨(some 58), .pick (.tmp 49) (.val (.sc (.bool true))) (.tmp 57), (some (47, true)), []⟩,
      ⟨(some 59), .pick (.tmp 47) (.tmp 58) (.val (.sc (.bool false))), none, []⟩,
      ⟨(some 2), .mv (.tmp 59), none, []⟩])
    .ret)))))) }

def f_isa_Access : AFunc :=
  { nparams := 1, ntmps := 27, pure := false, frz := true, results := [.tmp 2, .tmp 3],
    body := (.seq (.region [⟨(some 2), .mv (.val (.sc (.bool false))), none, []⟩,
      ⟨(some 3), .mv (.val (.sc (.bool false))), none, []⟩])
    (.seq (.block 0 (.seq (.region [⟨(some 6), .mv (.tmp 0), none, []⟩,
        ⟨(some 7), .call (.val (.fn (.func 49) [] [])) [(.tmp 6)], none, []⟩,
        ⟨(some 8), .bin .eql (.tmp 7) (.val (.sc (.string ⟨#[]⟩))), none, []⟩,
        ⟨(some 5), .mv (.tmp 8), none, []⟩])
      (.cond (.tmp 5)
        (.seq (.region [⟨(some 2), .mv (.val (.sc (.bool false))), none, []⟩,
          ⟨(some 3), .mv (.val (.sc (.bool false))), none, []⟩])
        .ret)
        (.seq (.seq (.region [⟨(some 10), .mv (.tmp 0), none, []⟩,
          ⟨(some 11), .call (.val (.fn (.func 33) [] [])) [(.tmp 10), (.val (.sc (.int .i64 (11)))), (.val (.sc (.int .i64 (17))))], none, []⟩,
          ⟨(some 9), .mv (.tmp 11), none, []⟩])
        (.cond (.tmp 9)
          .skip
          (.region [⟨(some 12), .mv (.tmp 0), none, []⟩,
            ⟨(some 13), .call (.val (.fn (.func 37) [] [])) [(.tmp 12)], none, []⟩,
            ⟨(some 14), .bin .eql (.tmp 13) (.val (.sc (.int .i64 (10)))), none, []⟩,
            ⟨(some 9), .mv (.tmp 14), none, []⟩])))
        (.cond (.tmp 9)
          (.seq (.region [⟨(some 2), .mv (.val (.sc (.bool true))), none, []⟩,
            ⟨(some 3), .mv (.val (.sc (.bool false))), none, []⟩])
          .ret)
          (.seq (.seq (.region [⟨(some 16), .mv (.tmp 0), none, []⟩,
            ⟨(some 17), .call (.val (.fn (.func 33) [] [])) [(.tmp 16), (.val (.sc (.int .i64 (18)))), (.val (.sc (.int .i64 (21))))], none, []⟩,
            ⟨(some 15), .mv (.tmp 17), none, []⟩])
          (.cond (.tmp 15)
            .skip
            (.seq (.region [⟨(some 18), .mv (.tmp 0), none, []⟩,
              ⟨(some 19), .bin .eql (.tmp 18) (.val (.sc (.int .i64 (67)))), none, []⟩,
              ⟨(some 15), .mv (.tmp 19), none, []⟩])
            (.cond (.tmp 15)
              .skip
              (.region [⟨(some 20), .mv (.tmp 0), none, []⟩,
                ⟨(some 21), .bin .eql (.tmp 20) (.val (.sc (.int .i64 (78)))), none, []⟩,
                ⟨(some 15), .mv (.tmp 21), none, []⟩])))))
          (.cond (.tmp 15)
            (.seq (.region [⟨(some 2), .mv (.val (.sc (.bool false))), none, []⟩,
              ⟨(some 3), .mv (.val (.sc (.bool true))), none, []⟩])
            .ret)
            .skip)))))))
    (.seq (.region [⟨(some 22), .mv (.tmp 0), none, []⟩,
      ⟨(some 23), .call (.val (.fn (.func 37) [] [])) [(.tmp 22)], none, []⟩,
      ⟨(some 24), .bin .eql (.tmp 23) (.val (.sc (.int .i64 (11)))), none, []⟩,
      ⟨(some 4), .mv (.tmp 24), none, []⟩])
    (.seq (.region [⟨(some 25), .mv (.tmp 4), none, []⟩,
      ⟨(some 26), .mv (.tmp 4), none, []⟩,
      ⟨(some 2), .mv (.tmp 25), none, []⟩,
      ⟨(some 3), .mv (.tmp 26), none, []⟩])
    .ret)))) }

def f_isa_in : AFunc :=
  { nparams := 3, ntmps := 15, pure := false, frz := true, results := [.tmp 6],
    body := (.seq (.region [⟨(some 6), .mv (.val (.sc (.bool false))), none, []⟩])
    (.seq (.region [⟨(some 7), .mv (.tmp 0), none, []⟩,
      ⟨(some 8), .mv (.tmp 1), none, []⟩,
      ⟨(some 9), .bin .geq (.tmp 7) (.tmp 8), none, []⟩,
      ⟨(some 10), .mv (.tmp 9), none, []⟩,
      ⟨(some 11), .mv (.tmp 0), (some (10, true)), []⟩,
      ⟨(some 12), .mv (.tmp 2), (some (10, true)), []⟩,
      ⟨(some 13), .bin .leq (.tmp 11) (.tmp 12), (some (10, true)), []⟩,
      ⟨(some 14), .pick (.tmp 10) (.tmp 13) (.val (.sc (.bool false))), none, []⟩,
      ⟨(some 6), .mv (.tmp 14), none, []⟩])
    .ret)) }

def f_isa_Reads : AFunc :=
  { nparams := 1, ntmps := 20, pure := false, frz := true, results := [.tmp 2, .tmp 3],
    body := (.seq (.region [⟨(some 1), .boxF 32 (.tmp 0), none, []⟩,
      ⟨(some 2), .mv (.val (.sc (.bool false))), none, []⟩,
      ⟨(some 3), .mv (.val (.sc (.bool false))), none, []⟩])
    (.seq (.seq (.region [⟨(some 7), .loadF (some 7) (.tmp 1), none, []⟩,
      ⟨(some 8), .call (.val (.fn (.func 31) [] [])) [(.tmp 7)], none, []⟩,
      ⟨(some 9), .un .not (.tmp 8), none, []⟩])
    (.cond (.tmp 9)
      (.seq (.region [⟨(some 2), .mv (.val (.sc (.bool false))), none, []⟩,
        ⟨(some 3), .mv (.val (.sc (.bool false))), none, []⟩])
      .ret)
      .skip))
    (.seq (.region [⟨(some 11), .fieldAddr 0 (.tmp 1), none, []⟩,
      ⟨(some 12), .loadF none (.tmp 11), none, []⟩,
      ⟨(some 13), .call (.val (.fn (.func 37) [] [])) [(.tmp 12)], none, []⟩,
      ⟨(some 14), .call (.val (.fn (.func 46) [] [])) [(.tmp 13)], none, []⟩,
      ⟨(some 10), .mv (.tmp 14), none, []⟩,
      ⟨(some 15), .extract (.tmp 10) 0, none, []⟩,
      ⟨(some 16), .extract (.tmp 10) 1, none, []⟩,
      ⟨(some 17), .extract (.tmp 10) 2, none, []⟩,
      ⟨(some 4), .mv (.tmp 15), none, []⟩,
      ⟨(some 5), .mv (.tmp 16), none, []⟩,
      ⟨(some 6), .mv (.tmp 17), none, []⟩])
    (.seq (.region [⟨(some 18), .mv (.tmp 5), none, []⟩,
      ⟨(some 19), .mv (.tmp 6), none, []⟩,
      ⟨(some 2), .mv (.tmp 18), none, []⟩,
      ⟨(some 3), .mv (.tmp 19), none, []⟩])
    .ret)))) }

def f_alu_Taken_1 : AFunc :=
  { nparams := 2, ntmps := 6, pure := true, results := [.tmp 2],
    body := (.seq (.region [⟨(some 2), .mv (.val (.sc (.bool false))), none, []⟩])
    (.seq (.region [⟨(some 3), .load none (.tmp 0), none, []⟩,
      ⟨(some 4), .load none (.tmp 1), none, []⟩,
      ⟨(some 5), .bin .lss (.tmp 3) (.tmp 4), none, []⟩,
      ⟨(some 2), .mv (.tmp 5), none, []⟩])
    .ret)) }

def f_alu_Taken_2 : AFunc :=
  { nparams := 2, ntmps := 8, pure := true, results := [.tmp 2],
    body := (.seq (.region [⟨(some 2), .mv (.val (.sc (.bool false))), none, []⟩])
    (.seq (.region [⟨(some 3), .load none (.tmp 0), none, []⟩,
      ⟨(some 4), .conv .u64 (.tmp 3), none, []⟩,
      ⟨(some 5), .load none (.tmp 1), none, []⟩,
      ⟨(some 6), .conv .u64 (.tmp 5), none, []⟩,
      ⟨(some 7), .bin .lss (.tmp 4) (.tmp 6), none, []⟩,
      ⟨(some 2), .mv (.tmp 7), none, []⟩])
    .ret)) }

def f_isa_Form : AFunc :=
  { nparams := 1, ntmps := 24, pure := false, frz := true, results := [.tmp 2],
    body := (.seq (.region [⟨(some 2), .mv (.val (.sc (.int .i64 (0)))), none, []⟩])
    (.seq (.block 0 (.seq (.region [⟨(some 4), .mv (.tmp 0), none, []⟩,
        ⟨(some 5), .call (.val (.fn (.func 49) [] [])) [(.tmp 4)], none, []⟩,
        ⟨(some 6), .bin .eql (.tmp 5) (.val (.sc (.string ⟨#[]⟩))), none, []⟩,
        ⟨(some 3), .mv (.tmp 6), none, []⟩])
      (.cond (.tmp 3)
        (.seq (.region [⟨(some 2), .mv (.val (.sc (.int .i64 (-1)))), none, []⟩])
        .ret)
        (.seq (.region [⟨(some 8), .mv (.tmp 0), none, []⟩,
          ⟨(some 9), .bin .leq (.tmp 8) (.val (.sc (.int .i64 (2)))), none, []⟩,
          ⟨(some 7), .mv (.tmp 9), none, []⟩])
        (.cond (.tmp 7)
          (.seq (.region [⟨(some 2), .mv (.val (.sc (.int .i64 (1)))), none, []⟩])
          .ret)
          (.seq (.region [⟨(some 11), .mv (.tmp 0), none, []⟩,
            ⟨(some 12), .bin .eql (.tmp 11) (.val (.sc (.int .i64 (3)))), none, []⟩,
            ⟨(some 10), .mv (.tmp 12), none, []⟩])
          (.cond (.tmp 10)
            (.seq (.region [⟨(some 2), .mv (.val (.sc (.int .i64 (2)))), none, []⟩])
            .ret)
            (.seq (.region [⟨(some 14), .mv (.tmp 0), none, []⟩,
              ⟨(some 15), .call (.val (.fn (.func 33) [] [])) [(.tmp 14), (.val (.sc (.int .i64 (5)))), (.val (.sc (.int .i64 (10))))], none, []⟩,
              ⟨(some 13), .mv (.tmp 15), none, []⟩])
            (.cond (.tmp 13)
              (.seq (.region [⟨(some 2), .mv (.val (.sc (.int .i64 (4)))), none, []⟩])
              .ret)
              (.seq (.region [⟨(some 17), .mv (.tmp 0), none, []⟩,
                ⟨(some 18), .call (.val (.fn (.func 33) [] [])) [(.tmp 17), (.val (.sc (.int .i64 (18)))), (.val (.sc (.int .i64 (21))))], none, []⟩,
                ⟨(some 16), .mv (.tmp 18), none, []⟩])
              (.cond (.tmp 16)
                (.seq (.region [⟨(some 2), .mv (.val (.sc (.int .i64 (5)))), none, []⟩])
                .ret)
                (.seq (.region [⟨(some 20), .mv (.tmp 0), none, []⟩,
                  ⟨(some 21), .call (.val (.fn (.func 33) [] [])) [(.tmp 20), (.val (.sc (.int .i64 (35)))), (.val (.sc (.int .i64 (62))))], none, []⟩,
                  ⟨(some 19), .mv (.tmp 21), none, []⟩])
                (.cond (.tmp 19)
                  (.seq (.region [⟨(some 2), .mv (.val (.sc (.int .i64 (6)))), none, []⟩])
                  .ret)
                  .skip)))))))))))))
    (.seq (.region [⟨(some 22), .mv (.tmp 0), none, []⟩,
      ⟨(some 23), .call (.val (.fn (.func 50) [] [])) [(.tmp 22)], none, []⟩,
      ⟨(some 2), .mv (.tmp 23), none, []⟩])
    .ret))) }

def f_alu_Eval : AFunc :=
  { nparams := 3, ntmps := 54, pure := false, frz := true, results := [.tmp 6, .tmp 7],
    body := (.seq (.region [⟨(some 6), .mv (.val (.sc (.int .i64 (0)))), none, []⟩,
      ⟨(some 7), .mv (.val (.sc (.bool false))), none, []⟩])
    (.seq (.block 0 (.seq (.region [⟨(some 9), .mv (.tmp 0), none, []⟩,
        ⟨(some 10), .bin .lss (.tmp 9) (.val (.sc (.int .i64 (22)))), none, []⟩,
        ⟨(some 11), .mv (.tmp 10), none, []⟩,
        ⟨(some 12), .mv (.tmp 0), (some (11, false)), []⟩,
        ⟨(some 13), .bin .gtr (.tmp 12) (.val (.sc (.int .i64 (62)))), (some (11, false)), []⟩,
        ⟨(some 14), .pick (.tmp 11) (.val (.sc (.bool true))) (.tmp 13), none, []⟩,
        ⟨(some 8), .mv (.tmp 14), none, []⟩])
      (.cond (.tmp 8)
        (.seq (.region [⟨(some 6), .mv (.val (.sc (.int .i64 (0)))), none, []⟩,
          ⟨(some 7), .mv (.val (.sc (.bool false))), none, []⟩])
        .ret)
        (.seq (.region [⟨(some 16), .mv (.tmp 0), none, []⟩,
          ⟨(some 17), .bin .leq (.tmp 16) (.val (.sc (.int .i64 (30)))), none, []⟩,
          ⟨(some 15), .mv (.tmp 17), none, []⟩])
        (.cond (.tmp 15)
          (.seq (.region [⟨(some 18), .mv (.tmp 0), none, []⟩,
            ⟨(some 19), .mv (.tmp 1), none, []⟩,
            ⟨(some 20), .mv (.tmp 2), none, []⟩,
            ⟨(some 21), .call (.val (.fn (.func 51) [] [])) [(.tmp 18), (.tmp 19), (.tmp 20)], none, []⟩,
            ⟨(some 6), .mv (.tmp 21), none, []⟩,
            ⟨(some 7), .mv (.val (.sc (.bool true))), none, []⟩])
          .ret)
          (.seq (.region [⟨(some 23), .mv (.tmp 0), none, []⟩,
            ⟨(some 24), .bin .leq (.tmp 23) (.val (.sc (.int .i64 (34)))), none, []⟩,
            ⟨(some 22), .mv (.tmp 24), none, []⟩])
          (.cond (.tmp 22)
            (.seq (.region [⟨(some 25), .mv (.tmp 0), none, []⟩,
              ⟨(some 26), .mv (.tmp 1), none, []⟩,
              ⟨(some 27), .mv (.tmp 2), none, []⟩,
              ⟨(some 28), .call (.val (.fn (.func 52) [] [])) [(.tmp 25), (.tmp 26), (.tmp 27)], none, []⟩,
              ⟨(some 6), .mv (.tmp 28), none, []⟩,
              ⟨(some 7), .mv (.val (.sc (.bool true))), none, []⟩])
            .ret)
            (.seq (.region [⟨(some 30), .mv (.tmp 0), none, []⟩,
              ⟨(some 31), .bin .leq (.tmp 30) (.val (.sc (.int .i64 (44)))), none, []⟩,
              ⟨(some 29), .mv (.tmp 31), none, []⟩])
            (.cond (.tmp 29)
              (.seq (.region [⟨(some 32), .mv (.tmp 0), none, []⟩,
                ⟨(some 33), .mv (.tmp 1), none, []⟩,
                ⟨(some 34), .mv (.tmp 2), none, []⟩,
                ⟨(some 35), .call (.val (.fn (.func 51) [] [])) [(.tmp 32), (.tmp 33), (.tmp 34)], none, []⟩,
                ⟨(some 6), .mv (.tmp 35), none, []⟩,
                ⟨(some 7), .mv (.val (.sc (.bool true))), none, []⟩])
              .ret)
              (.seq (.region [⟨(some 37), .mv (.tmp 0), none, []⟩,
                ⟨(some 38), .bin .leq (.tmp 37) (.val (.sc (.int .i64 (49)))), none, []⟩,
                ⟨(some 36), .mv (.tmp 38), none, []⟩])
              (.cond (.tmp 36)
                (.seq (.region [⟨(some 39), .mv (.tmp 0), none, []⟩,
                  ⟨(some 40), .mv (.tmp 1), none, []⟩,
                  ⟨(some 41), .mv (.tmp 2), none, []⟩,
                  ⟨(some 42), .call (.val (.fn (.func 52) [] [])) [(.tmp 39), (.tmp 40), (.tmp 41)], none, []⟩,
                  ⟨(some 6), .mv (.tmp 42), none, []⟩,
                  ⟨(some 7), .mv (.val (.sc (.bool true))), none, []⟩])
                .ret)
                (.seq (.region [⟨(some 44), .mv (.tmp 0), none, []⟩,
                  ⟨(some 45), .bin .leq (.tmp 44) (.val (.sc (.int .i64 (57)))), none, []⟩,
                  ⟨(some 43), .mv (.tmp 45), none, []⟩])
                (.cond (.tmp 43)
                  (.seq (.region [⟨(some 46), .mv (.tmp 0), none, []⟩,
                    ⟨(some 47), .mv (.tmp 1), none, []⟩,
                    ⟨(some 48), .mv (.tmp 2), none, []⟩,
                    ⟨(some 49), .call (.val (.fn (.func 53) [] [])) [(.tmp 46), (.tmp 47), (.tmp 48)], none, []⟩,
                    ⟨(some 6), .mv (.tmp 49), none, []⟩,
                    ⟨(some 7), .mv (.val (.sc (.bool true))), none, []⟩])
                  .ret)
                  .skip)))))))))))))
    (.seq (.region [⟨(some 50), .mv (.tmp 0), none, []⟩,
      ⟨(some 51), .mv (.tmp 1), none, []⟩,
      ⟨(some 52), .mv (.tmp 2), none, []⟩,
      ⟨(some 53), .call (.val (.fn (.func 54) [] [])) [(.tmp 50), (.tmp 51), (.tmp 52)], none, []⟩,
      ⟨(some 6), .mv (.tmp 53), none, []⟩,
      ⟨(some 7), .mv (.val (.sc (.bool true))), none, []⟩])
    .ret))) }

def f_image_place : AFunc :=
  { nparams := 4, ntmps := 33, pure := false, frz := true, results := [.tmp 8, .tmp 9],
    body := (.seq (.region [⟨(some 8), .mv (.val (.sc (.int .i64 (0)))), none, []⟩,
      ⟨(some 9), .mv (.val (.sc (.bool false))), none, []⟩])
    (.seq (.seq (.region [⟨(some 10), .mv (.tmp 0), none, []⟩,
      ⟨(some 11), .mv (.tmp 1), none, []⟩,
      ⟨(some 12), .bin .lss (.tmp 10) (.tmp 11), none, []⟩,
      ⟨(some 13), .mv (.tmp 12), none, []⟩,
      ⟨(some 14), .mv (.tmp 0), (some (13, false)), []⟩,
      ⟨(some 15), .mv (.tmp 1), (some (13, false)), []⟩,
      ⟨(some 16), .mv (.tmp 2), (some (13, false)), []⟩,
      ⟨(some 17), .mv (.tmp 3), (some (13, false)), []⟩,
      ⟨(some 18), .bin .mul (.tmp 16) (.tmp 17), (some (13, false)), []⟩,
      ⟨(some 19), .bin .add (.tmp 15) (.tmp 18), (some (13, false)), []⟩,
      ⟨(some 20), .bin .geq (.tmp 14) (.tmp 19), (some (13, false)), []⟩,
      ⟨(some 21), .pick (.tmp 13) (.val (.sc (.bool true))) (.tmp 20), none, []⟩,
      ⟨(some 22), .mv (.tmp 21), none, []⟩,
      ⟨(some 23), .mv (.tmp 0), (some (22, false)), []⟩,
      ⟨(some 24), .mv (.tmp 2), (some (22, false)), []⟩,
      ⟨(some 25), .bin .rem (.tmp 23) (.tmp 24), (some (22, false)), []⟩,
      ⟨(some 26), .bin .neq (.tmp 25) (.val (.sc (.int .i64 (0)))), (some (22, false)), []⟩,
      ⟨(some 27), .pick (.tmp 22) (.val (.sc (.bool true))) (.tmp 26), none, []⟩])
    (.cond (.tmp 27)
      (.seq (.region [⟨(some 8), .mv (.val (.sc (.int .i64 (0)))), none, []⟩,
        ⟨(some 9), .mv (.val (.sc (.bool false))), none, []⟩])
      .ret)
      .skip))
    (.seq (.region [⟨(some 28), .mv (.tmp 0), none, []⟩,
      ⟨(some 29), .mv (.tmp 1), none, []⟩,
      ⟨(some 30), .bin .sub (.tmp 28) (.tmp 29), none, []⟩,
      ⟨(some 31), .mv (.tmp 2), none, []⟩,
      ⟨(some 32), .bin .quo (.tmp 30) (.tmp 31), none, []⟩,
      ⟨(some 8), .mv (.tmp 32), none, []⟩,
      ⟨(some 9), .mv (.val (.sc (.bool true))), none, []⟩])
    .ret))) }

def f_spinnakerref04_words : AFunc :=
  { nparams := 0, ntmps := 2, pure := true, results := [.cell 0 (some 76)],
    body := (.seq (.region [⟨(some 0), .allocA 76 1 [(.sc (.int .u32 (0))), (.sc (.int .u32 (0))), (.sc (.int .u32 (0))), (.sc (.int .u32 (0))), (.sc (.int .u32 (0))), (.sc (.int .u32 (0))), (.sc (.int .u32 (0))), (.sc (.int .u32 (0))), (.sc (.int .u32 (0))), (.sc (.int .u32 (0))), (.sc (.int .u32 (0))), (.sc (.int .u32 (0))), (.sc (.int .u32 (0))), (.sc (.int .u32 (0))), (.sc (.int .u32 (0))), (.sc (.int .u32 (0))), (.sc (.int .u32 (0))), (.sc (.int .u32 (0))), (.sc (.int .u32 (0))), (.sc (.int .u32 (0))), (.sc (.int .u32 (0))), (.sc (.int .u32 (0))), (.sc (.int .u32 (0))), (.sc (.int .u32 (0))), (.sc (.int .u32 (0))), (.sc (.int .u32 (0))), (.sc (.int .u32 (0))), (.sc (.int .u32 (0))), (.sc (.int .u32 (0))), (.sc (.int .u32 (0))), (.sc (.int .u32 (0))), (.sc (.int .u32 (0))), (.sc (.int .u32 (0))), (.sc (.int .u32 (0))), (.sc (.int .u32 (0))), (.sc (.int .u32 (0))), (.sc (.int .u32 (0))), (.sc (.int .u32 (0))), (.sc (.int .u32 (0))), (.sc (.int .u32 (0))), (.sc (.int .u32 (0))), (.sc (.int .u32 (0))), (.sc (.int .u32 (0))), (.sc (.int .u32 (0))), (.sc (.int .u32 (0))), (.sc (.int .u32 (0))), (.sc (.int .u32 (0))), (.sc (.int .u32 (0))), (.sc (.int .u32 (0))), (.sc (.int .u32 (0))), (.sc (.int .u32 (0))), (.sc (.int .u32 (0))), (.sc (.int .u32 (0))), (.sc (.int .u32 (0))), (.sc (.int .u32 (0))), (.sc (.int .u32 (0))), (.sc (.int .u32 (0))), (.sc (.int .u32 (0))), (.sc (.int .u32 (0))), (.sc (.int .u32 (0))), (.sc (.int .u32 (0))), (.sc (.int .u32 (0))), (.sc (.int .u32 (0))), (.sc (.int .u32 (0))), (.sc (.int .u32 (0))), (.sc (.int .u32 (0))), (.sc (.int .u32 (0))), (.sc (.int .u32 (0))), (.sc (.int .u32 (0))), (.sc (.int .u32 (0))), (.sc (.int .u32 (0))), (.sc (.int .u32 (0))), (.sc (.int .u32 (0))), (.sc (.int .u32 (0))), (.sc (.int .u32 (0))), (.sc (.int .u32 (0)))], none, []⟩])
    (.seq (.region [⟨(some 1), .build [(.sc (.int .u32 (0))), (.sc (.int .u32 (0))), (.sc (.int .u32 (0))), (.sc (.int .u32 (0))), (.sc (.int .u32 (0))), (.sc (.int .u32 (0))), (.sc (.int .u32 (0))), (.sc (.int .u32 (0))), (.sc (.int .u32 (0))), (.sc (.int .u32 (0))), (.sc (.int .u32 (0))), (.sc (.int .u32 (0))), (.sc (.int .u32 (0))), (.sc (.int .u32 (0))), (.sc (.int .u32 (0))), (.sc (.int .u32 (0))), (.sc (.int .u32 (0))), (.sc (.int .u32 (0))), (.sc (.int .u32 (0))), (.sc (.int .u32 (0))), (.sc (.int .u32 (0))), (.sc (.int .u32 (0))), (.sc (.int .u32 (0))), (.sc (.int .u32 (0))), (.sc (.int .u32 (0))), (.sc (.int .u32 (0))), (.sc (.int .u32 (0))), (.sc (.int .u32 (0))), (.sc (.int .u32 (0))), (.sc (.int .u32 (0))), (.sc (.int .u32 (0))), (.sc (.int .u32 (0))), (.sc (.int .u32 (0))), (.sc (.int .u32 (0))), (.sc (.int .u32 (0))), (.sc (.int .u32 (0))), (.sc (.int .u32 (0))), (.sc (.int .u32 (0))), (.sc (.int .u32 (0))), (.sc (.int .u32 (0))), (.sc (.int .u32 (0))), (.sc (.int .u32 (0))), (.sc (.int .u32 (0))), (.sc (.int .u32 (0))), (.sc (.int .u32 (0))), (.sc (.int .u32 (0))), (.sc (.int .u32 (0))), (.sc (.int .u32 (0))), (.sc (.int .u32 (0))), (.sc (.int .u32 (0))), (.sc (.int .u32 (0))), (.sc (.int .u32 (0))), (.sc (.int .u32 (0))), (.sc (.int .u32 (0))), (.sc (.int .u32 (0))), (.sc (.int .u32 (0))), (.sc (.int .u32 (0))), (.sc (.int .u32 (0))), (.sc (.int .u32 (0))), (.sc (.int .u32 (0))), (.sc (.int .u32 (0))), (.sc (.int .u32 (0))), (.sc (.int .u32 (0))), (.sc (.int .u32 (0))), (.sc (.int .u32 (0))), (.sc (.int .u32 (0))), (.sc (.int .u32 (0))), (.sc (.int .u32 (0))), (.sc (.int .u32 (0))), (.sc (.int .u32 (0))), (.sc (.int .u32 (0))), (.sc (.int .u32 (0))), (.sc (.int .u32 (0))), (.sc (.int .u32 (0))), (.sc (.int .u32 (0))), (.sc (.int .u32 (0)))] [(0, 1, (.val (.sc (.int .u32 (55))))), (1, 1, (.val (.sc (.int .u32 (23))))), (2, 1, (.val (.sc (.int .u32 (111))))), (3, 1, (.val (.sc (.int .u32 (103))))), (4, 1, (.val (.sc (.int .u32 (99))))), (5, 1, (.val (.sc (.int .u32 (4195))))), (6, 1, (.val (.sc (.int .u32 (16483))))), (7, 1, (.val (.sc (.int .u32 (20579))))), (8, 1, (.val (.sc (.int .u32 (24675))))), (9, 1, (.val (.sc (.int .u32 (28771))))), (10, 1, (.val (.sc (.int .u32 (3))))), (11, 1, (.val (.sc (.int .u32 (4099))))), (12, 1, (.val (.sc (.int .u32 (8195))))), (13, 1, (.val (.sc (.int .u32 (12291))))), (14, 1, (.val (.sc (.int .u32 (16387))))), (15, 1, (.val (.sc (.int .u32 (20483))))), (16, 1, (.val (.sc (.int .u32 (24579))))), (17, 1, (.val (.sc (.int .u32 (35))))), (18, 1, (.val (.sc (.int .u32 (4131))))), (19, 1, (.val (.sc (.int .u32 (8227))))), (20, 1, (.val (.sc (.int .u32 (12323))))), (21, 1, (.val (.sc (.int .u32 (19))))), (22, 1, (.val (.sc (.int .u32 (8211))))), (23, 1, (.val (.sc (.int .u32 (12307))))), (24, 1, (.val (.sc (.int .u32 (16403))))), (25, 1, (.val (.sc (.int .u32 (24595))))), (26, 1, (.val (.sc (.int .u32 (28691))))), (27, 1, (.val (.sc (.int .u32 (4115))))), (28, 1, (.val (.sc (.int .u32 (20499))))), (29, 1, (.val (.sc (.int .u32 (1073762323))))), (30, 1, (.val (.sc (.int .u32 (27))))), (31, 1, (.val (.sc (.int .u32 (4123))))), (32, 1, (.val (.sc (.int .u32 (20507))))), (33, 1, (.val (.sc (.int .u32 (1073762331))))), (34, 1, (.val (.sc (.int .u32 (51))))), (35, 1, (.val (.sc (.int .u32 (1073741875))))), (36, 1, (.val (.sc (.int .u32 (4147))))), (37, 1, (.val (.sc (.int .u32 (8243))))), (38, 1, (.val (.sc (.int .u32 (12339))))), (39, 1, (.val (.sc (.int .u32 (16435))))), (40, 1, (.val (.sc (.int .u32 (20531))))), (41, 1, (.val (.sc (.int .u32 (1073762355))))), (42, 1, (.val (.sc (.int .u32 (24627))))), (43, 1, (.val (.sc (.int .u32 (28723))))), (44, 1, (.val (.sc (.int .u32 (59))))), (45, 1, (.val (.sc (.int .u32 (1073741883))))), (46, 1, (.val (.sc (.int .u32 (4155))))), (47, 1, (.val (.sc (.int .u32 (20539))))), (48, 1, (.val (.sc (.int .u32 (1073762363))))), (49, 1, (.val (.sc (.int .u32 (33554483))))), (50, 1, (.val (.sc (.int .u32 (33558579))))), (51, 1, (.val (.sc (.int .u32 (33562675))))), (52, 1, (.val (.sc (.int .u32 (33566771))))), (53, 1, (.val (.sc (.int .u32 (33570867))))), (54, 1, (.val (.sc (.int .u32 (33574963))))), (55, 1, (.val (.sc (.int .u32 (33579059))))), (56, 1, (.val (.sc (.int .u32 (33583155))))), (57, 1, (.val (.sc (.int .u32 (33554491))))), (58, 1, (.val (.sc (.int .u32 (33570875))))), (59, 1, (.val (.sc (.int .u32 (33574971))))), (60, 1, (.val (.sc (.int .u32 (33579067))))), (61, 1, (.val (.sc (.int .u32 (33583163))))), (62, 1, (.val (.sc (.int .u32 (15))))), (63, 1, (.val (.sc (.int .u32 (115))))), (64, 1, (.val (.sc (.int .u32 (1048691))))), (65, 1, (.val (.sc (.int .u32 (268443695))))), (66, 1, (.val (.sc (.int .u32 (402661423))))), (67, 1, (.val (.sc (.int .u32 (134225967))))), (68, 1, (.val (.sc (.int .u32 (8239))))), (69, 1, (.val (.sc (.int .u32 (536879151))))), (70, 1, (.val (.sc (.int .u32 (1610620975))))), (71, 1, (.val (.sc (.int .u32 (1073750063))))), (72, 1, (.val (.sc (.int .u32 (2147491887))))), (73, 1, (.val (.sc (.int .u32 (2684362799))))), (74, 1, (.val (.sc (.int .u32 (3221233711))))), (75, 1, (.val (.sc (.int .u32 (3758104623)))))], none, []⟩,
      ⟨none, .store 76 (.tmp 0) (.tmp 1), none, []⟩])
    .ret)) }

def f_spinnakerref01_Bit : AFunc :=
  { nparams := 2, ntmps := 16, pure := false, frz := true, results := [.tmp 4],
    body := (.seq (.region [⟨(some 4), .mv (.val (.sc (.int .i64 (0)))), none, []⟩])
    (.seq (.seq (.region [⟨(some 5), .mv (.val (.sc (.int .i64 (0)))), none, []⟩])
    (.block 0 (.loop (.seq (.seq (.region [⟨(some 6), .mv (.tmp 5), none, []⟩,
          ⟨(some 7), .mv (.tmp 1), none, []⟩,
          ⟨(some 8), .bin .lss (.tmp 6) (.tmp 7), none, []⟩])
        (.cond (.tmp 8)
          .skip
          (.exit 0)))
        (.seq (.block 1 (.region [⟨(some 11), .mv (.tmp 0), none, []⟩,
            ⟨(some 12), .bin .quo (.tmp 11) (.val (.sc (.int .u64 (2)))), none, []⟩,
            ⟨(some 0), .mv (.tmp 12), none, []⟩]))
        (.region [⟨(some 9), .mv (.tmp 5), none, []⟩,
          ⟨(some 10), .bin .add (.tmp 9) (.val (.sc (.int .i64 (1)))), none, []⟩,
          ⟨(some 5), .mv (.tmp 10), none, []⟩]))))))
    (.seq (.region [⟨(some 13), .mv (.tmp 0), none, []⟩,
      ⟨(some 14), .bin .rem (.tmp 13) (.val (.sc (.int .u64 (2)))), none, []⟩,
      ⟨(some 15), .conv .i64 (.tmp 14), none, []⟩,
      ⟨(some 4), .mv (.tmp 15), none, []⟩])
    .ret))) }

def f_spinnakerref01_Power : AFunc :=
  { nparams := 1, ntmps := 13, pure := false, frz := true, results := [.tmp 2],
    body := (.seq (.region [⟨(some 2), .mv (.val (.sc (.int .u64 (0)))), none, []⟩])
    (.seq (.region [⟨(some 3), .mv (.val (.sc (.int .u64 (1)))), none, []⟩])
    (.seq (.seq (.region [⟨(some 4), .mv (.val (.sc (.int .i64 (0)))), none, []⟩])
    (.block 0 (.loop (.seq (.seq (.region [⟨(some 5), .mv (.tmp 4), none, []⟩,
          ⟨(some 6), .mv (.tmp 0), none, []⟩,
          ⟨(some 7), .bin .lss (.tmp 5) (.tmp 6), none, []⟩])
        (.cond (.tmp 7)
          .skip
          (.exit 0)))
        (.seq (.block 1 (.region [⟨(some 10), .mv (.tmp 3), none, []⟩,
            ⟨(some 11), .bin .mul (.val (.sc (.int .u64 (2)))) (.tmp 10), none, []⟩,
            ⟨(some 3), .mv (.tmp 11), none, []⟩]))
        (.region [⟨(some 8), .mv (.tmp 4), none, []⟩,
          ⟨(some 9), .bin .add (.tmp 8) (.val (.sc (.int .i64 (1)))), none, []⟩,
          ⟨(some 4), .mv (.tmp 9), none, []⟩]))))))
    (.seq (.region [⟨(some 12), .mv (.tmp 3), none, []⟩,
      ⟨(some 2), .mv (.tmp 12), none, []⟩])
    .ret)))) }

def f_spinnakerref03_letter : AFunc :=
  { nparams := 1, ntmps := 14, pure := false, frz := true, results := [.tmp 2],
    body := (.seq (.region [⟨(some 2), .mv (.val (.sc (.int .u8 (0)))), none, []⟩])
    (.seq (.region [⟨(some 3), .mv (.val (.sc (.string ⟨#[85, 85, 74, 73, 66, 66, 66, 66, 66, 66, 73, 73, 73, 73, 73, 73, 73, 83, 83, 83, 83, 73, 73, 73, 73, 73, 73, 72, 72, 72, 73, 87, 87, 87, 82, 82, 82, 82, 82, 82, 82, 82, 82, 82, 82, 82, 82, 82, 82, 82, 82, 82, 82, 82, 82, 82, 82, 82, 82, 82, 82, 82, 70, 78, 78, 76, 65, 65, 65, 65, 65, 65, 65, 65, 65, 65, 76, 65, 65, 65, 65, 65, 65, 65, 65, 65, 65]⟩))), none, []⟩])
    (.seq (.seq (.region [⟨(some 4), .mv (.tmp 0), none, []⟩,
      ⟨(some 5), .bin .lss (.tmp 4) (.val (.sc (.int .i64 (1)))), none, []⟩,
      ⟨(some 6), .mv (.tmp 5), none, []⟩,
      ⟨(some 7), .mv (.tmp 0), (some (6, false)), []⟩,
      ⟨(some 8), .bin .gtr (.tmp 7) (.val (.sc (.int .i64 (87)))), (some (6, false)), []⟩,
      ⟨(some 9), .pick (.tmp 6) (.val (.sc (.bool true))) (.tmp 8), none, []⟩])
    (.cond (.tmp 9)
      (.seq (.region [⟨(some 2), .mv (.val (.sc (.int .u8 (0)))), none, []⟩])
      .ret)
      .skip))
    (.seq (.region [⟨(some 10), .mv (.tmp 3), none, []⟩,
      ⟨(some 11), .mv (.tmp 0), none, []⟩,
      ⟨(some 12), .bin .sub (.tmp 11) (.val (.sc (.int .i64 (1)))), none, []⟩,
      ⟨(some 13), .idxStr (.tmp 10) (.tmp 12), none, []⟩,
      ⟨(some 2), .mv (.tmp 13), none, []⟩])
    .ret)))) }

def f_dec_Decode : AFunc :=
  { nparams := 1, ntmps := 26, pure := true, results := [.cell 2 (some 7)],
    body := (.seq (.region [⟨(some 2), .alloc 32 [(.sc (.int .i64 (0))), (.sc (.int .i64 (0))), (.sc (.int .i64 (0))), (.sc (.int .i64 (0))), (.sc (.int .i64 (0))), (.sc (.bool false)), (.sc (.bool false))], none, []⟩])
    (.seq (.region [⟨(some 6), .mv (.tmp 0), none, []⟩,
      ⟨(some 7), .mv (.tmp 0), none, []⟩,
      ⟨(some 8), .call (.val (.fn (.func 56) [] [])) [(.tmp 7)], none, []⟩,
      ⟨(some 9), .call (.val (.fn (.func 55) [] [])) [(.tmp 6), (.tmp 8)], none, []⟩,
      ⟨(some 3), .alloc 32 [(.sc (.int .i64 (0))), (.sc (.int .i64 (0))), (.sc (.int .i64 (0))), (.sc (.int .i64 (0))), (.sc (.int .i64 (0))), (.sc (.bool false)), (.sc (.bool false))], none, []⟩,
      ⟨none, .store 7 (.tmp 3) (.tmp 9), none, []⟩])
    (.seq (.seq (.region [⟨(some 11), .load (some 7) (.tmp 3), none, []⟩,
      ⟨(some 12), .call (.val (.fn (.func 57) [] [])) [(.tmp 11)], none, []⟩,
      ⟨(some 10), .mv (.tmp 12), none, []⟩,
      ⟨(some 13), .extract (.tmp 10) 0, none, []⟩,
      ⟨(some 14), .extract (.tmp 10) 1, none, []⟩,
      ⟨(some 4), .mv (.tmp 13), none, []⟩,
      ⟨(some 5), .mv (.tmp 14), none, []⟩])
    (.seq (.region [⟨(some 15), .mv (.tmp 5), none, []⟩,
      ⟨(some 16), .bin .neq (.tmp 15) (.val (.sc (.int .i64 (0)))), none, []⟩,
      ⟨(some 17), .mv (.tmp 16), none, []⟩,
      ⟨(some 18), .mv (.tmp 4), (some (17, false)), []⟩,
      ⟨(some 19), .mv (.tmp 0), (some (17, false)), []⟩,
      ⟨(some 20), .bin .neq (.tmp 18) (.tmp 19), (some (17, false)), []⟩,
      ⟨(some 21), .pick (.tmp 17) (.val (.sc (.bool true))) (.tmp 20), none, []⟩])
    (.cond (.tmp 21)
      (.seq (.region [⟨(some 22), .mv (.tmp 0), none, []⟩,
        ⟨(some 23), .conv .i64 (.tmp 22), none, []⟩,
        ⟨(some 24), .build [(.sc (.int .i64 (0))), (.sc (.int .i64 (0))), (.sc (.int .i64 (0))), (.sc (.int .i64 (0))), (.sc (.int .i64 (0))), (.sc (.bool false)), (.sc (.bool false))] [(0, 1, (.val (.sc (.int .i64 (0))))), (4, 1, (.tmp 23))], none, []⟩,
        ⟨none, .store 7 (.tmp 2) (.tmp 24), none, []⟩])
      .ret)
      .skip)))
    (.seq (.region [⟨(some 25), .load (some 7) (.tmp 3), none, []⟩,
      ⟨none, .store 7 (.tmp 2) (.tmp 25), none, []⟩])
    .ret)))) }

def f_isa_Wide : AFunc :=
  { nparams := 1, ntmps := 13, pure := false, frz := true, results := [.tmp 2],
    body := (.seq (.region [⟨(some 2), .mv (.val (.sc (.bool false))), none, []⟩])
    (.seq (.region [⟨(some 3), .mv (.tmp 0), none, []⟩,
      ⟨(some 4), .bin .eql (.tmp 3) (.val (.sc (.int .i64 (14)))), none, []⟩,
      ⟨(some 5), .mv (.tmp 4), none, []⟩,
      ⟨(some 6), .mv (.tmp 0), (some (5, false)), []⟩,
      ⟨(some 7), .bin .eql (.tmp 6) (.val (.sc (.int .i64 (21)))), (some (5, false)), []⟩,
      ⟨(some 8), .pick (.tmp 5) (.val (.sc (.bool true))) (.tmp 7), none, []⟩,
      ⟨(some 9), .mv (.tmp 8), none, []⟩,
      ⟨(some 10), .mv (.tmp 0), (some (9, false)), []⟩,
      ⟨(some 11), .call (.val (.fn (.func 33) [] [])) [(.tmp 10), (.val (.sc (.int .i64 (77)))), (.val (.sc (.int .i64 (87))))], (some (9, false)), []⟩,
      ⟨(some 12), .pick (.tmp 9) (.val (.sc (.bool true))) (.tmp 11), none, []⟩,
      ⟨(some 2), .mv (.tmp 12), none, []⟩])
    .ret)) }

def f_isa_fields : AFunc :=
  { nparams := 1, ntmps := 20, pure := false, frz := true, results := [.tmp 2, .tmp 3, .tmp 4],
    body := (.seq (.region [⟨(some 2), .mv (.val (.sc (.bool false))), none, []⟩,
      ⟨(some 3), .mv (.val (.sc (.bool false))), none, []⟩,
      ⟨(some 4), .mv (.val (.sc (.bool false))), none, []⟩])
    (.seq (.seq (.region [⟨(some 5), .mv (.tmp 0), none, []⟩])
    (.block 0 (.seq (.seq (.region [⟨(some 7), .bin .eql (.tmp 5) (.val (.sc (.int .i64 (1)))), none, []⟩,
        ⟨(some 6), .mv (.tmp 7), none, []⟩])
      (.cond (.tmp 6)
        .skip
        (.region [⟨(some 8), .bin .eql (.tmp 5) (.val (.sc (.int .i64 (2)))), none, []⟩,
          ⟨(some 6), .mv (.tmp 8), none, []⟩])))
      (.cond (.tmp 6)
        (.seq (.region [⟨(some 2), .mv (.val (.sc (.bool true))), none, []⟩,
          ⟨(some 3), .mv (.val (.sc (.bool false))), none, []⟩,
          ⟨(some 4), .mv (.val (.sc (.bool false))), none, []⟩])
        .ret)
        (.seq (.seq (.region [⟨(some 10), .bin .eql (.tmp 5) (.val (.sc (.int .i64 (3)))), none, []⟩,
          ⟨(some 9), .mv (.tmp 10), none, []⟩])
        (.cond (.tmp 9)
          .skip
          (.seq (.region [⟨(some 11), .bin .eql (.tmp 5) (.val (.sc (.int .i64 (7)))), none, []⟩,
            ⟨(some 9), .mv (.tmp 11), none, []⟩])
          (.cond (.tmp 9)
            .skip
            (.seq (.region [⟨(some 12), .bin .eql (.tmp 5) (.val (.sc (.int .i64 (8)))), none, []⟩,
              ⟨(some 9), .mv (.tmp 12), none, []⟩])
            (.cond (.tmp 9)
              .skip
              (.region [⟨(some 13), .bin .eql (.tmp 5) (.val (.sc (.int .i64 (10)))), none, []⟩,
                ⟨(some 9), .mv (.tmp 13), none, []⟩])))))))
        (.cond (.tmp 9)
          (.seq (.region [⟨(some 2), .mv (.val (.sc (.bool true))), none, []⟩,
            ⟨(some 3), .mv (.val (.sc (.bool true))), none, []⟩,
            ⟨(some 4), .mv (.val (.sc (.bool false))), none, []⟩])
          .ret)
          (.seq (.seq (.region [⟨(some 15), .bin .eql (.tmp 5) (.val (.sc (.int .i64 (4)))), none, []⟩,
            ⟨(some 14), .mv (.tmp 15), none, []⟩])
          (.cond (.tmp 14)
            .skip
            (.region [⟨(some 16), .bin .eql (.tmp 5) (.val (.sc (.int .i64 (5)))), none, []⟩,
              ⟨(some 14), .mv (.tmp 16), none, []⟩])))
          (.cond (.tmp 14)
            (.seq (.region [⟨(some 2), .mv (.val (.sc (.bool false))), none, []⟩,
              ⟨(some 3), .mv (.val (.sc (.bool true))), none, []⟩,
              ⟨(some 4), .mv (.val (.sc (.bool true))), none, []⟩])
            .ret)
            (.seq (.seq (.region [⟨(some 18), .bin .eql (.tmp 5) (.val (.sc (.int .i64 (6)))), none, []⟩,
              ⟨(some 17), .mv (.tmp 18), none, []⟩])
            (.cond (.tmp 17)
              .skip
              (.region [⟨(some 19), .bin .eql (.tmp 5) (.val (.sc (.int .i64 (11)))), none, []⟩,
                ⟨(some 17), .mv (.tmp 19), none, []⟩])))
            (.cond (.tmp 17)
              (.seq (.region [⟨(some 2), .mv (.val (.sc (.bool true))), none, []⟩,
                ⟨(some 3), .mv (.val (.sc (.bool true))), none, []⟩,
                ⟨(some 4), .mv (.val (.sc (.bool true))), none, []⟩])
              .ret)
              .skip))))))))))
    (.seq (.region [⟨(some 2), .mv (.val (.sc (.bool false))), none, []⟩,
      ⟨(some 3), .mv (.val (.sc (.bool false))), none, []⟩,
      ⟨(some 4), .mv (.val (.sc (.bool false))), none, []⟩])
    .ret))) }

def f_isa_register : AFunc :=
  { nparams := 2, ntmps := 18, pure := false, frz := true, results := [.tmp 4],
    body := (.seq (.region [⟨(some 4), .mv (.val (.sc (.bool false))), none, []⟩])
    (.seq (.region [⟨(some 5), .mv (.tmp 0), none, []⟩,
      ⟨(some 6), .bin .geq (.tmp 5) (.val (.sc (.int .i64 (0)))), none, []⟩,
      ⟨(some 7), .mv (.tmp 6), none, []⟩,
      ⟨(some 8), .mv (.tmp 0), (some (7, true)), []⟩,
      ⟨(some 9), .bin .lss (.tmp 8) (.val (.sc (.int .i64 (32)))), (some (7, true)), []⟩,
      ⟨(some 10), .pick (.tmp 7) (.tmp 9) (.val (.sc (.bool false))), none, []⟩,
      ⟨(some 11), .mv (.tmp 10), none, []⟩,
      ⟨(some 12), .mv (.tmp 1), (some (11, true)), []⟩,
      ⟨(some 13), .mv (.tmp 12), (some (11, true)), []⟩,
      ⟨(some 14), .mv (.tmp 0), (some (13, false)), []⟩,
      ⟨(some 15), .bin .eql (.tmp 14) (.val (.sc (.int .i64 (0)))), (some (13, false)), []⟩,
      ⟨(some 16), .pick (.tmp 13) (.val (.sc (.bool true))) (.tmp 15), (some (11, true)), []⟩,
      ⟨(some 17), .pick (.tmp 11) (.tmp 16) (.val (.sc (.bool false))), none, []⟩,
      ⟨(some 4), .mv (.tmp 17), none, []⟩])
    .ret)) }

def f_isa_immediate : AFunc :=
  { nparams := 2, ntmps := 47, pure := false, frz := true, results := [.tmp 4],
    body := (.seq (.region [⟨(some 4), .mv (.val (.sc (.bool false))), none, []⟩])
    (.seq (.seq (.region [⟨(some 5), .mv (.tmp 0), none, []⟩])
    (.block 0 (.seq (.region [⟨(some 7), .bin .eql (.tmp 5) (.val (.sc (.int .i64 (1)))), none, []⟩,
        ⟨(some 6), .mv (.tmp 7), none, []⟩])
      (.cond (.tmp 6)
        (.seq (.region [⟨(some 8), .mv (.tmp 1), none, []⟩,
          ⟨(some 9), .call (.val (.fn (.func 58) [] [])) [(.tmp 8), (.val (.sc (.int .i64 (20))))], none, []⟩,
          ⟨(some 4), .mv (.tmp 9), none, []⟩])
        .ret)
        (.seq (.region [⟨(some 11), .bin .eql (.tmp 5) (.val (.sc (.int .i64 (2)))), none, []⟩,
          ⟨(some 10), .mv (.tmp 11), none, []⟩])
        (.cond (.tmp 10)
          (.seq (.region [⟨(some 12), .mv (.tmp 1), none, []⟩,
            ⟨(some 13), .call (.val (.fn (.func 58) [] [])) [(.tmp 12), (.val (.sc (.int .i64 (21))))], none, []⟩,
            ⟨(some 14), .mv (.tmp 13), none, []⟩,
            ⟨(some 15), .mv (.tmp 1), (some (14, true)), []⟩,
            ⟨(some 16), .bin .rem (.tmp 15) (.val (.sc (.int .i64 (2)))), (some (14, true)), []⟩,
            ⟨(some 17), .bin .eql (.tmp 16) (.val (.sc (.int .i64 (0)))), (some (14, true)), []⟩,
            ⟨(some 18), .pick (.tmp 14) (.tmp 17) (.val (.sc (.bool false))), none, []⟩,
            ⟨(some 4), .mv (.tmp 18), none, []⟩])
          .ret)
          (.seq (.region [⟨(some 20), .bin .eql (.tmp 5) (.val (.sc (.int .i64 (4)))), none, []⟩,
            ⟨(some 19), .mv (.tmp 20), none, []⟩])
          (.cond (.tmp 19)
            (.seq (.region [⟨(some 21), .mv (.tmp 1), none, []⟩,
              ⟨(some 22), .call (.val (.fn (.func 58) [] [])) [(.tmp 21), (.val (.sc (.int .i64 (13))))], none, []⟩,
              ⟨(some 23), .mv (.tmp 22), none, []⟩,
              ⟨(some 24), .mv (.tmp 1), (some (23, true)), []⟩,
              ⟨(some 25), .bin .rem (.tmp 24) (.val (.sc (.int .i64 (2)))), (some (23, true)), []⟩,
              ⟨(some 26), .bin .eql (.tmp 25) (.val (.sc (.int .i64 (0)))), (some (23, true)), []⟩,
              ⟨(some 27), .pick (.tmp 23) (.tmp 26) (.val (.sc (.bool false))), none, []⟩,
              ⟨(some 4), .mv (.tmp 27), none, []⟩])
            .ret)
            (.seq (.seq (.region [⟨(some 29), .bin .eql (.tmp 5) (.val (.sc (.int .i64 (3)))), none, []⟩,
              ⟨(some 28), .mv (.tmp 29), none, []⟩])
            (.cond (.tmp 28)
              .skip
              (.region [⟨(some 30), .bin .eql (.tmp 5) (.val (.sc (.int .i64 (5)))), none, []⟩,
                ⟨(some 28), .mv (.tmp 30), none, []⟩])))
            (.cond (.tmp 28)
              (.seq (.region [⟨(some 31), .mv (.tmp 1), none, []⟩,
                ⟨(some 32), .call (.val (.fn (.func 58) [] [])) [(.tmp 31), (.val (.sc (.int .i64 (12))))], none, []⟩,
                ⟨(some 4), .mv (.tmp 32), none, []⟩])
              .ret)
              (.seq (.region [⟨(some 34), .bin .eql (.tmp 5) (.val (.sc (.int .i64 (7)))), none, []⟩,
                ⟨(some 33), .mv (.tmp 34), none, []⟩])
              (.cond (.tmp 33)
                (.seq (.region [⟨(some 35), .mv (.tmp 1), none, []⟩,
                  ⟨(some 36), .call (.val (.fn (.func 33) [] [])) [(.tmp 35), (.val (.sc (.int .i64 (0)))), (.val (.sc (.int .i64 (63))))], none, []⟩,
                  ⟨(some 4), .mv (.tmp 36), none, []⟩])
                .ret)
                (.seq (.region [⟨(some 38), .bin .eql (.tmp 5) (.val (.sc (.int .i64 (8)))), none, []⟩,
                  ⟨(some 37), .mv (.tmp 38), none, []⟩])
                (.cond (.tmp 37)
                  (.seq (.region [⟨(some 39), .mv (.tmp 1), none, []⟩,
                    ⟨(some 40), .call (.val (.fn (.func 33) [] [])) [(.tmp 39), (.val (.sc (.int .i64 (0)))), (.val (.sc (.int .i64 (31))))], none, []⟩,
                    ⟨(some 4), .mv (.tmp 40), none, []⟩])
                  .ret)
                  (.seq (.region [⟨(some 42), .bin .eql (.tmp 5) (.val (.sc (.int .i64 (9)))), none, []⟩,
                    ⟨(some 41), .mv (.tmp 42), none, []⟩])
                  (.cond (.tmp 41)
                    (.seq (.region [⟨(some 43), .mv (.tmp 1), none, []⟩,
                      ⟨(some 44), .call (.val (.fn (.func 33) [] [])) [(.tmp 43), (.val (.sc (.int .i64 (0)))), (.val (.sc (.int .i64 (255))))], none, []⟩,
                      ⟨(some 4), .mv (.tmp 44), none, []⟩])
                    .ret)
                    .skip))))))))))))))))
    (.seq (.region [⟨(some 45), .mv (.tmp 1), none, []⟩,
      ⟨(some 46), .bin .eql (.tmp 45) (.val (.sc (.int .i64 (0)))), none, []⟩,
      ⟨(some 4), .mv (.tmp 46), none, []⟩])
    .ret))) }

def f_isa_Name : AFunc :=
  { nparams := 1, ntmps := 9, pure := false, frz := true, results := [.tmp 2],
    body := (.seq (.region [⟨(some 2), .mv (.val (.sc (.string ⟨#[]⟩))), none, []⟩])
    (.seq (.seq (.region [⟨(some 3), .mv (.tmp 0), none, []⟩,
      ⟨(some 4), .call (.val (.fn (.func 33) [] [])) [(.tmp 3), (.val (.sc (.int .i64 (1)))), (.val (.sc (.int .i64 (87))))], none, []⟩,
      ⟨(some 5), .un .not (.tmp 4), none, []⟩])
    (.cond (.tmp 5)
      (.seq (.region [⟨(some 2), .mv (.val (.sc (.string ⟨#[]⟩))), none, []⟩])
      .ret)
      .skip))
    (.seq (.region [⟨(some 6), .mv (.tmp 0), none, []⟩,
      ⟨(some 7), .indexA 88 1 (.val (.eptr g0 0)) (.tmp 6), none, []⟩,
      ⟨(some 8), .loadF none (.tmp 7), none, []⟩,
      ⟨(some 2), .mv (.tmp 8), none, []⟩])
    .ret))) }

def f_isa_other : AFunc :=
  { nparams := 1, ntmps := 23, pure := false, frz := true, results := [.tmp 2],
    body := (.seq (.region [⟨(some 2), .mv (.val (.sc (.int .i64 (0)))), none, []⟩])
    (.seq (.seq (.region [⟨(some 3), .mv (.tmp 0), none, []⟩])
    (.block 0 (.seq (.block 6 (.seq (.block 5 (.block 4 (.seq (.block 3 (.seq (.block 2 (.seq (.block 1 (.seq (.seq (.seq (.seq (.region [⟨(some 5), .bin .eql (.tmp 3) (.val (.sc (.int .i64 (28)))), none, []⟩,
                    ⟨(some 4), .mv (.tmp 5), none, []⟩])
                  (.cond (.tmp 4)
                    .skip
                    (.seq (.region [⟨(some 6), .bin .eql (.tmp 3) (.val (.sc (.int .i64 (29)))), none, []⟩,
                      ⟨(some 4), .mv (.tmp 6), none, []⟩])
                    (.cond (.tmp 4)
                      .skip
                      (.region [⟨(some 7), .bin .eql (.tmp 3) (.val (.sc (.int .i64 (30)))), none, []⟩,
                        ⟨(some 4), .mv (.tmp 7), none, []⟩])))))
                  (.cond (.tmp 4)
                    (.exit 1)
                    .skip))
                  (.seq (.seq (.seq (.region [⟨(some 9), .bin .eql (.tmp 3) (.val (.sc (.int .i64 (32)))), none, []⟩,
                    ⟨(some 8), .mv (.tmp 9), none, []⟩])
                  (.cond (.tmp 8)
                    .skip
                    (.seq (.region [⟨(some 10), .bin .eql (.tmp 3) (.val (.sc (.int .i64 (33)))), none, []⟩,
                      ⟨(some 8), .mv (.tmp 10), none, []⟩])
                    (.cond (.tmp 8)
                      .skip
                      (.region [⟨(some 11), .bin .eql (.tmp 3) (.val (.sc (.int .i64 (34)))), none, []⟩,
                        ⟨(some 8), .mv (.tmp 11), none, []⟩])))))
                  (.cond (.tmp 8)
                    (.exit 2)
                    .skip))
                  (.seq (.seq (.region [⟨(some 13), .bin .eql (.tmp 3) (.val (.sc (.int .i64 (63)))), none, []⟩,
                    ⟨(some 12), .mv (.tmp 13), none, []⟩])
                  (.cond (.tmp 12)
                    (.exit 3)
                    .skip))
                  (.seq (.seq (.region [⟨(some 15), .bin .eql (.tmp 3) (.val (.sc (.int .i64 (64)))), none, []⟩,
                    ⟨(some 14), .mv (.tmp 15), none, []⟩])
                  (.cond (.tmp 14)
                    (.exit 4)
                    .skip))
                  (.seq (.seq (.region [⟨(some 17), .bin .eql (.tmp 3) (.val (.sc (.int .i64 (65)))), none, []⟩,
                    ⟨(some 16), .mv (.tmp 17), none, []⟩])
                  (.cond (.tmp 16)
                    (.exit 5)
                    .skip))
                  (.seq (.seq (.region [⟨(some 19), .bin .eql (.tmp 3) (.val (.sc (.int .i64 (66)))), none, []⟩,
                    ⟨(some 18), .mv (.tmp 19), none, []⟩])
                  (.cond (.tmp 18)
                    .skip
                    (.region [⟨(some 20), .bin .eql (.tmp 3) (.val (.sc (.int .i64 (77)))), none, []⟩,
                      ⟨(some 18), .mv (.tmp 20), none, []⟩])))
                  (.cond (.tmp 18)
                    (.exit 6)
                    .skip)))))))
                  (.exit 0)))
                (.seq (.seq (.region [⟨(some 2), .mv (.val (.sc (.int .i64 (7)))), none, []⟩])
                .ret)
                (.exit 0))))
              (.seq (.seq (.region [⟨(some 2), .mv (.val (.sc (.int .i64 (8)))), none, []⟩])
              .ret)
              (.exit 0))))
            (.seq (.seq (.region [⟨(some 2), .mv (.val (.sc (.int .i64 (9)))), none, []⟩])
            .ret)
            (.exit 0)))))
        (.seq (.seq (.region [⟨(some 2), .mv (.val (.sc (.int .i64 (0)))), none, []⟩])
        .ret)
        (.exit 0))))
      (.seq (.seq (.region [⟨(some 2), .mv (.val (.sc (.int .i64 (10)))), none, []⟩])
      .ret)
      (.exit 0)))))
    (.seq (.seq (.region [⟨(some 21), .mv (.tmp 0), none, []⟩,
      ⟨(some 22), .bin .gtr (.tmp 21) (.val (.sc (.int .i64 (66)))), none, []⟩])
    (.cond (.tmp 22)
      (.seq (.region [⟨(some 2), .mv (.val (.sc (.int .i64 (11)))), none, []⟩])
      .ret)
      .skip))
    (.seq (.region [⟨(some 2), .mv (.val (.sc (.int .i64 (3)))), none, []⟩])
    .ret)))) }

def f_alu_plain : AFunc :=
  { nparams := 3, ntmps := 74, pure := false, frz := true, results := [.tmp 6],
    body := (.seq (.region [⟨(some 6), .mv (.val (.sc (.int .i64 (0)))), none, []⟩])
    (.seq (.region [⟨(some 8), .mv (.tmp 2), none, []⟩,
      ⟨(some 9), .conv .u64 (.tmp 8), none, []⟩,
      ⟨(some 10), .bin .and (.tmp 9) (.val (.sc (.int .u64 (63)))), none, []⟩,
      ⟨(some 7), .mv (.tmp 10), none, []⟩])
    (.seq (.seq (.region [⟨(some 11), .mv (.tmp 0), none, []⟩])
    (.block 0 (.seq (.seq (.region [⟨(some 13), .bin .eql (.tmp 11) (.val (.sc (.int .i64 (35)))), none, []⟩,
        ⟨(some 12), .mv (.tmp 13), none, []⟩])
      (.cond (.tmp 12)
        .skip
        (.region [⟨(some 14), .bin .eql (.tmp 11) (.val (.sc (.int .i64 (22)))), none, []⟩,
          ⟨(some 12), .mv (.tmp 14), none, []⟩])))
      (.cond (.tmp 12)
        (.seq (.region [⟨(some 15), .mv (.tmp 1), none, []⟩,
          ⟨(some 16), .mv (.tmp 2), none, []⟩,
          ⟨(some 17), .bin .add (.tmp 15) (.tmp 16), none, []⟩,
          ⟨(some 6), .mv (.tmp 17), none, []⟩])
        .ret)
        (.seq (.region [⟨(some 19), .bin .eql (.tmp 11) (.val (.sc (.int .i64 (36)))), none, []⟩,
          ⟨(some 18), .mv (.tmp 19), none, []⟩])
        (.cond (.tmp 18)
          (.seq (.region [⟨(some 20), .mv (.tmp 1), none, []⟩,
            ⟨(some 21), .mv (.tmp 2), none, []⟩,
            ⟨(some 22), .bin .sub (.tmp 20) (.tmp 21), none, []⟩,
            ⟨(some 6), .mv (.tmp 22), none, []⟩])
          .ret)
          (.seq (.seq (.region [⟨(some 24), .bin .eql (.tmp 11) (.val (.sc (.int .i64 (37)))), none, []⟩,
            ⟨(some 23), .mv (.tmp 24), none, []⟩])
          (.cond (.tmp 23)
            .skip
            (.region [⟨(some 25), .bin .eql (.tmp 11) (.val (.sc (.int .i64 (28)))), none, []⟩,
              ⟨(some 23), .mv (.tmp 25), none, []⟩])))
          (.cond (.tmp 23)
            (.seq (.region [⟨(some 26), .mv (.tmp 1), none, []⟩,
              ⟨(some 27), .mv (.tmp 7), none, []⟩,
              ⟨(some 28), .bin .shl (.tmp 26) (.tmp 27), none, []⟩,
              ⟨(some 6), .mv (.tmp 28), none, []⟩])
            .ret)
            (.seq (.seq (.region [⟨(some 30), .bin .eql (.tmp 11) (.val (.sc (.int .i64 (38)))), none, []⟩,
              ⟨(some 29), .mv (.tmp 30), none, []⟩])
            (.cond (.tmp 29)
              .skip
              (.region [⟨(some 31), .bin .eql (.tmp 11) (.val (.sc (.int .i64 (23)))), none, []⟩,
                ⟨(some 29), .mv (.tmp 31), none, []⟩])))
            (.cond (.tmp 29)
              (.seq (.region [⟨(some 32), .mv (.tmp 1), none, []⟩,
                ⟨(some 33), .mv (.tmp 2), none, []⟩,
                ⟨(some 34), .bin .lss (.tmp 32) (.tmp 33), none, []⟩,
                ⟨(some 35), .call (.val (.fn (.func 59) [] [])) [(.tmp 34)], none, []⟩,
                ⟨(some 6), .mv (.tmp 35), none, []⟩])
              .ret)
              (.seq (.seq (.region [⟨(some 37), .bin .eql (.tmp 11) (.val (.sc (.int .i64 (39)))), none, []⟩,
                ⟨(some 36), .mv (.tmp 37), none, []⟩])
              (.cond (.tmp 36)
                .skip
                (.region [⟨(some 38), .bin .eql (.tmp 11) (.val (.sc (.int .i64 (24)))), none, []⟩,
                  ⟨(some 36), .mv (.tmp 38), none, []⟩])))
              (.cond (.tmp 36)
                (.seq (.region [⟨(some 39), .mv (.tmp 1), none, []⟩,
                  ⟨(some 40), .conv .u64 (.tmp 39), none, []⟩,
                  ⟨(some 41), .mv (.tmp 2), none, []⟩,
                  ⟨(some 42), .conv .u64 (.tmp 41), none, []⟩,
                  ⟨(some 43), .bin .lss (.tmp 40) (.tmp 42), none, []⟩,
                  ⟨(some 44), .call (.val (.fn (.func 59) [] [])) [(.tmp 43)], none, []⟩,
                  ⟨(some 6), .mv (.tmp 44), none, []⟩])
                .ret)
                (.seq (.seq (.region [⟨(some 46), .bin .eql (.tmp 11) (.val (.sc (.int .i64 (40)))), none, []⟩,
                  ⟨(some 45), .mv (.tmp 46), none, []⟩])
                (.cond (.tmp 45)
                  .skip
                  (.region [⟨(some 47), .bin .eql (.tmp 11) (.val (.sc (.int .i64 (25)))), none, []⟩,
                    ⟨(some 45), .mv (.tmp 47), none, []⟩])))
                (.cond (.tmp 45)
                  (.seq (.region [⟨(some 48), .mv (.tmp 1), none, []⟩,
                    ⟨(some 49), .mv (.tmp 2), none, []⟩,
                    ⟨(some 50), .bin .xor (.tmp 48) (.tmp 49), none, []⟩,
                    ⟨(some 6), .mv (.tmp 50), none, []⟩])
                  .ret)
                  (.seq (.seq (.region [⟨(some 52), .bin .eql (.tmp 11) (.val (.sc (.int .i64 (41)))), none, []⟩,
                    ⟨(some 51), .mv (.tmp 52), none, []⟩])
                  (.cond (.tmp 51)
                    .skip
                    (.region [⟨(some 53), .bin .eql (.tmp 11) (.val (.sc (.int .i64 (29)))), none, []⟩,
                      ⟨(some 51), .mv (.tmp 53), none, []⟩])))
                  (.cond (.tmp 51)
                    (.seq (.region [⟨(some 54), .mv (.tmp 1), none, []⟩,
                      ⟨(some 55), .conv .u64 (.tmp 54), none, []⟩,
                      ⟨(some 56), .mv (.tmp 7), none, []⟩,
                      ⟨(some 57), .bin .shr (.tmp 55) (.tmp 56), none, []⟩,
                      ⟨(some 58), .conv .i64 (.tmp 57), none, []⟩,
                      ⟨(some 6), .mv (.tmp 58), none, []⟩])
                    .ret)
                    (.seq (.seq (.region [⟨(some 60), .bin .eql (.tmp 11) (.val (.sc (.int .i64 (42)))), none, []⟩,
                      ⟨(some 59), .mv (.tmp 60), none, []⟩])
                    (.cond (.tmp 59)
                      .skip
                      (.region [⟨(some 61), .bin .eql (.tmp 11) (.val (.sc (.int .i64 (30)))), none, []⟩,
                        ⟨(some 59), .mv (.tmp 61), none, []⟩])))
                    (.cond (.tmp 59)
                      (.seq (.region [⟨(some 62), .mv (.tmp 1), none, []⟩,
                        ⟨(some 63), .mv (.tmp 7), none, []⟩,
                        ⟨(some 64), .bin .shr (.tmp 62) (.tmp 63), none, []⟩,
                        ⟨(some 6), .mv (.tmp 64), none, []⟩])
                      .ret)
                      (.seq (.seq (.region [⟨(some 66), .bin .eql (.tmp 11) (.val (.sc (.int .i64 (43)))), none, []⟩,
                        ⟨(some 65), .mv (.tmp 66), none, []⟩])
                      (.cond (.tmp 65)
                        .skip
                        (.region [⟨(some 67), .bin .eql (.tmp 11) (.val (.sc (.int .i64 (26)))), none, []⟩,
                          ⟨(some 65), .mv (.tmp 67), none, []⟩])))
                      (.cond (.tmp 65)
                        (.seq (.region [⟨(some 68), .mv (.tmp 1), none, []⟩,
                          ⟨(some 69), .mv (.tmp 2), none, []⟩,
                          ⟨(some 70), .bin .or (.tmp 68) (.tmp 69), none, []⟩,
                          ⟨(some 6), .mv (.tmp 70), none, []⟩])
                        .ret)
                        .skip))))))))))))))))))))
    (.seq (.region [⟨(some 71), .mv (.tmp 1), none, []⟩,
      ⟨(some 72), .mv (.tmp 2), none, []⟩,
      ⟨(some 73), .bin .and (.tmp 71) (.tmp 72), none, []⟩,
      ⟨(some 6), .mv (.tmp 73), none, []⟩])
    .ret)))) }

def f_alu_short : AFunc :=
  { nparams := 3, ntmps := 45, pure := false, frz := true, results := [.tmp 6],
    body := (.seq (.region [⟨(some 6), .mv (.val (.sc (.int .i64 (0)))), none, []⟩])
    (.seq (.region [⟨(some 8), .mv (.tmp 2), none, []⟩,
      ⟨(some 9), .conv .u64 (.tmp 8), none, []⟩,
      ⟨(some 10), .bin .and (.tmp 9) (.val (.sc (.int .u64 (31)))), none, []⟩,
      ⟨(some 7), .mv (.tmp 10), none, []⟩])
    (.seq (.seq (.region [⟨(some 11), .mv (.tmp 0), none, []⟩])
    (.block 0 (.seq (.seq (.region [⟨(some 13), .bin .eql (.tmp 11) (.val (.sc (.int .i64 (45)))), none, []⟩,
        ⟨(some 12), .mv (.tmp 13), none, []⟩])
      (.cond (.tmp 12)
        .skip
        (.region [⟨(some 14), .bin .eql (.tmp 11) (.val (.sc (.int .i64 (31)))), none, []⟩,
          ⟨(some 12), .mv (.tmp 14), none, []⟩])))
      (.cond (.tmp 12)
        (.seq (.region [⟨(some 15), .mv (.tmp 1), none, []⟩,
          ⟨(some 16), .mv (.tmp 2), none, []⟩,
          ⟨(some 17), .bin .add (.tmp 15) (.tmp 16), none, []⟩,
          ⟨(some 18), .call (.val (.fn (.func 60) [] [])) [(.tmp 17)], none, []⟩,
          ⟨(some 6), .mv (.tmp 18), none, []⟩])
        .ret)
        (.seq (.region [⟨(some 20), .bin .eql (.tmp 11) (.val (.sc (.int .i64 (46)))), none, []⟩,
          ⟨(some 19), .mv (.tmp 20), none, []⟩])
        (.cond (.tmp 19)
          (.seq (.region [⟨(some 21), .mv (.tmp 1), none, []⟩,
            ⟨(some 22), .mv (.tmp 2), none, []⟩,
            ⟨(some 23), .bin .sub (.tmp 21) (.tmp 22), none, []⟩,
            ⟨(some 24), .call (.val (.fn (.func 60) [] [])) [(.tmp 23)], none, []⟩,
            ⟨(some 6), .mv (.tmp 24), none, []⟩])
          .ret)
          (.seq (.seq (.region [⟨(some 26), .bin .eql (.tmp 11) (.val (.sc (.int .i64 (47)))), none, []⟩,
            ⟨(some 25), .mv (.tmp 26), none, []⟩])
          (.cond (.tmp 25)
            .skip
            (.region [⟨(some 27), .bin .eql (.tmp 11) (.val (.sc (.int .i64 (32)))), none, []⟩,
              ⟨(some 25), .mv (.tmp 27), none, []⟩])))
          (.cond (.tmp 25)
            (.seq (.region [⟨(some 28), .mv (.tmp 1), none, []⟩,
              ⟨(some 29), .mv (.tmp 7), none, []⟩,
              ⟨(some 30), .bin .shl (.tmp 28) (.tmp 29), none, []⟩,
              ⟨(some 31), .call (.val (.fn (.func 60) [] [])) [(.tmp 30)], none, []⟩,
              ⟨(some 6), .mv (.tmp 31), none, []⟩])
            .ret)
            (.seq (.seq (.region [⟨(some 33), .bin .eql (.tmp 11) (.val (.sc (.int .i64 (48)))), none, []⟩,
              ⟨(some 32), .mv (.tmp 33), none, []⟩])
            (.cond (.tmp 32)
              .skip
              (.region [⟨(some 34), .bin .eql (.tmp 11) (.val (.sc (.int .i64 (33)))), none, []⟩,
                ⟨(some 32), .mv (.tmp 34), none, []⟩])))
            (.cond (.tmp 32)
              (.seq (.region [⟨(some 35), .mv (.tmp 1), none, []⟩,
                ⟨(some 36), .conv .u32 (.tmp 35), none, []⟩,
                ⟨(some 37), .mv (.tmp 7), none, []⟩,
                ⟨(some 38), .bin .shr (.tmp 36) (.tmp 37), none, []⟩,
                ⟨(some 39), .conv .i64 (.tmp 38), none, []⟩,
                ⟨(some 40), .call (.val (.fn (.func 60) [] [])) [(.tmp 39)], none, []⟩,
                ⟨(some 6), .mv (.tmp 40), none, []⟩])
              .ret)
              .skip))))))))))
    (.seq (.region [⟨(some 41), .mv (.tmp 1), none, []⟩,
      ⟨(some 42), .call (.val (.fn (.func 60) [] [])) [(.tmp 41)], none, []⟩,
      ⟨(some 43), .mv (.tmp 7), none, []⟩,
      ⟨(some 44), .bin .shr (.tmp 42) (.tmp 43), none, []⟩,
      ⟨(some 6), .mv (.tmp 44), none, []⟩])
    .ret)))) }

def f_alu_times : AFunc :=
  { nparams := 3, ntmps := 56, pure := false, frz := true, results := [.tmp 6],
    body := (.seq (.region [⟨(some 6), .mv (.val (.sc (.int .i64 (0)))), none, []⟩])
    (.seq (.region [⟨(some 12), .mv (.tmp 1), none, []⟩,
      ⟨(some 13), .mv (.tmp 2), none, []⟩,
      ⟨(some 14), .call (.val (.fn (.func 61) [] [])) [(.tmp 12), (.tmp 13)], none, []⟩,
      ⟨(some 11), .mv (.tmp 14), none, []⟩,
      ⟨(some 15), .extract (.tmp 11) 0, none, []⟩,
      ⟨(some 16), .extract (.tmp 11) 1, none, []⟩,
      ⟨(some 7), .mv (.tmp 15), none, []⟩,
      ⟨(some 8), .mv (.tmp 16), none, []⟩])
    (.seq (.region [⟨(some 18), .mv (.tmp 1), none, []⟩,
      ⟨(some 19), .conv .u64 (.tmp 18), none, []⟩,
      ⟨(some 20), .mv (.tmp 2), none, []⟩,
      ⟨(some 21), .conv .u64 (.tmp 20), none, []⟩,
      ⟨(some 22), .call (.val (.fn (.func 62) [] [])) [(.tmp 19), (.tmp 21)], none, []⟩,
      ⟨(some 17), .mv (.tmp 22), none, []⟩,
      ⟨(some 23), .extract (.tmp 17) 0, none, []⟩,
      ⟨(some 24), .extract (.tmp 17) 1, none, []⟩,
      ⟨(some 9), .mv (.tmp 23), none, []⟩,
      ⟨(some 10), .mv (.tmp 24), none, []⟩])
    (.seq (.seq (.region [⟨(some 25), .mv (.tmp 0), none, []⟩])
    (.block 0 (.seq (.region [⟨(some 27), .bin .eql (.tmp 25) (.val (.sc (.int .i64 (50)))), none, []⟩,
        ⟨(some 26), .mv (.tmp 27), none, []⟩])
      (.cond (.tmp 26)
        (.seq (.region [⟨(some 28), .mv (.tmp 1), none, []⟩,
          ⟨(some 29), .mv (.tmp 2), none, []⟩,
          ⟨(some 30), .bin .mul (.tmp 28) (.tmp 29), none, []⟩,
          ⟨(some 6), .mv (.tmp 30), none, []⟩])
        .ret)
        (.seq (.region [⟨(some 32), .bin .eql (.tmp 25) (.val (.sc (.int .i64 (51)))), none, []⟩,
          ⟨(some 31), .mv (.tmp 32), none, []⟩])
        (.cond (.tmp 31)
          (.seq (.region [⟨(some 33), .mv (.tmp 1), none, []⟩,
            ⟨(some 34), .mv (.tmp 2), none, []⟩,
            ⟨(some 35), .call (.val (.fn (.func 63) [] [])) [(.tmp 33), (.tmp 34), (.val (.sc (.bool true))), (.val (.sc (.bool true)))], none, []⟩,
            ⟨(some 6), .mv (.tmp 35), none, []⟩])
          .ret)
          (.seq (.region [⟨(some 37), .bin .eql (.tmp 25) (.val (.sc (.int .i64 (52)))), none, []⟩,
            ⟨(some 36), .mv (.tmp 37), none, []⟩])
          (.cond (.tmp 36)
            (.seq (.region [⟨(some 38), .mv (.tmp 1), none, []⟩,
              ⟨(some 39), .mv (.tmp 2), none, []⟩,
              ⟨(some 40), .call (.val (.fn (.func 63) [] [])) [(.tmp 38), (.tmp 39), (.val (.sc (.bool true))), (.val (.sc (.bool false)))], none, []⟩,
              ⟨(some 6), .mv (.tmp 40), none, []⟩])
            .ret)
            (.seq (.region [⟨(some 42), .bin .eql (.tmp 25) (.val (.sc (.int .i64 (53)))), none, []⟩,
              ⟨(some 41), .mv (.tmp 42), none, []⟩])
            (.cond (.tmp 41)
              (.seq (.region [⟨(some 43), .mv (.tmp 1), none, []⟩,
                ⟨(some 44), .mv (.tmp 2), none, []⟩,
                ⟨(some 45), .call (.val (.fn (.func 63) [] [])) [(.tmp 43), (.tmp 44), (.val (.sc (.bool false))), (.val (.sc (.bool false)))], none, []⟩,
                ⟨(some 6), .mv (.tmp 45), none, []⟩])
              .ret)
              (.seq (.region [⟨(some 47), .bin .eql (.tmp 25) (.val (.sc (.int .i64 (54)))), none, []⟩,
                ⟨(some 46), .mv (.tmp 47), none, []⟩])
              (.cond (.tmp 46)
                (.seq (.region [⟨(some 48), .mv (.tmp 7), none, []⟩,
                  ⟨(some 6), .mv (.tmp 48), none, []⟩])
                .ret)
                (.seq (.region [⟨(some 50), .bin .eql (.tmp 25) (.val (.sc (.int .i64 (55)))), none, []⟩,
                  ⟨(some 49), .mv (.tmp 50), none, []⟩])
                (.cond (.tmp 49)
                  (.seq (.region [⟨(some 51), .mv (.tmp 9), none, []⟩,
                    ⟨(some 6), .mv (.tmp 51), none, []⟩])
                  .ret)
                  (.seq (.region [⟨(some 53), .bin .eql (.tmp 25) (.val (.sc (.int .i64 (56)))), none, []⟩,
                    ⟨(some 52), .mv (.tmp 53), none, []⟩])
                  (.cond (.tmp 52)
                    (.seq (.region [⟨(some 54), .mv (.tmp 8), none, []⟩,
                      ⟨(some 6), .mv (.tmp 54), none, []⟩])
                    .ret)
                    .skip))))))))))))))))
    (.seq (.region [⟨(some 55), .mv (.tmp 10), none, []⟩,
      ⟨(some 6), .mv (.tmp 55), none, []⟩])
    .ret))))) }

def f_alu_shortTimes : AFunc :=
  { nparams := 3, ntmps := 50, pure := false, frz := true, results := [.tmp 6],
    body := (.seq (.region [⟨(some 6), .mv (.val (.sc (.int .i64 (0)))), none, []⟩])
    (.seq (.region [⟨(some 12), .mv (.tmp 1), none, []⟩,
      ⟨(some 13), .call (.val (.fn (.func 60) [] [])) [(.tmp 12)], none, []⟩,
      ⟨(some 14), .mv (.tmp 2), none, []⟩,
      ⟨(some 15), .call (.val (.fn (.func 60) [] [])) [(.tmp 14)], none, []⟩,
      ⟨(some 16), .call (.val (.fn (.func 61) [] [])) [(.tmp 13), (.tmp 15)], none, []⟩,
      ⟨(some 11), .mv (.tmp 16), none, []⟩,
      ⟨(some 17), .extract (.tmp 11) 0, none, []⟩,
      ⟨(some 18), .extract (.tmp 11) 1, none, []⟩,
      ⟨(some 7), .mv (.tmp 17), none, []⟩,
      ⟨(some 8), .mv (.tmp 18), none, []⟩])
    (.seq (.region [⟨(some 20), .mv (.tmp 1), none, []⟩,
      ⟨(some 21), .conv .u32 (.tmp 20), none, []⟩,
      ⟨(some 22), .conv .u64 (.tmp 21), none, []⟩,
      ⟨(some 23), .mv (.tmp 2), none, []⟩,
      ⟨(some 24), .conv .u32 (.tmp 23), none, []⟩,
      ⟨(some 25), .conv .u64 (.tmp 24), none, []⟩,
      ⟨(some 26), .call (.val (.fn (.func 62) [] [])) [(.tmp 22), (.tmp 25)], none, []⟩,
      ⟨(some 19), .mv (.tmp 26), none, []⟩,
      ⟨(some 27), .extract (.tmp 19) 0, none, []⟩,
      ⟨(some 28), .extract (.tmp 19) 1, none, []⟩,
      ⟨(some 9), .mv (.tmp 27), none, []⟩,
      ⟨(some 10), .mv (.tmp 28), none, []⟩])
    (.seq (.seq (.region [⟨(some 29), .mv (.tmp 0), none, []⟩])
    (.block 0 (.seq (.region [⟨(some 31), .bin .eql (.tmp 29) (.val (.sc (.int .i64 (58)))), none, []⟩,
        ⟨(some 30), .mv (.tmp 31), none, []⟩])
      (.cond (.tmp 30)
        (.seq (.region [⟨(some 32), .mv (.tmp 1), none, []⟩,
          ⟨(some 33), .mv (.tmp 2), none, []⟩,
          ⟨(some 34), .bin .mul (.tmp 32) (.tmp 33), none, []⟩,
          ⟨(some 35), .call (.val (.fn (.func 60) [] [])) [(.tmp 34)], none, []⟩,
          ⟨(some 6), .mv (.tmp 35), none, []⟩])
        .ret)
        (.seq (.region [⟨(some 37), .bin .eql (.tmp 29) (.val (.sc (.int .i64 (59)))), none, []⟩,
          ⟨(some 36), .mv (.tmp 37), none, []⟩])
        (.cond (.tmp 36)
          (.seq (.region [⟨(some 38), .mv (.tmp 7), none, []⟩,
            ⟨(some 39), .call (.val (.fn (.func 60) [] [])) [(.tmp 38)], none, []⟩,
            ⟨(some 6), .mv (.tmp 39), none, []⟩])
          .ret)
          (.seq (.region [⟨(some 41), .bin .eql (.tmp 29) (.val (.sc (.int .i64 (60)))), none, []⟩,
            ⟨(some 40), .mv (.tmp 41), none, []⟩])
          (.cond (.tmp 40)
            (.seq (.region [⟨(some 42), .mv (.tmp 9), none, []⟩,
              ⟨(some 43), .call (.val (.fn (.func 60) [] [])) [(.tmp 42)], none, []⟩,
              ⟨(some 6), .mv (.tmp 43), none, []⟩])
            .ret)
            (.seq (.region [⟨(some 45), .bin .eql (.tmp 29) (.val (.sc (.int .i64 (61)))), none, []⟩,
              ⟨(some 44), .mv (.tmp 45), none, []⟩])
            (.cond (.tmp 44)
              (.seq (.region [⟨(some 46), .mv (.tmp 8), none, []⟩,
                ⟨(some 47), .call (.val (.fn (.func 60) [] [])) [(.tmp 46)], none, []⟩,
                ⟨(some 6), .mv (.tmp 47), none, []⟩])
              .ret)
              .skip))))))))))
    (.seq (.region [⟨(some 48), .mv (.tmp 10), none, []⟩,
      ⟨(some 49), .call (.val (.fn (.func 60) [] [])) [(.tmp 48)], none, []⟩,
      ⟨(some 6), .mv (.tmp 49), none, []⟩])
    .ret))))) }

def f_dec_parts : AFunc :=
  { nparams := 2, ntmps := 69, pure := true, results := [.cell 4 (some 7)],
    body := (.seq (.region [⟨(some 4), .alloc 32 [(.sc (.int .i64 (0))), (.sc (.int .i64 (0))), (.sc (.int .i64 (0))), (.sc (.int .i64 (0))), (.sc (.int .i64 (0))), (.sc (.bool false)), (.sc (.bool false))], none, []⟩])
    (.seq (.region [⟨(some 10), .mv (.tmp 1), none, []⟩,
      ⟨(some 11), .call (.val (.fn (.func 37) [] [])) [(.tmp 10)], none, []⟩,
      ⟨(some 5), .mv (.tmp 11), none, []⟩])
    (.seq (.region [⟨(some 12), .mv (.tmp 1), none, []⟩,
      ⟨(some 13), .mv (.tmp 0), none, []⟩,
      ⟨(some 14), .mv (.tmp 5), none, []⟩,
      ⟨(some 15), .call (.val (.fn (.func 64) [] [])) [(.tmp 13), (.tmp 14)], none, []⟩,
      ⟨(some 16), .build [(.sc (.int .i64 (0))), (.sc (.int .i64 (0))), (.sc (.int .i64 (0))), (.sc (.int .i64 (0))), (.sc (.int .i64 (0))), (.sc (.bool false)), (.sc (.bool false))] [(0, 1, (.tmp 12)), (4, 1, (.tmp 15))], none, []⟩,
      ⟨(some 6), .alloc 32 [(.sc (.int .i64 (0))), (.sc (.int .i64 (0))), (.sc (.int .i64 (0))), (.sc (.int .i64 (0))), (.sc (.int .i64 (0))), (.sc (.bool false)), (.sc (.bool false))], none, []⟩,
      ⟨none, .store 7 (.tmp 6) (.tmp 16), none, []⟩])
    (.seq (.region [⟨(some 17), .mv (.tmp 0), none, []⟩,
      ⟨(some 18), .call (.val (.fn (.func 65) [] [])) [(.tmp 17), (.val (.sc (.int .i64 (7)))), (.val (.sc (.int .i64 (5))))], none, []⟩,
      ⟨(some 19), .mv (.tmp 0), none, []⟩,
      ⟨(some 20), .call (.val (.fn (.func 65) [] [])) [(.tmp 19), (.val (.sc (.int .i64 (15)))), (.val (.sc (.int .i64 (5))))], none, []⟩,
      ⟨(some 21), .mv (.tmp 0), none, []⟩,
      ⟨(some 22), .call (.val (.fn (.func 65) [] [])) [(.tmp 21), (.val (.sc (.int .i64 (20)))), (.val (.sc (.int .i64 (5))))], none, []⟩,
      ⟨(some 7), .mv (.tmp 18), none, []⟩,
      ⟨(some 8), .mv (.tmp 20), none, []⟩,
      ⟨(some 9), .mv (.tmp 22), none, []⟩])
    (.seq (.seq (.region [⟨(some 23), .mv (.tmp 5), none, []⟩])
    (.block 0 (.seq (.seq (.region [⟨(some 25), .bin .eql (.tmp 23) (.val (.sc (.int .i64 (1)))), none, []⟩,
        ⟨(some 24), .mv (.tmp 25), none, []⟩])
      (.cond (.tmp 24)
        .skip
        (.region [⟨(some 26), .bin .eql (.tmp 23) (.val (.sc (.int .i64 (2)))), none, []⟩,
          ⟨(some 24), .mv (.tmp 26), none, []⟩])))
      (.cond (.tmp 24)
        (.region [⟨(some 27), .mv (.tmp 7), none, []⟩,
          ⟨(some 28), .fieldAddr 1 (.tmp 6), none, []⟩,
          ⟨none, .store 1 (.tmp 28) (.tmp 27), none, []⟩])
        (.seq (.seq (.region [⟨(some 30), .bin .eql (.tmp 23) (.val (.sc (.int .i64 (4)))), none, []⟩,
          ⟨(some 29), .mv (.tmp 30), none, []⟩])
        (.cond (.tmp 29)
          .skip
          (.region [⟨(some 31), .bin .eql (.tmp 23) (.val (.sc (.int .i64 (5)))), none, []⟩,
            ⟨(some 29), .mv (.tmp 31), none, []⟩])))
        (.cond (.tmp 29)
          (.region [⟨(some 32), .mv (.tmp 8), none, []⟩,
            ⟨(some 33), .mv (.tmp 9), none, []⟩,
            ⟨(some 34), .fieldAddr 2 (.tmp 6), none, []⟩,
            ⟨none, .store 1 (.tmp 34) (.tmp 32), none, []⟩,
            ⟨(some 35), .fieldAddr 3 (.tmp 6), none, []⟩,
            ⟨none, .store 1 (.tmp 35) (.tmp 33), none, []⟩])
          (.seq (.seq (.region [⟨(some 37), .bin .eql (.tmp 23) (.val (.sc (.int .i64 (6)))), none, []⟩,
            ⟨(some 36), .mv (.tmp 37), none, []⟩])
          (.cond (.tmp 36)
            .skip
            (.region [⟨(some 38), .bin .eql (.tmp 23) (.val (.sc (.int .i64 (11)))), none, []⟩,
              ⟨(some 36), .mv (.tmp 38), none, []⟩])))
          (.cond (.tmp 36)
            (.region [⟨(some 39), .mv (.tmp 7), none, []⟩,
              ⟨(some 40), .mv (.tmp 8), none, []⟩,
              ⟨(some 41), .mv (.tmp 9), none, []⟩,
              ⟨(some 42), .fieldAddr 1 (.tmp 6), none, []⟩,
              ⟨none, .store 1 (.tmp 42) (.tmp 39), none, []⟩,
              ⟨(some 43), .fieldAddr 2 (.tmp 6), none, []⟩,
              ⟨none, .store 1 (.tmp 43) (.tmp 40), none, []⟩,
              ⟨(some 44), .fieldAddr 3 (.tmp 6), none, []⟩,
              ⟨none, .store 1 (.tmp 44) (.tmp 41), none, []⟩])
            (.seq (.seq (.region [⟨(some 46), .bin .eql (.tmp 23) (.val (.sc (.int .i64 (3)))), none, []⟩,
              ⟨(some 45), .mv (.tmp 46), none, []⟩])
            (.cond (.tmp 45)
              .skip
              (.seq (.region [⟨(some 47), .bin .eql (.tmp 23) (.val (.sc (.int .i64 (7)))), none, []⟩,
                ⟨(some 45), .mv (.tmp 47), none, []⟩])
              (.cond (.tmp 45)
                .skip
                (.seq (.region [⟨(some 48), .bin .eql (.tmp 23) (.val (.sc (.int .i64 (8)))), none, []⟩,
                  ⟨(some 45), .mv (.tmp 48), none, []⟩])
                (.cond (.tmp 45)
                  .skip
                  (.region [⟨(some 49), .bin .eql (.tmp 23) (.val (.sc (.int .i64 (10)))), none, []⟩,
                    ⟨(some 45), .mv (.tmp 49), none, []⟩])))))))
            (.cond (.tmp 45)
              (.region [⟨(some 50), .mv (.tmp 7), none, []⟩,
                ⟨(some 51), .mv (.tmp 8), none, []⟩,
                ⟨(some 52), .fieldAddr 1 (.tmp 6), none, []⟩,
                ⟨none, .store 1 (.tmp 52) (.tmp 50), none, []⟩,
                ⟨(some 53), .fieldAddr 2 (.tmp 6), none, []⟩,
                ⟨none, .store 1 (.tmp 53) (.tmp 51), none, []⟩])
              .skip))))))))))
    (.seq (.seq (.region [⟨(some 54), .mv (.tmp 5), none, []⟩,
      ⟨(some 55), .bin .eql (.tmp 54) (.val (.sc (.int .i64 (10)))), none, []⟩,
      ⟨(some 56), .mv (.tmp 55), none, []⟩,
      ⟨(some 57), .mv (.tmp 5), (some (56, false)), []⟩,
      ⟨(some 58), .bin .eql (.tmp 57) (.val (.sc (.int .i64 (11)))), (some (56, false)), []⟩,
      ⟨(some 59), .pick (.tmp 56) (.val (.sc (.bool true))) (.tmp 58), none, []⟩])
    (.cond (.tmp 59)
      (.region [⟨(some 60), .mv (.tmp 0), none, []⟩,
        ⟨(some 61), .call (.val (.fn (.func 65) [] [])) [(.tmp 60), (.val (.sc (.int .i64 (26)))), (.val (.sc (.int .i64 (1))))], none, []⟩,
        ⟨(some 62), .bin .eql (.tmp 61) (.val (.sc (.int .i64 (1)))), none, []⟩,
        ⟨(some 63), .mv (.tmp 0), none, []⟩,
        ⟨(some 64), .call (.val (.fn (.func 65) [] [])) [(.tmp 63), (.val (.sc (.int .i64 (25)))), (.val (.sc (.int .i64 (1))))], none, []⟩,
        ⟨(some 65), .bin .eql (.tmp 64) (.val (.sc (.int .i64 (1)))), none, []⟩,
        ⟨(some 66), .fieldAddr 5 (.tmp 6), none, []⟩,
        ⟨none, .store 1 (.tmp 66) (.tmp 62), none, []⟩,
        ⟨(some 67), .fieldAddr 6 (.tmp 6), none, []⟩,
        ⟨none, .store 1 (.tmp 67) (.tmp 65), none, []⟩])
      .skip))
    (.seq (.region [⟨(some 68), .load (some 7) (.tmp 6), none, []⟩,
      ⟨none, .store 7 (.tmp 4) (.tmp 68), none, []⟩])
    .ret))))))) }

def f_dec_operation : AFunc :=
  { nparams := 1, ntmps := 71, pure := true, results := [.tmp 2],
    body := (.seq (.region [⟨(some 2), .mv (.val (.sc (.int .i64 (0)))), none, []⟩])
    (.seq (.region [⟨(some 5), .mv (.tmp 0), none, []⟩,
      ⟨(some 6), .call (.val (.fn (.func 65) [] [])) [(.tmp 5), (.val (.sc (.int .i64 (12)))), (.val (.sc (.int .i64 (3))))], none, []⟩,
      ⟨(some 7), .mv (.tmp 0), none, []⟩,
      ⟨(some 8), .call (.val (.fn (.func 65) [] [])) [(.tmp 7), (.val (.sc (.int .i64 (25)))), (.val (.sc (.int .i64 (7))))], none, []⟩,
      ⟨(some 3), .mv (.tmp 6), none, []⟩,
      ⟨(some 4), .mv (.tmp 8), none, []⟩])
    (.seq (.seq (.region [⟨(some 9), .mv (.tmp 0), none, []⟩,
      ⟨(some 10), .call (.val (.fn (.func 65) [] [])) [(.tmp 9), (.val (.sc (.int .i64 (0)))), (.val (.sc (.int .i64 (7))))], none, []⟩])
    (.block 0 (.seq (.region [⟨(some 12), .bin .eql (.tmp 10) (.val (.sc (.int .i64 (55)))), none, []⟩,
        ⟨(some 11), .mv (.tmp 12), none, []⟩])
      (.cond (.tmp 11)
        (.seq (.region [⟨(some 2), .mv (.val (.sc (.int .i64 (1)))), none, []⟩])
        .ret)
        (.seq (.region [⟨(some 14), .bin .eql (.tmp 10) (.val (.sc (.int .i64 (23)))), none, []⟩,
          ⟨(some 13), .mv (.tmp 14), none, []⟩])
        (.cond (.tmp 13)
          (.seq (.region [⟨(some 2), .mv (.val (.sc (.int .i64 (2)))), none, []⟩])
          .ret)
          (.seq (.region [⟨(some 16), .bin .eql (.tmp 10) (.val (.sc (.int .i64 (111)))), none, []⟩,
            ⟨(some 15), .mv (.tmp 16), none, []⟩])
          (.cond (.tmp 15)
            (.seq (.region [⟨(some 2), .mv (.val (.sc (.int .i64 (3)))), none, []⟩])
            .ret)
            (.seq (.region [⟨(some 18), .bin .eql (.tmp 10) (.val (.sc (.int .i64 (103)))), none, []⟩,
              ⟨(some 17), .mv (.tmp 18), none, []⟩])
            (.cond (.tmp 17)
              (.seq (.region [⟨(some 19), .mv (.tmp 3), none, []⟩,
                ⟨(some 20), .bslice false 3 1 [(.sc (.int .i64 (0)))] 1 [(0, (.val (.sc (.int .i64 (0)))))], none, []⟩,
                ⟨(some 21), .call (.val (.fn (.func 66) [] [])) [(.val (.sc (.int .i64 (4)))), (.tmp 19), (.tmp 20)], none, []⟩,
                ⟨(some 2), .mv (.tmp 21), none, []⟩])
              .ret)
              (.seq (.region [⟨(some 23), .bin .eql (.tmp 10) (.val (.sc (.int .i64 (99)))), none, []⟩,
                ⟨(some 22), .mv (.tmp 23), none, []⟩])
              (.cond (.tmp 22)
                (.seq (.region [⟨(some 24), .mv (.tmp 3), none, []⟩,
                  ⟨(some 25), .bslice false 3 1 [(.sc (.int .i64 (0)))] 6 [(0, (.val (.sc (.int .i64 (0))))), (1, (.val (.sc (.int .i64 (1))))), (2, (.val (.sc (.int .i64 (4))))), (3, (.val (.sc (.int .i64 (5))))), (4, (.val (.sc (.int .i64 (6))))), (5, (.val (.sc (.int .i64 (7)))))], none, []⟩,
                  ⟨(some 26), .call (.val (.fn (.func 66) [] [])) [(.val (.sc (.int .i64 (5)))), (.tmp 24), (.tmp 25)], none, []⟩,
                  ⟨(some 2), .mv (.tmp 26), none, []⟩])
                .ret)
                (.seq (.region [⟨(some 28), .bin .eql (.tmp 10) (.val (.sc (.int .i64 (3)))), none, []⟩,
                  ⟨(some 27), .mv (.tmp 28), none, []⟩])
                (.cond (.tmp 27)
                  (.seq (.region [⟨(some 29), .mv (.tmp 3), none, []⟩,
                    ⟨(some 30), .bslice false 3 1 [(.sc (.int .i64 (0)))] 7 [(0, (.val (.sc (.int .i64 (0))))), (1, (.val (.sc (.int .i64 (1))))), (2, (.val (.sc (.int .i64 (2))))), (3, (.val (.sc (.int .i64 (3))))), (4, (.val (.sc (.int .i64 (4))))), (5, (.val (.sc (.int .i64 (5))))), (6, (.val (.sc (.int .i64 (6)))))], none, []⟩,
                    ⟨(some 31), .call (.val (.fn (.func 66) [] [])) [(.val (.sc (.int .i64 (11)))), (.tmp 29), (.tmp 30)], none, []⟩,
                    ⟨(some 2), .mv (.tmp 31), none, []⟩])
                  .ret)
                  (.seq (.region [⟨(some 33), .bin .eql (.tmp 10) (.val (.sc (.int .i64 (35)))), none, []⟩,
                    ⟨(some 32), .mv (.tmp 33), none, []⟩])
                  (.cond (.tmp 32)
                    (.seq (.region [⟨(some 34), .mv (.tmp 3), none, []⟩,
                      ⟨(some 35), .bslice false 3 1 [(.sc (.int .i64 (0)))] 4 [(0, (.val (.sc (.int .i64 (0))))), (1, (.val (.sc (.int .i64 (1))))), (2, (.val (.sc (.int .i64 (2))))), (3, (.val (.sc (.int .i64 (3)))))], none, []⟩,
                      ⟨(some 36), .call (.val (.fn (.func 66) [] [])) [(.val (.sc (.int .i64 (18)))), (.tmp 34), (.tmp 35)], none, []⟩,
                      ⟨(some 2), .mv (.tmp 36), none, []⟩])
                    .ret)
                    (.seq (.region [⟨(some 38), .bin .eql (.tmp 10) (.val (.sc (.int .i64 (19)))), none, []⟩,
                      ⟨(some 37), .mv (.tmp 38), none, []⟩])
                    (.cond (.tmp 37)
                      (.seq (.region [⟨(some 39), .mv (.tmp 0), none, []⟩,
                        ⟨(some 40), .mv (.tmp 3), none, []⟩,
                        ⟨(some 41), .call (.val (.fn (.func 67) [] [])) [(.tmp 39), (.tmp 40)], none, []⟩,
                        ⟨(some 2), .mv (.tmp 41), none, []⟩])
                      .ret)
                      (.seq (.region [⟨(some 43), .bin .eql (.tmp 10) (.val (.sc (.int .i64 (27)))), none, []⟩,
                        ⟨(some 42), .mv (.tmp 43), none, []⟩])
                      (.cond (.tmp 42)
                        (.seq (.region [⟨(some 44), .mv (.tmp 3), none, []⟩,
                          ⟨(some 45), .mv (.tmp 4), none, []⟩,
                          ⟨(some 46), .call (.val (.fn (.func 68) [] [])) [(.tmp 44), (.tmp 45)], none, []⟩,
                          ⟨(some 2), .mv (.tmp 46), none, []⟩])
                        .ret)
                        (.seq (.region [⟨(some 48), .bin .eql (.tmp 10) (.val (.sc (.int .i64 (51)))), none, []⟩,
                          ⟨(some 47), .mv (.tmp 48), none, []⟩])
                        (.cond (.tmp 47)
                          (.seq (.region [⟨(some 49), .mv (.tmp 3), none, []⟩,
                            ⟨(some 50), .mv (.tmp 4), none, []⟩,
                            ⟨(some 51), .call (.val (.fn (.func 69) [] [])) [(.tmp 49), (.tmp 50)], none, []⟩,
                            ⟨(some 2), .mv (.tmp 51), none, []⟩])
                          .ret)
                          (.seq (.region [⟨(some 53), .bin .eql (.tmp 10) (.val (.sc (.int .i64 (59)))), none, []⟩,
                            ⟨(some 52), .mv (.tmp 53), none, []⟩])
                          (.cond (.tmp 52)
                            (.seq (.region [⟨(some 54), .mv (.tmp 3), none, []⟩,
                              ⟨(some 55), .mv (.tmp 4), none, []⟩,
                              ⟨(some 56), .call (.val (.fn (.func 70) [] [])) [(.tmp 54), (.tmp 55)], none, []⟩,
                              ⟨(some 2), .mv (.tmp 56), none, []⟩])
                            .ret)
                            (.seq (.region [⟨(some 58), .bin .eql (.tmp 10) (.val (.sc (.int .i64 (47)))), none, []⟩,
                              ⟨(some 57), .mv (.tmp 58), none, []⟩])
                            (.cond (.tmp 57)
                              (.seq (.region [⟨(some 59), .mv (.tmp 0), none, []⟩,
                                ⟨(some 60), .mv (.tmp 3), none, []⟩,
                                ⟨(some 61), .call (.val (.fn (.func 71) [] [])) [(.tmp 59), (.tmp 60)], none, []⟩,
                                ⟨(some 2), .mv (.tmp 61), none, []⟩])
                              .ret)
                              (.seq (.region [⟨(some 63), .bin .eql (.tmp 10) (.val (.sc (.int .i64 (115)))), none, []⟩,
                                ⟨(some 62), .mv (.tmp 63), none, []⟩])
                              (.cond (.tmp 62)
                                (.seq (.region [⟨(some 64), .mv (.tmp 0), none, []⟩,
                                  ⟨(some 65), .call (.val (.fn (.func 72) [] [])) [(.tmp 64)], none, []⟩,
                                  ⟨(some 2), .mv (.tmp 65), none, []⟩])
                                .ret)
                                (.seq (.region [⟨(some 67), .bin .eql (.tmp 10) (.val (.sc (.int .i64 (15)))), none, []⟩,
                                  ⟨(some 66), .mv (.tmp 67), none, []⟩])
                                (.cond (.tmp 66)
                                  (.seq (.region [⟨(some 68), .mv (.tmp 3), none, []⟩,
                                    ⟨(some 69), .bslice false 3 1 [(.sc (.int .i64 (0)))] 1 [(0, (.val (.sc (.int .i64 (0)))))], none, []⟩,
                                    ⟨(some 70), .call (.val (.fn (.func 66) [] [])) [(.val (.sc (.int .i64 (63)))), (.tmp 68), (.tmp 69)], none, []⟩,
                                    ⟨(some 2), .mv (.tmp 70), none, []⟩])
                                  .ret)
                                  .skip))))))))))))))))))))))))))))))
    (.seq (.region [⟨(some 2), .mv (.val (.sc (.int .i64 (0)))), none, []⟩])
    .ret)))) }

def f_enc_Encode : AFunc :=
  { nparams := 1, ntmps := 43, pure := true, bz := [32], results := [.tmp 2, .tmp 3],
    body := (.seq (.region [⟨(some 1), .boxF 32 (.tmp 0), none, []⟩,
      ⟨(some 2), .mv (.val (.sc (.int .u32 (0)))), none, []⟩,
      ⟨(some 3), .mv (.val (.sc (.int .i64 (0)))), none, []⟩])
    (.seq (.seq (.region [⟨(some 7), .load (some 7) (.tmp 1), none, []⟩,
      ⟨(some 8), .call (.val (.fn (.func 31) [] [])) [(.tmp 7)], none, []⟩,
      ⟨(some 9), .un .not (.tmp 8), none, []⟩])
    (.cond (.tmp 9)
      (.seq (.region [⟨(some 2), .mv (.val (.sc (.int .u32 (0)))), none, []⟩,
        ⟨(some 3), .mv (.val (.sc (.int .i64 (1)))), none, []⟩])
      .ret)
      .skip))
    (.seq (.region [⟨(some 10), .fieldAddr 0 (.tmp 1), none, []⟩,
      ⟨(some 11), .load none (.tmp 10), none, []⟩,
      ⟨(some 12), .call (.val (.fn (.func 73) [] [])) [(.tmp 11)], none, []⟩,
      ⟨(some 4), .alloc 105 [(.sc (.int .u32 (0))), (.sc (.int .u32 (0))), (.sc (.int .u32 (0)))], none, []⟩,
      ⟨none, .store 3 (.tmp 4) (.tmp 12), none, []⟩])
    (.seq (.region [⟨(some 13), .fieldAddr 0 (.tmp 4), none, []⟩,
      ⟨(some 14), .load none (.tmp 13), none, []⟩,
      ⟨(some 15), .build [(.sc (.int .u32 (0))), (.sc (.int .i64 (0))), (.sc (.int .i64 (0)))] [(0, 1, (.tmp 14)), (1, 1, (.val (.sc (.int .i64 (0))))), (2, 1, (.val (.sc (.int .i64 (7)))))], none, []⟩,
      ⟨(some 16), .fieldAddr 1 (.tmp 4), none, []⟩,
      ⟨(some 17), .load none (.tmp 16), none, []⟩,
      ⟨(some 18), .build [(.sc (.int .u32 (0))), (.sc (.int .i64 (0))), (.sc (.int .i64 (0)))] [(0, 1, (.tmp 17)), (1, 1, (.val (.sc (.int .i64 (12))))), (2, 1, (.val (.sc (.int .i64 (3)))))], none, []⟩,
      ⟨(some 19), .fieldAddr 2 (.tmp 4), none, []⟩,
      ⟨(some 20), .load none (.tmp 19), none, []⟩,
      ⟨(some 21), .build [(.sc (.int .u32 (0))), (.sc (.int .i64 (0))), (.sc (.int .i64 (0)))] [(0, 1, (.tmp 20)), (1, 1, (.val (.sc (.int .i64 (25))))), (2, 1, (.val (.sc (.int .i64 (7)))))], none, []⟩,
      ⟨(some 22), .bslice false 109 3 [(.sc (.int .u32 (0))), (.sc (.int .i64 (0))), (.sc (.int .i64 (0)))] 3 [(0, (.tmp 15)), (1, (.tmp 18)), (2, (.tmp 21))], none, []⟩,
      ⟨(some 23), .call (.val (.fn (.func 74) [] [])) [(.tmp 22)], none, []⟩,
      ⟨(some 5), .mv (.tmp 23), none, []⟩])
    (.seq (.seq (.region [⟨(some 24), .fieldAddr 0 (.tmp 1), none, []⟩,
      ⟨(some 25), .load none (.tmp 24), none, []⟩,
      ⟨(some 26), .call (.val (.fn (.func 37) [] [])) [(.tmp 25)], none, []⟩,
      ⟨(some 6), .mv (.tmp 26), none, []⟩])
    (.seq (.region [⟨(some 27), .mv (.tmp 6), none, []⟩,
      ⟨(some 28), .bin .eql (.tmp 27) (.val (.sc (.int .i64 (1)))), none, []⟩,
      ⟨(some 29), .mv (.tmp 28), none, []⟩,
      ⟨(some 30), .mv (.tmp 6), (some (29, false)), []⟩,
      ⟨(some 31), .bin .eql (.tmp 30) (.val (.sc (.int .i64 (2)))), (some (29, false)), []⟩,
      ⟨(some 32), .pick (.tmp 29) (.val (.sc (.bool true))) (.tmp 31), none, []⟩])
    (.cond (.tmp 32)
      (.region [⟨(some 33), .fieldAddr 0 (.tmp 4), none, []⟩,
        ⟨(some 34), .load none (.tmp 33), none, []⟩,
        ⟨(some 5), .mv (.tmp 34), none, []⟩])
      .skip)))
    (.seq (.region [⟨(some 35), .mv (.tmp 5), none, []⟩,
      ⟨(some 36), .loadF (some 7) (.tmp 1), none, []⟩,
      ⟨(some 37), .call (.val (.fn (.func 75) [] [])) [(.tmp 36)], none, []⟩,
      ⟨(some 38), .loadF (some 7) (.tmp 1), none, []⟩,
      ⟨(some 39), .call (.val (.fn (.func 76) [] [])) [(.tmp 38)], none, []⟩,
      ⟨(some 40), .append 109 3 (.tmp 37) (.tmp 39), none, []⟩,
      ⟨(some 41), .call (.val (.fn (.func 74) [] [])) [(.tmp 40)], none, []⟩,
      ⟨(some 42), .bin .or (.tmp 35) (.tmp 41), none, []⟩,
      ⟨(some 2), .mv (.tmp 42), none, []⟩,
      ⟨(some 3), .mv (.val (.sc (.int .i64 (0)))), none, []⟩])
    .ret)))))) }

def f_word_Fits : AFunc :=
  { nparams := 2, ntmps := 23, pure := false, frz := true, results := [.tmp 4],
    body := (.seq (.region [⟨(some 4), .mv (.val (.sc (.bool false))), none, []⟩])
    (.seq (.seq (.region [⟨(some 6), .mv (.tmp 1), none, []⟩,
      ⟨(some 7), .bin .lss (.tmp 6) (.val (.sc (.int .i64 (1)))), none, []⟩,
      ⟨(some 8), .mv (.tmp 7), none, []⟩,
      ⟨(some 9), .mv (.tmp 1), (some (8, false)), []⟩,
      ⟨(some 10), .bin .gtr (.tmp 9) (.val (.sc (.int .i64 (64)))), (some (8, false)), []⟩,
      ⟨(some 11), .pick (.tmp 8) (.val (.sc (.bool true))) (.tmp 10), none, []⟩])
    (.cond (.tmp 11)
      (.seq (.region [⟨(some 4), .mv (.val (.sc (.bool false))), none, []⟩])
      .ret)
      .skip))
    (.seq (.region [⟨(some 12), .mv (.tmp 1), none, []⟩,
      ⟨(some 13), .bin .sub (.val (.sc (.int .i64 (64)))) (.tmp 12), none, []⟩,
      ⟨(some 5), .mv (.tmp 13), none, []⟩])
    (.seq (.region [⟨(some 14), .mv (.tmp 0), none, []⟩,
      ⟨(some 15), .conv .u64 (.tmp 14), none, []⟩,
      ⟨(some 16), .mv (.tmp 5), none, []⟩,
      ⟨(some 17), .bin .shl (.tmp 15) (.tmp 16), none, []⟩,
      ⟨(some 18), .conv .i64 (.tmp 17), none, []⟩,
      ⟨(some 19), .mv (.tmp 5), none, []⟩,
      ⟨(some 20), .bin .shr (.tmp 18) (.tmp 19), none, []⟩,
      ⟨(some 21), .mv (.tmp 0), none, []⟩,
      ⟨(some 22), .bin .eql (.tmp 20) (.tmp 21), none, []⟩,
      ⟨(some 4), .mv (.tmp 22), none, []⟩])
    .ret)))) }

def f_alu_flag : AFunc :=
  { nparams := 1, ntmps := 4, pure := false, frz := true, results := [.tmp 2],
    body := (.seq (.region [⟨(some 2), .mv (.val (.sc (.int .i64 (0)))), none, []⟩])
    (.seq (.seq (.region [⟨(some 3), .mv (.tmp 0), none, []⟩])
    (.cond (.tmp 3)
      (.seq (.region [⟨(some 2), .mv (.val (.sc (.int .i64 (1)))), none, []⟩])
      .ret)
      .skip))
    (.seq (.region [⟨(some 2), .mv (.val (.sc (.int .i64 (0)))), none, []⟩])
    .ret))) }

def f_alu_half : AFunc :=
  { nparams := 1, ntmps := 6, pure := false, frz := true, results := [.tmp 2],
    body := (.seq (.region [⟨(some 2), .mv (.val (.sc (.int .i64 (0)))), none, []⟩])
    (.seq (.region [⟨(some 3), .mv (.tmp 0), none, []⟩,
      ⟨(some 4), .conv .i32 (.tmp 3), none, []⟩,
      ⟨(some 5), .conv .i64 (.tmp 4), none, []⟩,
      ⟨(some 2), .mv (.tmp 5), none, []⟩])
    .ret)) }

def f_alu_quotient : AFunc :=
  { nparams := 2, ntmps := 20, pure := false, frz := true, results := [.tmp 4, .tmp 5],
    body := (.seq (.region [⟨(some 4), .mv (.val (.sc (.int .i64 (0)))), none, []⟩,
      ⟨(some 5), .mv (.val (.sc (.int .i64 (0)))), none, []⟩])
    (.seq (.seq (.region [⟨(some 6), .mv (.tmp 1), none, []⟩])
    (.block 0 (.seq (.region [⟨(some 8), .bin .eql (.tmp 6) (.val (.sc (.int .i64 (0)))), none, []⟩,
        ⟨(some 7), .mv (.tmp 8), none, []⟩])
      (.cond (.tmp 7)
        (.seq (.region [⟨(some 9), .mv (.tmp 0), none, []⟩,
          ⟨(some 4), .mv (.val (.sc (.int .i64 (-1)))), none, []⟩,
          ⟨(some 5), .mv (.tmp 9), none, []⟩])
        .ret)
        (.seq (.region [⟨(some 11), .bin .eql (.tmp 6) (.val (.sc (.int .i64 (-1)))), none, []⟩,
          ⟨(some 10), .mv (.tmp 11), none, []⟩])
        (.cond (.tmp 10)
          (.seq (.region [⟨(some 12), .mv (.tmp 0), none, []⟩,
            ⟨(some 13), .un .neg (.tmp 12), none, []⟩,
            ⟨(some 4), .mv (.tmp 13), none, []⟩,
            ⟨(some 5), .mv (.val (.sc (.int .i64 (0)))), none, []⟩])
          .ret)
          .skip))))))
    (.seq (.region [⟨(some 14), .mv (.tmp 0), none, []⟩,
      ⟨(some 15), .mv (.tmp 1), none, []⟩,
      ⟨(some 16), .bin .quo (.tmp 14) (.tmp 15), none, []⟩,
      ⟨(some 17), .mv (.tmp 0), none, []⟩,
      ⟨(some 18), .mv (.tmp 1), none, []⟩,
      ⟨(some 19), .bin .rem (.tmp 17) (.tmp 18), none, []⟩,
      ⟨(some 4), .mv (.tmp 16), none, []⟩,
      ⟨(some 5), .mv (.tmp 19), none, []⟩])
    .ret))) }

def f_alu_quotientU : AFunc :=
  { nparams := 2, ntmps := 18, pure := false, frz := true, results := [.tmp 4, .tmp 5],
    body := (.seq (.region [⟨(some 4), .mv (.val (.sc (.int .i64 (0)))), none, []⟩,
      ⟨(some 5), .mv (.val (.sc (.int .i64 (0)))), none, []⟩])
    (.seq (.seq (.region [⟨(some 6), .mv (.tmp 1), none, []⟩,
      ⟨(some 7), .bin .eql (.tmp 6) (.val (.sc (.int .u64 (0)))), none, []⟩])
    (.cond (.tmp 7)
      (.seq (.region [⟨(some 8), .mv (.tmp 0), none, []⟩,
        ⟨(some 9), .conv .i64 (.tmp 8), none, []⟩,
        ⟨(some 4), .mv (.val (.sc (.int .i64 (-1)))), none, []⟩,
        ⟨(some 5), .mv (.tmp 9), none, []⟩])
      .ret)
      .skip))
    (.seq (.region [⟨(some 10), .mv (.tmp 0), none, []⟩,
      ⟨(some 11), .mv (.tmp 1), none, []⟩,
      ⟨(some 12), .bin .quo (.tmp 10) (.tmp 11), none, []⟩,
      ⟨(some 13), .conv .i64 (.tmp 12), none, []⟩,
      ⟨(some 14), .mv (.tmp 0), none, []⟩,
      ⟨(some 15), .mv (.tmp 1), none, []⟩,
      ⟨(some 16), .bin .rem (.tmp 14) (.tmp 15), none, []⟩,
      ⟨(some 17), .conv .i64 (.tmp 16), none, []⟩,
      ⟨(some 4), .mv (.tmp 13), none, []⟩,
      ⟨(some 5), .mv (.tmp 17), none, []⟩])
    .ret))) }

def f_alu_high : AFunc :=
  { nparams := 4, ntmps := 39, pure := false, frz := true, results := [.tmp 8],
    body := (.seq (.region [⟨(some 8), .mv (.val (.sc (.int .i64 (0)))), none, []⟩])
    (.seq (.region [⟨(some 13), .mv (.tmp 0), none, []⟩,
      ⟨(some 14), .conv .u64 (.tmp 13), none, []⟩,
      ⟨(some 15), .mv (.tmp 1), none, []⟩,
      ⟨(some 16), .conv .u64 (.tmp 15), none, []⟩,
      ⟨(some 17), .call (.val (.fn (.func 77) [] [])) [(.tmp 14), (.tmp 16)], none, []⟩,
      ⟨(some 12), .mv (.tmp 17), none, []⟩,
      ⟨(some 18), .extract (.tmp 12) 0, none, []⟩,
      ⟨(some 19), .extract (.tmp 12) 1, none, []⟩,
      ⟨(some 9), .mv (.tmp 18), none, []⟩,
      ⟨(some 10), .mv (.tmp 19), none, []⟩])
    (.seq (.region [⟨(some 20), .mv (.tmp 9), none, []⟩,
      ⟨(some 21), .conv .i64 (.tmp 20), none, []⟩,
      ⟨(some 11), .mv (.tmp 21), none, []⟩])
    (.seq (.seq (.region [⟨(some 22), .mv (.tmp 2), none, []⟩,
      ⟨(some 23), .mv (.tmp 22), none, []⟩,
      ⟨(some 24), .mv (.tmp 0), (some (23, true)), []⟩,
      ⟨(some 25), .bin .lss (.tmp 24) (.val (.sc (.int .i64 (0)))), (some (23, true)), []⟩,
      ⟨(some 26), .pick (.tmp 23) (.tmp 25) (.val (.sc (.bool false))), none, []⟩])
    (.cond (.tmp 26)
      (.region [⟨(some 27), .mv (.tmp 11), none, []⟩,
        ⟨(some 28), .mv (.tmp 1), none, []⟩,
        ⟨(some 29), .bin .sub (.tmp 27) (.tmp 28), none, []⟩,
        ⟨(some 11), .mv (.tmp 29), none, []⟩])
      .skip))
    (.seq (.seq (.region [⟨(some 30), .mv (.tmp 3), none, []⟩,
      ⟨(some 31), .mv (.tmp 30), none, []⟩,
      ⟨(some 32), .mv (.tmp 1), (some (31, true)), []⟩,
      ⟨(some 33), .bin .lss (.tmp 32) (.val (.sc (.int .i64 (0)))), (some (31, true)), []⟩,
      ⟨(some 34), .pick (.tmp 31) (.tmp 33) (.val (.sc (.bool false))), none, []⟩])
    (.cond (.tmp 34)
      (.region [⟨(some 35), .mv (.tmp 11), none, []⟩,
        ⟨(some 36), .mv (.tmp 0), none, []⟩,
        ⟨(some 37), .bin .sub (.tmp 35) (.tmp 36), none, []⟩,
        ⟨(some 11), .mv (.tmp 37), none, []⟩])
      .skip))
    (.seq (.region [⟨(some 38), .mv (.tmp 11), none, []⟩,
      ⟨(some 8), .mv (.tmp 38), none, []⟩])
    .ret)))))) }

def f_dec_immediate : AFunc :=
  { nparams := 2, ntmps := 66, pure := true, results := [.tmp 4],
    body := (.seq (.region [⟨(some 2), .box 48 (.tmp 0), none, []⟩,
      ⟨(some 4), .mv (.val (.sc (.int .i64 (0)))), none, []⟩])
    (.seq (.region [⟨(some 6), .makeFunc (.func 78) [] [(.tmp 2)], none, []⟩,
      ⟨(some 5), .mv (.tmp 6), none, []⟩])
    (.seq (.seq (.region [⟨(some 7), .mv (.tmp 1), none, []⟩])
    (.block 0 (.seq (.region [⟨(some 9), .bin .eql (.tmp 7) (.val (.sc (.int .i64 (1)))), none, []⟩,
        ⟨(some 8), .mv (.tmp 9), none, []⟩])
      (.cond (.tmp 8)
        (.seq (.region [⟨(some 10), .mv (.tmp 5), none, []⟩,
          ⟨(some 11), .call (.tmp 10) [(.val (.sc (.int .i64 (12)))), (.val (.sc (.int .i64 (20)))), (.val (.sc (.int .i64 (0))))], none, []⟩,
          ⟨(some 12), .call (.val (.fn (.func 79) [] [])) [(.tmp 11), (.val (.sc (.int .i64 (20))))], none, []⟩,
          ⟨(some 4), .mv (.tmp 12), none, []⟩])
        .ret)
        (.seq (.region [⟨(some 14), .bin .eql (.tmp 7) (.val (.sc (.int .i64 (2)))), none, []⟩,
          ⟨(some 13), .mv (.tmp 14), none, []⟩])
        (.cond (.tmp 13)
          (.seq (.region [⟨(some 15), .mv (.tmp 5), none, []⟩,
            ⟨(some 16), .call (.tmp 15) [(.val (.sc (.int .i64 (31)))), (.val (.sc (.int .i64 (1)))), (.val (.sc (.int .i64 (20))))], none, []⟩,
            ⟨(some 17), .mv (.tmp 5), none, []⟩,
            ⟨(some 18), .call (.tmp 17) [(.val (.sc (.int .i64 (21)))), (.val (.sc (.int .i64 (10)))), (.val (.sc (.int .i64 (1))))], none, []⟩,
            ⟨(some 19), .bin .or (.tmp 16) (.tmp 18), none, []⟩,
            ⟨(some 20), .mv (.tmp 5), none, []⟩,
            ⟨(some 21), .call (.tmp 20) [(.val (.sc (.int .i64 (20)))), (.val (.sc (.int .i64 (1)))), (.val (.sc (.int .i64 (11))))], none, []⟩,
            ⟨(some 22), .bin .or (.tmp 19) (.tmp 21), none, []⟩,
            ⟨(some 23), .mv (.tmp 5), none, []⟩,
            ⟨(some 24), .call (.tmp 23) [(.val (.sc (.int .i64 (12)))), (.val (.sc (.int .i64 (8)))), (.val (.sc (.int .i64 (12))))], none, []⟩,
            ⟨(some 25), .bin .or (.tmp 22) (.tmp 24), none, []⟩,
            ⟨(some 26), .call (.val (.fn (.func 79) [] [])) [(.tmp 25), (.val (.sc (.int .i64 (21))))], none, []⟩,
            ⟨(some 4), .mv (.tmp 26), none, []⟩])
          .ret)
          (.seq (.region [⟨(some 28), .bin .eql (.tmp 7) (.val (.sc (.int .i64 (3)))), none, []⟩,
            ⟨(some 27), .mv (.tmp 28), none, []⟩])
          (.cond (.tmp 27)
            (.seq (.region [⟨(some 29), .mv (.tmp 5), none, []⟩,
              ⟨(some 30), .call (.tmp 29) [(.val (.sc (.int .i64 (20)))), (.val (.sc (.int .i64 (12)))), (.val (.sc (.int .i64 (0))))], none, []⟩,
              ⟨(some 31), .call (.val (.fn (.func 79) [] [])) [(.tmp 30), (.val (.sc (.int .i64 (12))))], none, []⟩,
              ⟨(some 4), .mv (.tmp 31), none, []⟩])
            .ret)
            (.seq (.region [⟨(some 33), .bin .eql (.tmp 7) (.val (.sc (.int .i64 (4)))), none, []⟩,
              ⟨(some 32), .mv (.tmp 33), none, []⟩])
            (.cond (.tmp 32)
              (.seq (.region [⟨(some 34), .mv (.tmp 5), none, []⟩,
                ⟨(some 35), .call (.tmp 34) [(.val (.sc (.int .i64 (31)))), (.val (.sc (.int .i64 (1)))), (.val (.sc (.int .i64 (12))))], none, []⟩,
                ⟨(some 36), .mv (.tmp 5), none, []⟩,
                ⟨(some 37), .call (.tmp 36) [(.val (.sc (.int .i64 (25)))), (.val (.sc (.int .i64 (6)))), (.val (.sc (.int .i64 (5))))], none, []⟩,
                ⟨(some 38), .bin .or (.tmp 35) (.tmp 37), none, []⟩,
                ⟨(some 39), .mv (.tmp 5), none, []⟩,
                ⟨(some 40), .call (.tmp 39) [(.val (.sc (.int .i64 (8)))), (.val (.sc (.int .i64 (4)))), (.val (.sc (.int .i64 (1))))], none, []⟩,
                ⟨(some 41), .bin .or (.tmp 38) (.tmp 40), none, []⟩,
                ⟨(some 42), .mv (.tmp 5), none, []⟩,
                ⟨(some 43), .call (.tmp 42) [(.val (.sc (.int .i64 (7)))), (.val (.sc (.int .i64 (1)))), (.val (.sc (.int .i64 (11))))], none, []⟩,
                ⟨(some 44), .bin .or (.tmp 41) (.tmp 43), none, []⟩,
                ⟨(some 45), .call (.val (.fn (.func 79) [] [])) [(.tmp 44), (.val (.sc (.int .i64 (13))))], none, []⟩,
                ⟨(some 4), .mv (.tmp 45), none, []⟩])
              .ret)
              (.seq (.region [⟨(some 47), .bin .eql (.tmp 7) (.val (.sc (.int .i64 (5)))), none, []⟩,
                ⟨(some 46), .mv (.tmp 47), none, []⟩])
              (.cond (.tmp 46)
                (.seq (.region [⟨(some 48), .mv (.tmp 5), none, []⟩,
                  ⟨(some 49), .call (.tmp 48) [(.val (.sc (.int .i64 (25)))), (.val (.sc (.int .i64 (7)))), (.val (.sc (.int .i64 (5))))], none, []⟩,
                  ⟨(some 50), .mv (.tmp 5), none, []⟩,
                  ⟨(some 51), .call (.tmp 50) [(.val (.sc (.int .i64 (7)))), (.val (.sc (.int .i64 (5)))), (.val (.sc (.int .i64 (0))))], none, []⟩,
                  ⟨(some 52), .bin .or (.tmp 49) (.tmp 51), none, []⟩,
                  ⟨(some 53), .call (.val (.fn (.func 79) [] [])) [(.tmp 52), (.val (.sc (.int .i64 (12))))], none, []⟩,
                  ⟨(some 4), .mv (.tmp 53), none, []⟩])
                .ret)
                (.seq (.region [⟨(some 55), .bin .eql (.tmp 7) (.val (.sc (.int .i64 (7)))), none, []⟩,
                  ⟨(some 54), .mv (.tmp 55), none, []⟩])
                (.cond (.tmp 54)
                  (.seq (.region [⟨(some 56), .mv (.tmp 5), none, []⟩,
                    ⟨(some 57), .call (.tmp 56) [(.val (.sc (.int .i64 (20)))), (.val (.sc (.int .i64 (6)))), (.val (.sc (.int .i64 (0))))], none, []⟩,
                    ⟨(some 4), .mv (.tmp 57), none, []⟩])
                  .ret)
                  (.seq (.region [⟨(some 59), .bin .eql (.tmp 7) (.val (.sc (.int .i64 (8)))), none, []⟩,
                    ⟨(some 58), .mv (.tmp 59), none, []⟩])
                  (.cond (.tmp 58)
                    (.seq (.region [⟨(some 60), .mv (.tmp 5), none, []⟩,
                      ⟨(some 61), .call (.tmp 60) [(.val (.sc (.int .i64 (20)))), (.val (.sc (.int .i64 (5)))), (.val (.sc (.int .i64 (0))))], none, []⟩,
                      ⟨(some 4), .mv (.tmp 61), none, []⟩])
                    .ret)
                    (.seq (.region [⟨(some 63), .bin .eql (.tmp 7) (.val (.sc (.int .i64 (9)))), none, []⟩,
                      ⟨(some 62), .mv (.tmp 63), none, []⟩])
                    (.cond (.tmp 62)
                      (.seq (.region [⟨(some 64), .mv (.tmp 5), none, []⟩,
                        ⟨(some 65), .call (.tmp 64) [(.val (.sc (.int .i64 (20)))), (.val (.sc (.int .i64 (8)))), (.val (.sc (.int .i64 (0))))], none, []⟩,
                        ⟨(some 4), .mv (.tmp 65), none, []⟩])
                      .ret)
                      .skip))))))))))))))))))
    (.seq (.region [⟨(some 4), .mv (.val (.sc (.int .i64 (0)))), none, []⟩])
    .ret)))) }

def f_dec_field : AFunc :=
  { nparams := 3, ntmps := 18, pure := false, frz := true, results := [.tmp 6],
    body := (.seq (.region [⟨(some 6), .mv (.val (.sc (.int .i64 (0)))), none, []⟩])
    (.seq (.region [⟨(some 10), .mv (.tmp 0), none, []⟩,
      ⟨(some 11), .mv (.tmp 1), none, []⟩,
      ⟨(some 12), .mv (.tmp 2), none, []⟩,
      ⟨(some 13), .call (.val (.fn (.func 80) [] [])) [(.tmp 10), (.tmp 11), (.tmp 12)], none, []⟩,
      ⟨(some 9), .mv (.tmp 13), none, []⟩,
      ⟨(some 14), .extract (.tmp 9) 0, none, []⟩,
      ⟨(some 15), .extract (.tmp 9) 1, none, []⟩,
      ⟨(some 7), .mv (.tmp 14), none, []⟩,
      ⟨(some 8), .mv (.tmp 15), none, []⟩])
    (.seq (.region [⟨(some 16), .mv (.tmp 7), none, []⟩,
      ⟨(some 17), .conv .i64 (.tmp 16), none, []⟩,
      ⟨(some 6), .mv (.tmp 17), none, []⟩])
    .ret))) }

def f_dec_pick : AFunc :=
  { nparams := 3, ntmps := 23, pure := true, results := [.tmp 6],
    body := (.seq (.region [⟨(some 6), .mv (.val (.sc (.int .i64 (0)))), none, []⟩])
    (.seq (.seq (.region [⟨(some 9), .mv (.tmp 2), none, []⟩,
      ⟨(some 10), .len (.tmp 9), none, []⟩,
      ⟨(some 11), .mv (.val (.sc (.int .i64 (0)))), none, []⟩])
    (.block 0 (.loop (.seq (.region [⟨(some 12), .bin .lss (.tmp 11) (.tmp 10), none, []⟩])
        (.seq (.cond (.tmp 12)
          .skip
          (.exit 0))
        (.seq (.block 1 (.seq (.region [⟨(some 13), .mv (.tmp 11), none, []⟩,
            ⟨(some 14), .indexS 1 (.tmp 9) (.tmp 11), none, []⟩,
            ⟨(some 15), .load none (.tmp 14), none, []⟩,
            ⟨(some 7), .mv (.tmp 13), none, []⟩,
            ⟨(some 8), .mv (.tmp 15), none, []⟩])
          (.seq (.region [⟨(some 16), .mv (.tmp 8), none, []⟩,
            ⟨(some 17), .mv (.tmp 1), none, []⟩,
            ⟨(some 18), .bin .eql (.tmp 16) (.tmp 17), none, []⟩])
          (.cond (.tmp 18)
            (.seq (.region [⟨(some 19), .mv (.tmp 0), none, []⟩,
              ⟨(some 20), .mv (.tmp 7), none, []⟩,
              ⟨(some 21), .bin .add (.tmp 19) (.tmp 20), none, []⟩,
              ⟨(some 6), .mv (.tmp 21), none, []⟩])
            .ret)
            .skip))))
        (.region [⟨(some 22), .bin .add (.tmp 11) (.val (.sc (.int .i64 (1)))), none, []⟩,
          ⟨(some 11), .mv (.tmp 22), none, []⟩])))))))
    (.seq (.region [⟨(some 6), .mv (.val (.sc (.int .i64 (0)))), none, []⟩])
    .ret))) }

def f_dec_immediates : AFunc :=
  { nparams := 2, ntmps := 33, pure := false, results := [.tmp 4],
    body := (.seq (.region [⟨(some 4), .mv (.val (.sc (.int .i64 (0)))), none, []⟩])
    (.seq (.region [⟨(some 7), .mv (.tmp 0), none, []⟩,
      ⟨(some 8), .call (.val (.fn (.func 65) [] [])) [(.tmp 7), (.val (.sc (.int .i64 (26)))), (.val (.sc (.int .i64 (6))))], none, []⟩,
      ⟨(some 5), .mv (.tmp 8), none, []⟩])
    (.seq (.region [⟨(some 9), .build [(.sc (.int .i64 (0))), (.sc (.int .i64 (0))), (.sc (.int .i64 (0))), (.sc (.int .i64 (0))), (.sc (.int .i64 (0))), (.sc (.int .i64 (0))), (.sc (.int .i64 (0))), (.sc (.int .i64 (0)))] [(0, 1, (.val (.sc (.int .i64 (22))))), (1, 1, (.val (.sc (.int .i64 (28))))), (2, 1, (.val (.sc (.int .i64 (23))))), (3, 1, (.val (.sc (.int .i64 (24))))), (4, 1, (.val (.sc (.int .i64 (25))))), (5, 1, (.val (.sc (.int .i64 (29))))), (6, 1, (.val (.sc (.int .i64 (26))))), (7, 1, (.val (.sc (.int .i64 (27)))))], none, []⟩,
      ⟨(some 6), .allocA 115 1 [(.sc (.int .i64 (0))), (.sc (.int .i64 (0))), (.sc (.int .i64 (0))), (.sc (.int .i64 (0))), (.sc (.int .i64 (0))), (.sc (.int .i64 (0))), (.sc (.int .i64 (0))), (.sc (.int .i64 (0)))], none, []⟩,
      ⟨none, .store 8 (.tmp 6) (.tmp 9), none, []⟩])
    (.seq (.block 0 (.seq (.region [⟨(some 11), .mv (.tmp 1), none, []⟩,
        ⟨(some 12), .bin .neq (.tmp 11) (.val (.sc (.int .i64 (1)))), none, []⟩,
        ⟨(some 13), .mv (.tmp 12), none, []⟩,
        ⟨(some 14), .mv (.tmp 1), (some (13, true)), []⟩,
        ⟨(some 15), .bin .neq (.tmp 14) (.val (.sc (.int .i64 (5)))), (some (13, true)), []⟩,
        ⟨(some 16), .pick (.tmp 13) (.tmp 15) (.val (.sc (.bool false))), none, []⟩,
        ⟨(some 10), .mv (.tmp 16), none, []⟩])
      (.cond (.tmp 10)
        (.seq (.region [⟨(some 17), .mv (.tmp 1), none, []⟩,
          ⟨(some 18), .indexA 8 1 (.tmp 6) (.tmp 17), none, []⟩,
          ⟨(some 19), .load none (.tmp 18), none, []⟩,
          ⟨(some 4), .mv (.tmp 19), none, []⟩])
        .ret)
        (.seq (.region [⟨(some 21), .mv (.tmp 5), none, []⟩,
          ⟨(some 22), .bin .eql (.tmp 21) (.val (.sc (.int .i64 (0)))), none, []⟩,
          ⟨(some 23), .mv (.tmp 22), none, []⟩,
          ⟨(some 24), .mv (.tmp 5), (some (23, false)), []⟩,
          ⟨(some 25), .bin .eql (.tmp 24) (.val (.sc (.int .i64 (16)))), (some (23, false)), []⟩,
          ⟨(some 26), .pick (.tmp 23) (.val (.sc (.bool true))) (.tmp 25), none, []⟩,
          ⟨(some 20), .mv (.tmp 26), none, []⟩])
        (.cond (.tmp 20)
          (.seq (.region [⟨(some 27), .mv (.tmp 1), none, []⟩,
            ⟨(some 28), .load (some 8) (.tmp 6), none, []⟩,
            ⟨(some 29), .build [(.sc (.int .i64 (0))), (.sc (.int .i64 (0))), (.sc (.int .i64 (0))), (.sc (.int .i64 (0))), (.sc (.int .i64 (0))), (.sc (.int .i64 (0))), (.sc (.int .i64 (0))), (.sc (.int .i64 (0)))] [(5, 1, (.val (.sc (.int .i64 (30)))))], none, []⟩,
            ⟨(some 30), .mv (.tmp 5), none, []⟩,
            ⟨(some 31), .bin .eql (.tmp 30) (.val (.sc (.int .i64 (16)))), none, []⟩,
            ⟨(some 32), .call (.val (.fn (.func 81) [] [])) [(.tmp 27), (.tmp 28), (.tmp 29), (.tmp 31)], none, []⟩,
            ⟨(some 4), .mv (.tmp 32), none, []⟩])
          .ret)
          .skip)))))
    (.seq (.region [⟨(some 4), .mv (.val (.sc (.int .i64 (0)))), none, []⟩])
    .ret))))) }

def f_dec_small : AFunc :=
  { nparams := 2, ntmps := 21, pure := false, frz := true, results := [.tmp 4],
    body := (.seq (.region [⟨(some 4), .mv (.val (.sc (.int .i64 (0)))), none, []⟩])
    (.seq (.block 0 (.seq (.region [⟨(some 6), .mv (.tmp 0), none, []⟩,
        ⟨(some 7), .bin .eql (.tmp 6) (.val (.sc (.int .i64 (0)))), none, []⟩,
        ⟨(some 5), .mv (.tmp 7), none, []⟩])
      (.cond (.tmp 5)
        (.seq (.region [⟨(some 4), .mv (.val (.sc (.int .i64 (31)))), none, []⟩])
        .ret)
        (.seq (.region [⟨(some 9), .mv (.tmp 1), none, []⟩,
          ⟨(some 10), .bin .eql (.tmp 9) (.val (.sc (.int .i64 (0)))), none, []⟩,
          ⟨(some 11), .mv (.tmp 10), none, []⟩,
          ⟨(some 12), .mv (.tmp 1), (some (11, false)), []⟩,
          ⟨(some 13), .bin .eql (.tmp 12) (.val (.sc (.int .i64 (32)))), (some (11, false)), []⟩,
          ⟨(some 14), .pick (.tmp 11) (.val (.sc (.bool true))) (.tmp 13), none, []⟩,
          ⟨(some 8), .mv (.tmp 14), none, []⟩])
        (.cond (.tmp 8)
          (.seq (.region [⟨(some 15), .mv (.tmp 0), none, []⟩,
            ⟨(some 16), .build [(.sc (.int .i64 (0))), (.sc (.int .i64 (0))), (.sc (.int .i64 (0))), (.sc (.int .i64 (0))), (.sc (.int .i64 (0))), (.sc (.int .i64 (0))), (.sc (.int .i64 (0))), (.sc (.int .i64 (0)))] [(1, 1, (.val (.sc (.int .i64 (32))))), (5, 1, (.val (.sc (.int .i64 (33)))))], none, []⟩,
            ⟨(some 17), .build [(.sc (.int .i64 (0))), (.sc (.int .i64 (0))), (.sc (.int .i64 (0))), (.sc (.int .i64 (0))), (.sc (.int .i64 (0))), (.sc (.int .i64 (0))), (.sc (.int .i64 (0))), (.sc (.int .i64 (0)))] [(5, 1, (.val (.sc (.int .i64 (34)))))], none, []⟩,
            ⟨(some 18), .mv (.tmp 1), none, []⟩,
            ⟨(some 19), .bin .eql (.tmp 18) (.val (.sc (.int .i64 (32)))), none, []⟩,
            ⟨(some 20), .call (.val (.fn (.func 81) [] [])) [(.tmp 15), (.tmp 16), (.tmp 17), (.tmp 19)], none, []⟩,
            ⟨(some 4), .mv (.tmp 20), none, []⟩])
          .ret)
          .skip)))))
    (.seq (.region [⟨(some 4), .mv (.val (.sc (.int .i64 (0)))), none, []⟩])
    .ret))) }

def f_dec_whole : AFunc :=
  { nparams := 2, ntmps := 19, pure := false, frz := true, results := [.tmp 4],
    body := (.seq (.region [⟨(some 4), .mv (.val (.sc (.int .i64 (0)))), none, []⟩])
    (.seq (.seq (.region [⟨(some 5), .mv (.tmp 1), none, []⟩])
    (.block 0 (.seq (.seq (.region [⟨(some 7), .bin .eql (.tmp 5) (.val (.sc (.int .i64 (0)))), none, []⟩,
        ⟨(some 6), .mv (.tmp 7), none, []⟩])
      (.cond (.tmp 6)
        .skip
        (.region [⟨(some 8), .bin .eql (.tmp 5) (.val (.sc (.int .i64 (32)))), none, []⟩,
          ⟨(some 6), .mv (.tmp 8), none, []⟩])))
      (.cond (.tmp 6)
        (.seq (.region [⟨(some 9), .mv (.tmp 0), none, []⟩,
          ⟨(some 10), .build [(.sc (.int .i64 (0))), (.sc (.int .i64 (0))), (.sc (.int .i64 (0))), (.sc (.int .i64 (0))), (.sc (.int .i64 (0))), (.sc (.int .i64 (0))), (.sc (.int .i64 (0))), (.sc (.int .i64 (0)))] [(0, 1, (.val (.sc (.int .i64 (35))))), (1, 1, (.val (.sc (.int .i64 (37))))), (2, 1, (.val (.sc (.int .i64 (38))))), (3, 1, (.val (.sc (.int .i64 (39))))), (4, 1, (.val (.sc (.int .i64 (40))))), (5, 1, (.val (.sc (.int .i64 (41))))), (6, 1, (.val (.sc (.int .i64 (43))))), (7, 1, (.val (.sc (.int .i64 (44)))))], none, []⟩,
          ⟨(some 11), .build [(.sc (.int .i64 (0))), (.sc (.int .i64 (0))), (.sc (.int .i64 (0))), (.sc (.int .i64 (0))), (.sc (.int .i64 (0))), (.sc (.int .i64 (0))), (.sc (.int .i64 (0))), (.sc (.int .i64 (0)))] [(0, 1, (.val (.sc (.int .i64 (36))))), (5, 1, (.val (.sc (.int .i64 (42)))))], none, []⟩,
          ⟨(some 12), .mv (.tmp 1), none, []⟩,
          ⟨(some 13), .bin .eql (.tmp 12) (.val (.sc (.int .i64 (32)))), none, []⟩,
          ⟨(some 14), .call (.val (.fn (.func 81) [] [])) [(.tmp 9), (.tmp 10), (.tmp 11), (.tmp 13)], none, []⟩,
          ⟨(some 4), .mv (.tmp 14), none, []⟩])
        .ret)
        (.seq (.region [⟨(some 16), .bin .eql (.tmp 5) (.val (.sc (.int .i64 (1)))), none, []⟩,
          ⟨(some 15), .mv (.tmp 16), none, []⟩])
        (.cond (.tmp 15)
          (.seq (.region [⟨(some 17), .mv (.tmp 0), none, []⟩,
            ⟨(some 18), .bin .add (.val (.sc (.int .i64 (50)))) (.tmp 17), none, []⟩,
            ⟨(some 4), .mv (.tmp 18), none, []⟩])
          .ret)
          .skip))))))
    (.seq (.region [⟨(some 4), .mv (.val (.sc (.int .i64 (0)))), none, []⟩])
    .ret))) }

def f_dec_half : AFunc :=
  { nparams := 2, ntmps := 20, pure := true, results := [.tmp 4],
    body := (.seq (.region [⟨(some 4), .mv (.val (.sc (.int .i64 (0)))), none, []⟩])
    (.seq (.seq (.region [⟨(some 5), .mv (.tmp 1), none, []⟩])
    (.block 0 (.seq (.seq (.region [⟨(some 7), .bin .eql (.tmp 5) (.val (.sc (.int .i64 (0)))), none, []⟩,
        ⟨(some 6), .mv (.tmp 7), none, []⟩])
      (.cond (.tmp 6)
        .skip
        (.region [⟨(some 8), .bin .eql (.tmp 5) (.val (.sc (.int .i64 (32)))), none, []⟩,
          ⟨(some 6), .mv (.tmp 8), none, []⟩])))
      (.cond (.tmp 6)
        (.seq (.region [⟨(some 9), .mv (.tmp 0), none, []⟩,
          ⟨(some 10), .build [(.sc (.int .i64 (0))), (.sc (.int .i64 (0))), (.sc (.int .i64 (0))), (.sc (.int .i64 (0))), (.sc (.int .i64 (0))), (.sc (.int .i64 (0))), (.sc (.int .i64 (0))), (.sc (.int .i64 (0)))] [(0, 1, (.val (.sc (.int .i64 (45))))), (1, 1, (.val (.sc (.int .i64 (47))))), (5, 1, (.val (.sc (.int .i64 (48)))))], none, []⟩,
          ⟨(some 11), .build [(.sc (.int .i64 (0))), (.sc (.int .i64 (0))), (.sc (.int .i64 (0))), (.sc (.int .i64 (0))), (.sc (.int .i64 (0))), (.sc (.int .i64 (0))), (.sc (.int .i64 (0))), (.sc (.int .i64 (0)))] [(0, 1, (.val (.sc (.int .i64 (46))))), (5, 1, (.val (.sc (.int .i64 (49)))))], none, []⟩,
          ⟨(some 12), .mv (.tmp 1), none, []⟩,
          ⟨(some 13), .bin .eql (.tmp 12) (.val (.sc (.int .i64 (32)))), none, []⟩,
          ⟨(some 14), .call (.val (.fn (.func 81) [] [])) [(.tmp 9), (.tmp 10), (.tmp 11), (.tmp 13)], none, []⟩,
          ⟨(some 4), .mv (.tmp 14), none, []⟩])
        .ret)
        (.seq (.region [⟨(some 16), .bin .eql (.tmp 5) (.val (.sc (.int .i64 (1)))), none, []⟩,
          ⟨(some 15), .mv (.tmp 16), none, []⟩])
        (.cond (.tmp 15)
          (.seq (.region [⟨(some 17), .mv (.tmp 0), none, []⟩,
            ⟨(some 18), .bslice false 3 1 [(.sc (.int .i64 (0)))] 5 [(0, (.val (.sc (.int .i64 (0))))), (1, (.val (.sc (.int .i64 (4))))), (2, (.val (.sc (.int .i64 (5))))), (3, (.val (.sc (.int .i64 (6))))), (4, (.val (.sc (.int .i64 (7)))))], none, []⟩,
            ⟨(some 19), .call (.val (.fn (.func 66) [] [])) [(.val (.sc (.int .i64 (58)))), (.tmp 17), (.tmp 18)], none, []⟩,
            ⟨(some 4), .mv (.tmp 19), none, []⟩])
          .ret)
          .skip))))))
    (.seq (.region [⟨(some 4), .mv (.val (.sc (.int .i64 (0)))), none, []⟩])
    .ret))) }

def f_dec_atomic : AFunc :=
  { nparams := 2, ntmps := 26, pure := true, results := [.tmp 4],
    body := (.seq (.region [⟨(some 4), .mv (.val (.sc (.int .i64 (0)))), none, []⟩])
    (.seq (.region [⟨(some 6), .mv (.tmp 0), none, []⟩,
      ⟨(some 7), .call (.val (.fn (.func 65) [] [])) [(.tmp 6), (.val (.sc (.int .i64 (27)))), (.val (.sc (.int .i64 (5))))], none, []⟩,
      ⟨(some 8), .bslice false 3 1 [(.sc (.int .i64 (0)))] 11 [(0, (.val (.sc (.int .i64 (2))))), (1, (.val (.sc (.int .i64 (3))))), (2, (.val (.sc (.int .i64 (1))))), (3, (.val (.sc (.int .i64 (0))))), (4, (.val (.sc (.int .i64 (4))))), (5, (.val (.sc (.int .i64 (12))))), (6, (.val (.sc (.int .i64 (8))))), (7, (.val (.sc (.int .i64 (16))))), (8, (.val (.sc (.int .i64 (20))))), (9, (.val (.sc (.int .i64 (24))))), (10, (.val (.sc (.int .i64 (28)))))], none, []⟩,
      ⟨(some 9), .call (.val (.fn (.func 66) [] [])) [(.val (.sc (.int .i64 (0)))), (.tmp 7), (.tmp 8)], none, []⟩,
      ⟨(some 5), .mv (.tmp 9), none, []⟩])
    (.seq (.seq (.region [⟨(some 10), .mv (.tmp 5), none, []⟩,
      ⟨(some 11), .bin .eql (.tmp 10) (.val (.sc (.int .i64 (0)))), none, []⟩,
      ⟨(some 12), .mv (.tmp 11), none, []⟩,
      ⟨(some 13), .mv (.tmp 0), (some (12, true)), []⟩,
      ⟨(some 14), .call (.val (.fn (.func 65) [] [])) [(.tmp 13), (.val (.sc (.int .i64 (27)))), (.val (.sc (.int .i64 (5))))], (some (12, true)), []⟩,
      ⟨(some 15), .bin .neq (.tmp 14) (.val (.sc (.int .i64 (2)))), (some (12, true)), []⟩,
      ⟨(some 16), .pick (.tmp 12) (.tmp 15) (.val (.sc (.bool false))), none, []⟩])
    (.cond (.tmp 16)
      (.seq (.region [⟨(some 4), .mv (.val (.sc (.int .i64 (0)))), none, []⟩])
      .ret)
      .skip))
    (.seq (.seq (.region [⟨(some 17), .mv (.tmp 1), none, []⟩])
    (.block 0 (.seq (.region [⟨(some 19), .bin .eql (.tmp 17) (.val (.sc (.int .i64 (2)))), none, []⟩,
        ⟨(some 18), .mv (.tmp 19), none, []⟩])
      (.cond (.tmp 18)
        (.seq (.region [⟨(some 20), .mv (.tmp 5), none, []⟩,
          ⟨(some 21), .bin .add (.val (.sc (.int .i64 (66)))) (.tmp 20), none, []⟩,
          ⟨(some 4), .mv (.tmp 21), none, []⟩])
        .ret)
        (.seq (.region [⟨(some 23), .bin .eql (.tmp 17) (.val (.sc (.int .i64 (3)))), none, []⟩,
          ⟨(some 22), .mv (.tmp 23), none, []⟩])
        (.cond (.tmp 22)
          (.seq (.region [⟨(some 24), .mv (.tmp 5), none, []⟩,
            ⟨(some 25), .bin .add (.val (.sc (.int .i64 (77)))) (.tmp 24), none, []⟩,
            ⟨(some 4), .mv (.tmp 25), none, []⟩])
          .ret)
          .skip))))))
    (.seq (.region [⟨(some 4), .mv (.val (.sc (.int .i64 (0)))), none, []⟩])
    .ret))))) }

def f_dec_system : AFunc :=
  { nparams := 1, ntmps := 8, pure := true, results := [.tmp 2],
    body := (.seq (.region [⟨(some 2), .mv (.val (.sc (.int .i64 (0)))), none, []⟩])
    (.seq (.region [⟨(some 3), .mv (.tmp 0), none, []⟩,
      ⟨(some 4), .bin .shr (.tmp 3) (.val (.sc (.int .u64 (7)))), none, []⟩,
      ⟨(some 5), .conv .i64 (.tmp 4), none, []⟩,
      ⟨(some 6), .bslice false 3 1 [(.sc (.int .i64 (0)))] 2 [(0, (.val (.sc (.int .i64 (0))))), (1, (.val (.sc (.int .i64 (8192)))))], none, []⟩,
      ⟨(some 7), .call (.val (.fn (.func 66) [] [])) [(.val (.sc (.int .i64 (64)))), (.tmp 5), (.tmp 6)], none, []⟩,
      ⟨(some 2), .mv (.tmp 7), none, []⟩])
    .ret)) }

def f_enc_of : AFunc :=
  { nparams := 1, ntmps := 79, pure := true, results := [.cell 2 (some 3)],
    body := (.seq (.region [⟨(some 2), .alloc 105 [(.sc (.int .u32 (0))), (.sc (.int .u32 (0))), (.sc (.int .u32 (0)))], none, []⟩])
    (.seq (.block 0 (.seq (.region [⟨(some 4), .mv (.tmp 0), none, []⟩,
        ⟨(some 5), .bin .leq (.tmp 4) (.val (.sc (.int .i64 (4)))), none, []⟩,
        ⟨(some 3), .mv (.tmp 5), none, []⟩])
      (.cond (.tmp 3)
        (.seq (.region [⟨(some 6), .build [(.sc (.int .u32 (0))), (.sc (.int .u32 (0))), (.sc (.int .u32 (0))), (.sc (.int .u32 (0)))] [(0, 1, (.val (.sc (.int .u32 (55))))), (1, 1, (.val (.sc (.int .u32 (23))))), (2, 1, (.val (.sc (.int .u32 (111))))), (3, 1, (.val (.sc (.int .u32 (103)))))], none, []⟩,
          ⟨(some 7), .mv (.tmp 0), none, []⟩,
          ⟨(some 8), .bin .sub (.tmp 7) (.val (.sc (.int .i64 (1)))), none, []⟩,
          ⟨(some 9), .idxArr none 4 1 (.tmp 6) (.tmp 8), none, []⟩,
          ⟨(some 10), .build [(.sc (.int .u32 (0))), (.sc (.int .u32 (0))), (.sc (.int .u32 (0)))] [(0, 1, (.tmp 9)), (1, 1, (.val (.sc (.int .u32 (0))))), (2, 1, (.val (.sc (.int .u32 (0)))))], none, []⟩,
          ⟨none, .store 3 (.tmp 2) (.tmp 10), none, []⟩])
        .ret)
        (.seq (.region [⟨(some 12), .mv (.tmp 0), none, []⟩,
          ⟨(some 13), .call (.val (.fn (.func 18) [] [])) [(.tmp 12)], none, []⟩,
          ⟨(some 11), .mv (.tmp 13), none, []⟩])
        (.cond (.tmp 11)
          (.seq (.region [⟨(some 14), .build [(.sc (.int .u32 (0))), (.sc (.int .u32 (0))), (.sc (.int .u32 (0))), (.sc (.int .u32 (0))), (.sc (.int .u32 (0))), (.sc (.int .u32 (0)))] [(0, 1, (.val (.sc (.int .u32 (0))))), (1, 1, (.val (.sc (.int .u32 (1))))), (2, 1, (.val (.sc (.int .u32 (4))))), (3, 1, (.val (.sc (.int .u32 (5))))), (4, 1, (.val (.sc (.int .u32 (6))))), (5, 1, (.val (.sc (.int .u32 (7)))))], none, []⟩,
            ⟨(some 15), .mv (.tmp 0), none, []⟩,
            ⟨(some 16), .bin .sub (.tmp 15) (.val (.sc (.int .i64 (5)))), none, []⟩,
            ⟨(some 17), .idxArr none 6 1 (.tmp 14) (.tmp 16), none, []⟩,
            ⟨(some 18), .build [(.sc (.int .u32 (0))), (.sc (.int .u32 (0))), (.sc (.int .u32 (0)))] [(0, 1, (.val (.sc (.int .u32 (99))))), (1, 1, (.tmp 17)), (2, 1, (.val (.sc (.int .u32 (0)))))], none, []⟩,
            ⟨none, .store 3 (.tmp 2) (.tmp 18), none, []⟩])
          .ret)
          (.seq (.region [⟨(some 20), .mv (.tmp 0), none, []⟩,
            ⟨(some 21), .bin .leq (.tmp 20) (.val (.sc (.int .i64 (17)))), none, []⟩,
            ⟨(some 19), .mv (.tmp 21), none, []⟩])
          (.cond (.tmp 19)
            (.seq (.region [⟨(some 22), .mv (.tmp 0), none, []⟩,
              ⟨(some 23), .bin .sub (.tmp 22) (.val (.sc (.int .i64 (11)))), none, []⟩,
              ⟨(some 24), .conv .u32 (.tmp 23), none, []⟩,
              ⟨(some 25), .build [(.sc (.int .u32 (0))), (.sc (.int .u32 (0))), (.sc (.int .u32 (0)))] [(0, 1, (.val (.sc (.int .u32 (3))))), (1, 1, (.tmp 24)), (2, 1, (.val (.sc (.int .u32 (0)))))], none, []⟩,
              ⟨none, .store 3 (.tmp 2) (.tmp 25), none, []⟩])
            .ret)
            (.seq (.region [⟨(some 27), .mv (.tmp 0), none, []⟩,
              ⟨(some 28), .bin .leq (.tmp 27) (.val (.sc (.int .i64 (21)))), none, []⟩,
              ⟨(some 26), .mv (.tmp 28), none, []⟩])
            (.cond (.tmp 26)
              (.seq (.region [⟨(some 29), .mv (.tmp 0), none, []⟩,
                ⟨(some 30), .bin .sub (.tmp 29) (.val (.sc (.int .i64 (18)))), none, []⟩,
                ⟨(some 31), .conv .u32 (.tmp 30), none, []⟩,
                ⟨(some 32), .build [(.sc (.int .u32 (0))), (.sc (.int .u32 (0))), (.sc (.int .u32 (0)))] [(0, 1, (.val (.sc (.int .u32 (35))))), (1, 1, (.tmp 31)), (2, 1, (.val (.sc (.int .u32 (0)))))], none, []⟩,
                ⟨none, .store 3 (.tmp 2) (.tmp 32), none, []⟩])
              .ret)
              (.seq (.region [⟨(some 34), .mv (.tmp 0), none, []⟩,
                ⟨(some 35), .bin .leq (.tmp 34) (.val (.sc (.int .i64 (30)))), none, []⟩,
                ⟨(some 33), .mv (.tmp 35), none, []⟩])
              (.cond (.tmp 33)
                (.seq (.region [⟨(some 36), .mv (.tmp 0), none, []⟩,
                  ⟨(some 37), .call (.val (.fn (.func 82) [] [])) [(.tmp 36)], none, []⟩,
                  ⟨(some 38), .call (.val (.fn (.func 83) [] [])) [(.tmp 37), (.val (.sc (.int .u32 (19))))], none, []⟩,
                  ⟨none, .store 3 (.tmp 2) (.tmp 38), none, []⟩])
                .ret)
                (.seq (.region [⟨(some 40), .mv (.tmp 0), none, []⟩,
                  ⟨(some 41), .bin .leq (.tmp 40) (.val (.sc (.int .i64 (34)))), none, []⟩,
                  ⟨(some 39), .mv (.tmp 41), none, []⟩])
                (.cond (.tmp 39)
                  (.seq (.region [⟨(some 42), .mv (.tmp 0), none, []⟩,
                    ⟨(some 43), .call (.val (.fn (.func 82) [] [])) [(.tmp 42)], none, []⟩,
                    ⟨(some 44), .call (.val (.fn (.func 83) [] [])) [(.tmp 43), (.val (.sc (.int .u32 (27))))], none, []⟩,
                    ⟨none, .store 3 (.tmp 2) (.tmp 44), none, []⟩])
                  .ret)
                  (.seq (.region [⟨(some 46), .mv (.tmp 0), none, []⟩,
                    ⟨(some 47), .bin .leq (.tmp 46) (.val (.sc (.int .i64 (44)))), none, []⟩,
                    ⟨(some 45), .mv (.tmp 47), none, []⟩])
                  (.cond (.tmp 45)
                    (.seq (.region [⟨(some 48), .mv (.tmp 0), none, []⟩,
                      ⟨(some 49), .call (.val (.fn (.func 82) [] [])) [(.tmp 48)], none, []⟩,
                      ⟨(some 50), .call (.val (.fn (.func 83) [] [])) [(.tmp 49), (.val (.sc (.int .u32 (51))))], none, []⟩,
                      ⟨none, .store 3 (.tmp 2) (.tmp 50), none, []⟩])
                    .ret)
                    (.seq (.region [⟨(some 52), .mv (.tmp 0), none, []⟩,
                      ⟨(some 53), .bin .leq (.tmp 52) (.val (.sc (.int .i64 (49)))), none, []⟩,
                      ⟨(some 51), .mv (.tmp 53), none, []⟩])
                    (.cond (.tmp 51)
                      (.seq (.region [⟨(some 54), .mv (.tmp 0), none, []⟩,
                        ⟨(some 55), .call (.val (.fn (.func 82) [] [])) [(.tmp 54)], none, []⟩,
                        ⟨(some 56), .call (.val (.fn (.func 83) [] [])) [(.tmp 55), (.val (.sc (.int .u32 (59))))], none, []⟩,
                        ⟨none, .store 3 (.tmp 2) (.tmp 56), none, []⟩])
                      .ret)
                      (.seq (.region [⟨(some 58), .mv (.tmp 0), none, []⟩,
                        ⟨(some 59), .bin .leq (.tmp 58) (.val (.sc (.int .i64 (57)))), none, []⟩,
                        ⟨(some 57), .mv (.tmp 59), none, []⟩])
                      (.cond (.tmp 57)
                        (.seq (.region [⟨(some 60), .mv (.tmp 0), none, []⟩,
                          ⟨(some 61), .call (.val (.fn (.func 84) [] [])) [(.tmp 60)], none, []⟩,
                          ⟨(some 62), .call (.val (.fn (.func 83) [] [])) [(.tmp 61), (.val (.sc (.int .u32 (51))))], none, []⟩,
                          ⟨none, .store 3 (.tmp 2) (.tmp 62), none, []⟩])
                        .ret)
                        (.seq (.region [⟨(some 64), .mv (.tmp 0), none, []⟩,
                          ⟨(some 65), .bin .leq (.tmp 64) (.val (.sc (.int .i64 (62)))), none, []⟩,
                          ⟨(some 63), .mv (.tmp 65), none, []⟩])
                        (.cond (.tmp 63)
                          (.seq (.region [⟨(some 66), .mv (.tmp 0), none, []⟩,
                            ⟨(some 67), .call (.val (.fn (.func 84) [] [])) [(.tmp 66)], none, []⟩,
                            ⟨(some 68), .call (.val (.fn (.func 83) [] [])) [(.tmp 67), (.val (.sc (.int .u32 (59))))], none, []⟩,
                            ⟨none, .store 3 (.tmp 2) (.tmp 68), none, []⟩])
                          .ret)
                          (.seq (.region [⟨(some 70), .mv (.tmp 0), none, []⟩,
                            ⟨(some 71), .bin .eql (.tmp 70) (.val (.sc (.int .i64 (63)))), none, []⟩,
                            ⟨(some 69), .mv (.tmp 71), none, []⟩])
                          (.cond (.tmp 69)
                            (.seq (.region [⟨(some 72), .build [(.sc (.int .u32 (0))), (.sc (.int .u32 (0))), (.sc (.int .u32 (0)))] [(0, 1, (.val (.sc (.int .u32 (15))))), (1, 1, (.val (.sc (.int .u32 (0))))), (2, 1, (.val (.sc (.int .u32 (0)))))], none, []⟩,
                              ⟨none, .store 3 (.tmp 2) (.tmp 72), none, []⟩])
                            .ret)
                            (.seq (.region [⟨(some 74), .mv (.tmp 0), none, []⟩,
                              ⟨(some 75), .bin .leq (.tmp 74) (.val (.sc (.int .i64 (65)))), none, []⟩,
                              ⟨(some 73), .mv (.tmp 75), none, []⟩])
                            (.cond (.tmp 73)
                              (.seq (.region [⟨(some 76), .build [(.sc (.int .u32 (0))), (.sc (.int .u32 (0))), (.sc (.int .u32 (0)))] [(0, 1, (.val (.sc (.int .u32 (115))))), (1, 1, (.val (.sc (.int .u32 (0))))), (2, 1, (.val (.sc (.int .u32 (0)))))], none, []⟩,
                                ⟨none, .store 3 (.tmp 2) (.tmp 76), none, []⟩])
                              .ret)
                              .skip)))))))))))))))))))))))))
    (.seq (.region [⟨(some 77), .mv (.tmp 0), none, []⟩,
      ⟨(some 78), .call (.val (.fn (.func 85) [] [])) [(.tmp 77)], none, []⟩,
      ⟨none, .store 3 (.tmp 2) (.tmp 78), none, []⟩])
    .ret))) }

def f_enc_pack : AFunc :=
  { nparams := 1, ntmps := 25, pure := true, results := [.tmp 2],
    body := (.seq (.region [⟨(some 2), .mv (.val (.sc (.int .u32 (0)))), none, []⟩])
    (.seq (.region [⟨(some 3), .mv (.val (.sc (.int .u32 (0)))), none, []⟩])
    (.seq (.seq (.region [⟨(some 6), .mv (.tmp 0), none, []⟩,
      ⟨(some 7), .len (.tmp 6), none, []⟩,
      ⟨(some 8), .mv (.val (.sc (.int .i64 (0)))), none, []⟩])
    (.block 0 (.loop (.seq (.region [⟨(some 9), .bin .lss (.tmp 8) (.tmp 7), none, []⟩])
        (.seq (.cond (.tmp 9)
          .skip
          (.exit 0))
        (.seq (.block 1 (.seq (.region [⟨(some 10), .indexS 3 (.tmp 6) (.tmp 8), none, []⟩,
            ⟨(some 11), .load (some 3) (.tmp 10), none, []⟩,
            ⟨(some 5), .alloc 109 [(.sc (.int .u32 (0))), (.sc (.int .i64 (0))), (.sc (.int .i64 (0)))], none, []⟩,
            ⟨none, .store 3 (.tmp 5) (.tmp 11), none, []⟩])
          (.region [⟨(some 13), .mv (.tmp 3), none, []⟩,
            ⟨(some 14), .fieldAddr 1 (.tmp 5), none, []⟩,
            ⟨(some 15), .load none (.tmp 14), none, []⟩,
            ⟨(some 16), .fieldAddr 2 (.tmp 5), none, []⟩,
            ⟨(some 17), .load none (.tmp 16), none, []⟩,
            ⟨(some 18), .fieldAddr 0 (.tmp 5), none, []⟩,
            ⟨(some 19), .load none (.tmp 18), none, []⟩,
            ⟨(some 20), .call (.val (.fn (.func 86) [] [])) [(.tmp 13), (.tmp 15), (.tmp 17), (.tmp 19)], none, []⟩,
            ⟨(some 12), .mv (.tmp 20), none, []⟩,
            ⟨(some 21), .extract (.tmp 12) 0, none, []⟩,
            ⟨(some 22), .extract (.tmp 12) 1, none, []⟩,
            ⟨(some 3), .mv (.tmp 21), none, []⟩])))
        (.region [⟨(some 23), .bin .add (.tmp 8) (.val (.sc (.int .i64 (1)))), none, []⟩,
          ⟨(some 8), .mv (.tmp 23), none, []⟩])))))))
    (.seq (.region [⟨(some 24), .mv (.tmp 3), none, []⟩,
      ⟨(some 2), .mv (.tmp 24), none, []⟩])
    .ret)))) }

def f_enc_registers : AFunc :=
  { nparams := 1, ntmps := 42, pure := false, bz := [32], results := [.tmp 2],
    body := (.seq (.region [⟨(some 1), .boxF 32 (.tmp 0), none, []⟩,
      ⟨(some 2), .mv (.val (.sc (.slice none 0 0))), none, []⟩])
    (.seq (.region [⟨(some 3), .mv (.val (.sc (.slice none 0 0))), none, []⟩])
    (.seq (.region [⟨(some 9), .load (some 7) (.tmp 1), none, []⟩,
      ⟨(some 10), .call (.val (.fn (.func 34) [] [])) [(.tmp 9)], none, []⟩,
      ⟨(some 8), .mv (.tmp 10), none, []⟩,
      ⟨(some 11), .extract (.tmp 8) 0, none, []⟩,
      ⟨(some 12), .extract (.tmp 8) 1, none, []⟩,
      ⟨(some 4), .mv (.tmp 11), none, []⟩,
      ⟨(some 5), .mv (.tmp 12), none, []⟩])
    (.seq (.seq (.region [⟨(some 13), .mv (.tmp 4), none, []⟩])
    (.cond (.tmp 13)
      (.region [⟨(some 14), .mv (.tmp 3), none, []⟩,
        ⟨(some 15), .fieldAddr 2 (.tmp 1), none, []⟩,
        ⟨(some 16), .load none (.tmp 15), none, []⟩,
        ⟨(some 17), .conv .u32 (.tmp 16), none, []⟩,
        ⟨(some 18), .build [(.sc (.int .u32 (0))), (.sc (.int .i64 (0))), (.sc (.int .i64 (0)))] [(0, 1, (.tmp 17)), (1, 1, (.val (.sc (.int .i64 (15))))), (2, 1, (.val (.sc (.int .i64 (5)))))], none, []⟩,
        ⟨(some 19), .bslice false 109 3 [(.sc (.int .u32 (0))), (.sc (.int .i64 (0))), (.sc (.int .i64 (0)))] 1 [(0, (.tmp 18))], none, []⟩,
        ⟨(some 20), .append 109 3 (.tmp 14) (.tmp 19), none, []⟩,
        ⟨(some 3), .mv (.tmp 20), none, []⟩])
      .skip))
    (.seq (.seq (.region [⟨(some 21), .mv (.tmp 5), none, []⟩])
    (.cond (.tmp 21)
      (.region [⟨(some 22), .mv (.tmp 3), none, []⟩,
        ⟨(some 23), .fieldAddr 3 (.tmp 1), none, []⟩,
        ⟨(some 24), .load none (.tmp 23), none, []⟩,
        ⟨(some 25), .conv .u32 (.tmp 24), none, []⟩,
        ⟨(some 26), .build [(.sc (.int .u32 (0))), (.sc (.int .i64 (0))), (.sc (.int .i64 (0)))] [(0, 1, (.tmp 25)), (1, 1, (.val (.sc (.int .i64 (20))))), (2, 1, (.val (.sc (.int .i64 (5)))))], none, []⟩,
        ⟨(some 27), .bslice false 109 3 [(.sc (.int .u32 (0))), (.sc (.int .i64 (0))), (.sc (.int .i64 (0)))] 1 [(0, (.tmp 26))], none, []⟩,
        ⟨(some 28), .append 109 3 (.tmp 22) (.tmp 27), none, []⟩,
        ⟨(some 3), .mv (.tmp 28), none, []⟩])
      .skip))
    (.seq (.seq (.region [⟨(some 30), .load (some 7) (.tmp 1), none, []⟩,
      ⟨(some 31), .call (.val (.fn (.func 13) [] [])) [(.tmp 30)], none, []⟩,
      ⟨(some 29), .mv (.tmp 31), none, []⟩,
      ⟨(some 32), .extract (.tmp 29) 0, none, []⟩,
      ⟨(some 33), .extract (.tmp 29) 1, none, []⟩,
      ⟨(some 6), .mv (.tmp 32), none, []⟩,
      ⟨(some 7), .mv (.tmp 33), none, []⟩])
    (.seq (.region [⟨(some 34), .mv (.tmp 7), none, []⟩])
    (.cond (.tmp 34)
      (.region [⟨(some 35), .mv (.tmp 3), none, []⟩,
        ⟨(some 36), .mv (.tmp 6), none, []⟩,
        ⟨(some 37), .conv .u32 (.tmp 36), none, []⟩,
        ⟨(some 38), .build [(.sc (.int .u32 (0))), (.sc (.int .i64 (0))), (.sc (.int .i64 (0)))] [(0, 1, (.tmp 37)), (1, 1, (.val (.sc (.int .i64 (7))))), (2, 1, (.val (.sc (.int .i64 (5)))))], none, []⟩,
        ⟨(some 39), .bslice false 109 3 [(.sc (.int .u32 (0))), (.sc (.int .i64 (0))), (.sc (.int .i64 (0)))] 1 [(0, (.tmp 38))], none, []⟩,
        ⟨(some 40), .append 109 3 (.tmp 35) (.tmp 39), none, []⟩,
        ⟨(some 3), .mv (.tmp 40), none, []⟩])
      .skip)))
    (.seq (.region [⟨(some 41), .mv (.tmp 3), none, []⟩,
      ⟨(some 2), .mv (.tmp 41), none, []⟩])
    .ret))))))) }

def f_enc_immediate : AFunc :=
  { nparams := 1, ntmps := 91, pure := true, bz := [32], results := [.tmp 2],
    body := (.seq (.region [⟨(some 1), .boxF 32 (.tmp 0), none, []⟩,
      ⟨(some 2), .mv (.val (.sc (.slice none 0 0))), none, []⟩])
    (.seq (.region [⟨(some 4), .fieldAddr 4 (.tmp 1), none, []⟩,
      ⟨(some 5), .load none (.tmp 4), none, []⟩,
      ⟨(some 6), .conv .u64 (.tmp 5), none, []⟩,
      ⟨(some 7), .conv .u32 (.tmp 6), none, []⟩,
      ⟨(some 3), .mv (.tmp 7), none, []⟩])
    (.seq (.seq (.region [⟨(some 8), .fieldAddr 0 (.tmp 1), none, []⟩,
      ⟨(some 9), .load none (.tmp 8), none, []⟩,
      ⟨(some 10), .call (.val (.fn (.func 37) [] [])) [(.tmp 9)], none, []⟩])
    (.block 0 (.seq (.region [⟨(some 12), .bin .eql (.tmp 10) (.val (.sc (.int .i64 (1)))), none, []⟩,
        ⟨(some 11), .mv (.tmp 12), none, []⟩])
      (.cond (.tmp 11)
        (.seq (.region [⟨(some 13), .mv (.tmp 3), none, []⟩,
          ⟨(some 14), .build [(.sc (.int .u32 (0))), (.sc (.int .i64 (0))), (.sc (.int .i64 (0)))] [(0, 1, (.tmp 13)), (1, 1, (.val (.sc (.int .i64 (12))))), (2, 1, (.val (.sc (.int .i64 (20)))))], none, []⟩,
          ⟨(some 15), .bslice false 109 3 [(.sc (.int .u32 (0))), (.sc (.int .i64 (0))), (.sc (.int .i64 (0)))] 1 [(0, (.tmp 14))], none, []⟩,
          ⟨(some 2), .mv (.tmp 15), none, []⟩])
        .ret)
        (.seq (.region [⟨(some 17), .bin .eql (.tmp 10) (.val (.sc (.int .i64 (2)))), none, []⟩,
          ⟨(some 16), .mv (.tmp 17), none, []⟩])
        (.cond (.tmp 16)
          (.seq (.region [⟨(some 18), .mv (.tmp 3), none, []⟩,
            ⟨(some 19), .bin .shr (.tmp 18) (.val (.sc (.int .u64 (20)))), none, []⟩,
            ⟨(some 20), .build [(.sc (.int .u32 (0))), (.sc (.int .i64 (0))), (.sc (.int .i64 (0)))] [(0, 1, (.tmp 19)), (1, 1, (.val (.sc (.int .i64 (31))))), (2, 1, (.val (.sc (.int .i64 (1)))))], none, []⟩,
            ⟨(some 21), .mv (.tmp 3), none, []⟩,
            ⟨(some 22), .bin .shr (.tmp 21) (.val (.sc (.int .u64 (1)))), none, []⟩,
            ⟨(some 23), .build [(.sc (.int .u32 (0))), (.sc (.int .i64 (0))), (.sc (.int .i64 (0)))] [(0, 1, (.tmp 22)), (1, 1, (.val (.sc (.int .i64 (21))))), (2, 1, (.val (.sc (.int .i64 (10)))))], none, []⟩,
            ⟨(some 24), .mv (.tmp 3), none, []⟩,
            ⟨(some 25), .bin .shr (.tmp 24) (.val (.sc (.int .u64 (11)))), none, []⟩,
            ⟨(some 26), .build [(.sc (.int .u32 (0))), (.sc (.int .i64 (0))), (.sc (.int .i64 (0)))] [(0, 1, (.tmp 25)), (1, 1, (.val (.sc (.int .i64 (20))))), (2, 1, (.val (.sc (.int .i64 (1)))))], none, []⟩,
            ⟨(some 27), .mv (.tmp 3), none, []⟩,
            ⟨(some 28), .bin .shr (.tmp 27) (.val (.sc (.int .u64 (12)))), none, []⟩,
            ⟨(some 29), .build [(.sc (.int .u32 (0))), (.sc (.int .i64 (0))), (.sc (.int .i64 (0)))] [(0, 1, (.tmp 28)), (1, 1, (.val (.sc (.int .i64 (12))))), (2, 1, (.val (.sc (.int .i64 (8)))))], none, []⟩,
            ⟨(some 30), .bslice false 109 3 [(.sc (.int .u32 (0))), (.sc (.int .i64 (0))), (.sc (.int .i64 (0)))] 4 [(0, (.tmp 20)), (1, (.tmp 23)), (2, (.tmp 26)), (3, (.tmp 29))], none, []⟩,
            ⟨(some 2), .mv (.tmp 30), none, []⟩])
          .ret)
          (.seq (.region [⟨(some 32), .bin .eql (.tmp 10) (.val (.sc (.int .i64 (3)))), none, []⟩,
            ⟨(some 31), .mv (.tmp 32), none, []⟩])
          (.cond (.tmp 31)
            (.seq (.region [⟨(some 33), .mv (.tmp 3), none, []⟩,
              ⟨(some 34), .build [(.sc (.int .u32 (0))), (.sc (.int .i64 (0))), (.sc (.int .i64 (0)))] [(0, 1, (.tmp 33)), (1, 1, (.val (.sc (.int .i64 (20))))), (2, 1, (.val (.sc (.int .i64 (12)))))], none, []⟩,
              ⟨(some 35), .bslice false 109 3 [(.sc (.int .u32 (0))), (.sc (.int .i64 (0))), (.sc (.int .i64 (0)))] 1 [(0, (.tmp 34))], none, []⟩,
              ⟨(some 2), .mv (.tmp 35), none, []⟩])
            .ret)
            (.seq (.region [⟨(some 37), .bin .eql (.tmp 10) (.val (.sc (.int .i64 (4)))), none, []⟩,
              ⟨(some 36), .mv (.tmp 37), none, []⟩])
            (.cond (.tmp 36)
              (.seq (.region [⟨(some 38), .mv (.tmp 3), none, []⟩,
                ⟨(some 39), .bin .shr (.tmp 38) (.val (.sc (.int .u64 (12)))), none, []⟩,
                ⟨(some 40), .build [(.sc (.int .u32 (0))), (.sc (.int .i64 (0))), (.sc (.int .i64 (0)))] [(0, 1, (.tmp 39)), (1, 1, (.val (.sc (.int .i64 (31))))), (2, 1, (.val (.sc (.int .i64 (1)))))], none, []⟩,
                ⟨(some 41), .mv (.tmp 3), none, []⟩,
                ⟨(some 42), .bin .shr (.tmp 41) (.val (.sc (.int .u64 (5)))), none, []⟩,
                ⟨(some 43), .build [(.sc (.int .u32 (0))), (.sc (.int .i64 (0))), (.sc (.int .i64 (0)))] [(0, 1, (.tmp 42)), (1, 1, (.val (.sc (.int .i64 (25))))), (2, 1, (.val (.sc (.int .i64 (6)))))], none, []⟩,
                ⟨(some 44), .mv (.tmp 3), none, []⟩,
                ⟨(some 45), .bin .shr (.tmp 44) (.val (.sc (.int .u64 (1)))), none, []⟩,
                ⟨(some 46), .build [(.sc (.int .u32 (0))), (.sc (.int .i64 (0))), (.sc (.int .i64 (0)))] [(0, 1, (.tmp 45)), (1, 1, (.val (.sc (.int .i64 (8))))), (2, 1, (.val (.sc (.int .i64 (4)))))], none, []⟩,
                ⟨(some 47), .mv (.tmp 3), none, []⟩,
                ⟨(some 48), .bin .shr (.tmp 47) (.val (.sc (.int .u64 (11)))), none, []⟩,
                ⟨(some 49), .build [(.sc (.int .u32 (0))), (.sc (.int .i64 (0))), (.sc (.int .i64 (0)))] [(0, 1, (.tmp 48)), (1, 1, (.val (.sc (.int .i64 (7))))), (2, 1, (.val (.sc (.int .i64 (1)))))], none, []⟩,
                ⟨(some 50), .bslice false 109 3 [(.sc (.int .u32 (0))), (.sc (.int .i64 (0))), (.sc (.int .i64 (0)))] 4 [(0, (.tmp 40)), (1, (.tmp 43)), (2, (.tmp 46)), (3, (.tmp 49))], none, []⟩,
                ⟨(some 2), .mv (.tmp 50), none, []⟩])
              .ret)
              (.seq (.region [⟨(some 52), .bin .eql (.tmp 10) (.val (.sc (.int .i64 (5)))), none, []⟩,
                ⟨(some 51), .mv (.tmp 52), none, []⟩])
              (.cond (.tmp 51)
                (.seq (.region [⟨(some 53), .mv (.tmp 3), none, []⟩,
                  ⟨(some 54), .bin .shr (.tmp 53) (.val (.sc (.int .u64 (5)))), none, []⟩,
                  ⟨(some 55), .build [(.sc (.int .u32 (0))), (.sc (.int .i64 (0))), (.sc (.int .i64 (0)))] [(0, 1, (.tmp 54)), (1, 1, (.val (.sc (.int .i64 (25))))), (2, 1, (.val (.sc (.int .i64 (7)))))], none, []⟩,
                  ⟨(some 56), .mv (.tmp 3), none, []⟩,
                  ⟨(some 57), .build [(.sc (.int .u32 (0))), (.sc (.int .i64 (0))), (.sc (.int .i64 (0)))] [(0, 1, (.tmp 56)), (1, 1, (.val (.sc (.int .i64 (7))))), (2, 1, (.val (.sc (.int .i64 (5)))))], none, []⟩,
                  ⟨(some 58), .bslice false 109 3 [(.sc (.int .u32 (0))), (.sc (.int .i64 (0))), (.sc (.int .i64 (0)))] 2 [(0, (.tmp 55)), (1, (.tmp 57))], none, []⟩,
                  ⟨(some 2), .mv (.tmp 58), none, []⟩])
                .ret)
                (.seq (.region [⟨(some 60), .bin .eql (.tmp 10) (.val (.sc (.int .i64 (7)))), none, []⟩,
                  ⟨(some 59), .mv (.tmp 60), none, []⟩])
                (.cond (.tmp 59)
                  (.seq (.region [⟨(some 61), .mv (.tmp 3), none, []⟩,
                    ⟨(some 62), .build [(.sc (.int .u32 (0))), (.sc (.int .i64 (0))), (.sc (.int .i64 (0)))] [(0, 1, (.tmp 61)), (1, 1, (.val (.sc (.int .i64 (20))))), (2, 1, (.val (.sc (.int .i64 (6)))))], none, []⟩,
                    ⟨(some 63), .bslice false 109 3 [(.sc (.int .u32 (0))), (.sc (.int .i64 (0))), (.sc (.int .i64 (0)))] 1 [(0, (.tmp 62))], none, []⟩,
                    ⟨(some 2), .mv (.tmp 63), none, []⟩])
                  .ret)
                  (.seq (.region [⟨(some 65), .bin .eql (.tmp 10) (.val (.sc (.int .i64 (8)))), none, []⟩,
                    ⟨(some 64), .mv (.tmp 65), none, []⟩])
                  (.cond (.tmp 64)
                    (.seq (.region [⟨(some 66), .mv (.tmp 3), none, []⟩,
                      ⟨(some 67), .build [(.sc (.int .u32 (0))), (.sc (.int .i64 (0))), (.sc (.int .i64 (0)))] [(0, 1, (.tmp 66)), (1, 1, (.val (.sc (.int .i64 (20))))), (2, 1, (.val (.sc (.int .i64 (5)))))], none, []⟩,
                      ⟨(some 68), .bslice false 109 3 [(.sc (.int .u32 (0))), (.sc (.int .i64 (0))), (.sc (.int .i64 (0)))] 1 [(0, (.tmp 67))], none, []⟩,
                      ⟨(some 2), .mv (.tmp 68), none, []⟩])
                    .ret)
                    (.seq (.region [⟨(some 70), .bin .eql (.tmp 10) (.val (.sc (.int .i64 (9)))), none, []⟩,
                      ⟨(some 69), .mv (.tmp 70), none, []⟩])
                    (.cond (.tmp 69)
                      (.seq (.region [⟨(some 71), .mv (.tmp 3), none, []⟩,
                        ⟨(some 72), .build [(.sc (.int .u32 (0))), (.sc (.int .i64 (0))), (.sc (.int .i64 (0)))] [(0, 1, (.tmp 71)), (1, 1, (.val (.sc (.int .i64 (20))))), (2, 1, (.val (.sc (.int .i64 (8)))))], none, []⟩,
                        ⟨(some 73), .bslice false 109 3 [(.sc (.int .u32 (0))), (.sc (.int .i64 (0))), (.sc (.int .i64 (0)))] 1 [(0, (.tmp 72))], none, []⟩,
                        ⟨(some 2), .mv (.tmp 73), none, []⟩])
                      .ret)
                      (.seq (.seq (.region [⟨(some 75), .bin .eql (.tmp 10) (.val (.sc (.int .i64 (10)))), none, []⟩,
                        ⟨(some 74), .mv (.tmp 75), none, []⟩])
                      (.cond (.tmp 74)
                        .skip
                        (.region [⟨(some 76), .bin .eql (.tmp 10) (.val (.sc (.int .i64 (11)))), none, []⟩,
                          ⟨(some 74), .mv (.tmp 76), none, []⟩])))
                      (.cond (.tmp 74)
                        (.seq (.region [⟨(some 77), .fieldAddr 5 (.tmp 1), none, []⟩,
                          ⟨(some 78), .load none (.tmp 77), none, []⟩,
                          ⟨(some 79), .call (.val (.fn (.func 87) [] [])) [(.tmp 78)], none, []⟩,
                          ⟨(some 80), .build [(.sc (.int .u32 (0))), (.sc (.int .i64 (0))), (.sc (.int .i64 (0)))] [(0, 1, (.tmp 79)), (1, 1, (.val (.sc (.int .i64 (26))))), (2, 1, (.val (.sc (.int .i64 (1)))))], none, []⟩,
                          ⟨(some 81), .fieldAddr 6 (.tmp 1), none, []⟩,
                          ⟨(some 82), .load none (.tmp 81), none, []⟩,
                          ⟨(some 83), .call (.val (.fn (.func 87) [] [])) [(.tmp 82)], none, []⟩,
                          ⟨(some 84), .build [(.sc (.int .u32 (0))), (.sc (.int .i64 (0))), (.sc (.int .i64 (0)))] [(0, 1, (.tmp 83)), (1, 1, (.val (.sc (.int .i64 (25))))), (2, 1, (.val (.sc (.int .i64 (1)))))], none, []⟩,
                          ⟨(some 85), .bslice false 109 3 [(.sc (.int .u32 (0))), (.sc (.int .i64 (0))), (.sc (.int .i64 (0)))] 2 [(0, (.tmp 80)), (1, (.tmp 84))], none, []⟩,
                          ⟨(some 2), .mv (.tmp 85), none, []⟩])
                        .ret)
                        .skip))))))))))))))))))))
    (.seq (.seq (.region [⟨(some 86), .fieldAddr 0 (.tmp 1), none, []⟩,
      ⟨(some 87), .load none (.tmp 86), none, []⟩,
      ⟨(some 88), .bin .eql (.tmp 87) (.val (.sc (.int .i64 (65)))), none, []⟩])
    (.cond (.tmp 88)
      (.seq (.region [⟨(some 89), .build [(.sc (.int .u32 (0))), (.sc (.int .i64 (0))), (.sc (.int .i64 (0)))] [(0, 1, (.val (.sc (.int .u32 (1))))), (1, 1, (.val (.sc (.int .i64 (20))))), (2, 1, (.val (.sc (.int .i64 (1)))))], none, []⟩,
        ⟨(some 90), .bslice false 109 3 [(.sc (.int .u32 (0))), (.sc (.int .i64 (0))), (.sc (.int .i64 (0)))] 1 [(0, (.tmp 89))], none, []⟩,
        ⟨(some 2), .mv (.tmp 90), none, []⟩])
      .ret)
      .skip))
    (.seq (.region [⟨(some 2), .mv (.val (.sc (.slice none 0 0))), none, []⟩])
    .ret))))) }

def f_math_bits_Mul64 : AFunc :=
  { nparams := 2, ntmps := 51, pure := false, frz := true, results := [.tmp 4, .tmp 5],
    body := (.seq (.region [⟨(some 4), .mv (.val (.sc (.int .u64 (0)))), none, []⟩,
      ⟨(some 5), .mv (.val (.sc (.int .u64 (0)))), none, []⟩])
    (.seq (.region [⟨(some 14), .mv (.tmp 0), none, []⟩,
      ⟨(some 15), .bin .and (.tmp 14) (.val (.sc (.int .u64 (4294967295)))), none, []⟩,
      ⟨(some 6), .mv (.tmp 15), none, []⟩])
    (.seq (.region [⟨(some 16), .mv (.tmp 0), none, []⟩,
      ⟨(some 17), .bin .shr (.tmp 16) (.val (.sc (.int .u64 (32)))), none, []⟩,
      ⟨(some 7), .mv (.tmp 17), none, []⟩])
    (.seq (.region [⟨(some 18), .mv (.tmp 1), none, []⟩,
      ⟨(some 19), .bin .and (.tmp 18) (.val (.sc (.int .u64 (4294967295)))), none, []⟩,
      ⟨(some 8), .mv (.tmp 19), none, []⟩])
    (.seq (.region [⟨(some 20), .mv (.tmp 1), none, []⟩,
      ⟨(some 21), .bin .shr (.tmp 20) (.val (.sc (.int .u64 (32)))), none, []⟩,
      ⟨(some 9), .mv (.tmp 21), none, []⟩])
    (.seq (.region [⟨(some 22), .mv (.tmp 6), none, []⟩,
      ⟨(some 23), .mv (.tmp 8), none, []⟩,
      ⟨(some 24), .bin .mul (.tmp 22) (.tmp 23), none, []⟩,
      ⟨(some 10), .mv (.tmp 24), none, []⟩])
    (.seq (.region [⟨(some 25), .mv (.tmp 7), none, []⟩,
      ⟨(some 26), .mv (.tmp 8), none, []⟩,
      ⟨(some 27), .bin .mul (.tmp 25) (.tmp 26), none, []⟩,
      ⟨(some 28), .mv (.tmp 10), none, []⟩,
      ⟨(some 29), .bin .shr (.tmp 28) (.val (.sc (.int .u64 (32)))), none, []⟩,
      ⟨(some 30), .bin .add (.tmp 27) (.tmp 29), none, []⟩,
      ⟨(some 11), .mv (.tmp 30), none, []⟩])
    (.seq (.region [⟨(some 31), .mv (.tmp 11), none, []⟩,
      ⟨(some 32), .bin .and (.tmp 31) (.val (.sc (.int .u64 (4294967295)))), none, []⟩,
      ⟨(some 12), .mv (.tmp 32), none, []⟩])
    (.seq (.region [⟨(some 33), .mv (.tmp 11), none, []⟩,
      ⟨(some 34), .bin .shr (.tmp 33) (.val (.sc (.int .u64 (32)))), none, []⟩,
      ⟨(some 13), .mv (.tmp 34), none, []⟩])
    (.seq (.region [⟨(some 35), .mv (.tmp 12), none, []⟩,
      ⟨(some 36), .mv (.tmp 6), none, []⟩,
      ⟨(some 37), .mv (.tmp 9), none, []⟩,
      ⟨(some 38), .bin .mul (.tmp 36) (.tmp 37), none, []⟩,
      ⟨(some 39), .bin .add (.tmp 35) (.tmp 38), none, []⟩,
      ⟨(some 12), .mv (.tmp 39), none, []⟩])
    (.seq (.region [⟨(some 40), .mv (.tmp 7), none, []⟩,
      ⟨(some 41), .mv (.tmp 9), none, []⟩,
      ⟨(some 42), .bin .mul (.tmp 40) (.tmp 41), none, []⟩,
      ⟨(some 43), .mv (.tmp 13), none, []⟩,
      ⟨(some 44), .bin .add (.tmp 42) (.tmp 43), none, []⟩,
      ⟨(some 45), .mv (.tmp 12), none, []⟩,
      ⟨(some 46), .bin .shr (.tmp 45) (.val (.sc (.int .u64 (32)))), none, []⟩,
      ⟨(some 47), .bin .add (.tmp 44) (.tmp 46), none, []⟩,
      ⟨(some 4), .mv (.tmp 47), none, []⟩])
    (.seq (.region [⟨(some 48), .mv (.tmp 0), none, []⟩,
      ⟨(some 49), .mv (.tmp 1), none, []⟩,
      ⟨(some 50), .bin .mul (.tmp 48) (.tmp 49), none, []⟩,
      ⟨(some 5), .mv (.tmp 50), none, []⟩])
    .ret)))))))))))) }

def f_dec_immediate_1 : AFunc :=
  { nparams := 4, ntmps := 14, pure := true, results := [.tmp 7],
    body := (.seq (.region [⟨(some 7), .mv (.val (.sc (.int .i64 (0)))), none, []⟩])
    (.seq (.region [⟨(some 8), .load none (.tmp 3), none, []⟩,
      ⟨(some 9), .mv (.tmp 0), none, []⟩,
      ⟨(some 10), .mv (.tmp 1), none, []⟩,
      ⟨(some 11), .call (.val (.fn (.func 65) [] [])) [(.tmp 8), (.tmp 9), (.tmp 10)], none, []⟩,
      ⟨(some 12), .mv (.tmp 2), none, []⟩,
      ⟨(some 13), .bin .shl (.tmp 11) (.tmp 12), none, []⟩,
      ⟨(some 7), .mv (.tmp 13), none, []⟩])
    .ret)) }

def f_dec_signed : AFunc :=
  { nparams := 2, ntmps := 15, pure := false, frz := true, results := [.tmp 4],
    body := (.seq (.region [⟨(some 4), .mv (.val (.sc (.int .i64 (0)))), none, []⟩])
    (.seq (.region [⟨(some 8), .mv (.tmp 0), none, []⟩,
      ⟨(some 9), .conv .u32 (.tmp 8), none, []⟩,
      ⟨(some 10), .mv (.tmp 1), none, []⟩,
      ⟨(some 11), .call (.val (.fn (.func 88) [] [])) [(.tmp 9), (.tmp 10)], none, []⟩,
      ⟨(some 7), .mv (.tmp 11), none, []⟩,
      ⟨(some 12), .extract (.tmp 7) 0, none, []⟩,
      ⟨(some 13), .extract (.tmp 7) 1, none, []⟩,
      ⟨(some 5), .mv (.tmp 12), none, []⟩,
      ⟨(some 6), .mv (.tmp 13), none, []⟩])
    (.seq (.region [⟨(some 14), .mv (.tmp 5), none, []⟩,
      ⟨(some 4), .mv (.tmp 14), none, []⟩])
    .ret))) }

def f_word_Get : AFunc :=
  { nparams := 3, ntmps := 18, pure := false, frz := true, results := [.tmp 6, .tmp 7],
    body := (.seq (.region [⟨(some 6), .mv (.val (.sc (.int .u32 (0)))), none, []⟩,
      ⟨(some 7), .mv (.val (.sc (.int .i64 (0)))), none, []⟩])
    (.seq (.seq (.region [⟨(some 8), .mv (.tmp 1), none, []⟩,
      ⟨(some 9), .mv (.tmp 2), none, []⟩,
      ⟨(some 10), .call (.val (.fn (.func 89) [] [])) [(.tmp 8), (.tmp 9)], none, []⟩,
      ⟨(some 11), .un .not (.tmp 10), none, []⟩])
    (.cond (.tmp 11)
      (.seq (.region [⟨(some 6), .mv (.val (.sc (.int .u32 (0)))), none, []⟩,
        ⟨(some 7), .mv (.val (.sc (.int .i64 (2)))), none, []⟩])
      .ret)
      .skip))
    (.seq (.region [⟨(some 12), .mv (.tmp 0), none, []⟩,
      ⟨(some 13), .mv (.tmp 1), none, []⟩,
      ⟨(some 14), .bin .shr (.tmp 12) (.tmp 13), none, []⟩,
      ⟨(some 15), .mv (.tmp 2), none, []⟩,
      ⟨(some 16), .call (.val (.fn (.func 90) [] [])) [(.tmp 15)], none, []⟩,
      ⟨(some 17), .bin .and (.tmp 14) (.tmp 16), none, []⟩,
      ⟨(some 6), .mv (.tmp 17), none, []⟩,
      ⟨(some 7), .mv (.val (.sc (.int .i64 (0)))), none, []⟩])
    .ret))) }

def f_dec_arith : AFunc :=
  { nparams := 4, ntmps := 16, pure := false, frz := true, results := [.tmp 8],
    body := (.seq (.region [⟨(some 5), .boxF 115 (.tmp 1), none, []⟩,
      ⟨(some 6), .boxF 115 (.tmp 2), none, []⟩,
      ⟨(some 8), .mv (.val (.sc (.int .i64 (0)))), none, []⟩])
    (.seq (.seq (.region [⟨(some 9), .mv (.tmp 3), none, []⟩])
    (.cond (.tmp 9)
      (.seq (.region [⟨(some 10), .mv (.tmp 0), none, []⟩,
        ⟨(some 11), .indexA 8 1 (.tmp 6) (.tmp 10), none, []⟩,
        ⟨(some 12), .loadF none (.tmp 11), none, []⟩,
        ⟨(some 8), .mv (.tmp 12), none, []⟩])
      .ret)
      .skip))
    (.seq (.region [⟨(some 13), .mv (.tmp 0), none, []⟩,
      ⟨(some 14), .indexA 8 1 (.tmp 5) (.tmp 13), none, []⟩,
      ⟨(some 15), .loadF none (.tmp 14), none, []⟩,
      ⟨(some 8), .mv (.tmp 15), none, []⟩])
    .ret))) }

def f_enc_arith : AFunc :=
  { nparams := 1, ntmps := 49, pure := true, results := [.cell 2 (some 3)],
    body := (.seq (.region [⟨(some 2), .alloc 105 [(.sc (.int .u32 (0))), (.sc (.int .u32 (0))), (.sc (.int .u32 (0)))], none, []⟩])
    (.seq (.seq (.region [⟨(some 3), .mv (.tmp 0), none, []⟩])
    (.block 0 (.seq (.seq (.region [⟨(some 5), .bin .eql (.tmp 3) (.val (.sc (.int .i64 (22)))), none, []⟩,
        ⟨(some 4), .mv (.tmp 5), none, []⟩])
      (.cond (.tmp 4)
        .skip
        (.seq (.region [⟨(some 6), .bin .eql (.tmp 3) (.val (.sc (.int .i64 (31)))), none, []⟩,
          ⟨(some 4), .mv (.tmp 6), none, []⟩])
        (.cond (.tmp 4)
          .skip
          (.seq (.region [⟨(some 7), .bin .eql (.tmp 3) (.val (.sc (.int .i64 (35)))), none, []⟩,
            ⟨(some 4), .mv (.tmp 7), none, []⟩])
          (.cond (.tmp 4)
            .skip
            (.region [⟨(some 8), .bin .eql (.tmp 3) (.val (.sc (.int .i64 (45)))), none, []⟩,
              ⟨(some 4), .mv (.tmp 8), none, []⟩])))))))
      (.cond (.tmp 4)
        (.seq (.region [⟨(some 9), .build [(.sc (.int .u32 (0))), (.sc (.int .u32 (0))), (.sc (.int .u32 (0)))] [(0, 1, (.val (.sc (.int .u32 (0))))), (1, 1, (.val (.sc (.int .u32 (0))))), (2, 1, (.val (.sc (.int .u32 (0)))))], none, []⟩,
          ⟨none, .store 3 (.tmp 2) (.tmp 9), none, []⟩])
        .ret)
        (.seq (.seq (.region [⟨(some 11), .bin .eql (.tmp 3) (.val (.sc (.int .i64 (36)))), none, []⟩,
          ⟨(some 10), .mv (.tmp 11), none, []⟩])
        (.cond (.tmp 10)
          .skip
          (.region [⟨(some 12), .bin .eql (.tmp 3) (.val (.sc (.int .i64 (46)))), none, []⟩,
            ⟨(some 10), .mv (.tmp 12), none, []⟩])))
        (.cond (.tmp 10)
          (.seq (.region [⟨(some 13), .build [(.sc (.int .u32 (0))), (.sc (.int .u32 (0))), (.sc (.int .u32 (0)))] [(0, 1, (.val (.sc (.int .u32 (0))))), (1, 1, (.val (.sc (.int .u32 (0))))), (2, 1, (.val (.sc (.int .u32 (32)))))], none, []⟩,
            ⟨none, .store 3 (.tmp 2) (.tmp 13), none, []⟩])
          .ret)
          (.seq (.seq (.region [⟨(some 15), .bin .eql (.tmp 3) (.val (.sc (.int .i64 (28)))), none, []⟩,
            ⟨(some 14), .mv (.tmp 15), none, []⟩])
          (.cond (.tmp 14)
            .skip
            (.seq (.region [⟨(some 16), .bin .eql (.tmp 3) (.val (.sc (.int .i64 (32)))), none, []⟩,
              ⟨(some 14), .mv (.tmp 16), none, []⟩])
            (.cond (.tmp 14)
              .skip
              (.seq (.region [⟨(some 17), .bin .eql (.tmp 3) (.val (.sc (.int .i64 (37)))), none, []⟩,
                ⟨(some 14), .mv (.tmp 17), none, []⟩])
              (.cond (.tmp 14)
                .skip
                (.region [⟨(some 18), .bin .eql (.tmp 3) (.val (.sc (.int .i64 (47)))), none, []⟩,
                  ⟨(some 14), .mv (.tmp 18), none, []⟩])))))))
          (.cond (.tmp 14)
            (.seq (.region [⟨(some 19), .build [(.sc (.int .u32 (0))), (.sc (.int .u32 (0))), (.sc (.int .u32 (0)))] [(0, 1, (.val (.sc (.int .u32 (0))))), (1, 1, (.val (.sc (.int .u32 (1))))), (2, 1, (.val (.sc (.int .u32 (0)))))], none, []⟩,
              ⟨none, .store 3 (.tmp 2) (.tmp 19), none, []⟩])
            .ret)
            (.seq (.seq (.region [⟨(some 21), .bin .eql (.tmp 3) (.val (.sc (.int .i64 (23)))), none, []⟩,
              ⟨(some 20), .mv (.tmp 21), none, []⟩])
            (.cond (.tmp 20)
              .skip
              (.region [⟨(some 22), .bin .eql (.tmp 3) (.val (.sc (.int .i64 (38)))), none, []⟩,
                ⟨(some 20), .mv (.tmp 22), none, []⟩])))
            (.cond (.tmp 20)
              (.seq (.region [⟨(some 23), .build [(.sc (.int .u32 (0))), (.sc (.int .u32 (0))), (.sc (.int .u32 (0)))] [(0, 1, (.val (.sc (.int .u32 (0))))), (1, 1, (.val (.sc (.int .u32 (2))))), (2, 1, (.val (.sc (.int .u32 (0)))))], none, []⟩,
                ⟨none, .store 3 (.tmp 2) (.tmp 23), none, []⟩])
              .ret)
              (.seq (.seq (.region [⟨(some 25), .bin .eql (.tmp 3) (.val (.sc (.int .i64 (24)))), none, []⟩,
                ⟨(some 24), .mv (.tmp 25), none, []⟩])
              (.cond (.tmp 24)
                .skip
                (.region [⟨(some 26), .bin .eql (.tmp 3) (.val (.sc (.int .i64 (39)))), none, []⟩,
                  ⟨(some 24), .mv (.tmp 26), none, []⟩])))
              (.cond (.tmp 24)
                (.seq (.region [⟨(some 27), .build [(.sc (.int .u32 (0))), (.sc (.int .u32 (0))), (.sc (.int .u32 (0)))] [(0, 1, (.val (.sc (.int .u32 (0))))), (1, 1, (.val (.sc (.int .u32 (3))))), (2, 1, (.val (.sc (.int .u32 (0)))))], none, []⟩,
                  ⟨none, .store 3 (.tmp 2) (.tmp 27), none, []⟩])
                .ret)
                (.seq (.seq (.region [⟨(some 29), .bin .eql (.tmp 3) (.val (.sc (.int .i64 (25)))), none, []⟩,
                  ⟨(some 28), .mv (.tmp 29), none, []⟩])
                (.cond (.tmp 28)
                  .skip
                  (.region [⟨(some 30), .bin .eql (.tmp 3) (.val (.sc (.int .i64 (40)))), none, []⟩,
                    ⟨(some 28), .mv (.tmp 30), none, []⟩])))
                (.cond (.tmp 28)
                  (.seq (.region [⟨(some 31), .build [(.sc (.int .u32 (0))), (.sc (.int .u32 (0))), (.sc (.int .u32 (0)))] [(0, 1, (.val (.sc (.int .u32 (0))))), (1, 1, (.val (.sc (.int .u32 (4))))), (2, 1, (.val (.sc (.int .u32 (0)))))], none, []⟩,
                    ⟨none, .store 3 (.tmp 2) (.tmp 31), none, []⟩])
                  .ret)
                  (.seq (.seq (.region [⟨(some 33), .bin .eql (.tmp 3) (.val (.sc (.int .i64 (29)))), none, []⟩,
                    ⟨(some 32), .mv (.tmp 33), none, []⟩])
                  (.cond (.tmp 32)
                    .skip
                    (.seq (.region [⟨(some 34), .bin .eql (.tmp 3) (.val (.sc (.int .i64 (33)))), none, []⟩,
                      ⟨(some 32), .mv (.tmp 34), none, []⟩])
                    (.cond (.tmp 32)
                      .skip
                      (.seq (.region [⟨(some 35), .bin .eql (.tmp 3) (.val (.sc (.int .i64 (41)))), none, []⟩,
                        ⟨(some 32), .mv (.tmp 35), none, []⟩])
                      (.cond (.tmp 32)
                        .skip
                        (.region [⟨(some 36), .bin .eql (.tmp 3) (.val (.sc (.int .i64 (48)))), none, []⟩,
                          ⟨(some 32), .mv (.tmp 36), none, []⟩])))))))
                  (.cond (.tmp 32)
                    (.seq (.region [⟨(some 37), .build [(.sc (.int .u32 (0))), (.sc (.int .u32 (0))), (.sc (.int .u32 (0)))] [(0, 1, (.val (.sc (.int .u32 (0))))), (1, 1, (.val (.sc (.int .u32 (5))))), (2, 1, (.val (.sc (.int .u32 (0)))))], none, []⟩,
                      ⟨none, .store 3 (.tmp 2) (.tmp 37), none, []⟩])
                    .ret)
                    (.seq (.seq (.region [⟨(some 39), .bin .eql (.tmp 3) (.val (.sc (.int .i64 (30)))), none, []⟩,
                      ⟨(some 38), .mv (.tmp 39), none, []⟩])
                    (.cond (.tmp 38)
                      .skip
                      (.seq (.region [⟨(some 40), .bin .eql (.tmp 3) (.val (.sc (.int .i64 (34)))), none, []⟩,
                        ⟨(some 38), .mv (.tmp 40), none, []⟩])
                      (.cond (.tmp 38)
                        .skip
                        (.seq (.region [⟨(some 41), .bin .eql (.tmp 3) (.val (.sc (.int .i64 (42)))), none, []⟩,
                          ⟨(some 38), .mv (.tmp 41), none, []⟩])
                        (.cond (.tmp 38)
                          .skip
                          (.region [⟨(some 42), .bin .eql (.tmp 3) (.val (.sc (.int .i64 (49)))), none, []⟩,
                            ⟨(some 38), .mv (.tmp 42), none, []⟩])))))))
                    (.cond (.tmp 38)
                      (.seq (.region [⟨(some 43), .build [(.sc (.int .u32 (0))), (.sc (.int .u32 (0))), (.sc (.int .u32 (0)))] [(0, 1, (.val (.sc (.int .u32 (0))))), (1, 1, (.val (.sc (.int .u32 (5))))), (2, 1, (.val (.sc (.int .u32 (32)))))], none, []⟩,
                        ⟨none, .store 3 (.tmp 2) (.tmp 43), none, []⟩])
                      .ret)
                      (.seq (.seq (.region [⟨(some 45), .bin .eql (.tmp 3) (.val (.sc (.int .i64 (26)))), none, []⟩,
                        ⟨(some 44), .mv (.tmp 45), none, []⟩])
                      (.cond (.tmp 44)
                        .skip
                        (.region [⟨(some 46), .bin .eql (.tmp 3) (.val (.sc (.int .i64 (43)))), none, []⟩,
                          ⟨(some 44), .mv (.tmp 46), none, []⟩])))
                      (.cond (.tmp 44)
                        (.seq (.region [⟨(some 47), .build [(.sc (.int .u32 (0))), (.sc (.int .u32 (0))), (.sc (.int .u32 (0)))] [(0, 1, (.val (.sc (.int .u32 (0))))), (1, 1, (.val (.sc (.int .u32 (6))))), (2, 1, (.val (.sc (.int .u32 (0)))))], none, []⟩,
                          ⟨none, .store 3 (.tmp 2) (.tmp 47), none, []⟩])
                        .ret)
                        .skip))))))))))))))))))))
    (.seq (.region [⟨(some 48), .build [(.sc (.int .u32 (0))), (.sc (.int .u32 (0))), (.sc (.int .u32 (0)))] [(0, 1, (.val (.sc (.int .u32 (0))))), (1, 1, (.val (.sc (.int .u32 (7))))), (2, 1, (.val (.sc (.int .u32 (0)))))], none, []⟩,
      ⟨none, .store 3 (.tmp 2) (.tmp 48), none, []⟩])
    .ret))) }

def f_enc_code_with : AFunc :=
  { nparams := 2, ntmps := 11, pure := true, bz := [105], results := [.cell 4 (some 3)],
    body := (.seq (.region [⟨(some 2), .boxF 105 (.tmp 0), none, []⟩,
      ⟨(some 4), .alloc 105 [(.sc (.int .u32 (0))), (.sc (.int .u32 (0))), (.sc (.int .u32 (0)))], none, []⟩])
    (.seq (.region [⟨(some 5), .mv (.tmp 1), none, []⟩,
      ⟨(some 6), .fieldAddr 1 (.tmp 2), none, []⟩,
      ⟨(some 7), .load none (.tmp 6), none, []⟩,
      ⟨(some 8), .fieldAddr 2 (.tmp 2), none, []⟩,
      ⟨(some 9), .load none (.tmp 8), none, []⟩,
      ⟨(some 10), .build [(.sc (.int .u32 (0))), (.sc (.int .u32 (0))), (.sc (.int .u32 (0)))] [(0, 1, (.tmp 5)), (1, 1, (.tmp 7)), (2, 1, (.tmp 9))], none, []⟩,
      ⟨none, .store 3 (.tmp 4) (.tmp 10), none, []⟩])
    .ret)) }

def f_enc_times : AFunc :=
  { nparams := 1, ntmps := 19, pure := true, results := [.cell 2 (some 3)],
    body := (.seq (.region [⟨(some 2), .alloc 105 [(.sc (.int .u32 (0))), (.sc (.int .u32 (0))), (.sc (.int .u32 (0)))], none, []⟩])
    (.seq (.region [⟨(some 3), .mv (.val (.sc (.int .u32 (0)))), none, []⟩])
    (.seq (.block 0 (.seq (.region [⟨(some 5), .mv (.tmp 0), none, []⟩,
        ⟨(some 6), .bin .leq (.tmp 5) (.val (.sc (.int .i64 (57)))), none, []⟩,
        ⟨(some 4), .mv (.tmp 6), none, []⟩])
      (.cond (.tmp 4)
        (.region [⟨(some 7), .mv (.tmp 0), none, []⟩,
          ⟨(some 8), .bin .sub (.tmp 7) (.val (.sc (.int .i64 (50)))), none, []⟩,
          ⟨(some 9), .conv .u32 (.tmp 8), none, []⟩,
          ⟨(some 3), .mv (.tmp 9), none, []⟩])
        (.seq (.region [⟨(some 11), .mv (.tmp 0), none, []⟩,
          ⟨(some 12), .bin .gtr (.tmp 11) (.val (.sc (.int .i64 (58)))), none, []⟩,
          ⟨(some 10), .mv (.tmp 12), none, []⟩])
        (.cond (.tmp 10)
          (.region [⟨(some 13), .mv (.tmp 0), none, []⟩,
            ⟨(some 14), .bin .sub (.tmp 13) (.val (.sc (.int .i64 (59)))), none, []⟩,
            ⟨(some 15), .conv .u32 (.tmp 14), none, []⟩,
            ⟨(some 16), .bin .add (.tmp 15) (.val (.sc (.int .u32 (4)))), none, []⟩,
            ⟨(some 3), .mv (.tmp 16), none, []⟩])
          .skip)))))
    (.seq (.region [⟨(some 17), .mv (.tmp 3), none, []⟩,
      ⟨(some 18), .build [(.sc (.int .u32 (0))), (.sc (.int .u32 (0))), (.sc (.int .u32 (0)))] [(0, 1, (.val (.sc (.int .u32 (0))))), (1, 1, (.tmp 17)), (2, 1, (.val (.sc (.int .u32 (1)))))], none, []⟩,
      ⟨none, .store 3 (.tmp 2) (.tmp 18), none, []⟩])
    .ret)))) }

def f_enc_atomic : AFunc :=
  { nparams := 1, ntmps := 19, pure := true, results := [.cell 2 (some 3)],
    body := (.seq (.region [⟨(some 2), .alloc 105 [(.sc (.int .u32 (0))), (.sc (.int .u32 (0))), (.sc (.int .u32 (0)))], none, []⟩])
    (.seq (.region [⟨(some 4), .build [(.sc (.int .u32 (0))), (.sc (.int .u32 (0))), (.sc (.int .u32 (0))), (.sc (.int .u32 (0))), (.sc (.int .u32 (0))), (.sc (.int .u32 (0))), (.sc (.int .u32 (0))), (.sc (.int .u32 (0))), (.sc (.int .u32 (0))), (.sc (.int .u32 (0))), (.sc (.int .u32 (0)))] [(0, 1, (.val (.sc (.int .u32 (2))))), (1, 1, (.val (.sc (.int .u32 (3))))), (2, 1, (.val (.sc (.int .u32 (1))))), (3, 1, (.val (.sc (.int .u32 (0))))), (4, 1, (.val (.sc (.int .u32 (4))))), (5, 1, (.val (.sc (.int .u32 (12))))), (6, 1, (.val (.sc (.int .u32 (8))))), (7, 1, (.val (.sc (.int .u32 (16))))), (8, 1, (.val (.sc (.int .u32 (20))))), (9, 1, (.val (.sc (.int .u32 (24))))), (10, 1, (.val (.sc (.int .u32 (28)))))], none, []⟩,
      ⟨(some 3), .allocA 124 1 [(.sc (.int .u32 (0))), (.sc (.int .u32 (0))), (.sc (.int .u32 (0))), (.sc (.int .u32 (0))), (.sc (.int .u32 (0))), (.sc (.int .u32 (0))), (.sc (.int .u32 (0))), (.sc (.int .u32 (0))), (.sc (.int .u32 (0))), (.sc (.int .u32 (0))), (.sc (.int .u32 (0)))], none, []⟩,
      ⟨none, .store 11 (.tmp 3) (.tmp 4), none, []⟩])
    (.seq (.seq (.region [⟨(some 5), .mv (.tmp 0), none, []⟩,
      ⟨(some 6), .bin .geq (.tmp 5) (.val (.sc (.int .i64 (77)))), none, []⟩])
    (.cond (.tmp 6)
      (.seq (.region [⟨(some 7), .mv (.tmp 0), none, []⟩,
        ⟨(some 8), .bin .sub (.tmp 7) (.val (.sc (.int .i64 (77)))), none, []⟩,
        ⟨(some 9), .indexA 11 1 (.tmp 3) (.tmp 8), none, []⟩,
        ⟨(some 10), .load none (.tmp 9), none, []⟩,
        ⟨(some 11), .bin .shl (.tmp 10) (.val (.sc (.int .u64 (2)))), none, []⟩,
        ⟨(some 12), .build [(.sc (.int .u32 (0))), (.sc (.int .u32 (0))), (.sc (.int .u32 (0)))] [(0, 1, (.val (.sc (.int .u32 (47))))), (1, 1, (.val (.sc (.int .u32 (3))))), (2, 1, (.tmp 11))], none, []⟩,
        ⟨none, .store 3 (.tmp 2) (.tmp 12), none, []⟩])
      .ret)
      .skip))
    (.seq (.region [⟨(some 13), .mv (.tmp 0), none, []⟩,
      ⟨(some 14), .bin .sub (.tmp 13) (.val (.sc (.int .i64 (66)))), none, []⟩,
      ⟨(some 15), .indexA 11 1 (.tmp 3) (.tmp 14), none, []⟩,
      ⟨(some 16), .load none (.tmp 15), none, []⟩,
      ⟨(some 17), .bin .shl (.tmp 16) (.val (.sc (.int .u64 (2)))), none, []⟩,
      ⟨(some 18), .build [(.sc (.int .u32 (0))), (.sc (.int .u32 (0))), (.sc (.int .u32 (0)))] [(0, 1, (.val (.sc (.int .u32 (47))))), (1, 1, (.val (.sc (.int .u32 (2))))), (2, 1, (.tmp 17))], none, []⟩,
      ⟨none, .store 3 (.tmp 2) (.tmp 18), none, []⟩])
    .ret)))) }

def f_word_Put : AFunc :=
  { nparams := 4, ntmps := 28, pure := false, frz := true, results := [.tmp 8, .tmp 9],
    body := (.seq (.region [⟨(some 8), .mv (.val (.sc (.int .u32 (0)))), none, []⟩,
      ⟨(some 9), .mv (.val (.sc (.int .i64 (0)))), none, []⟩])
    (.seq (.seq (.region [⟨(some 11), .mv (.tmp 1), none, []⟩,
      ⟨(some 12), .mv (.tmp 2), none, []⟩,
      ⟨(some 13), .call (.val (.fn (.func 89) [] [])) [(.tmp 11), (.tmp 12)], none, []⟩,
      ⟨(some 14), .un .not (.tmp 13), none, []⟩])
    (.cond (.tmp 14)
      (.seq (.region [⟨(some 8), .mv (.val (.sc (.int .u32 (0)))), none, []⟩,
        ⟨(some 9), .mv (.val (.sc (.int .i64 (2)))), none, []⟩])
      .ret)
      .skip))
    (.seq (.region [⟨(some 15), .mv (.tmp 2), none, []⟩,
      ⟨(some 16), .call (.val (.fn (.func 90) [] [])) [(.tmp 15)], none, []⟩,
      ⟨(some 17), .mv (.tmp 1), none, []⟩,
      ⟨(some 18), .bin .shl (.tmp 16) (.tmp 17), none, []⟩,
      ⟨(some 10), .mv (.tmp 18), none, []⟩])
    (.seq (.region [⟨(some 19), .mv (.tmp 0), none, []⟩,
      ⟨(some 20), .mv (.tmp 10), none, []⟩,
      ⟨(some 21), .bin .andNot (.tmp 19) (.tmp 20), none, []⟩,
      ⟨(some 22), .mv (.tmp 3), none, []⟩,
      ⟨(some 23), .mv (.tmp 1), none, []⟩,
      ⟨(some 24), .bin .shl (.tmp 22) (.tmp 23), none, []⟩,
      ⟨(some 25), .mv (.tmp 10), none, []⟩,
      ⟨(some 26), .bin .and (.tmp 24) (.tmp 25), none, []⟩,
      ⟨(some 27), .bin .or (.tmp 21) (.tmp 26), none, []⟩,
      ⟨(some 8), .mv (.tmp 27), none, []⟩,
      ⟨(some 9), .mv (.val (.sc (.int .i64 (0)))), none, []⟩])
    .ret)))) }

def f_enc_bit : AFunc :=
  { nparams := 1, ntmps := 4, pure := false, frz := true, results := [.tmp 2],
    body := (.seq (.region [⟨(some 2), .mv (.val (.sc (.int .u32 (0)))), none, []⟩])
    (.seq (.seq (.region [⟨(some 3), .mv (.tmp 0), none, []⟩])
    (.cond (.tmp 3)
      (.seq (.region [⟨(some 2), .mv (.val (.sc (.int .u32 (1)))), none, []⟩])
      .ret)
      .skip))
    (.seq (.region [⟨(some 2), .mv (.val (.sc (.int .u32 (0)))), none, []⟩])
    .ret))) }

def f_word_Sign : AFunc :=
  { nparams := 2, ntmps := 19, pure := false, frz := true, results := [.tmp 4, .tmp 5],
    body := (.seq (.region [⟨(some 4), .mv (.val (.sc (.int .i64 (0)))), none, []⟩,
      ⟨(some 5), .mv (.val (.sc (.int .i64 (0)))), none, []⟩])
    (.seq (.seq (.region [⟨(some 7), .mv (.tmp 1), none, []⟩,
      ⟨(some 8), .call (.val (.fn (.func 89) [] [])) [(.val (.sc (.int .i64 (0)))), (.tmp 7)], none, []⟩,
      ⟨(some 9), .un .not (.tmp 8), none, []⟩])
    (.cond (.tmp 9)
      (.seq (.region [⟨(some 4), .mv (.val (.sc (.int .i64 (0)))), none, []⟩,
        ⟨(some 5), .mv (.val (.sc (.int .i64 (2)))), none, []⟩])
      .ret)
      .skip))
    (.seq (.region [⟨(some 10), .mv (.tmp 1), none, []⟩,
      ⟨(some 11), .bin .sub (.val (.sc (.int .i64 (64)))) (.tmp 10), none, []⟩,
      ⟨(some 6), .mv (.tmp 11), none, []⟩])
    (.seq (.region [⟨(some 12), .mv (.tmp 0), none, []⟩,
      ⟨(some 13), .conv .u64 (.tmp 12), none, []⟩,
      ⟨(some 14), .mv (.tmp 6), none, []⟩,
      ⟨(some 15), .bin .shl (.tmp 13) (.tmp 14), none, []⟩,
      ⟨(some 16), .conv .i64 (.tmp 15), none, []⟩,
      ⟨(some 17), .mv (.tmp 6), none, []⟩,
      ⟨(some 18), .bin .shr (.tmp 16) (.tmp 17), none, []⟩,
      ⟨(some 4), .mv (.tmp 18), none, []⟩,
      ⟨(some 5), .mv (.val (.sc (.int .i64 (0)))), none, []⟩])
    .ret)))) }

def f_word_may : AFunc :=
  { nparams := 2, ntmps := 21, pure := false, frz := true, results := [.tmp 4],
    body := (.seq (.region [⟨(some 4), .mv (.val (.sc (.bool false))), none, []⟩])
    (.seq (.region [⟨(some 5), .mv (.tmp 0), none, []⟩,
      ⟨(some 6), .bin .geq (.tmp 5) (.val (.sc (.int .i64 (0)))), none, []⟩,
      ⟨(some 7), .mv (.tmp 6), none, []⟩,
      ⟨(some 8), .mv (.tmp 1), (some (7, true)), []⟩,
      ⟨(some 9), .bin .geq (.tmp 8) (.val (.sc (.int .i64 (1)))), (some (7, true)), []⟩,
      ⟨(some 10), .pick (.tmp 7) (.tmp 9) (.val (.sc (.bool false))), none, []⟩,
      ⟨(some 11), .mv (.tmp 10), none, []⟩,
      ⟨(some 12), .mv (.tmp 1), (some (11, true)), []⟩,
      ⟨(some 13), .bin .leq (.tmp 12) (.val (.sc (.int .i64 (32)))), (some (11, true)), []⟩,
      ⟨(some 14), .pick (.tmp 11) (.tmp 13) (.val (.sc (.bool false))), none, []⟩,
      ⟨(some 15), .mv (.tmp 14), none, []⟩,
      ⟨(some 16), .mv (.tmp 0), (some (15, true)), []⟩,
      ⟨(some 17), .mv (.tmp 1), (some (15, true)), []⟩,
      ⟨(some 18), .bin .sub (.val (.sc (.int .i64 (32)))) (.tmp 17), (some (15, true)), []⟩,
      ⟨(some 19), .bin .leq (.tmp 16) (.tmp 18), (some (15, true)), []⟩,
      ⟨(some 20), .pick (.tmp 15) (.tmp 19) (.val (.sc (.bool false))), none, []⟩,
      ⟨(some 4), .mv (.tmp 20), none, []⟩])
    .ret)) }

def f_word_mask : AFunc :=
  { nparams := 1, ntmps := 7, pure := false, frz := true, results := [.tmp 2],
    body := (.seq (.region [⟨(some 2), .mv (.val (.sc (.int .u32 (0)))), none, []⟩])
    (.seq (.region [⟨(some 3), .mv (.tmp 0), none, []⟩,
      ⟨(some 4), .bin .shl (.val (.sc (.int .u64 (1)))) (.tmp 3), none, []⟩,
      ⟨(some 5), .bin .sub (.tmp 4) (.val (.sc (.int .u64 (1)))), none, []⟩,
      ⟨(some 6), .conv .u32 (.tmp 5), none, []⟩,
      ⟨(some 2), .mv (.tmp 6), none, []⟩])
    .ret)) }

def Ft (n : Nat) : Option AFunc :=
  if n = 3 then some f_spinnakerlaw19_WindowNobody else
  if n = 4 then some f_spinnakerlaw19_large else
  if n = 5 then some f_spinnakerlaw19_awake else
  if n = 6 then some f_window_Window_Reg else
  if n = 7 then some f_window_Window_Retire else
  if n = 8 then some f_spinnakerlaw19_same else
  if n = 9 then some f_window_Window_Can else
  if n = 10 then some f_window_Window_Execute else
  if n = 11 then some f_spinnakerref04_Encode else
  if n = 12 then some f_window_Fetch else
  if n = 13 then some f_isa_Writes else
  if n = 14 then some f_window_Window_at else
  if n = 15 then some f_slices_Deletewindow_Entrywindow_Entry else
  if n = 16 then some f_window_access else
  if n = 17 then some f_window_reckons else
  if n = 18 then some f_isa_Branch else
  if n = 19 then some f_window_Window_operands else
  if n = 20 then some f_window_Window_steer else
  if n = 21 then some f_alu_Taken else
  if n = 22 then some f_window_Entry_value else
  if n = 23 then some f_window_reckon else
  if n = 24 then some f_image_Place else
  if n = 25 then some f_spinnakerref04_Word else
  if n = 26 then some f_spinnakerref04_bits else
  if n = 27 then some f_spinnakerref03_Form else
  if n = 28 then some f_image_Fetch else
  if n = 29 then some f_window_bad else
  if n = 30 then some f_alu_Upper else
  if n = 31 then some f_isa_May else
  if n = 32 then some f_isa_Access else
  if n = 33 then some f_isa_in else
  if n = 34 then some f_isa_Reads else
  if n = 35 then some f_alu_Taken_1 else
  if n = 36 then some f_alu_Taken_2 else
  if n = 37 then some f_isa_Form else
  if n = 38 then some f_alu_Eval else
  if n = 39 then some f_image_place else
  if n = 40 then some f_spinnakerref04_words else
  if n = 41 then some f_spinnakerref01_Bit else
  if n = 42 then some f_spinnakerref01_Power else
  if n = 43 then some f_spinnakerref03_letter else
  if n = 44 then some f_dec_Decode else
  if n = 45 then some f_isa_Wide else
  if n = 46 then some f_isa_fields else
  if n = 47 then some f_isa_register else
  if n = 48 then some f_isa_immediate else
  if n = 49 then some f_isa_Name else
  if n = 50 then some f_isa_other else
  if n = 51 then some f_alu_plain else
  if n = 52 then some f_alu_short else
  if n = 53 then some f_alu_times else
  if n = 54 then some f_alu_shortTimes else
  if n = 55 then some f_dec_parts else
  if n = 56 then some f_dec_operation else
  if n = 57 then some f_enc_Encode else
  if n = 58 then some f_word_Fits else
  if n = 59 then some f_alu_flag else
  if n = 60 then some f_alu_half else
  if n = 61 then some f_alu_quotient else
  if n = 62 then some f_alu_quotientU else
  if n = 63 then some f_alu_high else
  if n = 64 then some f_dec_immediate else
  if n = 65 then some f_dec_field else
  if n = 66 then some f_dec_pick else
  if n = 67 then some f_dec_immediates else
  if n = 68 then some f_dec_small else
  if n = 69 then some f_dec_whole else
  if n = 70 then some f_dec_half else
  if n = 71 then some f_dec_atomic else
  if n = 72 then some f_dec_system else
  if n = 73 then some f_enc_of else
  if n = 74 then some f_enc_pack else
  if n = 75 then some f_enc_registers else
  if n = 76 then some f_enc_immediate else
  if n = 77 then some f_math_bits_Mul64 else
  if n = 78 then some f_dec_immediate_1 else
  if n = 79 then some f_dec_signed else
  if n = 80 then some f_word_Get else
  if n = 81 then some f_dec_arith else
  if n = 82 then some f_enc_arith else
  if n = 83 then some f_enc_code_with else
  if n = 84 then some f_enc_times else
  if n = 85 then some f_enc_atomic else
  if n = 86 then some f_word_Put else
  if n = 87 then some f_enc_bit else
  if n = 88 then some f_word_Sign else
  if n = 89 then some f_word_may else
  if n = 90 then some f_word_mask else
  none
def Xt (n : Nat) : Option (Nat → List V → Heap → Option (V × Heap)) :=
  none
def quietT (n : Nat) : Nat := if [8, 13, 16, 17, 18, 23, 26, 27, 29, 30, 31, 32, 33, 34, 37, 38, 39, 41, 42, 43, 45, 46, 47, 48, 49, 50, 51, 52, 53, 54, 58, 59, 60, 61, 62, 63, 65, 68, 69, 77, 79, 80, 81, 86, 87, 88, 89, 90].contains n then 2 else if [4, 6, 14, 24, 35, 36, 66, 70, 71, 72, 76, 78].contains n then 1 else 0

abbrev S0 : Fns := ⟨Xt, Ft⟩
def glT (n : Nat) : Option (List V) :=
  if n = 0 then some g0 else
  none
-- GLOB 0 spinnaker/isa.names 94
end Go.Am
