/- The abstract machine and what is proved in it, part 4. -/
import Derived.Test.YtpjdfeplfbmgpaaDoorAm3
import Derived.Deep.Slices
import Derived.ChangeSame
import Derived.Carry
import Derived.ProofKit
import Derived.WideKeyArgs
import Derived.OpenShut
import Derived.RowKit
import Derived.FnData
section
/- Am: functions of the program, as the abstract machine runs them (printed by a program). -/
namespace Go.Am
def g2 : List V := [.sc (.string ⟨#[60, 60]⟩), .sc (.string ⟨#[62, 62]⟩), .sc (.string ⟨#[60, 61]⟩), .sc (.string ⟨#[62, 61]⟩), .sc (.string ⟨#[61, 61]⟩), .sc (.string ⟨#[33, 61]⟩), .sc (.string ⟨#[43]⟩), .sc (.string ⟨#[45]⟩), .sc (.string ⟨#[42]⟩), .sc (.string ⟨#[47]⟩), .sc (.string ⟨#[37]⟩), .sc (.string ⟨#[38]⟩), .sc (.string ⟨#[124]⟩), .sc (.string ⟨#[94]⟩), .sc (.string ⟨#[33]⟩), .sc (.string ⟨#[126]⟩), .sc (.string ⟨#[60]⟩), .sc (.string ⟨#[62]⟩), .sc (.string ⟨#[61]⟩), .sc (.string ⟨#[40]⟩), .sc (.string ⟨#[41]⟩), .sc (.string ⟨#[123]⟩), .sc (.string ⟨#[125]⟩), .sc (.string ⟨#[91]⟩), .sc (.string ⟨#[93]⟩), .sc (.string ⟨#[44]⟩), .sc (.string ⟨#[59]⟩)]
def g4 : List V := [.opq]
def g5 : List V := [.opq]
def g6 : List V := [.sc (.int .u64 1), .sc (.int .u64 10), .sc (.int .u64 100), .sc (.int .u64 1000), .sc (.int .u64 10000), .sc (.int .u64 100000), .sc (.int .u64 1000000), .sc (.int .u64 10000000), .sc (.int .u64 100000000), .sc (.int .u64 1000000000), .sc (.int .u64 10000000000), .sc (.int .u64 100000000000), .sc (.int .u64 1000000000000), .sc (.int .u64 10000000000000), .sc (.int .u64 100000000000000), .sc (.int .u64 1000000000000000), .sc (.int .u64 10000000000000000), .sc (.int .u64 100000000000000000), .sc (.int .u64 1000000000000000000), .sc (.int .u64 10000000000000000000)]
def g9 : List V := [.sc (.int .u8 0), .sc (.int .u8 1), .sc (.int .u8 28), .sc (.int .u8 2), .sc (.int .u8 29), .sc (.int .u8 14), .sc (.int .u8 24), .sc (.int .u8 3), .sc (.int .u8 30), .sc (.int .u8 22), .sc (.int .u8 20), .sc (.int .u8 15), .sc (.int .u8 25), .sc (.int .u8 17), .sc (.int .u8 4), .sc (.int .u8 8), .sc (.int .u8 31), .sc (.int .u8 27), .sc (.int .u8 13), .sc (.int .u8 23), .sc (.int .u8 21), .sc (.int .u8 19), .sc (.int .u8 16), .sc (.int .u8 7), .sc (.int .u8 26), .sc (.int .u8 12), .sc (.int .u8 18), .sc (.int .u8 6), .sc (.int .u8 11), .sc (.int .u8 5), .sc (.int .u8 10), .sc (.int .u8 9)]
def g10 : List V := [.sc (.int .u8 0), .sc (.int .u8 1), .sc (.int .u8 56), .sc (.int .u8 2), .sc (.int .u8 57), .sc (.int .u8 49), .sc (.int .u8 28), .sc (.int .u8 3), .sc (.int .u8 61), .sc (.int .u8 58), .sc (.int .u8 42), .sc (.int .u8 50), .sc (.int .u8 38), .sc (.int .u8 29), .sc (.int .u8 17), .sc (.int .u8 4), .sc (.int .u8 62), .sc (.int .u8 47), .sc (.int .u8 59), .sc (.int .u8 36), .sc (.int .u8 45), .sc (.int .u8 43), .sc (.int .u8 51), .sc (.int .u8 22), .sc (.int .u8 53), .sc (.int .u8 39), .sc (.int .u8 33), .sc (.int .u8 30), .sc (.int .u8 24), .sc (.int .u8 18), .sc (.int .u8 12), .sc (.int .u8 5), .sc (.int .u8 63), .sc (.int .u8 55), .sc (.int .u8 48), .sc (.int .u8 27), .sc (.int .u8 60), .sc (.int .u8 41), .sc (.int .u8 37), .sc (.int .u8 16), .sc (.int .u8 46), .sc (.int .u8 35), .sc (.int .u8 44), .sc (.int .u8 21), .sc (.int .u8 52), .sc (.int .u8 32), .sc (.int .u8 23), .sc (.int .u8 11), .sc (.int .u8 54), .sc (.int .u8 26), .sc (.int .u8 40), .sc (.int .u8 15), .sc (.int .u8 34), .sc (.int .u8 20), .sc (.int .u8 31), .sc (.int .u8 10), .sc (.int .u8 25), .sc (.int .u8 14), .sc (.int .u8 19), .sc (.int .u8 9), .sc (.int .u8 13), .sc (.int .u8 8), .sc (.int .u8 7), .sc (.int .u8 6)]
abbrev k_spinnakerlaw22_LexScans : Nat := 4
abbrev k_spinnakerlaw22_LexBack : Nat := 5
abbrev k_spinnakerlaw22_awake : Nat := 17
abbrev k_lex_Scan : Nat := 18
abbrev k_spinnakerref22_Scan : Nat := 19
abbrev k_spinnakerref22_Same : Nat := 20
abbrev k_spinnakerref22_Name : Nat := 21
abbrev k_spinnakerref22_In : Nat := 22
abbrev k_spinnakerref22_Words : Nat := 23
abbrev k_spinnakerref22_Digits : Nat := 24
abbrev k_spinnakerref22_Signs : Nat := 25
abbrev k_lex_scanner_skip : Nat := 35
abbrev k_lex_scanner_token : Nat := 36
abbrev k_spinnakerref22_token : Nat := 37
abbrev k_spinnakerref22_alpha : Nat := 38
abbrev k_spinnakerref22_num : Nat := 39
abbrev k_lex_letter : Nat := 40
abbrev k_lex_either : Nat := 43
abbrev k_bytes_IndexByte : Nat := 55
abbrev k_lex_scanner_run : Nat := 56
abbrev k_lex_digit : Nat := 57
abbrev k_strconv_Atoi : Nat := 58
abbrev k_lex_scanner_sign : Nat := 59
abbrev k_spinnakerref22_number : Nat := 60
abbrev k_slices_IndexFuncbytebyte : Nat := 61
abbrev k_strconv_Itoa : Nat := 65
abbrev k_i_bytealg_IndexByte : Nat := 72
abbrev k_lex_scanner_run_1 : Nat := 73
abbrev k_i_strconv_Atoi : Nat := 74
abbrev k_strconv_toError : Nat := 75
abbrev k_bytes_HasPrefix : Nat := 76
abbrev k_i_strconv_Itoa : Nat := 78
abbrev k_i_strconv_ParseInt : Nat := 85
abbrev k_strconv_syntaxError : Nat := 86
abbrev k_strconv_rangeError : Nat := 87
abbrev k_strconv_baseError : Nat := 88
abbrev k_strconv_bitSizeError : Nat := 89
abbrev k_bytes_Equal : Nat := 90
abbrev k_i_strconv_FormatInt : Nat := 91
abbrev k_i_strconv_ParseUint : Nat := 98
abbrev k_i_stringslite_Clone : Nat := 99
abbrev k_errors_New : Nat := 100
abbrev k_i_strconv_small : Nat := 101
abbrev k_i_strconv_numDigits : Nat := 102
abbrev k_i_strconv_formatBase10 : Nat := 103
abbrev k_i_strconv_formatBits : Nat := 104
abbrev k_i_strconv_lower : Nat := 110
abbrev k_i_strconv_underscoreOK : Nat := 111
abbrev k_i_strconv_log10Pow2 : Nat := 112
abbrev k_math_bits_Len64 : Nat := 113
abbrev k_i_strconv_bool2int : Nat := 114
abbrev k_i_strconv_isPowerOfTwo : Nat := 115
abbrev k_math_bits_TrailingZeros : Nat := 116
abbrev k_math_bits_TrailingZeros32 : Nat := 118
abbrev k_math_bits_TrailingZeros64 : Nat := 119
def f_spinnakerlaw22_LexScans : AFunc :=
  { nparams := 1, ntmps := 46, pure := true, results := [.tmp 2],
    body := (.seq (.region [⟨(some 2), .mv (.val (.sc (.bool false))), none, []⟩])
    (.seq (.seq (.region [⟨(some 9), .mv (.tmp 0), none, []⟩,
      ⟨(some 10), .len (.tmp 9), none, []⟩,
      ⟨(some 11), .bin .gtr (.tmp 10) (.val (.sc (.int .i64 (5000)))), none, []⟩,
      ⟨(some 12), .mv (.tmp 11), none, []⟩,
      ⟨(some 13), .mv (.tmp 0), (some (12, true)), []⟩,
      ⟨(some 14), .len (.tmp 13), (some (12, true)), []⟩,
      ⟨(some 15), .bin .leq (.tmp 14) (.val (.sc (.int .i64 (16384)))), (some (12, true)), []⟩,
      ⟨(some 16), .pick (.tmp 12) (.tmp 15) (.val (.sc (.bool false))), none, []⟩])
    (.cond (.tmp 16)
      (.seq (.region [⟨(some 17), .call (.val (.fn (.func 17) [] [])) [], none, []⟩,
        ⟨(some 2), .mv (.tmp 17), none, []⟩])
      .ret)
      .skip))
    (.seq (.region [⟨(some 19), .mv (.tmp 0), none, []⟩,
      ⟨(some 20), .call (.val (.fn (.func 18) [] [])) [(.tmp 19)], none, []⟩,
      ⟨(some 18), .mv (.tmp 20), none, []⟩,
      ⟨(some 21), .extract (.tmp 18) 0, none, []⟩,
      ⟨(some 22), .extract (.tmp 18) 1, none, []⟩,
      ⟨(some 23), .extract (.tmp 18) 2, none, []⟩,
      ⟨(some 3), .mv (.tmp 21), none, []⟩,
      ⟨(some 4), .mv (.tmp 22), none, []⟩,
      ⟨(some 5), .mv (.tmp 23), none, []⟩])
    (.seq (.region [⟨(some 25), .mv (.tmp 0), none, []⟩,
      ⟨(some 26), .call (.val (.fn (.func 19) [] [])) [(.tmp 25)], none, []⟩,
      ⟨(some 24), .mv (.tmp 26), none, []⟩,
      ⟨(some 27), .extract (.tmp 24) 0, none, []⟩,
      ⟨(some 28), .extract (.tmp 24) 1, none, []⟩,
      ⟨(some 29), .extract (.tmp 24) 2, none, []⟩,
      ⟨(some 6), .mv (.tmp 27), none, []⟩,
      ⟨(some 7), .mv (.tmp 28), none, []⟩,
      ⟨(some 8), .mv (.tmp 29), none, []⟩])
    (.seq (.region [⟨(some 30), .mv (.tmp 3), none, []⟩,
      ⟨(some 31), .mv (.tmp 6), none, []⟩,
      ⟨(some 32), .call (.val (.fn (.func 20) [] [])) [(.tmp 30), (.tmp 31)], none, []⟩,
      ⟨(some 33), .mv (.tmp 32), none, []⟩,
      ⟨(some 34), .mv (.tmp 4), (some (33, true)), []⟩,
      ⟨(some 35), .mv (.tmp 7), (some (33, true)), []⟩,
      ⟨(some 36), .bin .eql (.tmp 34) (.tmp 35), (some (33, true)), []⟩,
      ⟨(some 37), .pick (.tmp 33) (.tmp 36) (.val (.sc (.bool false))), none, []⟩,
      ⟨(some 38), .mv (.tmp 37), none, []⟩,
      ⟨(some 39), .mv (.tmp 5), (some (38, true)), []⟩,
      ⟨(some 40), .mv (.tmp 8), (some (38, true)), []⟩,
      ⟨(some 41), .bin .eql (.tmp 39) (.tmp 40), (some (38, true)), []⟩,
      ⟨(some 42), .pick (.tmp 38) (.tmp 41) (.val (.sc (.bool false))), none, []⟩,
      ⟨(some 43), .mv (.tmp 42), none, []⟩,
      ⟨(some 44), .call (.val (.fn (.func 17) [] [])) [], (some (43, true)), []⟩,
      ⟨(some 45), .pick (.tmp 43) (.tmp 44) (.val (.sc (.bool false))), none, []⟩,
      ⟨(some 2), .mv (.tmp 45), none, []⟩])
    .ret))))) }

def f_spinnakerlaw22_LexBack : AFunc :=
  { nparams := 1, ntmps := 144, pure := true, results := [.tmp 2],
    body := (.seq (.region [⟨(some 2), .mv (.val (.sc (.bool false))), none, []⟩])
    (.seq (.seq (.region [⟨(some 11), .mv (.tmp 0), none, []⟩,
      ⟨(some 12), .len (.tmp 11), none, []⟩,
      ⟨(some 13), .bin .gtr (.tmp 12) (.val (.sc (.int .i64 (200)))), none, []⟩])
    (.cond (.tmp 13)
      (.seq (.region [⟨(some 14), .call (.val (.fn (.func 17) [] [])) [], none, []⟩,
        ⟨(some 2), .mv (.tmp 14), none, []⟩])
      .ret)
      .skip))
    (.seq (.region [⟨(some 3), .mv (.val (.sc (.string ⟨#[]⟩))), none, []⟩])
    (.seq (.region [⟨(some 4), .mv (.val (.sc (.int .i64 (1)))), none, []⟩])
    (.seq (.region [⟨(some 5), .mv (.val (.sc (.slice none 0 0))), none, []⟩])
    (.seq (.seq (.region [⟨(some 6), .mv (.val (.sc (.int .i64 (0)))), none, []⟩])
    (.block 0 (.loop (.seq (.seq (.region [⟨(some 15), .mv (.tmp 6), none, []⟩,
          ⟨(some 16), .mv (.tmp 0), none, []⟩,
          ⟨(some 17), .len (.tmp 16), none, []⟩,
          ⟨(some 18), .bin .lss (.tmp 15) (.tmp 17), none, []⟩])
        (.cond (.tmp 18)
          .skip
          (.exit 0)))
        (.seq (.block 1 (.seq (.region [⟨(some 21), .mv (.tmp 0), none, []⟩,
            ⟨(some 22), .mv (.tmp 6), none, []⟩,
            ⟨(some 23), .indexS 4 (.tmp 21) (.tmp 22), none, []⟩,
            ⟨(some 24), .fieldAddr 0 (.tmp 23), none, []⟩,
            ⟨(some 25), .load none (.tmp 24), none, []⟩,
            ⟨(some 26), .mv (.tmp 4), none, []⟩,
            ⟨(some 27), .build [(.sc (.int .i64 (0))), (.sc (.string ⟨#[]⟩)), (.sc (.int .i64 (0))), (.sc (.int .i64 (0)))] [(0, 1, (.tmp 25)), (3, 1, (.tmp 26))], none, []⟩,
            ⟨(some 7), .alloc 36 [(.sc (.int .i64 (0))), (.sc (.string ⟨#[]⟩)), (.sc (.int .i64 (0))), (.sc (.int .i64 (0)))], none, []⟩,
            ⟨none, .store 4 (.tmp 7) (.tmp 27), none, []⟩])
          (.seq (.block 2 (.seq (.region [⟨(some 29), .fieldAddr 0 (.tmp 7), none, []⟩,
              ⟨(some 30), .load none (.tmp 29), none, []⟩,
              ⟨(some 31), .bin .eql (.tmp 30) (.val (.sc (.int .i64 (1)))), none, []⟩,
              ⟨(some 32), .mv (.tmp 31), none, []⟩,
              ⟨(some 33), .mv (.tmp 0), (some (32, true)), []⟩,
              ⟨(some 34), .mv (.tmp 6), (some (32, true)), []⟩,
              ⟨(some 35), .indexS 4 (.tmp 33) (.tmp 34), (some (32, true)), []⟩,
              ⟨(some 36), .fieldAddr 1 (.tmp 35), (some (32, true)), []⟩,
              ⟨(some 37), .load none (.tmp 36), (some (32, true)), []⟩,
              ⟨(some 38), .lenStr (.tmp 37), (some (32, true)), []⟩,
              ⟨(some 39), .bin .leq (.tmp 38) (.val (.sc (.int .i64 (32)))), (some (32, true)), []⟩,
              ⟨(some 40), .pick (.tmp 32) (.tmp 39) (.val (.sc (.bool false))), none, []⟩,
              ⟨(some 41), .mv (.tmp 40), none, []⟩,
              ⟨(some 42), .mv (.tmp 0), (some (41, true)), []⟩,
              ⟨(some 43), .mv (.tmp 6), (some (41, true)), []⟩,
              ⟨(some 44), .indexS 4 (.tmp 42) (.tmp 43), (some (41, true)), []⟩,
              ⟨(some 45), .fieldAddr 1 (.tmp 44), (some (41, true)), []⟩,
              ⟨(some 46), .load none (.tmp 45), (some (41, true)), []⟩,
              ⟨(some 47), .call (.val (.fn (.func 21) [] [])) [(.tmp 46)], (some (41, true)), []⟩,
              ⟨(some 48), .mv (.tmp 47), (some (41, true)), []⟩,
              ⟨(some 50), .mv (.tmp 0), (some (48, false)), []⟩,
              ⟨(some 51), .mv (.tmp 6), (some (48, false)), []⟩,
              ⟨(some 52), .indexS 4 (.tmp 50) (.tmp 51), (some (48, false)), []⟩,
              ⟨(some 53), .fieldAddr 1 (.tmp 52), (some (48, false)), []⟩,
              ⟨(some 54), .load none (.tmp 53), (some (48, false)), []⟩,
              ⟨(some 49), .call (.val (.fn (.func 23) [] [])) [], (some (48, false)), []⟩,
              ⟨(some 55), .call (.val (.fn (.func 22) [] [])) [(.tmp 49), (.tmp 54)], (some (48, false)), []⟩,
              ⟨(some 56), .pick (.tmp 48) (.val (.sc (.bool true))) (.tmp 55), (some (41, true)), []⟩,
              ⟨(some 57), .pick (.tmp 41) (.tmp 56) (.val (.sc (.bool false))), none, []⟩,
              ⟨(some 28), .mv (.tmp 57), none, []⟩])
            (.cond (.tmp 28)
              (.seq (.region [⟨(some 58), .mv (.tmp 0), none, []⟩,
                ⟨(some 59), .mv (.tmp 6), none, []⟩,
                ⟨(some 60), .indexS 4 (.tmp 58) (.tmp 59), none, []⟩,
                ⟨(some 61), .fieldAddr 1 (.tmp 60), none, []⟩,
                ⟨(some 62), .load none (.tmp 61), none, []⟩,
                ⟨(some 63), .fieldAddr 1 (.tmp 7), none, []⟩,
                ⟨none, .store 1 (.tmp 63) (.tmp 62), none, []⟩])
              (.region [⟨(some 64), .mv (.tmp 3), none, []⟩,
                ⟨(some 65), .fieldAddr 1 (.tmp 7), none, []⟩,
                ⟨(some 66), .load none (.tmp 65), none, []⟩,
                ⟨(some 67), .bin .add (.tmp 64) (.tmp 66), none, []⟩,
                ⟨(some 3), .mv (.tmp 67), none, []⟩]))
              (.seq (.region [⟨(some 69), .fieldAddr 0 (.tmp 7), none, []⟩,
                ⟨(some 70), .load none (.tmp 69), none, []⟩,
                ⟨(some 71), .bin .eql (.tmp 70) (.val (.sc (.int .i64 (2)))), none, []⟩,
                ⟨(some 72), .mv (.tmp 71), none, []⟩,
                ⟨(some 73), .mv (.tmp 0), (some (72, true)), []⟩,
                ⟨(some 74), .mv (.tmp 6), (some (72, true)), []⟩,
                ⟨(some 75), .indexS 4 (.tmp 73) (.tmp 74), (some (72, true)), []⟩,
                ⟨(some 76), .fieldAddr 2 (.tmp 75), (some (72, true)), []⟩,
                ⟨(some 77), .load none (.tmp 76), (some (72, true)), []⟩,
                ⟨(some 78), .bin .geq (.tmp 77) (.val (.sc (.int .i64 (0)))), (some (72, true)), []⟩,
                ⟨(some 79), .pick (.tmp 72) (.tmp 78) (.val (.sc (.bool false))), none, []⟩,
                ⟨(some 68), .mv (.tmp 79), none, []⟩])
              (.cond (.tmp 68)
                (.seq (.region [⟨(some 80), .mv (.tmp 0), none, []⟩,
                  ⟨(some 81), .mv (.tmp 6), none, []⟩,
                  ⟨(some 82), .indexS 4 (.tmp 80) (.tmp 81), none, []⟩,
                  ⟨(some 83), .fieldAddr 2 (.tmp 82), none, []⟩,
                  ⟨(some 84), .load none (.tmp 83), none, []⟩,
                  ⟨(some 85), .fieldAddr 2 (.tmp 7), none, []⟩,
                  ⟨none, .store 1 (.tmp 85) (.tmp 84), none, []⟩])
                (.region [⟨(some 86), .mv (.tmp 3), none, []⟩,
                  ⟨(some 87), .fieldAddr 2 (.tmp 7), none, []⟩,
                  ⟨(some 88), .load none (.tmp 87), none, []⟩,
                  ⟨(some 89), .call (.val (.fn (.func 24) [] [])) [(.tmp 88)], none, []⟩,
                  ⟨(some 90), .bin .add (.tmp 86) (.tmp 89), none, []⟩,
                  ⟨(some 3), .mv (.tmp 90), none, []⟩]))
                (.seq (.region [⟨(some 92), .fieldAddr 0 (.tmp 7), none, []⟩,
                  ⟨(some 93), .load none (.tmp 92), none, []⟩,
                  ⟨(some 94), .bin .eql (.tmp 93) (.val (.sc (.int .i64 (3)))), none, []⟩,
                  ⟨(some 95), .mv (.tmp 94), none, []⟩,
                  ⟨(some 97), .mv (.tmp 0), (some (95, true)), []⟩,
                  ⟨(some 98), .mv (.tmp 6), (some (95, true)), []⟩,
                  ⟨(some 99), .indexS 4 (.tmp 97) (.tmp 98), (some (95, true)), []⟩,
                  ⟨(some 100), .fieldAddr 1 (.tmp 99), (some (95, true)), []⟩,
                  ⟨(some 101), .load none (.tmp 100), (some (95, true)), []⟩,
                  ⟨(some 96), .call (.val (.fn (.func 25) [] [])) [], (some (95, true)), []⟩,
                  ⟨(some 102), .call (.val (.fn (.func 22) [] [])) [(.tmp 96), (.tmp 101)], (some (95, true)), []⟩,
                  ⟨(some 103), .pick (.tmp 95) (.tmp 102) (.val (.sc (.bool false))), none, []⟩,
                  ⟨(some 91), .mv (.tmp 103), none, []⟩])
                (.cond (.tmp 91)
                  (.seq (.region [⟨(some 104), .mv (.tmp 0), none, []⟩,
                    ⟨(some 105), .mv (.tmp 6), none, []⟩,
                    ⟨(some 106), .indexS 4 (.tmp 104) (.tmp 105), none, []⟩,
                    ⟨(some 107), .fieldAddr 1 (.tmp 106), none, []⟩,
                    ⟨(some 108), .load none (.tmp 107), none, []⟩,
                    ⟨(some 109), .fieldAddr 1 (.tmp 7), none, []⟩,
                    ⟨none, .store 1 (.tmp 109) (.tmp 108), none, []⟩])
                  (.region [⟨(some 110), .mv (.tmp 3), none, []⟩,
                    ⟨(some 111), .fieldAddr 1 (.tmp 7), none, []⟩,
                    ⟨(some 112), .load none (.tmp 111), none, []⟩,
                    ⟨(some 113), .bin .add (.tmp 110) (.tmp 112), none, []⟩,
                    ⟨(some 3), .mv (.tmp 113), none, []⟩]))
                  (.exit 1))))))))
          (.seq (.region [⟨(some 114), .mv (.tmp 5), none, []⟩,
            ⟨(some 115), .load (some 4) (.tmp 7), none, []⟩,
            ⟨(some 116), .bslice false 36 4 [(.sc (.int .i64 (0))), (.sc (.string ⟨#[]⟩)), (.sc (.int .i64 (0))), (.sc (.int .i64 (0)))] 1 [(0, (.tmp 115))], none, []⟩,
            ⟨(some 117), .append 36 4 (.tmp 114) (.tmp 116), none, []⟩,
            ⟨(some 5), .mv (.tmp 117), none, []⟩])
          (.seq (.region [⟨(some 118), .mv (.tmp 3), none, []⟩,
            ⟨(some 119), .bin .add (.tmp 118) (.val (.sc (.string ⟨#[32]⟩))), none, []⟩,
            ⟨(some 3), .mv (.tmp 119), none, []⟩])
          (.seq (.region [⟨(some 120), .mv (.tmp 6), none, []⟩,
            ⟨(some 121), .bin .rem (.tmp 120) (.val (.sc (.int .i64 (3)))), none, []⟩,
            ⟨(some 122), .bin .eql (.tmp 121) (.val (.sc (.int .i64 (0)))), none, []⟩])
          (.cond (.tmp 122)
            (.seq (.region [⟨(some 123), .mv (.tmp 3), none, []⟩,
              ⟨(some 124), .bin .add (.tmp 123) (.val (.sc (.string ⟨#[35, 32, 98, 10]⟩))), none, []⟩,
              ⟨(some 3), .mv (.tmp 124), none, []⟩])
            (.region [⟨(some 125), .mv (.tmp 4), none, []⟩,
              ⟨(some 126), .bin .add (.tmp 125) (.val (.sc (.int .i64 (1)))), none, []⟩,
              ⟨(some 4), .mv (.tmp 126), none, []⟩]))
            .skip)))))))
        (.region [⟨(some 19), .mv (.tmp 6), none, []⟩,
          ⟨(some 20), .bin .add (.tmp 19) (.val (.sc (.int .i64 (1)))), none, []⟩,
          ⟨(some 6), .mv (.tmp 20), none, []⟩]))))))
    (.seq (.region [⟨(some 128), .mv (.tmp 3), none, []⟩,
      ⟨(some 129), .bytesOf (.tmp 128), none, []⟩,
      ⟨(some 130), .call (.val (.fn (.func 18) [] [])) [(.tmp 129)], none, []⟩,
      ⟨(some 127), .mv (.tmp 130), none, []⟩,
      ⟨(some 131), .extract (.tmp 127) 0, none, []⟩,
      ⟨(some 132), .extract (.tmp 127) 1, none, []⟩,
      ⟨(some 133), .extract (.tmp 127) 2, none, []⟩,
      ⟨(some 8), .mv (.tmp 131), none, []⟩,
      ⟨(some 9), .mv (.tmp 132), none, []⟩,
      ⟨(some 10), .mv (.tmp 133), none, []⟩])
    (.seq (.region [⟨(some 134), .mv (.tmp 10), none, []⟩,
      ⟨(some 135), .bin .eql (.tmp 134) (.val (.sc (.int .i64 (0)))), none, []⟩,
      ⟨(some 136), .mv (.tmp 135), none, []⟩,
      ⟨(some 137), .mv (.tmp 8), (some (136, true)), []⟩,
      ⟨(some 138), .mv (.tmp 5), (some (136, true)), []⟩,
      ⟨(some 139), .call (.val (.fn (.func 20) [] [])) [(.tmp 137), (.tmp 138)], (some (136, true)), []⟩,
      ⟨(some 140), .pick (.tmp 136) (.tmp 139) (.val (.sc (.bool false))), none, []⟩,
      ⟨(some 141), .mv (.tmp 140), none, []⟩,
      ⟨(some 142), .call (.val (.fn (.func 17) [] [])) [], (some (141, true)), []⟩,
      ⟨(some 143), .pick (.tmp 141) (.tmp 142) (.val (.sc (.bool false))), none, []⟩,
      ⟨(some 2), .mv (.tmp 143), none, []⟩])
    .ret)))))))) }

def f_spinnakerlaw22_awake : AFunc :=
  { nparams := 0, ntmps := 32, pure := true, results := [.tmp 0],
    body := (.seq (.region [⟨(some 0), .mv (.val (.sc (.bool false))), none, []⟩])
    (.seq (.region [⟨(some 5), .bslice false 5 1 [(.sc (.int .u8 (0)))] 5 [(0, (.val (.sc (.int .u8 (97))))), (1, (.val (.sc (.int .u8 (60))))), (2, (.val (.sc (.int .u8 (60))))), (3, (.val (.sc (.int .u8 (61))))), (4, (.val (.sc (.int .u8 (51)))))], none, []⟩,
      ⟨(some 6), .markB (.tmp 5), none, []⟩,
      ⟨(some 7), .call (.val (.fn (.func 18) [] [])) [(.tmp 6)], none, []⟩,
      ⟨(some 4), .mv (.tmp 7), none, []⟩,
      ⟨(some 8), .extract (.tmp 4) 0, none, []⟩,
      ⟨(some 9), .extract (.tmp 4) 1, none, []⟩,
      ⟨(some 10), .extract (.tmp 4) 2, none, []⟩,
      ⟨(some 1), .mv (.tmp 8), none, []⟩,
      ⟨(some 2), .mv (.tmp 9), none, []⟩,
      ⟨(some 3), .mv (.tmp 10), none, []⟩])
    (.seq (.region [⟨(some 11), .mv (.tmp 3), none, []⟩,
      ⟨(some 12), .bin .eql (.tmp 11) (.val (.sc (.int .i64 (0)))), none, []⟩,
      ⟨(some 13), .mv (.tmp 12), none, []⟩,
      ⟨(some 14), .mv (.tmp 1), (some (13, true)), []⟩,
      ⟨(some 15), .len (.tmp 14), (some (13, true)), []⟩,
      ⟨(some 16), .bin .eql (.tmp 15) (.val (.sc (.int .i64 (4)))), (some (13, true)), []⟩,
      ⟨(some 17), .pick (.tmp 13) (.tmp 16) (.val (.sc (.bool false))), none, []⟩,
      ⟨(some 18), .mv (.tmp 17), none, []⟩,
      ⟨(some 19), .mv (.tmp 1), (some (18, true)), []⟩,
      ⟨(some 20), .indexS 4 (.tmp 19) (.val (.sc (.int .i64 (1)))), (some (18, true)), []⟩,
      ⟨(some 21), .fieldAddr 1 (.tmp 20), (some (18, true)), []⟩,
      ⟨(some 22), .load none (.tmp 21), (some (18, true)), []⟩,
      ⟨(some 23), .bin .eql (.tmp 22) (.val (.sc (.string ⟨#[60, 60]⟩))), (some (18, true)), []⟩,
      ⟨(some 24), .pick (.tmp 18) (.tmp 23) (.val (.sc (.bool false))), none, []⟩,
      ⟨(some 25), .mv (.tmp 24), none, []⟩,
      ⟨(some 26), .mv (.tmp 1), (some (25, true)), []⟩,
      ⟨(some 27), .indexS 4 (.tmp 26) (.val (.sc (.int .i64 (3)))), (some (25, true)), []⟩,
      ⟨(some 28), .fieldAddr 2 (.tmp 27), (some (25, true)), []⟩,
      ⟨(some 29), .load none (.tmp 28), (some (25, true)), []⟩,
      ⟨(some 30), .bin .eql (.tmp 29) (.val (.sc (.int .i64 (3)))), (some (25, true)), []⟩,
      ⟨(some 31), .pick (.tmp 25) (.tmp 30) (.val (.sc (.bool false))), none, []⟩,
      ⟨(some 0), .mv (.tmp 31), none, []⟩])
    .ret))) }

def f_lex_Scan : AFunc :=
  { nparams := 1, ntmps := 39, pure := true, results := [.tmp 2, .tmp 3, .tmp 4],
    body := (.seq (.region [⟨(some 2), .mv (.val (.sc (.slice none 0 0))), none, []⟩,
      ⟨(some 3), .mv (.val (.sc (.int .i64 (0)))), none, []⟩,
      ⟨(some 4), .mv (.val (.sc (.int .i64 (0)))), none, []⟩])
    (.seq (.seq (.region [⟨(some 9), .mv (.tmp 0), none, []⟩,
      ⟨(some 10), .len (.tmp 9), none, []⟩,
      ⟨(some 11), .bin .gtr (.tmp 10) (.val (.sc (.int .i64 (16384)))), none, []⟩])
    (.cond (.tmp 11)
      (.seq (.region [⟨(some 2), .mv (.val (.sc (.slice none 0 0))), none, []⟩,
        ⟨(some 3), .mv (.val (.sc (.int .i64 (0)))), none, []⟩,
        ⟨(some 4), .mv (.val (.sc (.int .i64 (3)))), none, []⟩])
      .ret)
      .skip))
    (.seq (.region [⟨(some 12), .mv (.tmp 0), none, []⟩,
      ⟨(some 13), .build [(.sc (.slice none 0 0)), (.sc (.int .i64 (0)))] [(0, 1, (.tmp 12)), (1, 1, (.val (.sc (.int .i64 (1)))))], none, []⟩,
      ⟨(some 14), .box 53 (.tmp 13), none, []⟩,
      ⟨(some 5), .mv (.tmp 14), none, []⟩])
    (.seq (.region [⟨(some 6), .mv (.val (.sc (.slice none 0 0))), none, []⟩])
    (.seq (.seq (.region [⟨(some 15), .mv (.tmp 5), none, []⟩,
      ⟨(some 16), .call (.val (.fn (.func 35) [] [])) [(.tmp 15)], none, []⟩])
    (.block 0 (.loop (.seq (.seq (.region [⟨(some 17), .mv (.tmp 5), none, []⟩,
          ⟨(some 18), .nilCheck (.tmp 17), none, []⟩,
          ⟨(some 19), .fieldAddr 0 (.tmp 18), none, []⟩,
          ⟨(some 20), .load none (.tmp 19), none, []⟩,
          ⟨(some 21), .len (.tmp 20), none, []⟩,
          ⟨(some 22), .bin .gtr (.tmp 21) (.val (.sc (.int .i64 (0)))), none, []⟩])
        (.cond (.tmp 22)
          .skip
          (.exit 0)))
        (.seq (.block 1 (.seq (.region [⟨(some 26), .mv (.tmp 5), none, []⟩,
            ⟨(some 27), .call (.val (.fn (.func 36) [] [])) [(.tmp 26)], none, []⟩,
            ⟨(some 25), .mv (.tmp 27), none, []⟩,
            ⟨(some 28), .extract (.tmp 25) 0, none, []⟩,
            ⟨(some 29), .extract (.tmp 25) 1, none, []⟩,
            ⟨(some 7), .alloc 36 [(.sc (.int .i64 (0))), (.sc (.string ⟨#[]⟩)), (.sc (.int .i64 (0))), (.sc (.int .i64 (0)))], none, []⟩,
            ⟨none, .store 4 (.tmp 7) (.tmp 28), none, []⟩,
            ⟨(some 8), .mv (.tmp 29), none, []⟩])
          (.seq (.seq (.region [⟨(some 30), .mv (.tmp 8), none, []⟩,
            ⟨(some 31), .un .not (.tmp 30), none, []⟩])
          (.cond (.tmp 31)
            (.seq (.region [⟨(some 32), .fieldAddr 3 (.tmp 7), none, []⟩,
              ⟨(some 33), .load none (.tmp 32), none, []⟩,
              ⟨(some 2), .mv (.val (.sc (.slice none 0 0))), none, []⟩,
              ⟨(some 3), .mv (.tmp 33), none, []⟩,
              ⟨(some 4), .mv (.val (.sc (.int .i64 (20)))), none, []⟩])
            .ret)
            .skip))
          (.region [⟨(some 34), .mv (.tmp 6), none, []⟩,
            ⟨(some 35), .load (some 4) (.tmp 7), none, []⟩,
            ⟨(some 36), .bslice false 36 4 [(.sc (.int .i64 (0))), (.sc (.string ⟨#[]⟩)), (.sc (.int .i64 (0))), (.sc (.int .i64 (0)))] 1 [(0, (.tmp 35))], none, []⟩,
            ⟨(some 37), .append 36 4 (.tmp 34) (.tmp 36), none, []⟩,
            ⟨(some 6), .mv (.tmp 37), none, []⟩]))))
        (.region [⟨(some 23), .mv (.tmp 5), none, []⟩,
          ⟨(some 24), .call (.val (.fn (.func 35) [] [])) [(.tmp 23)], none, []⟩]))))))
    (.seq (.region [⟨(some 38), .mv (.tmp 6), none, []⟩,
      ⟨(some 2), .mv (.tmp 38), none, []⟩,
      ⟨(some 3), .mv (.val (.sc (.int .i64 (0)))), none, []⟩,
      ⟨(some 4), .mv (.val (.sc (.int .i64 (0)))), none, []⟩])
    .ret)))))) }

def f_spinnakerref22_Scan : AFunc :=
  { nparams := 1, ntmps := 70, pure := true, results := [.tmp 2, .tmp 3, .tmp 4],
    body := (.seq (.region [⟨(some 2), .mv (.val (.sc (.slice none 0 0))), none, []⟩,
      ⟨(some 3), .mv (.val (.sc (.int .i64 (0)))), none, []⟩,
      ⟨(some 4), .mv (.val (.sc (.int .i64 (0)))), none, []⟩])
    (.seq (.seq (.region [⟨(some 13), .mv (.tmp 0), none, []⟩,
      ⟨(some 14), .len (.tmp 13), none, []⟩,
      ⟨(some 15), .bin .gtr (.tmp 14) (.val (.sc (.int .i64 (16384)))), none, []⟩])
    (.cond (.tmp 15)
      (.seq (.region [⟨(some 2), .mv (.val (.sc (.slice none 0 0))), none, []⟩,
        ⟨(some 3), .mv (.val (.sc (.int .i64 (0)))), none, []⟩,
        ⟨(some 4), .mv (.val (.sc (.int .i64 (3)))), none, []⟩])
      .ret)
      .skip))
    (.seq (.region [⟨(some 5), .mv (.val (.sc (.slice none 0 0))), none, []⟩])
    (.seq (.region [⟨(some 6), .mv (.val (.sc (.int .i64 (1)))), none, []⟩])
    (.seq (.region [⟨(some 7), .mv (.val (.sc (.int .i64 (0)))), none, []⟩])
    (.seq (.region [⟨(some 8), .mv (.val (.sc (.bool false))), none, []⟩])
    (.seq (.block 0 (.loop (.seq (.seq (.region [⟨(some 16), .mv (.tmp 7), none, []⟩,
          ⟨(some 17), .mv (.tmp 0), none, []⟩,
          ⟨(some 18), .len (.tmp 17), none, []⟩,
          ⟨(some 19), .bin .lss (.tmp 16) (.tmp 18), none, []⟩])
        (.cond (.tmp 19)
          .skip
          (.exit 0)))
        (.block 1 (.seq (.region [⟨(some 20), .mv (.tmp 0), none, []⟩,
            ⟨(some 21), .mv (.tmp 7), none, []⟩,
            ⟨(some 22), .indexS 1 (.tmp 20) (.tmp 21), none, []⟩,
            ⟨(some 23), .load none (.tmp 22), none, []⟩,
            ⟨(some 9), .mv (.tmp 23), none, []⟩])
          (.block 2 (.seq (.region [⟨(some 42), .mv (.tmp 9), none, []⟩,
              ⟨(some 43), .bin .eql (.tmp 42) (.val (.sc (.int .u8 (10)))), none, []⟩,
              ⟨(some 41), .mv (.tmp 43), none, []⟩])
            (.cond (.tmp 41)
              (.seq (.region [⟨(some 44), .mv (.tmp 6), none, []⟩,
                ⟨(some 45), .bin .add (.tmp 44) (.val (.sc (.int .i64 (1)))), none, []⟩,
                ⟨(some 6), .mv (.tmp 45), none, []⟩])
              (.seq (.region [⟨(some 8), .mv (.val (.sc (.bool false))), none, []⟩])
              (.region [⟨(some 46), .mv (.tmp 7), none, []⟩,
                ⟨(some 47), .bin .add (.tmp 46) (.val (.sc (.int .i64 (1)))), none, []⟩,
                ⟨(some 7), .mv (.tmp 47), none, []⟩])))
              (.seq (.region [⟨(some 49), .mv (.tmp 8), none, []⟩,
                ⟨(some 50), .mv (.tmp 49), none, []⟩,
                ⟨(some 51), .mv (.tmp 9), (some (50, false)), []⟩,
                ⟨(some 52), .bin .eql (.tmp 51) (.val (.sc (.int .u8 (32)))), (some (50, false)), []⟩,
                ⟨(some 53), .pick (.tmp 50) (.val (.sc (.bool true))) (.tmp 52), none, []⟩,
                ⟨(some 54), .mv (.tmp 53), none, []⟩,
                ⟨(some 55), .mv (.tmp 9), (some (54, false)), []⟩,
                ⟨(some 56), .bin .eql (.tmp 55) (.val (.sc (.int .u8 (9)))), (some (54, false)), []⟩,
                ⟨(some 57), .pick (.tmp 54) (.val (.sc (.bool true))) (.tmp 56), none, []⟩,
                ⟨(some 58), .mv (.tmp 57), none, []⟩,
                ⟨(some 59), .mv (.tmp 9), (some (58, false)), []⟩,
                ⟨(some 60), .bin .eql (.tmp 59) (.val (.sc (.int .u8 (13)))), (some (58, false)), []⟩,
                ⟨(some 61), .pick (.tmp 58) (.val (.sc (.bool true))) (.tmp 60), none, []⟩,
                ⟨(some 48), .mv (.tmp 61), none, []⟩])
              (.cond (.tmp 48)
                (.region [⟨(some 62), .mv (.tmp 7), none, []⟩,
                  ⟨(some 63), .bin .add (.tmp 62) (.val (.sc (.int .i64 (1)))), none, []⟩,
                  ⟨(some 7), .mv (.tmp 63), none, []⟩])
                (.seq (.region [⟨(some 65), .mv (.tmp 9), none, []⟩,
                  ⟨(some 66), .bin .eql (.tmp 65) (.val (.sc (.int .u8 (35)))), none, []⟩,
                  ⟨(some 64), .mv (.tmp 66), none, []⟩])
                (.cond (.tmp 64)
                  (.seq (.region [⟨(some 8), .mv (.val (.sc (.bool true))), none, []⟩])
                  (.region [⟨(some 67), .mv (.tmp 7), none, []⟩,
                    ⟨(some 68), .bin .add (.tmp 67) (.val (.sc (.int .i64 (1)))), none, []⟩,
                    ⟨(some 7), .mv (.tmp 68), none, []⟩]))
                  (.seq (.region [⟨(some 25), .mv (.tmp 0), none, []⟩,
                    ⟨(some 26), .mv (.tmp 7), none, []⟩,
                    ⟨(some 27), .call (.val (.fn (.func 37) [] [])) [(.tmp 25), (.tmp 26)], none, []⟩,
                    ⟨(some 24), .mv (.tmp 27), none, []⟩,
                    ⟨(some 28), .extract (.tmp 24) 0, none, []⟩,
                    ⟨(some 29), .extract (.tmp 24) 1, none, []⟩,
                    ⟨(some 30), .extract (.tmp 24) 2, none, []⟩,
                    ⟨(some 10), .alloc 36 [(.sc (.int .i64 (0))), (.sc (.string ⟨#[]⟩)), (.sc (.int .i64 (0))), (.sc (.int .i64 (0)))], none, []⟩,
                    ⟨none, .store 4 (.tmp 10) (.tmp 28), none, []⟩,
                    ⟨(some 11), .mv (.tmp 29), none, []⟩,
                    ⟨(some 12), .mv (.tmp 30), none, []⟩])
                  (.seq (.seq (.region [⟨(some 31), .mv (.tmp 12), none, []⟩,
                    ⟨(some 32), .un .not (.tmp 31), none, []⟩])
                  (.cond (.tmp 32)
                    (.seq (.region [⟨(some 33), .mv (.tmp 6), none, []⟩,
                      ⟨(some 2), .mv (.val (.sc (.slice none 0 0))), none, []⟩,
                      ⟨(some 3), .mv (.tmp 33), none, []⟩,
                      ⟨(some 4), .mv (.val (.sc (.int .i64 (20)))), none, []⟩])
                    .ret)
                    .skip))
                  (.seq (.region [⟨(some 34), .mv (.tmp 6), none, []⟩,
                    ⟨(some 35), .fieldAddr 3 (.tmp 10), none, []⟩,
                    ⟨none, .store 1 (.tmp 35) (.tmp 34), none, []⟩])
                  (.seq (.region [⟨(some 36), .mv (.tmp 5), none, []⟩,
                    ⟨(some 37), .load (some 4) (.tmp 10), none, []⟩,
                    ⟨(some 38), .bslice false 36 4 [(.sc (.int .i64 (0))), (.sc (.string ⟨#[]⟩)), (.sc (.int .i64 (0))), (.sc (.int .i64 (0)))] 1 [(0, (.tmp 37))], none, []⟩,
                    ⟨(some 39), .append 36 4 (.tmp 36) (.tmp 38), none, []⟩,
                    ⟨(some 5), .mv (.tmp 39), none, []⟩])
                  (.region [⟨(some 40), .mv (.tmp 11), none, []⟩,
                    ⟨(some 7), .mv (.tmp 40), none, []⟩])))))))))))))))))
    (.seq (.region [⟨(some 69), .mv (.tmp 5), none, []⟩,
      ⟨(some 2), .mv (.tmp 69), none, []⟩,
      ⟨(some 3), .mv (.val (.sc (.int .i64 (0)))), none, []⟩,
      ⟨(some 4), .mv (.val (.sc (.int .i64 (0)))), none, []⟩])
    .ret)))))))) }

def f_spinnakerref22_Same : AFunc :=
  { nparams := 2, ntmps := 26, pure := true, results := [.tmp 4],
    body := (.seq (.region [⟨(some 4), .mv (.val (.sc (.bool false))), none, []⟩])
    (.seq (.seq (.region [⟨(some 6), .mv (.tmp 0), none, []⟩,
      ⟨(some 7), .len (.tmp 6), none, []⟩,
      ⟨(some 8), .mv (.tmp 1), none, []⟩,
      ⟨(some 9), .len (.tmp 8), none, []⟩,
      ⟨(some 10), .bin .neq (.tmp 7) (.tmp 9), none, []⟩])
    (.cond (.tmp 10)
      (.seq (.region [⟨(some 4), .mv (.val (.sc (.bool false))), none, []⟩])
      .ret)
      .skip))
    (.seq (.seq (.region [⟨(some 5), .mv (.val (.sc (.int .i64 (0)))), none, []⟩])
    (.block 0 (.loop (.seq (.seq (.region [⟨(some 11), .mv (.tmp 5), none, []⟩,
          ⟨(some 12), .mv (.tmp 0), none, []⟩,
          ⟨(some 13), .len (.tmp 12), none, []⟩,
          ⟨(some 14), .bin .lss (.tmp 11) (.tmp 13), none, []⟩])
        (.cond (.tmp 14)
          .skip
          (.exit 0)))
        (.seq (.block 1 (.seq (.region [⟨(some 17), .mv (.tmp 0), none, []⟩,
            ⟨(some 18), .mv (.tmp 5), none, []⟩,
            ⟨(some 19), .indexS 4 (.tmp 17) (.tmp 18), none, []⟩,
            ⟨(some 20), .load (some 4) (.tmp 19), none, []⟩,
            ⟨(some 21), .mv (.tmp 1), none, []⟩,
            ⟨(some 22), .mv (.tmp 5), none, []⟩,
            ⟨(some 23), .indexS 4 (.tmp 21) (.tmp 22), none, []⟩,
            ⟨(some 24), .load (some 4) (.tmp 23), none, []⟩,
            ⟨(some 25), .eqAgg true [(0, .i), (1, .s), (2, .i), (3, .i)] (.tmp 20) (.tmp 24), none, []⟩])
          (.cond (.tmp 25)
            (.seq (.region [⟨(some 4), .mv (.val (.sc (.bool false))), none, []⟩])
            .ret)
            .skip)))
        (.region [⟨(some 15), .mv (.tmp 5), none, []⟩,
          ⟨(some 16), .bin .add (.tmp 15) (.val (.sc (.int .i64 (1)))), none, []⟩,
          ⟨(some 5), .mv (.tmp 16), none, []⟩]))))))
    (.seq (.region [⟨(some 4), .mv (.val (.sc (.bool true))), none, []⟩])
    .ret)))) }

def f_spinnakerref22_Name : AFunc :=
  { nparams := 1, ntmps := 41, pure := true, results := [.tmp 2],
    body := (.seq (.region [⟨(some 2), .mv (.val (.sc (.bool false))), none, []⟩])
    (.seq (.seq (.region [⟨(some 4), .mv (.tmp 0), none, []⟩,
      ⟨(some 5), .lenStr (.tmp 4), none, []⟩,
      ⟨(some 6), .bin .lss (.tmp 5) (.val (.sc (.int .i64 (1)))), none, []⟩,
      ⟨(some 7), .mv (.tmp 6), none, []⟩,
      ⟨(some 8), .mv (.tmp 0), (some (7, false)), []⟩,
      ⟨(some 9), .lenStr (.tmp 8), (some (7, false)), []⟩,
      ⟨(some 10), .bin .gtr (.tmp 9) (.val (.sc (.int .i64 (32)))), (some (7, false)), []⟩,
      ⟨(some 11), .pick (.tmp 7) (.val (.sc (.bool true))) (.tmp 10), none, []⟩,
      ⟨(some 12), .mv (.tmp 11), none, []⟩,
      ⟨(some 13), .mv (.tmp 0), (some (12, false)), []⟩,
      ⟨(some 14), .idxStr (.tmp 13) (.val (.sc (.int .i64 (0)))), (some (12, false)), []⟩,
      ⟨(some 15), .call (.val (.fn (.func 38) [] [])) [(.tmp 14)], (some (12, false)), []⟩,
      ⟨(some 16), .un .not (.tmp 15), (some (12, false)), []⟩,
      ⟨(some 17), .pick (.tmp 12) (.val (.sc (.bool true))) (.tmp 16), none, []⟩,
      ⟨(some 18), .mv (.tmp 17), none, []⟩,
      ⟨(some 19), .call (.val (.fn (.func 23) [] [])) [], (some (18, false)), []⟩,
      ⟨(some 20), .mv (.tmp 0), (some (18, false)), []⟩,
      ⟨(some 21), .call (.val (.fn (.func 22) [] [])) [(.tmp 19), (.tmp 20)], (some (18, false)), []⟩,
      ⟨(some 22), .pick (.tmp 18) (.val (.sc (.bool true))) (.tmp 21), none, []⟩])
    (.cond (.tmp 22)
      (.seq (.region [⟨(some 2), .mv (.val (.sc (.bool false))), none, []⟩])
      .ret)
      .skip))
    (.seq (.seq (.region [⟨(some 3), .mv (.val (.sc (.int .i64 (0)))), none, []⟩])
    (.block 0 (.loop (.seq (.seq (.region [⟨(some 23), .mv (.tmp 3), none, []⟩,
          ⟨(some 24), .mv (.tmp 0), none, []⟩,
          ⟨(some 25), .lenStr (.tmp 24), none, []⟩,
          ⟨(some 26), .bin .lss (.tmp 23) (.tmp 25), none, []⟩])
        (.cond (.tmp 26)
          .skip
          (.exit 0)))
        (.seq (.block 1 (.seq (.region [⟨(some 29), .mv (.tmp 0), none, []⟩,
            ⟨(some 30), .mv (.tmp 3), none, []⟩,
            ⟨(some 31), .idxStr (.tmp 29) (.tmp 30), none, []⟩,
            ⟨(some 32), .call (.val (.fn (.func 38) [] [])) [(.tmp 31)], none, []⟩,
            ⟨(some 33), .un .not (.tmp 32), none, []⟩,
            ⟨(some 34), .mv (.tmp 33), none, []⟩,
            ⟨(some 35), .mv (.tmp 0), (some (34, true)), []⟩,
            ⟨(some 36), .mv (.tmp 3), (some (34, true)), []⟩,
            ⟨(some 37), .idxStr (.tmp 35) (.tmp 36), (some (34, true)), []⟩,
            ⟨(some 38), .call (.val (.fn (.func 39) [] [])) [(.tmp 37)], (some (34, true)), []⟩,
            ⟨(some 39), .un .not (.tmp 38), (some (34, true)), []⟩,
            ⟨(some 40), .pick (.tmp 34) (.tmp 39) (.val (.sc (.bool false))), none, []⟩])
          (.cond (.tmp 40)
            (.seq (.region [⟨(some 2), .mv (.val (.sc (.bool false))), none, []⟩])
            .ret)
            .skip)))
        (.region [⟨(some 27), .mv (.tmp 3), none, []⟩,
          ⟨(some 28), .bin .add (.tmp 27) (.val (.sc (.int .i64 (1)))), none, []⟩,
          ⟨(some 3), .mv (.tmp 28), none, []⟩]))))))
    (.seq (.region [⟨(some 2), .mv (.val (.sc (.bool true))), none, []⟩])
    .ret)))) }

def f_spinnakerref22_In : AFunc :=
  { nparams := 2, ntmps := 18, pure := true, results := [.tmp 4],
    body := (.seq (.region [⟨(some 4), .mv (.val (.sc (.bool false))), none, []⟩])
    (.seq (.seq (.region [⟨(some 5), .mv (.val (.sc (.int .i64 (0)))), none, []⟩])
    (.block 0 (.loop (.seq (.seq (.region [⟨(some 6), .mv (.tmp 5), none, []⟩,
          ⟨(some 7), .mv (.tmp 0), none, []⟩,
          ⟨(some 8), .len (.tmp 7), none, []⟩,
          ⟨(some 9), .bin .lss (.tmp 6) (.tmp 8), none, []⟩])
        (.cond (.tmp 9)
          .skip
          (.exit 0)))
        (.seq (.block 1 (.seq (.region [⟨(some 12), .mv (.tmp 0), none, []⟩,
            ⟨(some 13), .mv (.tmp 5), none, []⟩,
            ⟨(some 14), .indexS 1 (.tmp 12) (.tmp 13), none, []⟩,
            ⟨(some 15), .load none (.tmp 14), none, []⟩,
            ⟨(some 16), .mv (.tmp 1), none, []⟩,
            ⟨(some 17), .bin .eql (.tmp 15) (.tmp 16), none, []⟩])
          (.cond (.tmp 17)
            (.seq (.region [⟨(some 4), .mv (.val (.sc (.bool true))), none, []⟩])
            .ret)
            .skip)))
        (.region [⟨(some 10), .mv (.tmp 5), none, []⟩,
          ⟨(some 11), .bin .add (.tmp 10) (.val (.sc (.int .i64 (1)))), none, []⟩,
          ⟨(some 5), .mv (.tmp 11), none, []⟩]))))))
    (.seq (.region [⟨(some 4), .mv (.val (.sc (.bool false))), none, []⟩])
    .ret))) }

def f_spinnakerref22_Words : AFunc :=
  { nparams := 0, ntmps := 2, pure := true, results := [.tmp 0],
    body := (.seq (.region [⟨(some 0), .mv (.val (.sc (.slice none 0 0))), none, []⟩])
    (.seq (.region [⟨(some 1), .bslice false 9 1 [(.sc (.string ⟨#[]⟩))] 26 [(0, (.val (.sc (.string ⟨#[99, 101, 108, 108]⟩)))), (1, (.val (.sc (.string ⟨#[112, 114, 111, 99]⟩)))), (2, (.val (.sc (.string ⟨#[116, 104, 114, 101, 97, 100]⟩)))), (3, (.val (.sc (.string ⟨#[118, 97, 114]⟩)))), (4, (.val (.sc (.string ⟨#[97, 114, 114, 97, 121]⟩)))), (5, (.val (.sc (.string ⟨#[108, 111, 97, 100]⟩)))), (6, (.val (.sc (.string ⟨#[115, 116, 111, 114, 101]⟩)))), (7, (.val (.sc (.string ⟨#[115, 119, 97, 112]⟩)))), (8, (.val (.sc (.string ⟨#[97, 100, 100]⟩)))), (9, (.val (.sc (.string ⟨#[97, 110, 100]⟩)))), (10, (.val (.sc (.string ⟨#[111, 114]⟩)))), (11, (.val (.sc (.string ⟨#[120, 111, 114]⟩)))), (12, (.val (.sc (.string ⟨#[109, 105, 110]⟩)))), (13, (.val (.sc (.string ⟨#[109, 97, 120]⟩)))), (14, (.val (.sc (.string ⟨#[99, 97, 115]⟩)))), (15, (.val (.sc (.string ⟨#[102, 101, 110, 99, 101]⟩)))), (16, (.val (.sc (.string ⟨#[105, 102]⟩)))), (17, (.val (.sc (.string ⟨#[101, 108, 115, 101]⟩)))), (18, (.val (.sc (.string ⟨#[119, 104, 105, 108, 101]⟩)))), (19, (.val (.sc (.string ⟨#[112, 114, 105, 110, 116]⟩)))), (20, (.val (.sc (.string ⟨#[99, 97, 108, 108]⟩)))), (21, (.val (.sc (.string ⟨#[104, 97, 108, 116]⟩)))), (22, (.val (.sc (.string ⟨#[114, 108, 120]⟩)))), (23, (.val (.sc (.string ⟨#[97, 99, 113]⟩)))), (24, (.val (.sc (.string ⟨#[114, 101, 108]⟩)))), (25, (.val (.sc (.string ⟨#[98, 111, 116, 104]⟩))))], none, []⟩,
      ⟨(some 0), .mv (.tmp 1), none, []⟩])
    .ret)) }

def f_spinnakerref22_Digits : AFunc :=
  { nparams := 1, ntmps := 17, pure := true, results := [.tmp 2],
    body := (.seq (.region [⟨(some 2), .mv (.val (.sc (.string ⟨#[]⟩))), none, []⟩])
    (.seq (.region [⟨(some 3), .mv (.val (.sc (.string ⟨#[]⟩))), none, []⟩])
    (.block 0 (.loop (.block 1 (.seq (.region [⟨(some 4), .mv (.tmp 0), none, []⟩,
            ⟨(some 5), .bin .rem (.tmp 4) (.val (.sc (.int .i64 (10)))), none, []⟩,
            ⟨(some 6), .mv (.tmp 0), none, []⟩,
            ⟨(some 7), .bin .rem (.tmp 6) (.val (.sc (.int .i64 (10)))), none, []⟩,
            ⟨(some 8), .bin .add (.tmp 7) (.val (.sc (.int .i64 (1)))), none, []⟩,
            ⟨(some 9), .sliceStr (.val (.sc (.string ⟨#[48, 49, 50, 51, 52, 53, 54, 55, 56, 57]⟩))) (some (.tmp 5)) (some (.tmp 8)), none, []⟩,
            ⟨(some 10), .mv (.tmp 3), none, []⟩,
            ⟨(some 11), .bin .add (.tmp 9) (.tmp 10), none, []⟩,
            ⟨(some 3), .mv (.tmp 11), none, []⟩])
          (.seq (.region [⟨(some 12), .mv (.tmp 0), none, []⟩,
            ⟨(some 13), .bin .quo (.tmp 12) (.val (.sc (.int .i64 (10)))), none, []⟩,
            ⟨(some 0), .mv (.tmp 13), none, []⟩])
          (.seq (.region [⟨(some 14), .mv (.tmp 0), none, []⟩,
            ⟨(some 15), .bin .leq (.tmp 14) (.val (.sc (.int .i64 (0)))), none, []⟩])
          (.cond (.tmp 15)
            (.seq (.region [⟨(some 16), .mv (.tmp 3), none, []⟩,
              ⟨(some 2), .mv (.tmp 16), none, []⟩])
            .ret)
            .skip))))))))) }

def f_spinnakerref22_Signs : AFunc :=
  { nparams := 0, ntmps := 2, pure := true, results := [.tmp 0],
    body := (.seq (.region [⟨(some 0), .mv (.val (.sc (.slice none 0 0))), none, []⟩])
    (.seq (.region [⟨(some 1), .bslice false 9 1 [(.sc (.string ⟨#[]⟩))] 27 [(0, (.val (.sc (.string ⟨#[60, 60]⟩)))), (1, (.val (.sc (.string ⟨#[62, 62]⟩)))), (2, (.val (.sc (.string ⟨#[60, 61]⟩)))), (3, (.val (.sc (.string ⟨#[62, 61]⟩)))), (4, (.val (.sc (.string ⟨#[61, 61]⟩)))), (5, (.val (.sc (.string ⟨#[33, 61]⟩)))), (6, (.val (.sc (.string ⟨#[43]⟩)))), (7, (.val (.sc (.string ⟨#[45]⟩)))), (8, (.val (.sc (.string ⟨#[42]⟩)))), (9, (.val (.sc (.string ⟨#[47]⟩)))), (10, (.val (.sc (.string ⟨#[37]⟩)))), (11, (.val (.sc (.string ⟨#[38]⟩)))), (12, (.val (.sc (.string ⟨#[124]⟩)))), (13, (.val (.sc (.string ⟨#[94]⟩)))), (14, (.val (.sc (.string ⟨#[33]⟩)))), (15, (.val (.sc (.string ⟨#[126]⟩)))), (16, (.val (.sc (.string ⟨#[60]⟩)))), (17, (.val (.sc (.string ⟨#[62]⟩)))), (18, (.val (.sc (.string ⟨#[61]⟩)))), (19, (.val (.sc (.string ⟨#[40]⟩)))), (20, (.val (.sc (.string ⟨#[41]⟩)))), (21, (.val (.sc (.string ⟨#[123]⟩)))), (22, (.val (.sc (.string ⟨#[125]⟩)))), (23, (.val (.sc (.string ⟨#[91]⟩)))), (24, (.val (.sc (.string ⟨#[93]⟩)))), (25, (.val (.sc (.string ⟨#[44]⟩)))), (26, (.val (.sc (.string ⟨#[59]⟩))))], none, []⟩,
      ⟨(some 0), .mv (.tmp 1), none, []⟩])
    .ret)) }

def f_lex_scanner_skip : AFunc :=
  { nparams := 1, ntmps := 59, pure := false, results := [],
    body := (.block 0 (.loop (.seq (.seq (.region [⟨(some 3), .mv (.tmp 0), none, []⟩,
          ⟨(some 4), .nilCheck (.tmp 3), none, []⟩,
          ⟨(some 5), .fieldAddr 0 (.tmp 4), none, []⟩,
          ⟨(some 6), .load none (.tmp 5), none, []⟩,
          ⟨(some 7), .len (.tmp 6), none, []⟩,
          ⟨(some 8), .bin .gtr (.tmp 7) (.val (.sc (.int .i64 (0)))), none, []⟩])
        (.cond (.tmp 8)
          .skip
          (.exit 0)))
        (.block 1 (.seq (.seq (.region [⟨(some 9), .mv (.tmp 0), none, []⟩,
            ⟨(some 10), .nilCheck (.tmp 9), none, []⟩,
            ⟨(some 11), .fieldAddr 0 (.tmp 10), none, []⟩,
            ⟨(some 12), .load none (.tmp 11), none, []⟩,
            ⟨(some 13), .indexS 1 (.tmp 12) (.val (.sc (.int .i64 (0)))), none, []⟩,
            ⟨(some 14), .load none (.tmp 13), none, []⟩])
          (.block 2 (.seq (.region [⟨(some 16), .bin .eql (.tmp 14) (.val (.sc (.int .u8 (10)))), none, []⟩,
              ⟨(some 15), .mv (.tmp 16), none, []⟩])
            (.cond (.tmp 15)
              (.region [⟨(some 17), .mv (.tmp 0), none, []⟩,
                ⟨(some 18), .nilCheck (.tmp 17), none, []⟩,
                ⟨(some 19), .fieldAddr 1 (.tmp 18), none, []⟩,
                ⟨(some 20), .load none (.tmp 19), none, []⟩,
                ⟨(some 21), .bin .add (.tmp 20) (.val (.sc (.int .i64 (1)))), none, []⟩,
                ⟨(some 22), .nilCheck (.tmp 17), none, []⟩,
                ⟨(some 23), .fieldAddr 1 (.tmp 22), none, []⟩,
                ⟨none, .store 1 (.tmp 23) (.tmp 21), none, []⟩])
              (.seq (.seq (.region [⟨(some 25), .bin .eql (.tmp 14) (.val (.sc (.int .u8 (32)))), none, []⟩,
                ⟨(some 24), .mv (.tmp 25), none, []⟩])
              (.cond (.tmp 24)
                .skip
                (.seq (.region [⟨(some 26), .bin .eql (.tmp 14) (.val (.sc (.int .u8 (9)))), none, []⟩,
                  ⟨(some 24), .mv (.tmp 26), none, []⟩])
                (.cond (.tmp 24)
                  .skip
                  (.region [⟨(some 27), .bin .eql (.tmp 14) (.val (.sc (.int .u8 (13)))), none, []⟩,
                    ⟨(some 24), .mv (.tmp 27), none, []⟩])))))
              (.cond (.tmp 24)
                .skip
                (.seq (.region [⟨(some 29), .bin .eql (.tmp 14) (.val (.sc (.int .u8 (35)))), none, []⟩,
                  ⟨(some 28), .mv (.tmp 29), none, []⟩])
                (.cond (.tmp 28)
                  (.seq (.region [⟨(some 30), .mv (.tmp 0), none, []⟩,
                    ⟨(some 31), .nilCheck (.tmp 30), none, []⟩,
                    ⟨(some 32), .fieldAddr 0 (.tmp 31), none, []⟩,
                    ⟨(some 33), .load none (.tmp 32), none, []⟩,
                    ⟨(some 34), .call (.val (.fn (.func 55) [] [])) [(.tmp 33), (.val (.sc (.int .u8 (10))))], none, []⟩,
                    ⟨(some 2), .mv (.tmp 34), none, []⟩])
                  (.seq (.seq (.region [⟨(some 35), .mv (.tmp 2), none, []⟩,
                    ⟨(some 36), .bin .lss (.tmp 35) (.val (.sc (.int .i64 (0)))), none, []⟩])
                  (.cond (.tmp 36)
                    (.region [⟨(some 37), .mv (.tmp 0), none, []⟩,
                      ⟨(some 38), .nilCheck (.tmp 37), none, []⟩,
                      ⟨(some 39), .fieldAddr 0 (.tmp 38), none, []⟩,
                      ⟨(some 40), .load none (.tmp 39), none, []⟩,
                      ⟨(some 41), .len (.tmp 40), none, []⟩,
                      ⟨(some 2), .mv (.tmp 41), none, []⟩])
                    .skip))
                  (.seq (.region [⟨(some 42), .mv (.tmp 0), none, []⟩,
                    ⟨(some 43), .mv (.tmp 0), none, []⟩,
                    ⟨(some 44), .nilCheck (.tmp 43), none, []⟩,
                    ⟨(some 45), .fieldAddr 0 (.tmp 44), none, []⟩,
                    ⟨(some 46), .load none (.tmp 45), none, []⟩,
                    ⟨(some 47), .mv (.tmp 2), none, []⟩,
                    ⟨(some 48), .slice 1 (.tmp 46) (some (.tmp 47)) none none, none, []⟩,
                    ⟨(some 49), .nilCheck (.tmp 42), none, []⟩,
                    ⟨(some 50), .fieldAddr 0 (.tmp 49), none, []⟩,
                    ⟨none, .store 1 (.tmp 50) (.tmp 48), none, []⟩])
                  (.exit 1))))
                  .ret))))))))
          (.region [⟨(some 51), .mv (.tmp 0), none, []⟩,
            ⟨(some 52), .mv (.tmp 0), none, []⟩,
            ⟨(some 53), .nilCheck (.tmp 52), none, []⟩,
            ⟨(some 54), .fieldAddr 0 (.tmp 53), none, []⟩,
            ⟨(some 55), .load none (.tmp 54), none, []⟩,
            ⟨(some 56), .slice 1 (.tmp 55) (some (.val (.sc (.int .i64 (1))))) none none, none, []⟩,
            ⟨(some 57), .nilCheck (.tmp 51), none, []⟩,
            ⟨(some 58), .fieldAddr 0 (.tmp 57), none, []⟩,
            ⟨none, .store 1 (.tmp 58) (.tmp 56), none, []⟩])))))) }

def f_lex_scanner_token : AFunc :=
  { nparams := 1, ntmps := 72, pure := false, results := [.cell 2 (some 4), .tmp 3],
    body := (.seq (.region [⟨(some 2), .alloc 36 [(.sc (.int .i64 (0))), (.sc (.string ⟨#[]⟩)), (.sc (.int .i64 (0))), (.sc (.int .i64 (0)))], none, []⟩,
      ⟨(some 3), .mv (.val (.sc (.bool false))), none, []⟩])
    (.seq (.region [⟨(some 8), .mv (.tmp 0), none, []⟩,
      ⟨(some 9), .nilCheck (.tmp 8), none, []⟩,
      ⟨(some 10), .fieldAddr 1 (.tmp 9), none, []⟩,
      ⟨(some 11), .load none (.tmp 10), none, []⟩,
      ⟨(some 12), .build [(.sc (.int .i64 (0))), (.sc (.string ⟨#[]⟩)), (.sc (.int .i64 (0))), (.sc (.int .i64 (0)))] [(3, 1, (.tmp 11))], none, []⟩,
      ⟨(some 4), .alloc 36 [(.sc (.int .i64 (0))), (.sc (.string ⟨#[]⟩)), (.sc (.int .i64 (0))), (.sc (.int .i64 (0)))], none, []⟩,
      ⟨none, .store 4 (.tmp 4) (.tmp 12), none, []⟩])
    (.seq (.seq (.region [⟨(some 13), .mv (.tmp 0), none, []⟩,
      ⟨(some 14), .nilCheck (.tmp 13), none, []⟩,
      ⟨(some 15), .fieldAddr 0 (.tmp 14), none, []⟩,
      ⟨(some 16), .load none (.tmp 15), none, []⟩,
      ⟨(some 17), .indexS 1 (.tmp 16) (.val (.sc (.int .i64 (0)))), none, []⟩,
      ⟨(some 18), .load none (.tmp 17), none, []⟩,
      ⟨(some 5), .mv (.tmp 18), none, []⟩])
    (.block 0 (.seq (.region [⟨(some 20), .mv (.tmp 5), none, []⟩,
        ⟨(some 21), .call (.val (.fn (.func 40) [] [])) [(.tmp 20)], none, []⟩,
        ⟨(some 19), .mv (.tmp 21), none, []⟩])
      (.cond (.tmp 19)
        (.seq (.region [⟨(some 22), .mv (.tmp 0), none, []⟩,
          ⟨(some 23), .call (.val (.fn (.func 56) [] [])) [(.tmp 22), (.val (.fn (.func 43) [] []))], none, []⟩,
          ⟨(some 24), .fieldAddr 0 (.tmp 4), none, []⟩,
          ⟨none, .store 1 (.tmp 24) (.val (.sc (.int .i64 (1)))), none, []⟩,
          ⟨(some 25), .fieldAddr 1 (.tmp 4), none, []⟩,
          ⟨none, .store 1 (.tmp 25) (.tmp 23), none, []⟩])
        (.seq (.region [⟨(some 26), .load (some 4) (.tmp 4), none, [2]⟩,
          ⟨(some 27), .fieldAddr 1 (.tmp 4), none, []⟩,
          ⟨(some 28), .load none (.tmp 27), none, [2]⟩,
          ⟨(some 29), .lenStr (.tmp 28), none, []⟩,
          ⟨(some 30), .bin .leq (.tmp 29) (.val (.sc (.int .i64 (32)))), none, []⟩,
          ⟨none, .store 4 (.tmp 2) (.tmp 26), none, []⟩,
          ⟨(some 3), .mv (.tmp 30), none, []⟩])
        .ret))
        (.seq (.region [⟨(some 32), .mv (.tmp 5), none, []⟩,
          ⟨(some 33), .call (.val (.fn (.func 57) [] [])) [(.tmp 32)], none, []⟩,
          ⟨(some 31), .mv (.tmp 33), none, []⟩])
        (.cond (.tmp 31)
          (.seq (.region [⟨(some 35), .mv (.tmp 0), none, []⟩,
            ⟨(some 36), .call (.val (.fn (.func 56) [] [])) [(.tmp 35), (.val (.fn (.func 57) [] []))], none, []⟩,
            ⟨(some 37), .call (.val (.fn (.func 58) [] [])) [(.tmp 36)], none, []⟩,
            ⟨(some 34), .mv (.tmp 37), none, []⟩,
            ⟨(some 38), .extract (.tmp 34) 0, none, []⟩,
            ⟨(some 39), .extract (.tmp 34) 1, none, []⟩,
            ⟨(some 6), .mv (.tmp 38), none, []⟩,
            ⟨(some 7), .mv (.tmp 39), none, []⟩])
          (.seq (.region [⟨(some 40), .mv (.tmp 6), none, []⟩,
            ⟨(some 41), .fieldAddr 0 (.tmp 4), none, []⟩,
            ⟨none, .store 1 (.tmp 41) (.val (.sc (.int .i64 (2)))), none, []⟩,
            ⟨(some 42), .fieldAddr 2 (.tmp 4), none, []⟩,
            ⟨none, .store 1 (.tmp 42) (.tmp 40), none, []⟩])
          (.seq (.region [⟨(some 43), .load (some 4) (.tmp 4), none, []⟩,
            ⟨(some 44), .mv (.tmp 7), none, []⟩,
            ⟨(some 45), .isNil false .iface (.tmp 44), none, []⟩,
            ⟨(some 46), .mv (.tmp 45), none, []⟩,
            ⟨(some 47), .mv (.tmp 0), (some (46, true)), []⟩,
            ⟨(some 48), .nilCheck (.tmp 47), (some (46, true)), []⟩,
            ⟨(some 49), .fieldAddr 0 (.tmp 48), (some (46, true)), []⟩,
            ⟨(some 50), .load none (.tmp 49), (some (46, true)), []⟩,
            ⟨(some 51), .len (.tmp 50), (some (46, true)), []⟩,
            ⟨(some 52), .bin .eql (.tmp 51) (.val (.sc (.int .i64 (0)))), (some (46, true)), []⟩,
            ⟨(some 53), .mv (.tmp 52), (some (46, true)), []⟩,
            ⟨(some 54), .mv (.tmp 0), (some (53, false)), []⟩,
            ⟨(some 55), .nilCheck (.tmp 54), (some (53, false)), []⟩,
            ⟨(some 56), .fieldAddr 0 (.tmp 55), (some (53, false)), []⟩,
            ⟨(some 57), .load none (.tmp 56), (some (53, false)), []⟩,
            ⟨(some 58), .indexS 1 (.tmp 57) (.val (.sc (.int .i64 (0)))), (some (53, false)), []⟩,
            ⟨(some 59), .load none (.tmp 58), (some (53, false)), []⟩,
            ⟨(some 60), .call (.val (.fn (.func 40) [] [])) [(.tmp 59)], (some (53, false)), []⟩,
            ⟨(some 61), .un .not (.tmp 60), (some (53, false)), []⟩,
            ⟨(some 62), .pick (.tmp 53) (.val (.sc (.bool true))) (.tmp 61), (some (46, true)), []⟩,
            ⟨(some 63), .pick (.tmp 46) (.tmp 62) (.val (.sc (.bool false))), none, []⟩,
            ⟨none, .store 4 (.tmp 2) (.tmp 43), none, []⟩,
            ⟨(some 3), .mv (.tmp 63), none, []⟩])
          .ret)))
          .skip))))))
    (.seq (.region [⟨(some 64), .mv (.tmp 0), none, []⟩,
      ⟨(some 65), .call (.val (.fn (.func 59) [] [])) [(.tmp 64)], none, []⟩,
      ⟨(some 66), .fieldAddr 0 (.tmp 4), none, []⟩,
      ⟨none, .store 1 (.tmp 66) (.val (.sc (.int .i64 (3)))), none, []⟩,
      ⟨(some 67), .fieldAddr 1 (.tmp 4), none, []⟩,
      ⟨none, .store 1 (.tmp 67) (.tmp 65), none, []⟩])
    (.seq (.region [⟨(some 68), .load (some 4) (.tmp 4), none, [2]⟩,
      ⟨(some 69), .fieldAddr 1 (.tmp 4), none, []⟩,
      ⟨(some 70), .load none (.tmp 69), none, [2]⟩,
      ⟨(some 71), .bin .neq (.tmp 70) (.val (.sc (.string ⟨#[]⟩))), none, []⟩,
      ⟨none, .store 4 (.tmp 2) (.tmp 68), none, []⟩,
      ⟨(some 3), .mv (.tmp 71), none, []⟩])
    .ret))))) }

def f_spinnakerref22_token : AFunc :=
  { nparams := 2, ntmps := 143, pure := true, results := [.cell 4 (some 4), .tmp 5, .tmp 6],
    body := (.seq (.region [⟨(some 4), .alloc 36 [(.sc (.int .i64 (0))), (.sc (.string ⟨#[]⟩)), (.sc (.int .i64 (0))), (.sc (.int .i64 (0)))], none, []⟩,
      ⟨(some 5), .mv (.val (.sc (.int .i64 (0)))), none, []⟩,
      ⟨(some 6), .mv (.val (.sc (.bool false))), none, []⟩])
    (.seq (.region [⟨(some 12), .mv (.tmp 1), none, []⟩,
      ⟨(some 7), .mv (.tmp 12), none, []⟩])
    (.seq (.seq (.region [⟨(some 13), .mv (.tmp 0), none, []⟩,
      ⟨(some 14), .mv (.tmp 1), none, []⟩,
      ⟨(some 15), .indexS 1 (.tmp 13) (.tmp 14), none, []⟩,
      ⟨(some 16), .load none (.tmp 15), none, []⟩,
      ⟨(some 17), .call (.val (.fn (.func 38) [] [])) [(.tmp 16)], none, []⟩])
    (.cond (.tmp 17)
      (.seq (.block 0 (.loop (.seq (.seq (.region [⟨(some 18), .mv (.tmp 7), none, []⟩,
            ⟨(some 19), .mv (.tmp 0), none, []⟩,
            ⟨(some 20), .len (.tmp 19), none, []⟩,
            ⟨(some 21), .bin .lss (.tmp 18) (.tmp 20), none, []⟩,
            ⟨(some 22), .mv (.tmp 21), none, []⟩,
            ⟨(some 23), .mv (.tmp 0), (some (22, true)), []⟩,
            ⟨(some 24), .mv (.tmp 7), (some (22, true)), []⟩,
            ⟨(some 25), .indexS 1 (.tmp 23) (.tmp 24), (some (22, true)), []⟩,
            ⟨(some 26), .load none (.tmp 25), (some (22, true)), []⟩,
            ⟨(some 27), .call (.val (.fn (.func 38) [] [])) [(.tmp 26)], (some (22, true)), []⟩,
            ⟨(some 28), .mv (.tmp 27), (some (22, true)), []⟩,
            ⟨(some 29), .mv (.tmp 0), (some (28, false)), []⟩,
            ⟨(some 30), .mv (.tmp 7), (some (28, false)), []⟩,
            ⟨(some 31), .indexS 1 (.tmp 29) (.tmp 30), (some (28, false)), []⟩,
            ⟨(some 32), .load none (.tmp 31), (some (28, false)), []⟩,
            ⟨(some 33), .call (.val (.fn (.func 39) [] [])) [(.tmp 32)], (some (28, false)), []⟩,
            ⟨(some 34), .pick (.tmp 28) (.val (.sc (.bool true))) (.tmp 33), (some (22, true)), []⟩,
            ⟨(some 35), .pick (.tmp 22) (.tmp 34) (.val (.sc (.bool false))), none, []⟩])
          (.cond (.tmp 35)
            .skip
            (.exit 0)))
          (.block 1 (.region [⟨(some 36), .mv (.tmp 7), none, []⟩,
              ⟨(some 37), .bin .add (.tmp 36) (.val (.sc (.int .i64 (1)))), none, []⟩,
              ⟨(some 7), .mv (.tmp 37), none, []⟩])))))
      (.seq (.region [⟨(some 38), .mv (.tmp 0), none, []⟩,
        ⟨(some 39), .mv (.tmp 1), none, []⟩,
        ⟨(some 40), .mv (.tmp 7), none, []⟩,
        ⟨(some 41), .slice 1 (.tmp 38) (some (.tmp 39)) (some (.tmp 40)) none, none, []⟩,
        ⟨(some 42), .strOf (.tmp 41), none, []⟩,
        ⟨(some 43), .build [(.sc (.int .i64 (0))), (.sc (.string ⟨#[]⟩)), (.sc (.int .i64 (0))), (.sc (.int .i64 (0)))] [(0, 1, (.val (.sc (.int .i64 (1))))), (1, 1, (.tmp 42))], none, []⟩,
        ⟨(some 44), .mv (.tmp 7), none, []⟩,
        ⟨(some 45), .mv (.tmp 7), none, []⟩,
        ⟨(some 46), .mv (.tmp 1), none, []⟩,
        ⟨(some 47), .bin .sub (.tmp 45) (.tmp 46), none, []⟩,
        ⟨(some 48), .bin .leq (.tmp 47) (.val (.sc (.int .i64 (32)))), none, []⟩,
        ⟨none, .store 4 (.tmp 4) (.tmp 43), none, []⟩,
        ⟨(some 5), .mv (.tmp 44), none, []⟩,
        ⟨(some 6), .mv (.tmp 48), none, []⟩])
      .ret))
      .skip))
    (.seq (.seq (.region [⟨(some 49), .mv (.tmp 0), none, []⟩,
      ⟨(some 50), .mv (.tmp 1), none, []⟩,
      ⟨(some 51), .indexS 1 (.tmp 49) (.tmp 50), none, []⟩,
      ⟨(some 52), .load none (.tmp 51), none, []⟩,
      ⟨(some 53), .call (.val (.fn (.func 39) [] [])) [(.tmp 52)], none, []⟩])
    (.cond (.tmp 53)
      (.seq (.block 2 (.loop (.seq (.seq (.region [⟨(some 54), .mv (.tmp 7), none, []⟩,
            ⟨(some 55), .mv (.tmp 0), none, []⟩,
            ⟨(some 56), .len (.tmp 55), none, []⟩,
            ⟨(some 57), .bin .lss (.tmp 54) (.tmp 56), none, []⟩,
            ⟨(some 58), .mv (.tmp 57), none, []⟩,
            ⟨(some 59), .mv (.tmp 0), (some (58, true)), []⟩,
            ⟨(some 60), .mv (.tmp 7), (some (58, true)), []⟩,
            ⟨(some 61), .indexS 1 (.tmp 59) (.tmp 60), (some (58, true)), []⟩,
            ⟨(some 62), .load none (.tmp 61), (some (58, true)), []⟩,
            ⟨(some 63), .call (.val (.fn (.func 39) [] [])) [(.tmp 62)], (some (58, true)), []⟩,
            ⟨(some 64), .pick (.tmp 58) (.tmp 63) (.val (.sc (.bool false))), none, []⟩])
          (.cond (.tmp 64)
            .skip
            (.exit 2)))
          (.block 3 (.region [⟨(some 65), .mv (.tmp 7), none, []⟩,
              ⟨(some 66), .bin .add (.tmp 65) (.val (.sc (.int .i64 (1)))), none, []⟩,
              ⟨(some 7), .mv (.tmp 66), none, []⟩])))))
      (.seq (.region [⟨(some 68), .mv (.tmp 0), none, []⟩,
        ⟨(some 69), .mv (.tmp 1), none, []⟩,
        ⟨(some 70), .mv (.tmp 7), none, []⟩,
        ⟨(some 71), .slice 1 (.tmp 68) (some (.tmp 69)) (some (.tmp 70)) none, none, []⟩,
        ⟨(some 72), .strOf (.tmp 71), none, []⟩,
        ⟨(some 73), .call (.val (.fn (.func 60) [] [])) [(.tmp 72)], none, []⟩,
        ⟨(some 67), .mv (.tmp 73), none, []⟩,
        ⟨(some 74), .extract (.tmp 67) 0, none, []⟩,
        ⟨(some 75), .extract (.tmp 67) 1, none, []⟩,
        ⟨(some 8), .mv (.tmp 74), none, []⟩,
        ⟨(some 9), .mv (.tmp 75), none, []⟩])
      (.seq (.region [⟨(some 76), .mv (.tmp 8), none, []⟩,
        ⟨(some 77), .build [(.sc (.int .i64 (0))), (.sc (.string ⟨#[]⟩)), (.sc (.int .i64 (0))), (.sc (.int .i64 (0)))] [(0, 1, (.val (.sc (.int .i64 (2))))), (2, 1, (.tmp 76))], none, []⟩,
        ⟨(some 78), .mv (.tmp 7), none, []⟩,
        ⟨(some 79), .mv (.tmp 9), none, []⟩,
        ⟨(some 80), .mv (.tmp 79), none, []⟩,
        ⟨(some 81), .mv (.tmp 7), (some (80, true)), []⟩,
        ⟨(some 82), .mv (.tmp 0), (some (80, true)), []⟩,
        ⟨(some 83), .len (.tmp 82), (some (80, true)), []⟩,
        ⟨(some 84), .bin .eql (.tmp 81) (.tmp 83), (some (80, true)), []⟩,
        ⟨(some 85), .mv (.tmp 84), (some (80, true)), []⟩,
        ⟨(some 86), .mv (.tmp 0), (some (85, false)), []⟩,
        ⟨(some 87), .mv (.tmp 7), (some (85, false)), []⟩,
        ⟨(some 88), .indexS 1 (.tmp 86) (.tmp 87), (some (85, false)), []⟩,
        ⟨(some 89), .load none (.tmp 88), (some (85, false)), []⟩,
        ⟨(some 90), .call (.val (.fn (.func 38) [] [])) [(.tmp 89)], (some (85, false)), []⟩,
        ⟨(some 91), .un .not (.tmp 90), (some (85, false)), []⟩,
        ⟨(some 92), .pick (.tmp 85) (.val (.sc (.bool true))) (.tmp 91), (some (80, true)), []⟩,
        ⟨(some 93), .pick (.tmp 80) (.tmp 92) (.val (.sc (.bool false))), none, []⟩,
        ⟨none, .store 4 (.tmp 4) (.tmp 77), none, []⟩,
        ⟨(some 5), .mv (.tmp 78), none, []⟩,
        ⟨(some 6), .mv (.tmp 93), none, []⟩])
      .ret)))
      .skip))
    (.seq (.region [⟨(some 94), .call (.val (.fn (.func 25) [] [])) [], none, []⟩,
      ⟨(some 10), .mv (.tmp 94), none, []⟩])
    (.seq (.seq (.region [⟨(some 11), .mv (.val (.sc (.int .i64 (0)))), none, []⟩])
    (.block 4 (.loop (.seq (.seq (.region [⟨(some 95), .mv (.tmp 11), none, []⟩,
          ⟨(some 96), .mv (.tmp 10), none, []⟩,
          ⟨(some 97), .len (.tmp 96), none, []⟩,
          ⟨(some 98), .bin .lss (.tmp 95) (.tmp 97), none, []⟩])
        (.cond (.tmp 98)
          .skip
          (.exit 4)))
        (.seq (.block 5 (.seq (.region [⟨(some 101), .mv (.tmp 1), none, []⟩,
            ⟨(some 102), .mv (.tmp 10), none, []⟩,
            ⟨(some 103), .mv (.tmp 11), none, []⟩,
            ⟨(some 104), .indexS 1 (.tmp 102) (.tmp 103), none, []⟩,
            ⟨(some 105), .load none (.tmp 104), none, []⟩,
            ⟨(some 106), .lenStr (.tmp 105), none, []⟩,
            ⟨(some 107), .bin .add (.tmp 101) (.tmp 106), none, []⟩,
            ⟨(some 108), .mv (.tmp 0), none, []⟩,
            ⟨(some 109), .len (.tmp 108), none, []⟩,
            ⟨(some 110), .bin .leq (.tmp 107) (.tmp 109), none, []⟩,
            ⟨(some 111), .mv (.tmp 110), none, []⟩,
            ⟨(some 112), .mv (.tmp 0), (some (111, true)), []⟩,
            ⟨(some 113), .mv (.tmp 1), (some (111, true)), []⟩,
            ⟨(some 114), .mv (.tmp 1), (some (111, true)), []⟩,
            ⟨(some 115), .mv (.tmp 10), (some (111, true)), []⟩,
            ⟨(some 116), .mv (.tmp 11), (some (111, true)), []⟩,
            ⟨(some 117), .indexS 1 (.tmp 115) (.tmp 116), (some (111, true)), []⟩,
            ⟨(some 118), .load none (.tmp 117), (some (111, true)), []⟩,
            ⟨(some 119), .lenStr (.tmp 118), (some (111, true)), []⟩,
            ⟨(some 120), .bin .add (.tmp 114) (.tmp 119), (some (111, true)), []⟩,
            ⟨(some 121), .slice 1 (.tmp 112) (some (.tmp 113)) (some (.tmp 120)) none, (some (111, true)), []⟩,
            ⟨(some 122), .strOf (.tmp 121), (some (111, true)), []⟩,
            ⟨(some 123), .mv (.tmp 10), (some (111, true)), []⟩,
            ⟨(some 124), .mv (.tmp 11), (some (111, true)), []⟩,
            ⟨(some 125), .indexS 1 (.tmp 123) (.tmp 124), (some (111, true)), []⟩,
            ⟨(some 126), .load none (.tmp 125), (some (111, true)), []⟩,
            ⟨(some 127), .bin .eql (.tmp 122) (.tmp 126), (some (111, true)), []⟩,
            ⟨(some 128), .pick (.tmp 111) (.tmp 127) (.val (.sc (.bool false))), none, []⟩])
          (.cond (.tmp 128)
            (.seq (.region [⟨(some 129), .mv (.tmp 10), none, []⟩,
              ⟨(some 130), .mv (.tmp 11), none, []⟩,
              ⟨(some 131), .indexS 1 (.tmp 129) (.tmp 130), none, [4]⟩,
              ⟨(some 132), .load none (.tmp 131), none, [4]⟩,
              ⟨(some 133), .build [(.sc (.int .i64 (0))), (.sc (.string ⟨#[]⟩)), (.sc (.int .i64 (0))), (.sc (.int .i64 (0)))] [(0, 1, (.val (.sc (.int .i64 (3))))), (1, 1, (.tmp 132))], none, []⟩,
              ⟨(some 134), .mv (.tmp 1), none, []⟩,
              ⟨(some 135), .mv (.tmp 10), none, []⟩,
              ⟨(some 136), .mv (.tmp 11), none, []⟩,
              ⟨(some 137), .indexS 1 (.tmp 135) (.tmp 136), none, [4]⟩,
              ⟨(some 138), .load none (.tmp 137), none, [4]⟩,
              ⟨(some 139), .lenStr (.tmp 138), none, []⟩,
              ⟨(some 140), .bin .add (.tmp 134) (.tmp 139), none, []⟩,
              ⟨none, .store 4 (.tmp 4) (.tmp 133), none, []⟩,
              ⟨(some 5), .mv (.tmp 140), none, []⟩,
              ⟨(some 6), .mv (.val (.sc (.bool true))), none, []⟩])
            .ret)
            .skip)))
        (.region [⟨(some 99), .mv (.tmp 11), none, []⟩,
          ⟨(some 100), .bin .add (.tmp 99) (.val (.sc (.int .i64 (1)))), none, []⟩,
          ⟨(some 11), .mv (.tmp 100), none, []⟩]))))))
    (.seq (.region [⟨(some 141), .build [(.sc (.int .i64 (0))), (.sc (.string ⟨#[]⟩)), (.sc (.int .i64 (0))), (.sc (.int .i64 (0)))] [], none, []⟩,
      ⟨(some 142), .mv (.tmp 1), none, []⟩,
      ⟨none, .store 4 (.tmp 4) (.tmp 141), none, []⟩,
      ⟨(some 5), .mv (.tmp 142), none, []⟩,
      ⟨(some 6), .mv (.val (.sc (.bool false))), none, []⟩])
    .ret))))))) }

def f_spinnakerref22_alpha : AFunc :=
  { nparams := 1, ntmps := 21, pure := true, results := [.tmp 2],
    body := (.seq (.region [⟨(some 2), .mv (.val (.sc (.bool false))), none, []⟩])
    (.seq (.region [⟨(some 3), .mv (.tmp 0), none, []⟩,
      ⟨(some 4), .bin .eql (.tmp 3) (.val (.sc (.int .u8 (95)))), none, []⟩,
      ⟨(some 5), .mv (.tmp 4), none, []⟩,
      ⟨(some 6), .mv (.tmp 0), (some (5, false)), []⟩,
      ⟨(some 7), .bin .geq (.tmp 6) (.val (.sc (.int .u8 (97)))), (some (5, false)), []⟩,
      ⟨(some 8), .mv (.tmp 7), (some (5, false)), []⟩,
      ⟨(some 9), .mv (.tmp 0), (some (8, true)), []⟩,
      ⟨(some 10), .bin .leq (.tmp 9) (.val (.sc (.int .u8 (122)))), (some (8, true)), []⟩,
      ⟨(some 11), .pick (.tmp 8) (.tmp 10) (.val (.sc (.bool false))), (some (5, false)), []⟩,
      ⟨(some 12), .pick (.tmp 5) (.val (.sc (.bool true))) (.tmp 11), none, []⟩,
      ⟨(some 13), .mv (.tmp 12), none, []⟩,
      ⟨(some 14), .mv (.tmp 0), (some (13, false)), []⟩,
      ⟨(some 15), .bin .geq (.tmp 14) (.val (.sc (.int .u8 (65)))), (some (13, false)), []⟩,
      ⟨(some 16), .mv (.tmp 15), (some (13, false)), []⟩,
      ⟨(some 17), .mv (.tmp 0), (some (16, true)), []⟩,
      ⟨(some 18), .bin .leq (.tmp 17) (.val (.sc (.int .u8 (90)))), (some (16, true)), []⟩,
      ⟨(some 19), .pick (.tmp 16) (.tmp 18) (.val (.sc (.bool false))), (some (13, false)), []⟩,
      ⟨(some 20), .pick (.tmp 13) (.val (.sc (.bool true))) (.tmp 19), none, []⟩,
      ⟨(some 2), .mv (.tmp 20), none, []⟩])
    .ret)) }

def f_spinnakerref22_num : AFunc :=
  { nparams := 1, ntmps := 9, pure := true, results := [.tmp 2],
    body := (.seq (.region [⟨(some 2), .mv (.val (.sc (.bool false))), none, []⟩])
    (.seq (.region [⟨(some 3), .mv (.tmp 0), none, []⟩,
      ⟨(some 4), .bin .geq (.tmp 3) (.val (.sc (.int .u8 (48)))), none, []⟩,
      ⟨(some 5), .mv (.tmp 4), none, []⟩,
      ⟨(some 6), .mv (.tmp 0), (some (5, true)), []⟩,
      ⟨(some 7), .bin .leq (.tmp 6) (.val (.sc (.int .u8 (57)))), (some (5, true)), []⟩,
      ⟨(some 8), .pick (.tmp 5) (.tmp 7) (.val (.sc (.bool false))), none, []⟩,
      ⟨(some 2), .mv (.tmp 8), none, []⟩])
    .ret)) }

def f_lex_letter : AFunc :=
  { nparams := 1, ntmps := 21, pure := true, results := [.tmp 2],
    body := (.seq (.region [⟨(some 2), .mv (.val (.sc (.bool false))), none, []⟩])
    (.seq (.region [⟨(some 3), .mv (.tmp 0), none, []⟩,
      ⟨(some 4), .bin .geq (.tmp 3) (.val (.sc (.int .u8 (97)))), none, []⟩,
      ⟨(some 5), .mv (.tmp 4), none, []⟩,
      ⟨(some 6), .mv (.tmp 0), (some (5, true)), []⟩,
      ⟨(some 7), .bin .leq (.tmp 6) (.val (.sc (.int .u8 (122)))), (some (5, true)), []⟩,
      ⟨(some 8), .pick (.tmp 5) (.tmp 7) (.val (.sc (.bool false))), none, []⟩,
      ⟨(some 9), .mv (.tmp 8), none, []⟩,
      ⟨(some 10), .mv (.tmp 0), (some (9, false)), []⟩,
      ⟨(some 11), .bin .geq (.tmp 10) (.val (.sc (.int .u8 (65)))), (some (9, false)), []⟩,
      ⟨(some 12), .mv (.tmp 11), (some (9, false)), []⟩,
      ⟨(some 13), .mv (.tmp 0), (some (12, true)), []⟩,
      ⟨(some 14), .bin .leq (.tmp 13) (.val (.sc (.int .u8 (90)))), (some (12, true)), []⟩,
      ⟨(some 15), .pick (.tmp 12) (.tmp 14) (.val (.sc (.bool false))), (some (9, false)), []⟩,
      ⟨(some 16), .pick (.tmp 9) (.val (.sc (.bool true))) (.tmp 15), none, []⟩,
      ⟨(some 17), .mv (.tmp 16), none, []⟩,
      ⟨(some 18), .mv (.tmp 0), (some (17, false)), []⟩,
      ⟨(some 19), .bin .eql (.tmp 18) (.val (.sc (.int .u8 (95)))), (some (17, false)), []⟩,
      ⟨(some 20), .pick (.tmp 17) (.val (.sc (.bool true))) (.tmp 19), none, []⟩,
      ⟨(some 2), .mv (.tmp 20), none, []⟩])
    .ret)) }

def f_lex_either : AFunc :=
  { nparams := 1, ntmps := 9, pure := true, results := [.tmp 2],
    body := (.seq (.region [⟨(some 2), .mv (.val (.sc (.bool false))), none, []⟩])
    (.seq (.region [⟨(some 3), .mv (.tmp 0), none, []⟩,
      ⟨(some 4), .call (.val (.fn (.func 40) [] [])) [(.tmp 3)], none, []⟩,
      ⟨(some 5), .mv (.tmp 4), none, []⟩,
      ⟨(some 6), .mv (.tmp 0), (some (5, false)), []⟩,
      ⟨(some 7), .call (.val (.fn (.func 57) [] [])) [(.tmp 6)], (some (5, false)), []⟩,
      ⟨(some 8), .pick (.tmp 5) (.val (.sc (.bool true))) (.tmp 7), none, []⟩,
      ⟨(some 2), .mv (.tmp 8), none, []⟩])
    .ret)) }

def f_bytes_IndexByte : AFunc :=
  { nparams := 2, ntmps := 8, pure := true, results := [.tmp 4],
    body := (.seq (.region [⟨(some 4), .mv (.val (.sc (.int .i64 (0)))), none, []⟩])
    (.seq (.region [⟨(some 5), .mv (.tmp 0), none, []⟩,
      ⟨(some 6), .mv (.tmp 1), none, []⟩,
      ⟨(some 7), .call (.val (.fn (.func 72) [] [])) [(.tmp 5), (.tmp 6)], none, []⟩,
      ⟨(some 4), .mv (.tmp 7), none, []⟩])
    .ret)) }

def f_lex_scanner_run : AFunc :=
  { nparams := 2, ntmps := 37, pure := false, results := [.tmp 4],
    body := (.seq (.region [⟨(some 3), .box 58 (.tmp 1), none, []⟩,
      ⟨(some 4), .mv (.val (.sc (.string ⟨#[]⟩))), none, []⟩])
    (.seq (.region [⟨(some 7), .mv (.tmp 0), none, []⟩,
      ⟨(some 8), .nilCheck (.tmp 7), none, []⟩,
      ⟨(some 9), .fieldAddr 0 (.tmp 8), none, []⟩,
      ⟨(some 10), .load none (.tmp 9), none, []⟩,
      ⟨(some 11), .makeFunc (.func 73) [] [(.tmp 3)], none, []⟩,
      ⟨(some 12), .call (.val (.fn (.func 61) [] [])) [(.tmp 10), (.tmp 11)], none, []⟩,
      ⟨(some 5), .mv (.tmp 12), none, []⟩])
    (.seq (.seq (.region [⟨(some 13), .mv (.tmp 5), none, []⟩,
      ⟨(some 14), .bin .lss (.tmp 13) (.val (.sc (.int .i64 (0)))), none, []⟩])
    (.cond (.tmp 14)
      (.region [⟨(some 15), .mv (.tmp 0), none, []⟩,
        ⟨(some 16), .nilCheck (.tmp 15), none, []⟩,
        ⟨(some 17), .fieldAddr 0 (.tmp 16), none, []⟩,
        ⟨(some 18), .load none (.tmp 17), none, []⟩,
        ⟨(some 19), .len (.tmp 18), none, []⟩,
        ⟨(some 5), .mv (.tmp 19), none, []⟩])
      .skip))
    (.seq (.region [⟨(some 20), .mv (.tmp 0), none, []⟩,
      ⟨(some 21), .nilCheck (.tmp 20), none, []⟩,
      ⟨(some 22), .fieldAddr 0 (.tmp 21), none, []⟩,
      ⟨(some 23), .load none (.tmp 22), none, []⟩,
      ⟨(some 24), .mv (.tmp 5), none, []⟩,
      ⟨(some 25), .slice 1 (.tmp 23) none (some (.tmp 24)) none, none, []⟩,
      ⟨(some 26), .strOf (.tmp 25), none, []⟩,
      ⟨(some 6), .mv (.tmp 26), none, []⟩])
    (.seq (.region [⟨(some 27), .mv (.tmp 0), none, []⟩,
      ⟨(some 28), .mv (.tmp 0), none, []⟩,
      ⟨(some 29), .nilCheck (.tmp 28), none, []⟩,
      ⟨(some 30), .fieldAddr 0 (.tmp 29), none, []⟩,
      ⟨(some 31), .load none (.tmp 30), none, []⟩,
      ⟨(some 32), .mv (.tmp 5), none, []⟩,
      ⟨(some 33), .slice 1 (.tmp 31) (some (.tmp 32)) none none, none, []⟩,
      ⟨(some 34), .nilCheck (.tmp 27), none, []⟩,
      ⟨(some 35), .fieldAddr 0 (.tmp 34), none, []⟩,
      ⟨none, .store 1 (.tmp 35) (.tmp 33), none, []⟩])
    (.seq (.region [⟨(some 36), .mv (.tmp 6), none, []⟩,
      ⟨(some 4), .mv (.tmp 36), none, []⟩])
    .ret)))))) }

def f_lex_digit : AFunc :=
  { nparams := 1, ntmps := 9, pure := true, results := [.tmp 2],
    body := (.seq (.region [⟨(some 2), .mv (.val (.sc (.bool false))), none, []⟩])
    (.seq (.region [⟨(some 3), .mv (.tmp 0), none, []⟩,
      ⟨(some 4), .bin .geq (.tmp 3) (.val (.sc (.int .u8 (48)))), none, []⟩,
      ⟨(some 5), .mv (.tmp 4), none, []⟩,
      ⟨(some 6), .mv (.tmp 0), (some (5, true)), []⟩,
      ⟨(some 7), .bin .leq (.tmp 6) (.val (.sc (.int .u8 (57)))), (some (5, true)), []⟩,
      ⟨(some 8), .pick (.tmp 5) (.tmp 7) (.val (.sc (.bool false))), none, []⟩,
      ⟨(some 2), .mv (.tmp 8), none, []⟩])
    .ret)) }

def f_strconv_Atoi : AFunc :=
  { nparams := 1, ntmps := 18, pure := false, results := [.tmp 2, .tmp 3],
    body := (.seq (.region [⟨(some 2), .mv (.val (.sc (.int .i64 (0)))), none, []⟩,
      ⟨(some 3), .mv (.val (.sc .nilIface)), none, []⟩])
    (.seq (.region [⟨(some 7), .mv (.tmp 0), none, []⟩,
      ⟨(some 8), .call (.val (.fn (.func 74) [] [])) [(.tmp 7)], none, []⟩,
      ⟨(some 6), .mv (.tmp 8), none, []⟩,
      ⟨(some 9), .extract (.tmp 6) 0, none, []⟩,
      ⟨(some 10), .extract (.tmp 6) 1, none, []⟩,
      ⟨(some 4), .mv (.tmp 9), none, []⟩,
      ⟨(some 5), .mv (.tmp 10), none, []⟩])
    (.seq (.seq (.region [⟨(some 11), .mv (.tmp 5), none, []⟩,
      ⟨(some 12), .isNil true .iface (.tmp 11), none, []⟩])
    (.cond (.tmp 12)
      (.seq (.region [⟨(some 13), .mv (.tmp 4), none, []⟩,
        ⟨(some 14), .mv (.tmp 0), none, []⟩,
        ⟨(some 15), .mv (.tmp 5), none, []⟩,
        ⟨(some 16), .call (.val (.fn (.func 75) [] [])) [(.val (.sc (.string ⟨#[65, 116, 111, 105]⟩))), (.tmp 14), (.val (.sc (.int .i64 (0)))), (.val (.sc (.int .i64 (0)))), (.tmp 15)], none, []⟩,
        ⟨(some 2), .mv (.tmp 13), none, []⟩,
        ⟨(some 3), .mv (.tmp 16), none, []⟩])
      .ret)
      .skip))
    (.seq (.region [⟨(some 17), .mv (.tmp 4), none, []⟩,
      ⟨(some 2), .mv (.tmp 17), none, []⟩,
      ⟨(some 3), .mv (.val (.sc .nilIface)), none, []⟩])
    .ret)))) }

def f_lex_scanner_sign : AFunc :=
  { nparams := 1, ntmps := 28, pure := false, results := [.tmp 2],
    body := (.seq (.region [⟨(some 2), .mv (.val (.sc (.string ⟨#[]⟩))), none, []⟩])
    (.seq (.seq (.region [⟨(some 5), .load (some 27) (.val (.eptr g2 0)), none, []⟩,
      ⟨(some 6), .mv (.val (.sc (.int .i64 (0)))), none, []⟩])
    (.block 0 (.loop (.seq (.region [⟨(some 7), .bin .lss (.tmp 6) (.val (.sc (.int .i64 (27)))), none, []⟩])
        (.seq (.cond (.tmp 7)
          .skip
          (.exit 0))
        (.seq (.block 1 (.seq (.region [⟨(some 8), .idxArr none 27 1 (.tmp 5) (.tmp 6), none, []⟩,
            ⟨(some 4), .mv (.tmp 8), none, []⟩])
          (.seq (.region [⟨(some 9), .mv (.tmp 0), none, []⟩,
            ⟨(some 10), .nilCheck (.tmp 9), none, []⟩,
            ⟨(some 11), .fieldAddr 0 (.tmp 10), none, []⟩,
            ⟨(some 12), .load none (.tmp 11), none, []⟩,
            ⟨(some 13), .mv (.tmp 4), none, []⟩,
            ⟨(some 14), .bytesOf (.tmp 13), none, []⟩,
            ⟨(some 15), .call (.val (.fn (.func 76) [] [])) [(.tmp 12), (.tmp 14)], none, []⟩])
          (.cond (.tmp 15)
            (.seq (.region [⟨(some 16), .mv (.tmp 0), none, []⟩,
              ⟨(some 17), .mv (.tmp 0), none, []⟩,
              ⟨(some 18), .nilCheck (.tmp 17), none, []⟩,
              ⟨(some 19), .fieldAddr 0 (.tmp 18), none, []⟩,
              ⟨(some 20), .load none (.tmp 19), none, []⟩,
              ⟨(some 21), .mv (.tmp 4), none, []⟩,
              ⟨(some 22), .lenStr (.tmp 21), none, []⟩,
              ⟨(some 23), .slice 1 (.tmp 20) (some (.tmp 22)) none none, none, []⟩,
              ⟨(some 24), .nilCheck (.tmp 16), none, []⟩,
              ⟨(some 25), .fieldAddr 0 (.tmp 24), none, []⟩,
              ⟨none, .store 1 (.tmp 25) (.tmp 23), none, []⟩])
            (.seq (.region [⟨(some 26), .mv (.tmp 4), none, []⟩,
              ⟨(some 2), .mv (.tmp 26), none, []⟩])
            .ret))
            .skip))))
        (.region [⟨(some 27), .bin .add (.tmp 6) (.val (.sc (.int .i64 (1)))), none, []⟩,
          ⟨(some 6), .mv (.tmp 27), none, []⟩])))))))
    (.seq (.region [⟨(some 2), .mv (.val (.sc (.string ⟨#[]⟩))), none, []⟩])
    .ret))) }

def f_spinnakerref22_number : AFunc :=
  { nparams := 1, ntmps := 29, pure := true, results := [.tmp 2, .tmp 3],
    body := (.seq (.region [⟨(some 2), .mv (.val (.sc (.int .i64 (0)))), none, []⟩,
      ⟨(some 3), .mv (.val (.sc (.bool false))), none, []⟩])
    (.seq (.region [⟨(some 4), .mv (.val (.sc (.int .u64 (0)))), none, []⟩])
    (.seq (.seq (.region [⟨(some 5), .mv (.val (.sc (.int .i64 (0)))), none, []⟩])
    (.block 0 (.loop (.seq (.seq (.region [⟨(some 7), .mv (.tmp 5), none, []⟩,
          ⟨(some 8), .mv (.tmp 0), none, []⟩,
          ⟨(some 9), .lenStr (.tmp 8), none, []⟩,
          ⟨(some 10), .bin .lss (.tmp 7) (.tmp 9), none, []⟩])
        (.cond (.tmp 10)
          .skip
          (.exit 0)))
        (.seq (.block 1 (.seq (.region [⟨(some 13), .mv (.tmp 0), none, []⟩,
            ⟨(some 14), .mv (.tmp 5), none, []⟩,
            ⟨(some 15), .idxStr (.tmp 13) (.tmp 14), none, []⟩,
            ⟨(some 16), .bin .sub (.tmp 15) (.val (.sc (.int .u8 (48)))), none, []⟩,
            ⟨(some 17), .conv .u64 (.tmp 16), none, []⟩,
            ⟨(some 6), .mv (.tmp 17), none, []⟩])
          (.seq (.seq (.region [⟨(some 18), .mv (.tmp 4), none, []⟩,
            ⟨(some 19), .mv (.tmp 6), none, []⟩,
            ⟨(some 20), .bin .sub (.val (.sc (.int .u64 (9223372036854775807)))) (.tmp 19), none, []⟩,
            ⟨(some 21), .bin .quo (.tmp 20) (.val (.sc (.int .u64 (10)))), none, []⟩,
            ⟨(some 22), .bin .gtr (.tmp 18) (.tmp 21), none, []⟩])
          (.cond (.tmp 22)
            (.seq (.region [⟨(some 2), .mv (.val (.sc (.int .i64 (0)))), none, []⟩,
              ⟨(some 3), .mv (.val (.sc (.bool false))), none, []⟩])
            .ret)
            .skip))
          (.region [⟨(some 23), .mv (.tmp 4), none, []⟩,
            ⟨(some 24), .bin .mul (.val (.sc (.int .u64 (10)))) (.tmp 23), none, []⟩,
            ⟨(some 25), .mv (.tmp 6), none, []⟩,
            ⟨(some 26), .bin .add (.tmp 24) (.tmp 25), none, []⟩,
            ⟨(some 4), .mv (.tmp 26), none, []⟩]))))
        (.region [⟨(some 11), .mv (.tmp 5), none, []⟩,
          ⟨(some 12), .bin .add (.tmp 11) (.val (.sc (.int .i64 (1)))), none, []⟩,
          ⟨(some 5), .mv (.tmp 12), none, []⟩]))))))
    (.seq (.region [⟨(some 27), .mv (.tmp 4), none, []⟩,
      ⟨(some 28), .conv .i64 (.tmp 27), none, []⟩,
      ⟨(some 2), .mv (.tmp 28), none, []⟩,
      ⟨(some 3), .mv (.val (.sc (.bool true))), none, []⟩])
    .ret)))) }

def f_slices_IndexFuncbytebyte : AFunc :=
  { nparams := 2, ntmps := 19, pure := true, results := [.tmp 4],
    body := (.seq (.region [⟨(some 4), .mv (.val (.sc (.int .i64 (0)))), none, []⟩])
    (.seq (.seq (.region [⟨(some 6), .mv (.tmp 0), none, []⟩,
      ⟨(some 7), .len (.tmp 6), none, []⟩,
      ⟨(some 8), .mv (.val (.sc (.int .i64 (0)))), none, []⟩])
    (.block 0 (.loop (.seq (.region [⟨(some 9), .bin .lss (.tmp 8) (.tmp 7), none, []⟩])
        (.seq (.cond (.tmp 9)
          .skip
          (.exit 0))
        (.seq (.block 1 (.seq (.region [⟨(some 10), .mv (.tmp 8), none, []⟩,
            ⟨(some 5), .mv (.tmp 10), none, []⟩])
          (.seq (.region [⟨(some 11), .mv (.tmp 1), none, []⟩,
            ⟨(some 12), .mv (.tmp 0), none, []⟩,
            ⟨(some 13), .mv (.tmp 5), none, []⟩,
            ⟨(some 14), .indexS 1 (.tmp 12) (.tmp 13), none, []⟩,
            ⟨(some 15), .load none (.tmp 14), none, []⟩,
            ⟨(some 16), .call (.tmp 11) [(.tmp 15)], none, []⟩])
          (.cond (.tmp 16)
            (.seq (.region [⟨(some 17), .mv (.tmp 5), none, []⟩,
              ⟨(some 4), .mv (.tmp 17), none, []⟩])
            .ret)
            .skip))))
        (.region [⟨(some 18), .bin .add (.tmp 8) (.val (.sc (.int .i64 (1)))), none, []⟩,
          ⟨(some 8), .mv (.tmp 18), none, []⟩])))))))
    (.seq (.region [⟨(some 4), .mv (.val (.sc (.int .i64 (-1)))), none, []⟩])
    .ret))) }

def f_strconv_Itoa : AFunc :=
  { nparams := 1, ntmps := 5, pure := true, results := [.tmp 2],
    body := (.seq (.region [⟨(some 2), .mv (.val (.sc (.string ⟨#[]⟩))), none, []⟩])
    (.seq (.region [⟨(some 3), .mv (.tmp 0), none, []⟩,
      ⟨(some 4), .call (.val (.fn (.func 78) [] [])) [(.tmp 3)], none, []⟩,
      ⟨(some 2), .mv (.tmp 4), none, []⟩])
    .ret)) }

def f_lex_scanner_run_1 : AFunc :=
  { nparams := 2, ntmps := 8, pure := true, results := [.tmp 3],
    body := (.seq (.region [⟨(some 3), .mv (.val (.sc (.bool false))), none, []⟩])
    (.seq (.region [⟨(some 4), .load none (.tmp 1), none, []⟩,
      ⟨(some 5), .mv (.tmp 0), none, []⟩,
      ⟨(some 6), .call (.tmp 4) [(.tmp 5)], none, []⟩,
      ⟨(some 7), .un .not (.tmp 6), none, []⟩,
      ⟨(some 3), .mv (.tmp 7), none, []⟩])
    .ret)) }

def f_i_strconv_Atoi : AFunc :=
  { nparams := 1, ntmps := 77, pure := true, results := [.tmp 2, .tmp 3],
    body := (.seq (.region [⟨(some 2), .mv (.val (.sc (.int .i64 (0)))), none, []⟩,
      ⟨(some 3), .mv (.val (.sc .nilIface)), none, []⟩])
    (.seq (.region [⟨(some 11), .mv (.tmp 0), none, []⟩,
      ⟨(some 12), .lenStr (.tmp 11), none, []⟩,
      ⟨(some 4), .mv (.tmp 12), none, []⟩])
    (.seq (.seq (.region [⟨(some 13), .mv (.val (.sc (.bool false))), none, []⟩,
      ⟨(some 14), .mv (.tmp 4), (some (13, true)), []⟩,
      ⟨(some 15), .bin .lss (.val (.sc (.int .i64 (0)))) (.tmp 14), (some (13, true)), []⟩,
      ⟨(some 16), .mv (.tmp 15), (some (13, true)), []⟩,
      ⟨(some 17), .mv (.tmp 4), (some (16, true)), []⟩,
      ⟨(some 18), .bin .lss (.tmp 17) (.val (.sc (.int .i64 (10)))), (some (16, true)), []⟩,
      ⟨(some 19), .pick (.tmp 16) (.tmp 18) (.val (.sc (.bool false))), (some (13, true)), []⟩,
      ⟨(some 20), .pick (.tmp 13) (.tmp 19) (.val (.sc (.bool false))), none, []⟩,
      ⟨(some 21), .mv (.tmp 20), none, []⟩,
      ⟨(some 22), .mv (.val (.sc (.bool true))), (some (21, false)), []⟩,
      ⟨(some 23), .mv (.tmp 4), (some (22, true)), []⟩,
      ⟨(some 24), .bin .lss (.val (.sc (.int .i64 (0)))) (.tmp 23), (some (22, true)), []⟩,
      ⟨(some 25), .mv (.tmp 24), (some (22, true)), []⟩,
      ⟨(some 26), .mv (.tmp 4), (some (25, true)), []⟩,
      ⟨(some 27), .bin .lss (.tmp 26) (.val (.sc (.int .i64 (19)))), (some (25, true)), []⟩,
      ⟨(some 28), .pick (.tmp 25) (.tmp 27) (.val (.sc (.bool false))), (some (22, true)), []⟩,
      ⟨(some 29), .pick (.tmp 22) (.tmp 28) (.val (.sc (.bool false))), (some (21, false)), []⟩,
      ⟨(some 30), .pick (.tmp 21) (.val (.sc (.bool true))) (.tmp 29), none, []⟩])
    (.cond (.tmp 30)
      (.seq (.region [⟨(some 31), .mv (.tmp 0), none, []⟩,
        ⟨(some 5), .mv (.tmp 31), none, []⟩])
      (.seq (.seq (.region [⟨(some 32), .mv (.tmp 0), none, []⟩,
        ⟨(some 33), .idxStr (.tmp 32) (.val (.sc (.int .i64 (0)))), none, []⟩,
        ⟨(some 34), .bin .eql (.tmp 33) (.val (.sc (.int .u8 (45)))), none, []⟩,
        ⟨(some 35), .mv (.tmp 34), none, []⟩,
        ⟨(some 36), .mv (.tmp 0), (some (35, false)), []⟩,
        ⟨(some 37), .idxStr (.tmp 36) (.val (.sc (.int .i64 (0)))), (some (35, false)), []⟩,
        ⟨(some 38), .bin .eql (.tmp 37) (.val (.sc (.int .u8 (43)))), (some (35, false)), []⟩,
        ⟨(some 39), .pick (.tmp 35) (.val (.sc (.bool true))) (.tmp 38), none, []⟩])
      (.cond (.tmp 39)
        (.seq (.region [⟨(some 40), .mv (.tmp 0), none, []⟩,
          ⟨(some 41), .sliceStr (.tmp 40) (some (.val (.sc (.int .i64 (1))))) none, none, []⟩,
          ⟨(some 0), .mv (.tmp 41), none, []⟩])
        (.seq (.region [⟨(some 42), .mv (.tmp 0), none, []⟩,
          ⟨(some 43), .lenStr (.tmp 42), none, []⟩,
          ⟨(some 44), .bin .lss (.tmp 43) (.val (.sc (.int .i64 (1)))), none, []⟩])
        (.cond (.tmp 44)
          (.seq (.region [⟨(some 45), .makeIface 101 (.val (.sc (.int .i64 (2)))), none, []⟩,
            ⟨(some 2), .mv (.val (.sc (.int .i64 (0)))), none, []⟩,
            ⟨(some 3), .mv (.tmp 45), none, []⟩])
          .ret)
          .skip)))
        .skip))
      (.seq (.region [⟨(some 6), .mv (.val (.sc (.int .i64 (0)))), none, []⟩])
      (.seq (.seq (.region [⟨(some 46), .mv (.tmp 0), none, []⟩,
        ⟨(some 47), .bytesOf (.tmp 46), none, []⟩,
        ⟨(some 48), .len (.tmp 47), none, []⟩,
        ⟨(some 49), .mv (.val (.sc (.int .i64 (0)))), none, []⟩])
      (.block 0 (.loop (.seq (.region [⟨(some 50), .bin .lss (.tmp 49) (.tmp 48), none, []⟩])
          (.seq (.cond (.tmp 50)
            .skip
            (.exit 0))
          (.seq (.block 1 (.seq (.region [⟨(some 51), .indexS 1 (.tmp 47) (.tmp 49), none, []⟩,
              ⟨(some 52), .load none (.tmp 51), none, []⟩,
              ⟨(some 8), .mv (.tmp 52), none, []⟩])
            (.seq (.region [⟨(some 53), .mv (.tmp 8), none, []⟩,
              ⟨(some 54), .bin .sub (.tmp 53) (.val (.sc (.int .u8 (48)))), none, []⟩,
              ⟨(some 8), .mv (.tmp 54), none, []⟩])
            (.seq (.seq (.region [⟨(some 55), .mv (.tmp 8), none, []⟩,
              ⟨(some 56), .bin .gtr (.tmp 55) (.val (.sc (.int .u8 (9)))), none, []⟩])
            (.cond (.tmp 56)
              (.seq (.region [⟨(some 57), .makeIface 101 (.val (.sc (.int .i64 (2)))), none, []⟩,
                ⟨(some 2), .mv (.val (.sc (.int .i64 (0)))), none, []⟩,
                ⟨(some 3), .mv (.tmp 57), none, []⟩])
              .ret)
              .skip))
            (.region [⟨(some 58), .mv (.tmp 6), none, []⟩,
              ⟨(some 59), .bin .mul (.tmp 58) (.val (.sc (.int .i64 (10)))), none, []⟩,
              ⟨(some 60), .mv (.tmp 8), none, []⟩,
              ⟨(some 61), .conv .i64 (.tmp 60), none, []⟩,
              ⟨(some 62), .bin .add (.tmp 59) (.tmp 61), none, []⟩,
              ⟨(some 6), .mv (.tmp 62), none, []⟩])))))
          (.region [⟨(some 63), .bin .add (.tmp 49) (.val (.sc (.int .i64 (1)))), none, []⟩,
            ⟨(some 49), .mv (.tmp 63), none, []⟩])))))))
      (.seq (.seq (.region [⟨(some 64), .mv (.tmp 5), none, []⟩,
        ⟨(some 65), .idxStr (.tmp 64) (.val (.sc (.int .i64 (0)))), none, []⟩,
        ⟨(some 66), .bin .eql (.tmp 65) (.val (.sc (.int .u8 (45)))), none, []⟩])
      (.cond (.tmp 66)
        (.region [⟨(some 67), .mv (.tmp 6), none, []⟩,
          ⟨(some 68), .un .neg (.tmp 67), none, []⟩,
          ⟨(some 6), .mv (.tmp 68), none, []⟩])
        .skip))
      (.seq (.region [⟨(some 69), .mv (.tmp 6), none, []⟩,
        ⟨(some 2), .mv (.tmp 69), none, []⟩,
        ⟨(some 3), .mv (.val (.sc .nilIface)), none, []⟩])
      .ret))))))
      .skip))
    (.seq (.region [⟨(some 71), .mv (.tmp 0), none, []⟩,
      ⟨(some 72), .call (.val (.fn (.func 85) [] [])) [(.tmp 71), (.val (.sc (.int .i64 (10)))), (.val (.sc (.int .i64 (0))))], none, []⟩,
      ⟨(some 70), .mv (.tmp 72), none, []⟩,
      ⟨(some 73), .extract (.tmp 70) 0, none, []⟩,
      ⟨(some 74), .extract (.tmp 70) 1, none, []⟩,
      ⟨(some 9), .mv (.tmp 73), none, []⟩,
      ⟨(some 10), .mv (.tmp 74), none, []⟩])
    (.seq (.region [⟨(some 75), .mv (.tmp 9), none, []⟩,
      ⟨(some 76), .mv (.tmp 10), none, []⟩,
      ⟨(some 2), .mv (.tmp 75), none, []⟩,
      ⟨(some 3), .mv (.tmp 76), none, []⟩])
    .ret))))) }

def f_strconv_toError : AFunc :=
  { nparams := 5, ntmps := 43, pure := false, results := [.tmp 10],
    body := (.seq (.region [⟨(some 10), .mv (.val (.sc .nilIface)), none, []⟩])
    (.seq (.seq (.region [⟨(some 11), .mv (.tmp 4), none, []⟩])
    (.block 0 (.seq (.region [⟨(some 13), .makeIface 101 (.val (.sc (.int .i64 (2)))), none, []⟩,
        ⟨(some 14), .eqIfc false [(6, .i), (30, .i), (101, .i), (149, .i), (150, .i), (152, .i), (153, .i)] (.tmp 11) (.tmp 13), none, []⟩,
        ⟨(some 12), .mv (.tmp 14), none, []⟩])
      (.cond (.tmp 12)
        (.seq (.region [⟨(some 15), .mv (.tmp 0), none, []⟩,
          ⟨(some 16), .mv (.tmp 1), none, []⟩,
          ⟨(some 17), .call (.val (.fn (.func 86) [] [])) [(.tmp 15), (.tmp 16)], none, []⟩,
          ⟨(some 18), .makeIface 104 (.tmp 17), none, []⟩,
          ⟨(some 10), .mv (.tmp 18), none, []⟩])
        .ret)
        (.seq (.region [⟨(some 20), .makeIface 101 (.val (.sc (.int .i64 (1)))), none, []⟩,
          ⟨(some 21), .eqIfc false [(6, .i), (30, .i), (101, .i), (149, .i), (150, .i), (152, .i), (153, .i)] (.tmp 11) (.tmp 20), none, []⟩,
          ⟨(some 19), .mv (.tmp 21), none, []⟩])
        (.cond (.tmp 19)
          (.seq (.region [⟨(some 22), .mv (.tmp 0), none, []⟩,
            ⟨(some 23), .mv (.tmp 1), none, []⟩,
            ⟨(some 24), .call (.val (.fn (.func 87) [] [])) [(.tmp 22), (.tmp 23)], none, []⟩,
            ⟨(some 25), .makeIface 104 (.tmp 24), none, []⟩,
            ⟨(some 10), .mv (.tmp 25), none, []⟩])
          .ret)
          (.seq (.region [⟨(some 27), .makeIface 101 (.val (.sc (.int .i64 (3)))), none, []⟩,
            ⟨(some 28), .eqIfc false [(6, .i), (30, .i), (101, .i), (149, .i), (150, .i), (152, .i), (153, .i)] (.tmp 11) (.tmp 27), none, []⟩,
            ⟨(some 26), .mv (.tmp 28), none, []⟩])
          (.cond (.tmp 26)
            (.seq (.region [⟨(some 29), .mv (.tmp 0), none, []⟩,
              ⟨(some 30), .mv (.tmp 1), none, []⟩,
              ⟨(some 31), .mv (.tmp 2), none, []⟩,
              ⟨(some 32), .call (.val (.fn (.func 88) [] [])) [(.tmp 29), (.tmp 30), (.tmp 31)], none, []⟩,
              ⟨(some 33), .makeIface 104 (.tmp 32), none, []⟩,
              ⟨(some 10), .mv (.tmp 33), none, []⟩])
            .ret)
            (.seq (.region [⟨(some 35), .makeIface 101 (.val (.sc (.int .i64 (4)))), none, []⟩,
              ⟨(some 36), .eqIfc false [(6, .i), (30, .i), (101, .i), (149, .i), (150, .i), (152, .i), (153, .i)] (.tmp 11) (.tmp 35), none, []⟩,
              ⟨(some 34), .mv (.tmp 36), none, []⟩])
            (.cond (.tmp 34)
              (.seq (.region [⟨(some 37), .mv (.tmp 0), none, []⟩,
                ⟨(some 38), .mv (.tmp 1), none, []⟩,
                ⟨(some 39), .mv (.tmp 3), none, []⟩,
                ⟨(some 40), .call (.val (.fn (.func 89) [] [])) [(.tmp 37), (.tmp 38), (.tmp 39)], none, []⟩,
                ⟨(some 41), .makeIface 104 (.tmp 40), none, []⟩,
                ⟨(some 10), .mv (.tmp 41), none, []⟩])
              .ret)
              .skip))))))))))
    (.seq (.region [⟨(some 42), .mv (.tmp 4), none, []⟩,
      ⟨(some 10), .mv (.tmp 42), none, []⟩])
    .ret))) }

def f_bytes_HasPrefix : AFunc :=
  { nparams := 2, ntmps := 18, pure := true, results := [.tmp 4],
    body := (.seq (.region [⟨(some 4), .mv (.val (.sc (.bool false))), none, []⟩])
    (.seq (.region [⟨(some 5), .mv (.tmp 0), none, []⟩,
      ⟨(some 6), .len (.tmp 5), none, []⟩,
      ⟨(some 7), .mv (.tmp 1), none, []⟩,
      ⟨(some 8), .len (.tmp 7), none, []⟩,
      ⟨(some 9), .bin .geq (.tmp 6) (.tmp 8), none, []⟩,
      ⟨(some 10), .mv (.tmp 9), none, []⟩,
      ⟨(some 11), .mv (.tmp 0), (some (10, true)), []⟩,
      ⟨(some 12), .mv (.tmp 1), (some (10, true)), []⟩,
      ⟨(some 13), .len (.tmp 12), (some (10, true)), []⟩,
      ⟨(some 14), .slice 1 (.tmp 11) none (some (.tmp 13)) none, (some (10, true)), []⟩,
      ⟨(some 15), .mv (.tmp 1), (some (10, true)), []⟩,
      ⟨(some 16), .call (.val (.fn (.func 90) [] [])) [(.tmp 14), (.tmp 15)], (some (10, true)), []⟩,
      ⟨(some 17), .pick (.tmp 10) (.tmp 16) (.val (.sc (.bool false))), none, []⟩,
      ⟨(some 4), .mv (.tmp 17), none, []⟩])
    .ret)) }

def f_i_strconv_Itoa : AFunc :=
  { nparams := 1, ntmps := 5, pure := true, results := [.tmp 2],
    body := (.seq (.region [⟨(some 2), .mv (.val (.sc (.string ⟨#[]⟩))), none, []⟩])
    (.seq (.region [⟨(some 3), .mv (.tmp 0), none, []⟩,
      ⟨(some 4), .call (.val (.fn (.func 91) [] [])) [(.tmp 3), (.val (.sc (.int .i64 (10))))], none, []⟩,
      ⟨(some 2), .mv (.tmp 4), none, []⟩])
    .ret)) }

def f_i_strconv_ParseInt : AFunc :=
  { nparams := 3, ntmps := 73, pure := true, results := [.tmp 6, .tmp 7],
    body := (.seq (.region [⟨(some 6), .mv (.val (.sc (.int .i64 (0)))), none, []⟩,
      ⟨(some 7), .mv (.val (.sc .nilIface)), none, []⟩])
    (.seq (.seq (.region [⟨(some 12), .mv (.tmp 0), none, []⟩,
      ⟨(some 13), .bin .eql (.tmp 12) (.val (.sc (.string ⟨#[]⟩))), none, []⟩])
    (.cond (.tmp 13)
      (.seq (.region [⟨(some 14), .makeIface 101 (.val (.sc (.int .i64 (2)))), none, []⟩,
        ⟨(some 6), .mv (.val (.sc (.int .i64 (0)))), none, []⟩,
        ⟨(some 7), .mv (.tmp 14), none, []⟩])
      .ret)
      .skip))
    (.seq (.region [⟨(some 8), .mv (.val (.sc (.bool false))), none, []⟩])
    (.seq (.seq (.region [⟨(some 15), .mv (.tmp 0), none, []⟩,
      ⟨(some 16), .idxStr (.tmp 15) (.val (.sc (.int .i64 (0)))), none, []⟩])
    (.block 0 (.seq (.region [⟨(some 18), .bin .eql (.tmp 16) (.val (.sc (.int .u8 (43)))), none, []⟩,
        ⟨(some 17), .mv (.tmp 18), none, []⟩])
      (.cond (.tmp 17)
        (.region [⟨(some 19), .mv (.tmp 0), none, []⟩,
          ⟨(some 20), .sliceStr (.tmp 19) (some (.val (.sc (.int .i64 (1))))) none, none, []⟩,
          ⟨(some 0), .mv (.tmp 20), none, []⟩])
        (.seq (.region [⟨(some 22), .bin .eql (.tmp 16) (.val (.sc (.int .u8 (45)))), none, []⟩,
          ⟨(some 21), .mv (.tmp 22), none, []⟩])
        (.cond (.tmp 21)
          (.seq (.region [⟨(some 23), .mv (.tmp 0), none, []⟩,
            ⟨(some 24), .sliceStr (.tmp 23) (some (.val (.sc (.int .i64 (1))))) none, none, []⟩,
            ⟨(some 0), .mv (.tmp 24), none, []⟩])
          (.region [⟨(some 8), .mv (.val (.sc (.bool true))), none, []⟩]))
          .skip))))))
    (.seq (.region [⟨(some 9), .mv (.val (.sc (.int .u64 (0)))), none, []⟩])
    (.seq (.region [⟨(some 26), .mv (.tmp 0), none, []⟩,
      ⟨(some 27), .mv (.tmp 1), none, []⟩,
      ⟨(some 28), .mv (.tmp 2), none, []⟩,
      ⟨(some 29), .call (.val (.fn (.func 98) [] [])) [(.tmp 26), (.tmp 27), (.tmp 28)], none, []⟩,
      ⟨(some 25), .mv (.tmp 29), none, []⟩,
      ⟨(some 30), .extract (.tmp 25) 0, none, []⟩,
      ⟨(some 31), .extract (.tmp 25) 1, none, []⟩,
      ⟨(some 9), .mv (.tmp 30), none, []⟩,
      ⟨(some 7), .mv (.tmp 31), none, []⟩])
    (.seq (.seq (.region [⟨(some 32), .mv (.tmp 7), none, []⟩,
      ⟨(some 33), .isNil true .iface (.tmp 32), none, []⟩,
      ⟨(some 34), .mv (.tmp 33), none, []⟩,
      ⟨(some 35), .mv (.tmp 7), (some (34, true)), []⟩,
      ⟨(some 36), .makeIface 101 (.val (.sc (.int .i64 (1)))), (some (34, true)), []⟩,
      ⟨(some 37), .eqIfc true [(6, .i), (30, .i), (101, .i), (149, .i), (150, .i), (152, .i), (153, .i)] (.tmp 35) (.tmp 36), (some (34, true)), []⟩,
      ⟨(some 38), .pick (.tmp 34) (.tmp 37) (.val (.sc (.bool false))), none, []⟩])
    (.cond (.tmp 38)
      (.seq (.region [⟨(some 39), .mv (.tmp 7), none, []⟩,
        ⟨(some 6), .mv (.val (.sc (.int .i64 (0)))), none, []⟩,
        ⟨(some 7), .mv (.tmp 39), none, []⟩])
      .ret)
      .skip))
    (.seq (.seq (.region [⟨(some 40), .mv (.tmp 2), none, []⟩,
      ⟨(some 41), .bin .eql (.tmp 40) (.val (.sc (.int .i64 (0)))), none, []⟩])
    (.cond (.tmp 41)
      (.region [⟨(some 2), .mv (.val (.sc (.int .i64 (64)))), none, []⟩])
      .skip))
    (.seq (.region [⟨(some 42), .mv (.tmp 2), none, []⟩,
      ⟨(some 43), .bin .sub (.tmp 42) (.val (.sc (.int .i64 (1)))), none, []⟩,
      ⟨(some 44), .conv .u64 (.tmp 43), none, []⟩,
      ⟨(some 45), .bin .shl (.val (.sc (.int .u64 (1)))) (.tmp 44), none, []⟩,
      ⟨(some 10), .mv (.tmp 45), none, []⟩])
    (.seq (.seq (.region [⟨(some 46), .mv (.tmp 8), none, []⟩,
      ⟨(some 47), .un .not (.tmp 46), none, []⟩,
      ⟨(some 48), .mv (.tmp 47), none, []⟩,
      ⟨(some 49), .mv (.tmp 9), (some (48, true)), []⟩,
      ⟨(some 50), .mv (.tmp 10), (some (48, true)), []⟩,
      ⟨(some 51), .bin .geq (.tmp 49) (.tmp 50), (some (48, true)), []⟩,
      ⟨(some 52), .pick (.tmp 48) (.tmp 51) (.val (.sc (.bool false))), none, []⟩])
    (.cond (.tmp 52)
      (.seq (.region [⟨(some 53), .mv (.tmp 10), none, []⟩,
        ⟨(some 54), .bin .sub (.tmp 53) (.val (.sc (.int .u64 (1)))), none, []⟩,
        ⟨(some 55), .conv .i64 (.tmp 54), none, []⟩,
        ⟨(some 56), .makeIface 101 (.val (.sc (.int .i64 (1)))), none, []⟩,
        ⟨(some 6), .mv (.tmp 55), none, []⟩,
        ⟨(some 7), .mv (.tmp 56), none, []⟩])
      .ret)
      .skip))
    (.seq (.seq (.region [⟨(some 57), .mv (.tmp 8), none, []⟩,
      ⟨(some 58), .mv (.tmp 57), none, []⟩,
      ⟨(some 59), .mv (.tmp 9), (some (58, true)), []⟩,
      ⟨(some 60), .mv (.tmp 10), (some (58, true)), []⟩,
      ⟨(some 61), .bin .gtr (.tmp 59) (.tmp 60), (some (58, true)), []⟩,
      ⟨(some 62), .pick (.tmp 58) (.tmp 61) (.val (.sc (.bool false))), none, []⟩])
    (.cond (.tmp 62)
      (.seq (.region [⟨(some 63), .mv (.tmp 10), none, []⟩,
        ⟨(some 64), .conv .i64 (.tmp 63), none, []⟩,
        ⟨(some 65), .un .neg (.tmp 64), none, []⟩,
        ⟨(some 66), .makeIface 101 (.val (.sc (.int .i64 (1)))), none, []⟩,
        ⟨(some 6), .mv (.tmp 65), none, []⟩,
        ⟨(some 7), .mv (.tmp 66), none, []⟩])
      .ret)
      .skip))
    (.seq (.region [⟨(some 67), .mv (.tmp 9), none, []⟩,
      ⟨(some 68), .conv .i64 (.tmp 67), none, []⟩,
      ⟨(some 11), .mv (.tmp 68), none, []⟩])
    (.seq (.seq (.region [⟨(some 69), .mv (.tmp 8), none, []⟩])
    (.cond (.tmp 69)
      (.region [⟨(some 70), .mv (.tmp 11), none, []⟩,
        ⟨(some 71), .un .neg (.tmp 70), none, []⟩,
        ⟨(some 11), .mv (.tmp 71), none, []⟩])
      .skip))
    (.seq (.region [⟨(some 72), .mv (.tmp 11), none, []⟩,
      ⟨(some 6), .mv (.tmp 72), none, []⟩,
      ⟨(some 7), .mv (.val (.sc .nilIface)), none, []⟩])
    .ret)))))))))))))) }

def f_strconv_syntaxError : AFunc :=
  { nparams := 2, ntmps := 11, pure := false, results := [.tmp 4],
    body := (.seq (.region [⟨(some 4), .mv (.val (.sc (.pointer none))), none, []⟩])
    (.seq (.region [⟨(some 5), .mv (.tmp 0), none, []⟩,
      ⟨(some 6), .mv (.tmp 1), none, []⟩,
      ⟨(some 7), .call (.val (.fn (.func 99) [] [])) [(.tmp 6)], none, []⟩,
      ⟨(some 8), .loadF none (.val (.eptr g4 0)), none, []⟩,
      ⟨(some 9), .build [(.sc (.string ⟨#[]⟩)), (.sc (.string ⟨#[]⟩)), (.sc .nilIface)] [(0, 1, (.tmp 5)), (1, 1, (.tmp 7)), (2, 1, (.tmp 8))], none, []⟩,
      ⟨(some 10), .box 116 (.tmp 9), none, []⟩,
      ⟨(some 4), .mv (.tmp 10), none, []⟩])
    .ret)) }

def f_strconv_rangeError : AFunc :=
  { nparams := 2, ntmps := 11, pure := false, results := [.tmp 4],
    body := (.seq (.region [⟨(some 4), .mv (.val (.sc (.pointer none))), none, []⟩])
    (.seq (.region [⟨(some 5), .mv (.tmp 0), none, []⟩,
      ⟨(some 6), .mv (.tmp 1), none, []⟩,
      ⟨(some 7), .call (.val (.fn (.func 99) [] [])) [(.tmp 6)], none, []⟩,
      ⟨(some 8), .loadF none (.val (.eptr g5 0)), none, []⟩,
      ⟨(some 9), .build [(.sc (.string ⟨#[]⟩)), (.sc (.string ⟨#[]⟩)), (.sc .nilIface)] [(0, 1, (.tmp 5)), (1, 1, (.tmp 7)), (2, 1, (.tmp 8))], none, []⟩,
      ⟨(some 10), .box 116 (.tmp 9), none, []⟩,
      ⟨(some 4), .mv (.tmp 10), none, []⟩])
    .ret)) }

def f_strconv_baseError : AFunc :=
  { nparams := 3, ntmps := 16, pure := true, results := [.tmp 6],
    body := (.seq (.region [⟨(some 6), .mv (.val (.sc (.pointer none))), none, []⟩])
    (.seq (.region [⟨(some 7), .mv (.tmp 0), none, []⟩,
      ⟨(some 8), .mv (.tmp 1), none, []⟩,
      ⟨(some 9), .call (.val (.fn (.func 99) [] [])) [(.tmp 8)], none, []⟩,
      ⟨(some 10), .mv (.tmp 2), none, []⟩,
      ⟨(some 11), .call (.val (.fn (.func 65) [] [])) [(.tmp 10)], none, []⟩,
      ⟨(some 12), .bin .add (.val (.sc (.string ⟨#[105, 110, 118, 97, 108, 105, 100, 32, 98, 97, 115, 101, 32]⟩))) (.tmp 11), none, []⟩,
      ⟨(some 13), .call (.val (.fn (.func 100) [] [])) [(.tmp 12)], none, []⟩,
      ⟨(some 14), .build [(.sc (.string ⟨#[]⟩)), (.sc (.string ⟨#[]⟩)), (.sc .nilIface)] [(0, 1, (.tmp 7)), (1, 1, (.tmp 9)), (2, 1, (.tmp 13))], none, []⟩,
      ⟨(some 15), .box 116 (.tmp 14), none, []⟩,
      ⟨(some 6), .mv (.tmp 15), none, []⟩])
    .ret)) }

def f_strconv_bitSizeError : AFunc :=
  { nparams := 3, ntmps := 16, pure := true, results := [.tmp 6],
    body := (.seq (.region [⟨(some 6), .mv (.val (.sc (.pointer none))), none, []⟩])
    (.seq (.region [⟨(some 7), .mv (.tmp 0), none, []⟩,
      ⟨(some 8), .mv (.tmp 1), none, []⟩,
      ⟨(some 9), .call (.val (.fn (.func 99) [] [])) [(.tmp 8)], none, []⟩,
      ⟨(some 10), .mv (.tmp 2), none, []⟩,
      ⟨(some 11), .call (.val (.fn (.func 65) [] [])) [(.tmp 10)], none, []⟩,
      ⟨(some 12), .bin .add (.val (.sc (.string ⟨#[105, 110, 118, 97, 108, 105, 100, 32, 98, 105, 116, 32, 115, 105, 122, 101, 32]⟩))) (.tmp 11), none, []⟩,
      ⟨(some 13), .call (.val (.fn (.func 100) [] [])) [(.tmp 12)], none, []⟩,
      ⟨(some 14), .build [(.sc (.string ⟨#[]⟩)), (.sc (.string ⟨#[]⟩)), (.sc .nilIface)] [(0, 1, (.tmp 7)), (1, 1, (.tmp 9)), (2, 1, (.tmp 13))], none, []⟩,
      ⟨(some 15), .box 116 (.tmp 14), none, []⟩,
      ⟨(some 6), .mv (.tmp 15), none, []⟩])
    .ret)) }

def f_bytes_Equal : AFunc :=
  { nparams := 2, ntmps := 10, pure := true, results := [.tmp 4],
    body := (.seq (.region [⟨(some 4), .mv (.val (.sc (.bool false))), none, []⟩])
    (.seq (.region [⟨(some 5), .mv (.tmp 0), none, []⟩,
      ⟨(some 6), .strOf (.tmp 5), none, []⟩,
      ⟨(some 7), .mv (.tmp 1), none, []⟩,
      ⟨(some 8), .strOf (.tmp 7), none, []⟩,
      ⟨(some 9), .bin .eql (.tmp 6) (.tmp 8), none, []⟩,
      ⟨(some 4), .mv (.tmp 9), none, []⟩])
    .ret)) }

def f_i_strconv_FormatInt : AFunc :=
  { nparams := 2, ntmps := 54, pure := true, results := [.tmp 4],
    body := (.seq (.region [⟨(some 4), .mv (.val (.sc (.string ⟨#[]⟩))), none, []⟩])
    (.seq (.seq (.region [⟨(some 10), .mv (.tmp 1), none, []⟩,
      ⟨(some 11), .bin .eql (.tmp 10) (.val (.sc (.int .i64 (10)))), none, []⟩])
    (.cond (.tmp 11)
      (.seq (.seq (.region [⟨(some 12), .mv (.tmp 0), none, []⟩,
        ⟨(some 13), .bin .leq (.val (.sc (.int .i64 (0)))) (.tmp 12), none, []⟩,
        ⟨(some 14), .mv (.tmp 13), none, []⟩,
        ⟨(some 15), .mv (.tmp 0), (some (14, true)), []⟩,
        ⟨(some 16), .bin .lss (.tmp 15) (.val (.sc (.int .i64 (100)))), (some (14, true)), []⟩,
        ⟨(some 17), .pick (.tmp 14) (.tmp 16) (.val (.sc (.bool false))), none, []⟩])
      (.cond (.tmp 17)
        (.seq (.region [⟨(some 18), .mv (.tmp 0), none, []⟩,
          ⟨(some 19), .call (.val (.fn (.func 101) [] [])) [(.tmp 18)], none, []⟩,
          ⟨(some 4), .mv (.tmp 19), none, []⟩])
        .ret)
        .skip))
      (.seq (.region [⟨(some 5), .allocA 118 1 [(.sc (.int .u8 (0))), (.sc (.int .u8 (0))), (.sc (.int .u8 (0))), (.sc (.int .u8 (0))), (.sc (.int .u8 (0))), (.sc (.int .u8 (0))), (.sc (.int .u8 (0))), (.sc (.int .u8 (0))), (.sc (.int .u8 (0))), (.sc (.int .u8 (0))), (.sc (.int .u8 (0))), (.sc (.int .u8 (0))), (.sc (.int .u8 (0))), (.sc (.int .u8 (0))), (.sc (.int .u8 (0))), (.sc (.int .u8 (0))), (.sc (.int .u8 (0))), (.sc (.int .u8 (0))), (.sc (.int .u8 (0))), (.sc (.int .u8 (0))), (.sc (.int .u8 (0))), (.sc (.int .u8 (0))), (.sc (.int .u8 (0))), (.sc (.int .u8 (0)))], none, []⟩])
      (.seq (.region [⟨(some 20), .mv (.tmp 0), none, []⟩,
        ⟨(some 21), .conv .u64 (.tmp 20), none, []⟩,
        ⟨(some 6), .mv (.tmp 21), none, []⟩])
      (.seq (.seq (.region [⟨(some 22), .mv (.tmp 0), none, []⟩,
        ⟨(some 23), .bin .lss (.tmp 22) (.val (.sc (.int .i64 (0)))), none, []⟩])
      (.cond (.tmp 23)
        (.region [⟨(some 24), .mv (.tmp 6), none, []⟩,
          ⟨(some 25), .un .neg (.tmp 24), none, []⟩,
          ⟨(some 6), .mv (.tmp 25), none, []⟩])
        .skip))
      (.seq (.region [⟨(some 26), .mv (.tmp 6), none, []⟩,
        ⟨(some 27), .call (.val (.fn (.func 102) [] [])) [(.tmp 26)], none, []⟩,
        ⟨(some 7), .mv (.tmp 27), none, []⟩])
      (.seq (.region [⟨(some 28), .mv (.tmp 7), none, []⟩,
        ⟨(some 29), .bin .add (.val (.sc (.int .i64 (1)))) (.tmp 28), none, []⟩,
        ⟨(some 30), .sliceArr 24 1 (.tmp 5) (some (.val (.sc (.int .i64 (1))))) (some (.tmp 29)), none, []⟩,
        ⟨(some 31), .mv (.tmp 6), none, []⟩,
        ⟨(some 32), .call (.val (.fn (.func 103) [] [])) [(.tmp 30), (.tmp 31)], none, []⟩])
      (.seq (.seq (.region [⟨(some 33), .mv (.tmp 0), none, []⟩,
        ⟨(some 34), .bin .lss (.tmp 33) (.val (.sc (.int .i64 (0)))), none, []⟩])
      (.cond (.tmp 34)
        (.seq (.region [⟨(some 35), .indexA 24 1 (.tmp 5) (.val (.sc (.int .i64 (0)))), none, []⟩,
          ⟨none, .store 1 (.tmp 35) (.val (.sc (.int .u8 (45)))), none, []⟩])
        (.seq (.region [⟨(some 36), .mv (.tmp 7), none, []⟩,
          ⟨(some 37), .bin .add (.val (.sc (.int .i64 (1)))) (.tmp 36), none, []⟩,
          ⟨(some 38), .sliceArr 24 1 (.tmp 5) none (some (.tmp 37)), none, []⟩,
          ⟨(some 39), .strOf (.tmp 38), none, []⟩,
          ⟨(some 4), .mv (.tmp 39), none, []⟩])
        .ret))
        .skip))
      (.seq (.region [⟨(some 40), .mv (.tmp 7), none, []⟩,
        ⟨(some 41), .bin .add (.val (.sc (.int .i64 (1)))) (.tmp 40), none, []⟩,
        ⟨(some 42), .sliceArr 24 1 (.tmp 5) (some (.val (.sc (.int .i64 (1))))) (some (.tmp 41)), none, []⟩,
        ⟨(some 43), .strOf (.tmp 42), none, []⟩,
        ⟨(some 4), .mv (.tmp 43), none, []⟩])
      .ret))))))))
      .skip))
    (.seq (.region [⟨(some 45), .mv (.tmp 0), none, []⟩,
      ⟨(some 46), .conv .u64 (.tmp 45), none, []⟩,
      ⟨(some 47), .mv (.tmp 1), none, []⟩,
      ⟨(some 48), .mv (.tmp 0), none, []⟩,
      ⟨(some 49), .bin .lss (.tmp 48) (.val (.sc (.int .i64 (0)))), none, []⟩,
      ⟨(some 50), .call (.val (.fn (.func 104) [] [])) [(.val (.sc (.slice none 0 0))), (.tmp 46), (.tmp 47), (.tmp 49), (.val (.sc (.bool false)))], none, []⟩,
      ⟨(some 44), .mv (.tmp 50), none, []⟩,
      ⟨(some 51), .extract (.tmp 44) 0, none, []⟩,
      ⟨(some 52), .extract (.tmp 44) 1, none, []⟩,
      ⟨(some 8), .mv (.tmp 51), none, []⟩,
      ⟨(some 9), .mv (.tmp 52), none, []⟩])
    (.seq (.region [⟨(some 53), .mv (.tmp 9), none, []⟩,
      ⟨(some 4), .mv (.tmp 53), none, []⟩])
    .ret)))) }

def f_i_strconv_ParseUint : AFunc :=
  { nparams := 3, ntmps := 172, pure := true, results := [.tmp 6, .tmp 7],
    body := (.seq (.region [⟨(some 6), .mv (.val (.sc (.int .u64 (0)))), none, []⟩,
      ⟨(some 7), .mv (.val (.sc .nilIface)), none, []⟩])
    (.seq (.seq (.region [⟨(some 18), .mv (.tmp 0), none, []⟩,
      ⟨(some 19), .bin .eql (.tmp 18) (.val (.sc (.string ⟨#[]⟩))), none, []⟩])
    (.cond (.tmp 19)
      (.seq (.region [⟨(some 20), .makeIface 101 (.val (.sc (.int .i64 (2)))), none, []⟩,
        ⟨(some 6), .mv (.val (.sc (.int .u64 (0)))), none, []⟩,
        ⟨(some 7), .mv (.tmp 20), none, []⟩])
      .ret)
      .skip))
    (.seq (.region [⟨(some 21), .mv (.tmp 1), none, []⟩,
      ⟨(some 22), .bin .eql (.tmp 21) (.val (.sc (.int .i64 (0)))), none, []⟩,
      ⟨(some 8), .mv (.tmp 22), none, []⟩])
    (.seq (.region [⟨(some 23), .mv (.tmp 0), none, []⟩,
      ⟨(some 9), .mv (.tmp 23), none, []⟩])
    (.seq (.block 0 (.seq (.region [⟨(some 26), .mv (.tmp 1), none, []⟩,
        ⟨(some 27), .bin .leq (.val (.sc (.int .i64 (2)))) (.tmp 26), none, []⟩,
        ⟨(some 28), .mv (.tmp 27), none, []⟩,
        ⟨(some 29), .mv (.tmp 1), (some (28, true)), []⟩,
        ⟨(some 30), .bin .leq (.tmp 29) (.val (.sc (.int .i64 (36)))), (some (28, true)), []⟩,
        ⟨(some 31), .pick (.tmp 28) (.tmp 30) (.val (.sc (.bool false))), none, []⟩,
        ⟨(some 25), .mv (.tmp 31), none, []⟩])
      (.cond (.tmp 25)
        .skip
        (.seq (.region [⟨(some 33), .mv (.tmp 1), none, []⟩,
          ⟨(some 34), .bin .eql (.tmp 33) (.val (.sc (.int .i64 (0)))), none, []⟩,
          ⟨(some 32), .mv (.tmp 34), none, []⟩])
        (.cond (.tmp 32)
          (.seq (.region [⟨(some 1), .mv (.val (.sc (.int .i64 (10)))), none, []⟩])
          (.seq (.region [⟨(some 35), .mv (.tmp 0), none, []⟩,
            ⟨(some 36), .idxStr (.tmp 35) (.val (.sc (.int .i64 (0)))), none, []⟩,
            ⟨(some 37), .bin .eql (.tmp 36) (.val (.sc (.int .u8 (48)))), none, []⟩])
          (.cond (.tmp 37)
            (.block 1 (.seq (.region [⟨(some 41), .mv (.tmp 0), none, []⟩,
                ⟨(some 42), .lenStr (.tmp 41), none, []⟩,
                ⟨(some 43), .bin .geq (.tmp 42) (.val (.sc (.int .i64 (3)))), none, []⟩,
                ⟨(some 44), .mv (.tmp 43), none, []⟩,
                ⟨(some 45), .mv (.tmp 0), (some (44, true)), []⟩,
                ⟨(some 46), .idxStr (.tmp 45) (.val (.sc (.int .i64 (1)))), (some (44, true)), []⟩,
                ⟨(some 47), .call (.val (.fn (.func 110) [] [])) [(.tmp 46)], (some (44, true)), []⟩,
                ⟨(some 48), .bin .eql (.tmp 47) (.val (.sc (.int .u8 (98)))), (some (44, true)), []⟩,
                ⟨(some 49), .pick (.tmp 44) (.tmp 48) (.val (.sc (.bool false))), none, []⟩,
                ⟨(some 40), .mv (.tmp 49), none, []⟩])
              (.cond (.tmp 40)
                (.seq (.region [⟨(some 1), .mv (.val (.sc (.int .i64 (2)))), none, []⟩])
                (.region [⟨(some 50), .mv (.tmp 0), none, []⟩,
                  ⟨(some 51), .sliceStr (.tmp 50) (some (.val (.sc (.int .i64 (2))))) none, none, []⟩,
                  ⟨(some 0), .mv (.tmp 51), none, []⟩]))
                (.seq (.region [⟨(some 53), .mv (.tmp 0), none, []⟩,
                  ⟨(some 54), .lenStr (.tmp 53), none, []⟩,
                  ⟨(some 55), .bin .geq (.tmp 54) (.val (.sc (.int .i64 (3)))), none, []⟩,
                  ⟨(some 56), .mv (.tmp 55), none, []⟩,
                  ⟨(some 57), .mv (.tmp 0), (some (56, true)), []⟩,
                  ⟨(some 58), .idxStr (.tmp 57) (.val (.sc (.int .i64 (1)))), (some (56, true)), []⟩,
                  ⟨(some 59), .call (.val (.fn (.func 110) [] [])) [(.tmp 58)], (some (56, true)), []⟩,
                  ⟨(some 60), .bin .eql (.tmp 59) (.val (.sc (.int .u8 (111)))), (some (56, true)), []⟩,
                  ⟨(some 61), .pick (.tmp 56) (.tmp 60) (.val (.sc (.bool false))), none, []⟩,
                  ⟨(some 52), .mv (.tmp 61), none, []⟩])
                (.cond (.tmp 52)
                  (.seq (.region [⟨(some 1), .mv (.val (.sc (.int .i64 (8)))), none, []⟩])
                  (.region [⟨(some 62), .mv (.tmp 0), none, []⟩,
                    ⟨(some 63), .sliceStr (.tmp 62) (some (.val (.sc (.int .i64 (2))))) none, none, []⟩,
                    ⟨(some 0), .mv (.tmp 63), none, []⟩]))
                  (.seq (.region [⟨(some 65), .mv (.tmp 0), none, []⟩,
                    ⟨(some 66), .lenStr (.tmp 65), none, []⟩,
                    ⟨(some 67), .bin .geq (.tmp 66) (.val (.sc (.int .i64 (3)))), none, []⟩,
                    ⟨(some 68), .mv (.tmp 67), none, []⟩,
                    ⟨(some 69), .mv (.tmp 0), (some (68, true)), []⟩,
                    ⟨(some 70), .idxStr (.tmp 69) (.val (.sc (.int .i64 (1)))), (some (68, true)), []⟩,
                    ⟨(some 71), .call (.val (.fn (.func 110) [] [])) [(.tmp 70)], (some (68, true)), []⟩,
                    ⟨(some 72), .bin .eql (.tmp 71) (.val (.sc (.int .u8 (120)))), (some (68, true)), []⟩,
                    ⟨(some 73), .pick (.tmp 68) (.tmp 72) (.val (.sc (.bool false))), none, []⟩,
                    ⟨(some 64), .mv (.tmp 73), none, []⟩])
                  (.cond (.tmp 64)
                    (.seq (.region [⟨(some 1), .mv (.val (.sc (.int .i64 (16)))), none, []⟩])
                    (.region [⟨(some 74), .mv (.tmp 0), none, []⟩,
                      ⟨(some 75), .sliceStr (.tmp 74) (some (.val (.sc (.int .i64 (2))))) none, none, []⟩,
                      ⟨(some 0), .mv (.tmp 75), none, []⟩]))
                    (.seq (.region [⟨(some 1), .mv (.val (.sc (.int .i64 (8)))), none, []⟩])
                    (.region [⟨(some 38), .mv (.tmp 0), none, []⟩,
                      ⟨(some 39), .sliceStr (.tmp 38) (some (.val (.sc (.int .i64 (1))))) none, none, []⟩,
                      ⟨(some 0), .mv (.tmp 39), none, []⟩])))))))))
            .skip)))
          (.seq (.region [⟨(some 24), .makeIface 101 (.val (.sc (.int .i64 (3)))), none, []⟩,
            ⟨(some 6), .mv (.val (.sc (.int .u64 (0)))), none, []⟩,
            ⟨(some 7), .mv (.tmp 24), none, []⟩])
          .ret))))))
    (.seq (.seq (.region [⟨(some 76), .mv (.tmp 2), none, []⟩,
      ⟨(some 77), .bin .eql (.tmp 76) (.val (.sc (.int .i64 (0)))), none, []⟩])
    (.cond (.tmp 77)
      (.region [⟨(some 2), .mv (.val (.sc (.int .i64 (64)))), none, []⟩])
      (.seq (.region [⟨(some 78), .mv (.tmp 2), none, []⟩,
        ⟨(some 79), .bin .lss (.tmp 78) (.val (.sc (.int .i64 (0)))), none, []⟩,
        ⟨(some 80), .mv (.tmp 79), none, []⟩,
        ⟨(some 81), .mv (.tmp 2), (some (80, false)), []⟩,
        ⟨(some 82), .bin .gtr (.tmp 81) (.val (.sc (.int .i64 (64)))), (some (80, false)), []⟩,
        ⟨(some 83), .pick (.tmp 80) (.val (.sc (.bool true))) (.tmp 82), none, []⟩])
      (.cond (.tmp 83)
        (.seq (.region [⟨(some 84), .makeIface 101 (.val (.sc (.int .i64 (4)))), none, []⟩,
          ⟨(some 6), .mv (.val (.sc (.int .u64 (0)))), none, []⟩,
          ⟨(some 7), .mv (.tmp 84), none, []⟩])
        .ret)
        .skip))))
    (.seq (.region [⟨(some 10), .mv (.val (.sc (.int .u64 (0)))), none, []⟩])
    (.seq (.seq (.region [⟨(some 85), .mv (.tmp 1), none, []⟩])
    (.block 2 (.seq (.region [⟨(some 91), .bin .eql (.tmp 85) (.val (.sc (.int .i64 (10)))), none, []⟩,
        ⟨(some 90), .mv (.tmp 91), none, []⟩])
      (.cond (.tmp 90)
        (.region [⟨(some 10), .mv (.val (.sc (.int .u64 (1844674407370955162)))), none, []⟩])
        (.seq (.region [⟨(some 93), .bin .eql (.tmp 85) (.val (.sc (.int .i64 (16)))), none, []⟩,
          ⟨(some 92), .mv (.tmp 93), none, []⟩])
        (.cond (.tmp 92)
          (.region [⟨(some 10), .mv (.val (.sc (.int .u64 (1152921504606846976)))), none, []⟩])
          (.region [⟨(some 86), .mv (.tmp 1), none, []⟩,
            ⟨(some 87), .conv .u64 (.tmp 86), none, []⟩,
            ⟨(some 88), .bin .quo (.val (.sc (.int .u64 (18446744073709551615)))) (.tmp 87), none, []⟩,
            ⟨(some 89), .bin .add (.tmp 88) (.val (.sc (.int .u64 (1)))), none, []⟩,
            ⟨(some 10), .mv (.tmp 89), none, []⟩])))))))
    (.seq (.region [⟨(some 94), .mv (.tmp 2), none, []⟩,
      ⟨(some 95), .conv .u64 (.tmp 94), none, []⟩,
      ⟨(some 96), .bin .shl (.val (.sc (.int .u64 (1)))) (.tmp 95), none, []⟩,
      ⟨(some 97), .bin .sub (.tmp 96) (.val (.sc (.int .u64 (1)))), none, []⟩,
      ⟨(some 11), .mv (.tmp 97), none, []⟩])
    (.seq (.region [⟨(some 12), .mv (.val (.sc (.bool false))), none, []⟩])
    (.seq (.region [⟨(some 13), .mv (.val (.sc (.int .u64 (0)))), none, []⟩])
    (.seq (.seq (.region [⟨(some 98), .mv (.tmp 0), none, []⟩,
      ⟨(some 99), .bytesOf (.tmp 98), none, []⟩,
      ⟨(some 100), .len (.tmp 99), none, []⟩,
      ⟨(some 101), .mv (.val (.sc (.int .i64 (0)))), none, []⟩])
    (.block 3 (.loop (.seq (.region [⟨(some 102), .bin .lss (.tmp 101) (.tmp 100), none, []⟩])
        (.seq (.cond (.tmp 102)
          .skip
          (.exit 3))
        (.seq (.block 4 (.seq (.region [⟨(some 103), .indexS 1 (.tmp 99) (.tmp 101), none, []⟩,
            ⟨(some 104), .load none (.tmp 103), none, []⟩,
            ⟨(some 15), .mv (.tmp 104), none, []⟩])
          (.seq (.region [⟨(some 16), .mv (.val (.sc (.int .u8 (0)))), none, []⟩])
          (.seq (.block 5 (.seq (.region [⟨(some 107), .mv (.tmp 15), none, []⟩,
              ⟨(some 108), .bin .eql (.tmp 107) (.val (.sc (.int .u8 (95)))), none, []⟩,
              ⟨(some 109), .mv (.tmp 108), none, []⟩,
              ⟨(some 110), .mv (.tmp 8), (some (109, true)), []⟩,
              ⟨(some 111), .pick (.tmp 109) (.tmp 110) (.val (.sc (.bool false))), none, []⟩,
              ⟨(some 106), .mv (.tmp 111), none, []⟩])
            (.cond (.tmp 106)
              (.seq (.region [⟨(some 12), .mv (.val (.sc (.bool true))), none, []⟩])
              (.exit 4))
              (.seq (.region [⟨(some 113), .mv (.tmp 15), none, []⟩,
                ⟨(some 114), .bin .leq (.val (.sc (.int .u8 (48)))) (.tmp 113), none, []⟩,
                ⟨(some 115), .mv (.tmp 114), none, []⟩,
                ⟨(some 116), .mv (.tmp 15), (some (115, true)), []⟩,
                ⟨(some 117), .bin .leq (.tmp 116) (.val (.sc (.int .u8 (57)))), (some (115, true)), []⟩,
                ⟨(some 118), .pick (.tmp 115) (.tmp 117) (.val (.sc (.bool false))), none, []⟩,
                ⟨(some 112), .mv (.tmp 118), none, []⟩])
              (.cond (.tmp 112)
                (.region [⟨(some 119), .mv (.tmp 15), none, []⟩,
                  ⟨(some 120), .bin .sub (.tmp 119) (.val (.sc (.int .u8 (48)))), none, []⟩,
                  ⟨(some 16), .mv (.tmp 120), none, []⟩])
                (.seq (.region [⟨(some 122), .mv (.tmp 15), none, []⟩,
                  ⟨(some 123), .call (.val (.fn (.func 110) [] [])) [(.tmp 122)], none, []⟩,
                  ⟨(some 124), .bin .leq (.val (.sc (.int .u8 (97)))) (.tmp 123), none, []⟩,
                  ⟨(some 125), .mv (.tmp 124), none, []⟩,
                  ⟨(some 126), .mv (.tmp 15), (some (125, true)), []⟩,
                  ⟨(some 127), .call (.val (.fn (.func 110) [] [])) [(.tmp 126)], (some (125, true)), []⟩,
                  ⟨(some 128), .bin .leq (.tmp 127) (.val (.sc (.int .u8 (122)))), (some (125, true)), []⟩,
                  ⟨(some 129), .pick (.tmp 125) (.tmp 128) (.val (.sc (.bool false))), none, []⟩,
                  ⟨(some 121), .mv (.tmp 129), none, []⟩])
                (.cond (.tmp 121)
                  (.region [⟨(some 130), .mv (.tmp 15), none, []⟩,
                    ⟨(some 131), .call (.val (.fn (.func 110) [] [])) [(.tmp 130)], none, []⟩,
                    ⟨(some 132), .bin .sub (.tmp 131) (.val (.sc (.int .u8 (97)))), none, []⟩,
                    ⟨(some 133), .bin .add (.tmp 132) (.val (.sc (.int .u8 (10)))), none, []⟩,
                    ⟨(some 16), .mv (.tmp 133), none, []⟩])
                  (.seq (.region [⟨(some 105), .makeIface 101 (.val (.sc (.int .i64 (2)))), none, []⟩,
                    ⟨(some 6), .mv (.val (.sc (.int .u64 (0)))), none, []⟩,
                    ⟨(some 7), .mv (.tmp 105), none, []⟩])
                  .ret))))))))
          (.seq (.seq (.region [⟨(some 134), .mv (.tmp 16), none, []⟩,
            ⟨(some 135), .mv (.tmp 1), none, []⟩,
            ⟨(some 136), .conv .u8 (.tmp 135), none, []⟩,
            ⟨(some 137), .bin .geq (.tmp 134) (.tmp 136), none, []⟩])
          (.cond (.tmp 137)
            (.seq (.region [⟨(some 138), .makeIface 101 (.val (.sc (.int .i64 (2)))), none, []⟩,
              ⟨(some 6), .mv (.val (.sc (.int .u64 (0)))), none, []⟩,
              ⟨(some 7), .mv (.tmp 138), none, []⟩])
            .ret)
            .skip))
          (.seq (.seq (.region [⟨(some 139), .mv (.tmp 13), none, []⟩,
            ⟨(some 140), .mv (.tmp 10), none, []⟩,
            ⟨(some 141), .bin .geq (.tmp 139) (.tmp 140), none, []⟩])
          (.cond (.tmp 141)
            (.seq (.region [⟨(some 142), .mv (.tmp 11), none, []⟩,
              ⟨(some 143), .makeIface 101 (.val (.sc (.int .i64 (1)))), none, []⟩,
              ⟨(some 6), .mv (.tmp 142), none, []⟩,
              ⟨(some 7), .mv (.tmp 143), none, []⟩])
            .ret)
            .skip))
          (.seq (.region [⟨(some 144), .mv (.tmp 13), none, []⟩,
            ⟨(some 145), .mv (.tmp 1), none, []⟩,
            ⟨(some 146), .conv .u64 (.tmp 145), none, []⟩,
            ⟨(some 147), .bin .mul (.tmp 144) (.tmp 146), none, []⟩,
            ⟨(some 13), .mv (.tmp 147), none, []⟩])
          (.seq (.region [⟨(some 148), .mv (.tmp 13), none, []⟩,
            ⟨(some 149), .mv (.tmp 16), none, []⟩,
            ⟨(some 150), .conv .u64 (.tmp 149), none, []⟩,
            ⟨(some 151), .bin .add (.tmp 148) (.tmp 150), none, []⟩,
            ⟨(some 17), .mv (.tmp 151), none, []⟩])
          (.seq (.seq (.region [⟨(some 152), .mv (.tmp 17), none, []⟩,
            ⟨(some 153), .mv (.tmp 13), none, []⟩,
            ⟨(some 154), .bin .lss (.tmp 152) (.tmp 153), none, []⟩,
            ⟨(some 155), .mv (.tmp 154), none, []⟩,
            ⟨(some 156), .mv (.tmp 17), (some (155, false)), []⟩,
            ⟨(some 157), .mv (.tmp 11), (some (155, false)), []⟩,
            ⟨(some 158), .bin .gtr (.tmp 156) (.tmp 157), (some (155, false)), []⟩,
            ⟨(some 159), .pick (.tmp 155) (.val (.sc (.bool true))) (.tmp 158), none, []⟩])
          (.cond (.tmp 159)
            (.seq (.region [⟨(some 160), .mv (.tmp 11), none, []⟩,
              ⟨(some 161), .makeIface 101 (.val (.sc (.int .i64 (1)))), none, []⟩,
              ⟨(some 6), .mv (.tmp 160), none, []⟩,
              ⟨(some 7), .mv (.tmp 161), none, []⟩])
            .ret)
            .skip))
          (.region [⟨(some 162), .mv (.tmp 17), none, []⟩,
            ⟨(some 13), .mv (.tmp 162), none, []⟩]))))))))))
        (.region [⟨(some 163), .bin .add (.tmp 101) (.val (.sc (.int .i64 (1)))), none, []⟩,
          ⟨(some 101), .mv (.tmp 163), none, []⟩])))))))
    (.seq (.seq (.region [⟨(some 164), .mv (.tmp 12), none, []⟩,
      ⟨(some 165), .mv (.tmp 164), none, []⟩,
      ⟨(some 166), .mv (.tmp 9), (some (165, true)), []⟩,
      ⟨(some 167), .call (.val (.fn (.func 111) [] [])) [(.tmp 166)], (some (165, true)), []⟩,
      ⟨(some 168), .un .not (.tmp 167), (some (165, true)), []⟩,
      ⟨(some 169), .pick (.tmp 165) (.tmp 168) (.val (.sc (.bool false))), none, []⟩])
    (.cond (.tmp 169)
      (.seq (.region [⟨(some 170), .makeIface 101 (.val (.sc (.int .i64 (2)))), none, []⟩,
        ⟨(some 6), .mv (.val (.sc (.int .u64 (0)))), none, []⟩,
        ⟨(some 7), .mv (.tmp 170), none, []⟩])
      .ret)
      .skip))
    (.seq (.region [⟨(some 171), .mv (.tmp 13), none, []⟩,
      ⟨(some 6), .mv (.tmp 171), none, []⟩,
      ⟨(some 7), .mv (.val (.sc .nilIface)), none, []⟩])
    .ret)))))))))))))) }

def f_i_stringslite_Clone : AFunc :=
  { nparams := 1, ntmps := 18, pure := true, results := [.tmp 2],
    body := (.seq (.region [⟨(some 2), .mv (.val (.sc (.string ⟨#[]⟩))), none, []⟩])
    (.seq (.seq (.region [⟨(some 4), .mv (.tmp 0), none, []⟩,
      ⟨(some 5), .lenStr (.tmp 4), none, []⟩,
      ⟨(some 6), .bin .eql (.tmp 5) (.val (.sc (.int .i64 (0)))), none, []⟩])
    (.cond (.tmp 6)
      (.seq (.region [⟨(some 2), .mv (.val (.sc (.string ⟨#[]⟩))), none, []⟩])
      .ret)
      .skip))
    (.seq (.region [⟨(some 7), .mv (.tmp 0), none, []⟩,
      ⟨(some 8), .lenStr (.tmp 7), none, []⟩,
      ⟨(some 9), .makeSlice 5 1 [(.sc (.int .u8 (0)))] (.tmp 8) (.tmp 8), none, []⟩,
      ⟨(some 3), .mv (.tmp 9), none, []⟩])
    (.seq (.region [⟨(some 10), .mv (.tmp 3), none, []⟩,
      ⟨(some 11), .mv (.tmp 0), none, []⟩,
      ⟨(some 12), .copy 1 (.tmp 10) (.tmp 11), none, []⟩])
    (.seq (.region [⟨(some 13), .mv (.tmp 3), none, []⟩,
      ⟨(some 14), .indexS 1 (.tmp 13) (.val (.sc (.int .i64 (0)))), none, []⟩,
      ⟨(some 15), .mv (.tmp 3), none, []⟩,
      ⟨(some 16), .len (.tmp 15), none, []⟩,
      ⟨(some 17), .strData 5 (.tmp 14) (.tmp 16), none, []⟩,
      ⟨(some 2), .mv (.tmp 17), none, []⟩])
    .ret))))) }

def f_errors_New : AFunc :=
  { nparams := 1, ntmps := 7, pure := true, results := [.tmp 2],
    body := (.seq (.region [⟨(some 2), .mv (.val (.sc .nilIface)), none, []⟩])
    (.seq (.region [⟨(some 3), .mv (.tmp 0), none, []⟩,
      ⟨(some 4), .build [(.sc (.string ⟨#[]⟩))] [(0, 1, (.tmp 3))], none, []⟩,
      ⟨(some 5), .box 128 (.tmp 4), none, []⟩,
      ⟨(some 6), .makeIface 126 (.tmp 5), none, []⟩,
      ⟨(some 2), .mv (.tmp 6), none, []⟩])
    .ret)) }

def f_i_strconv_small : AFunc :=
  { nparams := 1, ntmps := 15, pure := true, results := [.tmp 2],
    body := (.seq (.region [⟨(some 2), .mv (.val (.sc (.string ⟨#[]⟩))), none, []⟩])
    (.seq (.seq (.region [⟨(some 3), .mv (.tmp 0), none, []⟩,
      ⟨(some 4), .bin .lss (.tmp 3) (.val (.sc (.int .i64 (10)))), none, []⟩])
    (.cond (.tmp 4)
      (.seq (.region [⟨(some 5), .mv (.tmp 0), none, []⟩,
        ⟨(some 6), .mv (.tmp 0), none, []⟩,
        ⟨(some 7), .bin .add (.tmp 6) (.val (.sc (.int .i64 (1)))), none, []⟩,
        ⟨(some 8), .sliceStr (.val (.sc (.string ⟨#[48, 49, 50, 51, 52, 53, 54, 55, 56, 57, 97, 98, 99, 100, 101, 102, 103, 104, 105, 106, 107, 108, 109, 110, 111, 112, 113, 114, 115, 116, 117, 118, 119, 120, 121, 122]⟩))) (some (.tmp 5)) (some (.tmp 7)), none, []⟩,
        ⟨(some 2), .mv (.tmp 8), none, []⟩])
      .ret)
      .skip))
    (.seq (.region [⟨(some 9), .mv (.tmp 0), none, []⟩,
      ⟨(some 10), .bin .mul (.tmp 9) (.val (.sc (.int .i64 (2)))), none, []⟩,
      ⟨(some 11), .mv (.tmp 0), none, []⟩,
      ⟨(some 12), .bin .mul (.tmp 11) (.val (.sc (.int .i64 (2)))), none, []⟩,
      ⟨(some 13), .bin .add (.tmp 12) (.val (.sc (.int .i64 (2)))), none, []⟩,
      ⟨(some 14), .sliceStr (.val (.sc (.string ⟨#[48, 48, 48, 49, 48, 50, 48, 51, 48, 52, 48, 53, 48, 54, 48, 55, 48, 56, 48, 57, 49, 48, 49, 49, 49, 50, 49, 51, 49, 52, 49, 53, 49, 54, 49, 55, 49, 56, 49, 57, 50, 48, 50, 49, 50, 50, 50, 51, 50, 52, 50, 53, 50, 54, 50, 55, 50, 56, 50, 57, 51, 48, 51, 49, 51, 50, 51, 51, 51, 52, 51, 53, 51, 54, 51, 55, 51, 56, 51, 57, 52, 48, 52, 49, 52, 50, 52, 51, 52, 52, 52, 53, 52, 54, 52, 55, 52, 56, 52, 57, 53, 48, 53, 49, 53, 50, 53, 51, 53, 52, 53, 53, 53, 54, 53, 55, 53, 56, 53, 57, 54, 48, 54, 49, 54, 50, 54, 51, 54, 52, 54, 53, 54, 54, 54, 55, 54, 56, 54, 57, 55, 48, 55, 49, 55, 50, 55, 51, 55, 52, 55, 53, 55, 54, 55, 55, 55, 56, 55, 57, 56, 48, 56, 49, 56, 50, 56, 51, 56, 52, 56, 53, 56, 54, 56, 55, 56, 56, 56, 57, 57, 48, 57, 49, 57, 50, 57, 51, 57, 52, 57, 53, 57, 54, 57, 55, 57, 56, 57, 57]⟩))) (some (.tmp 10)) (some (.tmp 13)), none, []⟩,
      ⟨(some 2), .mv (.tmp 14), none, []⟩])
    .ret))) }

def f_i_strconv_numDigits : AFunc :=
  { nparams := 1, ntmps := 15, pure := true, results := [.tmp 2],
    body := (.seq (.region [⟨(some 2), .mv (.val (.sc (.int .i64 (0)))), none, []⟩])
    (.seq (.region [⟨(some 4), .mv (.tmp 0), none, []⟩,
      ⟨(some 5), .call (.val (.fn (.func 113) [] [])) [(.tmp 4)], none, []⟩,
      ⟨(some 6), .call (.val (.fn (.func 112) [] [])) [(.tmp 5)], none, []⟩,
      ⟨(some 3), .mv (.tmp 6), none, []⟩])
    (.seq (.region [⟨(some 7), .mv (.tmp 3), none, []⟩,
      ⟨(some 8), .mv (.tmp 0), none, []⟩,
      ⟨(some 9), .mv (.tmp 3), none, []⟩,
      ⟨(some 10), .indexA 20 1 (.val (.eptr g6 0)) (.tmp 9), none, []⟩,
      ⟨(some 11), .load none (.tmp 10), none, []⟩,
      ⟨(some 12), .bin .geq (.tmp 8) (.tmp 11), none, []⟩,
      ⟨(some 13), .call (.val (.fn (.func 114) [] [])) [(.tmp 12)], none, []⟩,
      ⟨(some 14), .bin .add (.tmp 7) (.tmp 13), none, []⟩,
      ⟨(some 2), .mv (.tmp 14), none, []⟩])
    .ret))) }

def f_i_strconv_formatBase10 : AFunc :=
  { nparams := 2, ntmps := 167, pure := true, results := [],
    body := (.seq (.region [⟨(some 17), .mv (.tmp 0), none, []⟩,
      ⟨(some 18), .len (.tmp 17), none, []⟩,
      ⟨(some 4), .mv (.tmp 18), none, []⟩])
    (.seq (.block 0 (.loop (.seq (.seq (.region [⟨(some 19), .mv (.tmp 4), none, []⟩,
          ⟨(some 20), .bin .geq (.tmp 19) (.val (.sc (.int .i64 (8)))), none, []⟩])
        (.cond (.tmp 20)
          .skip
          (.exit 0)))
        (.block 1 (.seq (.region [⟨(some 21), .mv (.tmp 1), none, []⟩,
            ⟨(some 22), .bin .rem (.tmp 21) (.val (.sc (.int .u64 (100000000)))), none, []⟩,
            ⟨(some 23), .conv .u32 (.tmp 22), none, []⟩,
            ⟨(some 5), .mv (.tmp 23), none, []⟩])
          (.seq (.region [⟨(some 24), .mv (.tmp 1), none, []⟩,
            ⟨(some 25), .bin .quo (.tmp 24) (.val (.sc (.int .u64 (100000000)))), none, []⟩,
            ⟨(some 1), .mv (.tmp 25), none, []⟩])
          (.seq (.region [⟨(some 26), .mv (.tmp 5), none, []⟩,
            ⟨(some 27), .bin .quo (.tmp 26) (.val (.sc (.int .u32 (10000)))), none, []⟩,
            ⟨(some 28), .mv (.tmp 5), none, []⟩,
            ⟨(some 29), .bin .rem (.tmp 28) (.val (.sc (.int .u32 (10000)))), none, []⟩,
            ⟨(some 6), .mv (.tmp 27), none, []⟩,
            ⟨(some 7), .mv (.tmp 29), none, []⟩])
          (.seq (.region [⟨(some 30), .mv (.tmp 7), none, []⟩,
            ⟨(some 31), .bin .quo (.tmp 30) (.val (.sc (.int .u32 (100)))), none, []⟩,
            ⟨(some 32), .bin .mul (.tmp 31) (.val (.sc (.int .u32 (2)))), none, []⟩,
            ⟨(some 33), .mv (.tmp 7), none, []⟩,
            ⟨(some 34), .bin .rem (.tmp 33) (.val (.sc (.int .u32 (100)))), none, []⟩,
            ⟨(some 35), .bin .mul (.tmp 34) (.val (.sc (.int .u32 (2)))), none, []⟩,
            ⟨(some 8), .mv (.tmp 32), none, []⟩,
            ⟨(some 9), .mv (.tmp 35), none, []⟩])
          (.seq (.region [⟨(some 36), .mv (.tmp 6), none, []⟩,
            ⟨(some 37), .bin .quo (.tmp 36) (.val (.sc (.int .u32 (100)))), none, []⟩,
            ⟨(some 38), .bin .mul (.tmp 37) (.val (.sc (.int .u32 (2)))), none, []⟩,
            ⟨(some 39), .mv (.tmp 6), none, []⟩,
            ⟨(some 40), .bin .rem (.tmp 39) (.val (.sc (.int .u32 (100)))), none, []⟩,
            ⟨(some 41), .bin .mul (.tmp 40) (.val (.sc (.int .u32 (2)))), none, []⟩,
            ⟨(some 10), .mv (.tmp 38), none, []⟩,
            ⟨(some 11), .mv (.tmp 41), none, []⟩])
          (.seq (.region [⟨(some 42), .mv (.tmp 0), none, []⟩,
            ⟨(some 43), .mv (.tmp 4), none, []⟩,
            ⟨(some 44), .bin .sub (.tmp 43) (.val (.sc (.int .i64 (1)))), none, []⟩,
            ⟨(some 45), .mv (.tmp 0), none, []⟩,
            ⟨(some 46), .mv (.tmp 4), none, []⟩,
            ⟨(some 47), .bin .sub (.tmp 46) (.val (.sc (.int .i64 (2)))), none, []⟩,
            ⟨(some 48), .mv (.tmp 9), none, []⟩,
            ⟨(some 49), .bin .add (.tmp 48) (.val (.sc (.int .u32 (1)))), none, []⟩,
            ⟨(some 50), .idxStr (.val (.sc (.string ⟨#[48, 48, 48, 49, 48, 50, 48, 51, 48, 52, 48, 53, 48, 54, 48, 55, 48, 56, 48, 57, 49, 48, 49, 49, 49, 50, 49, 51, 49, 52, 49, 53, 49, 54, 49, 55, 49, 56, 49, 57, 50, 48, 50, 49, 50, 50, 50, 51, 50, 52, 50, 53, 50, 54, 50, 55, 50, 56, 50, 57, 51, 48, 51, 49, 51, 50, 51, 51, 51, 52, 51, 53, 51, 54, 51, 55, 51, 56, 51, 57, 52, 48, 52, 49, 52, 50, 52, 51, 52, 52, 52, 53, 52, 54, 52, 55, 52, 56, 52, 57, 53, 48, 53, 49, 53, 50, 53, 51, 53, 52, 53, 53, 53, 54, 53, 55, 53, 56, 53, 57, 54, 48, 54, 49, 54, 50, 54, 51, 54, 52, 54, 53, 54, 54, 54, 55, 54, 56, 54, 57, 55, 48, 55, 49, 55, 50, 55, 51, 55, 52, 55, 53, 55, 54, 55, 55, 55, 56, 55, 57, 56, 48, 56, 49, 56, 50, 56, 51, 56, 52, 56, 53, 56, 54, 56, 55, 56, 56, 56, 57, 57, 48, 57, 49, 57, 50, 57, 51, 57, 52, 57, 53, 57, 54, 57, 55, 57, 56, 57, 57]⟩))) (.tmp 49), none, []⟩,
            ⟨(some 51), .mv (.tmp 9), none, []⟩,
            ⟨(some 52), .idxStr (.val (.sc (.string ⟨#[48, 48, 48, 49, 48, 50, 48, 51, 48, 52, 48, 53, 48, 54, 48, 55, 48, 56, 48, 57, 49, 48, 49, 49, 49, 50, 49, 51, 49, 52, 49, 53, 49, 54, 49, 55, 49, 56, 49, 57, 50, 48, 50, 49, 50, 50, 50, 51, 50, 52, 50, 53, 50, 54, 50, 55, 50, 56, 50, 57, 51, 48, 51, 49, 51, 50, 51, 51, 51, 52, 51, 53, 51, 54, 51, 55, 51, 56, 51, 57, 52, 48, 52, 49, 52, 50, 52, 51, 52, 52, 52, 53, 52, 54, 52, 55, 52, 56, 52, 57, 53, 48, 53, 49, 53, 50, 53, 51, 53, 52, 53, 53, 53, 54, 53, 55, 53, 56, 53, 57, 54, 48, 54, 49, 54, 50, 54, 51, 54, 52, 54, 53, 54, 54, 54, 55, 54, 56, 54, 57, 55, 48, 55, 49, 55, 50, 55, 51, 55, 52, 55, 53, 55, 54, 55, 55, 55, 56, 55, 57, 56, 48, 56, 49, 56, 50, 56, 51, 56, 52, 56, 53, 56, 54, 56, 55, 56, 56, 56, 57, 57, 48, 57, 49, 57, 50, 57, 51, 57, 52, 57, 53, 57, 54, 57, 55, 57, 56, 57, 57]⟩))) (.tmp 51), none, []⟩,
            ⟨(some 53), .indexS 1 (.tmp 42) (.tmp 44), none, []⟩,
            ⟨none, .store 1 (.tmp 53) (.tmp 50), none, []⟩,
            ⟨(some 54), .indexS 1 (.tmp 45) (.tmp 47), none, []⟩,
            ⟨none, .store 1 (.tmp 54) (.tmp 52), none, []⟩])
          (.seq (.region [⟨(some 55), .mv (.tmp 0), none, []⟩,
            ⟨(some 56), .mv (.tmp 4), none, []⟩,
            ⟨(some 57), .bin .sub (.tmp 56) (.val (.sc (.int .i64 (3)))), none, []⟩,
            ⟨(some 58), .mv (.tmp 0), none, []⟩,
            ⟨(some 59), .mv (.tmp 4), none, []⟩,
            ⟨(some 60), .bin .sub (.tmp 59) (.val (.sc (.int .i64 (4)))), none, []⟩,
            ⟨(some 61), .mv (.tmp 8), none, []⟩,
            ⟨(some 62), .bin .add (.tmp 61) (.val (.sc (.int .u32 (1)))), none, []⟩,
            ⟨(some 63), .idxStr (.val (.sc (.string ⟨#[48, 48, 48, 49, 48, 50, 48, 51, 48, 52, 48, 53, 48, 54, 48, 55, 48, 56, 48, 57, 49, 48, 49, 49, 49, 50, 49, 51, 49, 52, 49, 53, 49, 54, 49, 55, 49, 56, 49, 57, 50, 48, 50, 49, 50, 50, 50, 51, 50, 52, 50, 53, 50, 54, 50, 55, 50, 56, 50, 57, 51, 48, 51, 49, 51, 50, 51, 51, 51, 52, 51, 53, 51, 54, 51, 55, 51, 56, 51, 57, 52, 48, 52, 49, 52, 50, 52, 51, 52, 52, 52, 53, 52, 54, 52, 55, 52, 56, 52, 57, 53, 48, 53, 49, 53, 50, 53, 51, 53, 52, 53, 53, 53, 54, 53, 55, 53, 56, 53, 57, 54, 48, 54, 49, 54, 50, 54, 51, 54, 52, 54, 53, 54, 54, 54, 55, 54, 56, 54, 57, 55, 48, 55, 49, 55, 50, 55, 51, 55, 52, 55, 53, 55, 54, 55, 55, 55, 56, 55, 57, 56, 48, 56, 49, 56, 50, 56, 51, 56, 52, 56, 53, 56, 54, 56, 55, 56, 56, 56, 57, 57, 48, 57, 49, 57, 50, 57, 51, 57, 52, 57, 53, 57, 54, 57, 55, 57, 56, 57, 57]⟩))) (.tmp 62), none, []⟩,
            ⟨(some 64), .mv (.tmp 8), none, []⟩,
            ⟨(some 65), .idxStr (.val (.sc (.string ⟨#[48, 48, 48, 49, 48, 50, 48, 51, 48, 52, 48, 53, 48, 54, 48, 55, 48, 56, 48, 57, 49, 48, 49, 49, 49, 50, 49, 51, 49, 52, 49, 53, 49, 54, 49, 55, 49, 56, 49, 57, 50, 48, 50, 49, 50, 50, 50, 51, 50, 52, 50, 53, 50, 54, 50, 55, 50, 56, 50, 57, 51, 48, 51, 49, 51, 50, 51, 51, 51, 52, 51, 53, 51, 54, 51, 55, 51, 56, 51, 57, 52, 48, 52, 49, 52, 50, 52, 51, 52, 52, 52, 53, 52, 54, 52, 55, 52, 56, 52, 57, 53, 48, 53, 49, 53, 50, 53, 51, 53, 52, 53, 53, 53, 54, 53, 55, 53, 56, 53, 57, 54, 48, 54, 49, 54, 50, 54, 51, 54, 52, 54, 53, 54, 54, 54, 55, 54, 56, 54, 57, 55, 48, 55, 49, 55, 50, 55, 51, 55, 52, 55, 53, 55, 54, 55, 55, 55, 56, 55, 57, 56, 48, 56, 49, 56, 50, 56, 51, 56, 52, 56, 53, 56, 54, 56, 55, 56, 56, 56, 57, 57, 48, 57, 49, 57, 50, 57, 51, 57, 52, 57, 53, 57, 54, 57, 55, 57, 56, 57, 57]⟩))) (.tmp 64), none, []⟩,
            ⟨(some 66), .indexS 1 (.tmp 55) (.tmp 57), none, []⟩,
            ⟨none, .store 1 (.tmp 66) (.tmp 63), none, []⟩,
            ⟨(some 67), .indexS 1 (.tmp 58) (.tmp 60), none, []⟩,
            ⟨none, .store 1 (.tmp 67) (.tmp 65), none, []⟩])
          (.seq (.region [⟨(some 68), .mv (.tmp 0), none, []⟩,
            ⟨(some 69), .mv (.tmp 4), none, []⟩,
            ⟨(some 70), .bin .sub (.tmp 69) (.val (.sc (.int .i64 (5)))), none, []⟩,
            ⟨(some 71), .mv (.tmp 0), none, []⟩,
            ⟨(some 72), .mv (.tmp 4), none, []⟩,
            ⟨(some 73), .bin .sub (.tmp 72) (.val (.sc (.int .i64 (6)))), none, []⟩,
            ⟨(some 74), .mv (.tmp 11), none, []⟩,
            ⟨(some 75), .bin .add (.tmp 74) (.val (.sc (.int .u32 (1)))), none, []⟩,
            ⟨(some 76), .idxStr (.val (.sc (.string ⟨#[48, 48, 48, 49, 48, 50, 48, 51, 48, 52, 48, 53, 48, 54, 48, 55, 48, 56, 48, 57, 49, 48, 49, 49, 49, 50, 49, 51, 49, 52, 49, 53, 49, 54, 49, 55, 49, 56, 49, 57, 50, 48, 50, 49, 50, 50, 50, 51, 50, 52, 50, 53, 50, 54, 50, 55, 50, 56, 50, 57, 51, 48, 51, 49, 51, 50, 51, 51, 51, 52, 51, 53, 51, 54, 51, 55, 51, 56, 51, 57, 52, 48, 52, 49, 52, 50, 52, 51, 52, 52, 52, 53, 52, 54, 52, 55, 52, 56, 52, 57, 53, 48, 53, 49, 53, 50, 53, 51, 53, 52, 53, 53, 53, 54, 53, 55, 53, 56, 53, 57, 54, 48, 54, 49, 54, 50, 54, 51, 54, 52, 54, 53, 54, 54, 54, 55, 54, 56, 54, 57, 55, 48, 55, 49, 55, 50, 55, 51, 55, 52, 55, 53, 55, 54, 55, 55, 55, 56, 55, 57, 56, 48, 56, 49, 56, 50, 56, 51, 56, 52, 56, 53, 56, 54, 56, 55, 56, 56, 56, 57, 57, 48, 57, 49, 57, 50, 57, 51, 57, 52, 57, 53, 57, 54, 57, 55, 57, 56, 57, 57]⟩))) (.tmp 75), none, []⟩,
            ⟨(some 77), .mv (.tmp 11), none, []⟩,
            ⟨(some 78), .idxStr (.val (.sc (.string ⟨#[48, 48, 48, 49, 48, 50, 48, 51, 48, 52, 48, 53, 48, 54, 48, 55, 48, 56, 48, 57, 49, 48, 49, 49, 49, 50, 49, 51, 49, 52, 49, 53, 49, 54, 49, 55, 49, 56, 49, 57, 50, 48, 50, 49, 50, 50, 50, 51, 50, 52, 50, 53, 50, 54, 50, 55, 50, 56, 50, 57, 51, 48, 51, 49, 51, 50, 51, 51, 51, 52, 51, 53, 51, 54, 51, 55, 51, 56, 51, 57, 52, 48, 52, 49, 52, 50, 52, 51, 52, 52, 52, 53, 52, 54, 52, 55, 52, 56, 52, 57, 53, 48, 53, 49, 53, 50, 53, 51, 53, 52, 53, 53, 53, 54, 53, 55, 53, 56, 53, 57, 54, 48, 54, 49, 54, 50, 54, 51, 54, 52, 54, 53, 54, 54, 54, 55, 54, 56, 54, 57, 55, 48, 55, 49, 55, 50, 55, 51, 55, 52, 55, 53, 55, 54, 55, 55, 55, 56, 55, 57, 56, 48, 56, 49, 56, 50, 56, 51, 56, 52, 56, 53, 56, 54, 56, 55, 56, 56, 56, 57, 57, 48, 57, 49, 57, 50, 57, 51, 57, 52, 57, 53, 57, 54, 57, 55, 57, 56, 57, 57]⟩))) (.tmp 77), none, []⟩,
            ⟨(some 79), .indexS 1 (.tmp 68) (.tmp 70), none, []⟩,
            ⟨none, .store 1 (.tmp 79) (.tmp 76), none, []⟩,
            ⟨(some 80), .indexS 1 (.tmp 71) (.tmp 73), none, []⟩,
            ⟨none, .store 1 (.tmp 80) (.tmp 78), none, []⟩])
          (.seq (.region [⟨(some 81), .mv (.tmp 0), none, []⟩,
            ⟨(some 82), .mv (.tmp 4), none, []⟩,
            ⟨(some 83), .bin .sub (.tmp 82) (.val (.sc (.int .i64 (7)))), none, []⟩,
            ⟨(some 84), .mv (.tmp 0), none, []⟩,
            ⟨(some 85), .mv (.tmp 4), none, []⟩,
            ⟨(some 86), .bin .sub (.tmp 85) (.val (.sc (.int .i64 (8)))), none, []⟩,
            ⟨(some 87), .mv (.tmp 10), none, []⟩,
            ⟨(some 88), .bin .add (.tmp 87) (.val (.sc (.int .u32 (1)))), none, []⟩,
            ⟨(some 89), .idxStr (.val (.sc (.string ⟨#[48, 48, 48, 49, 48, 50, 48, 51, 48, 52, 48, 53, 48, 54, 48, 55, 48, 56, 48, 57, 49, 48, 49, 49, 49, 50, 49, 51, 49, 52, 49, 53, 49, 54, 49, 55, 49, 56, 49, 57, 50, 48, 50, 49, 50, 50, 50, 51, 50, 52, 50, 53, 50, 54, 50, 55, 50, 56, 50, 57, 51, 48, 51, 49, 51, 50, 51, 51, 51, 52, 51, 53, 51, 54, 51, 55, 51, 56, 51, 57, 52, 48, 52, 49, 52, 50, 52, 51, 52, 52, 52, 53, 52, 54, 52, 55, 52, 56, 52, 57, 53, 48, 53, 49, 53, 50, 53, 51, 53, 52, 53, 53, 53, 54, 53, 55, 53, 56, 53, 57, 54, 48, 54, 49, 54, 50, 54, 51, 54, 52, 54, 53, 54, 54, 54, 55, 54, 56, 54, 57, 55, 48, 55, 49, 55, 50, 55, 51, 55, 52, 55, 53, 55, 54, 55, 55, 55, 56, 55, 57, 56, 48, 56, 49, 56, 50, 56, 51, 56, 52, 56, 53, 56, 54, 56, 55, 56, 56, 56, 57, 57, 48, 57, 49, 57, 50, 57, 51, 57, 52, 57, 53, 57, 54, 57, 55, 57, 56, 57, 57]⟩))) (.tmp 88), none, []⟩,
            ⟨(some 90), .mv (.tmp 10), none, []⟩,
            ⟨(some 91), .idxStr (.val (.sc (.string ⟨#[48, 48, 48, 49, 48, 50, 48, 51, 48, 52, 48, 53, 48, 54, 48, 55, 48, 56, 48, 57, 49, 48, 49, 49, 49, 50, 49, 51, 49, 52, 49, 53, 49, 54, 49, 55, 49, 56, 49, 57, 50, 48, 50, 49, 50, 50, 50, 51, 50, 52, 50, 53, 50, 54, 50, 55, 50, 56, 50, 57, 51, 48, 51, 49, 51, 50, 51, 51, 51, 52, 51, 53, 51, 54, 51, 55, 51, 56, 51, 57, 52, 48, 52, 49, 52, 50, 52, 51, 52, 52, 52, 53, 52, 54, 52, 55, 52, 56, 52, 57, 53, 48, 53, 49, 53, 50, 53, 51, 53, 52, 53, 53, 53, 54, 53, 55, 53, 56, 53, 57, 54, 48, 54, 49, 54, 50, 54, 51, 54, 52, 54, 53, 54, 54, 54, 55, 54, 56, 54, 57, 55, 48, 55, 49, 55, 50, 55, 51, 55, 52, 55, 53, 55, 54, 55, 55, 55, 56, 55, 57, 56, 48, 56, 49, 56, 50, 56, 51, 56, 52, 56, 53, 56, 54, 56, 55, 56, 56, 56, 57, 57, 48, 57, 49, 57, 50, 57, 51, 57, 52, 57, 53, 57, 54, 57, 55, 57, 56, 57, 57]⟩))) (.tmp 90), none, []⟩,
            ⟨(some 92), .indexS 1 (.tmp 81) (.tmp 83), none, []⟩,
            ⟨none, .store 1 (.tmp 92) (.tmp 89), none, []⟩,
            ⟨(some 93), .indexS 1 (.tmp 84) (.tmp 86), none, []⟩,
            ⟨none, .store 1 (.tmp 93) (.tmp 91), none, []⟩])
          (.region [⟨(some 94), .mv (.tmp 4), none, []⟩,
            ⟨(some 95), .bin .sub (.tmp 94) (.val (.sc (.int .i64 (8)))), none, []⟩,
            ⟨(some 4), .mv (.tmp 95), none, []⟩]))))))))))))))
    (.seq (.region [⟨(some 96), .mv (.tmp 1), none, []⟩,
      ⟨(some 97), .conv .u32 (.tmp 96), none, []⟩,
      ⟨(some 12), .mv (.tmp 97), none, []⟩])
    (.seq (.seq (.region [⟨(some 98), .mv (.tmp 4), none, []⟩,
      ⟨(some 99), .bin .geq (.tmp 98) (.val (.sc (.int .i64 (4)))), none, []⟩])
    (.cond (.tmp 99)
      (.seq (.region [⟨(some 100), .mv (.tmp 12), none, []⟩,
        ⟨(some 101), .bin .rem (.tmp 100) (.val (.sc (.int .u32 (10000)))), none, []⟩,
        ⟨(some 13), .mv (.tmp 101), none, []⟩])
      (.seq (.region [⟨(some 102), .mv (.tmp 12), none, []⟩,
        ⟨(some 103), .bin .quo (.tmp 102) (.val (.sc (.int .u32 (10000)))), none, []⟩,
        ⟨(some 12), .mv (.tmp 103), none, []⟩])
      (.seq (.region [⟨(some 104), .mv (.tmp 13), none, []⟩,
        ⟨(some 105), .bin .quo (.tmp 104) (.val (.sc (.int .u32 (100)))), none, []⟩,
        ⟨(some 106), .bin .mul (.tmp 105) (.val (.sc (.int .u32 (2)))), none, []⟩,
        ⟨(some 107), .mv (.tmp 13), none, []⟩,
        ⟨(some 108), .bin .rem (.tmp 107) (.val (.sc (.int .u32 (100)))), none, []⟩,
        ⟨(some 109), .bin .mul (.tmp 108) (.val (.sc (.int .u32 (2)))), none, []⟩,
        ⟨(some 14), .mv (.tmp 106), none, []⟩,
        ⟨(some 15), .mv (.tmp 109), none, []⟩])
      (.seq (.region [⟨(some 110), .mv (.tmp 0), none, []⟩,
        ⟨(some 111), .mv (.tmp 4), none, []⟩,
        ⟨(some 112), .bin .sub (.tmp 111) (.val (.sc (.int .i64 (1)))), none, []⟩,
        ⟨(some 113), .mv (.tmp 0), none, []⟩,
        ⟨(some 114), .mv (.tmp 4), none, []⟩,
        ⟨(some 115), .bin .sub (.tmp 114) (.val (.sc (.int .i64 (2)))), none, []⟩,
        ⟨(some 116), .mv (.tmp 15), none, []⟩,
        ⟨(some 117), .bin .add (.tmp 116) (.val (.sc (.int .u32 (1)))), none, []⟩,
        ⟨(some 118), .idxStr (.val (.sc (.string ⟨#[48, 48, 48, 49, 48, 50, 48, 51, 48, 52, 48, 53, 48, 54, 48, 55, 48, 56, 48, 57, 49, 48, 49, 49, 49, 50, 49, 51, 49, 52, 49, 53, 49, 54, 49, 55, 49, 56, 49, 57, 50, 48, 50, 49, 50, 50, 50, 51, 50, 52, 50, 53, 50, 54, 50, 55, 50, 56, 50, 57, 51, 48, 51, 49, 51, 50, 51, 51, 51, 52, 51, 53, 51, 54, 51, 55, 51, 56, 51, 57, 52, 48, 52, 49, 52, 50, 52, 51, 52, 52, 52, 53, 52, 54, 52, 55, 52, 56, 52, 57, 53, 48, 53, 49, 53, 50, 53, 51, 53, 52, 53, 53, 53, 54, 53, 55, 53, 56, 53, 57, 54, 48, 54, 49, 54, 50, 54, 51, 54, 52, 54, 53, 54, 54, 54, 55, 54, 56, 54, 57, 55, 48, 55, 49, 55, 50, 55, 51, 55, 52, 55, 53, 55, 54, 55, 55, 55, 56, 55, 57, 56, 48, 56, 49, 56, 50, 56, 51, 56, 52, 56, 53, 56, 54, 56, 55, 56, 56, 56, 57, 57, 48, 57, 49, 57, 50, 57, 51, 57, 52, 57, 53, 57, 54, 57, 55, 57, 56, 57, 57]⟩))) (.tmp 117), none, []⟩,
        ⟨(some 119), .mv (.tmp 15), none, []⟩,
        ⟨(some 120), .idxStr (.val (.sc (.string ⟨#[48, 48, 48, 49, 48, 50, 48, 51, 48, 52, 48, 53, 48, 54, 48, 55, 48, 56, 48, 57, 49, 48, 49, 49, 49, 50, 49, 51, 49, 52, 49, 53, 49, 54, 49, 55, 49, 56, 49, 57, 50, 48, 50, 49, 50, 50, 50, 51, 50, 52, 50, 53, 50, 54, 50, 55, 50, 56, 50, 57, 51, 48, 51, 49, 51, 50, 51, 51, 51, 52, 51, 53, 51, 54, 51, 55, 51, 56, 51, 57, 52, 48, 52, 49, 52, 50, 52, 51, 52, 52, 52, 53, 52, 54, 52, 55, 52, 56, 52, 57, 53, 48, 53, 49, 53, 50, 53, 51, 53, 52, 53, 53, 53, 54, 53, 55, 53, 56, 53, 57, 54, 48, 54, 49, 54, 50, 54, 51, 54, 52, 54, 53, 54, 54, 54, 55, 54, 56, 54, 57, 55, 48, 55, 49, 55, 50, 55, 51, 55, 52, 55, 53, 55, 54, 55, 55, 55, 56, 55, 57, 56, 48, 56, 49, 56, 50, 56, 51, 56, 52, 56, 53, 56, 54, 56, 55, 56, 56, 56, 57, 57, 48, 57, 49, 57, 50, 57, 51, 57, 52, 57, 53, 57, 54, 57, 55, 57, 56, 57, 57]⟩))) (.tmp 119), none, []⟩,
        ⟨(some 121), .indexS 1 (.tmp 110) (.tmp 112), none, []⟩,
        ⟨none, .store 1 (.tmp 121) (.tmp 118), none, []⟩,
        ⟨(some 122), .indexS 1 (.tmp 113) (.tmp 115), none, []⟩,
        ⟨none, .store 1 (.tmp 122) (.tmp 120), none, []⟩])
      (.seq (.region [⟨(some 123), .mv (.tmp 0), none, []⟩,
        ⟨(some 124), .mv (.tmp 4), none, []⟩,
        ⟨(some 125), .bin .sub (.tmp 124) (.val (.sc (.int .i64 (3)))), none, []⟩,
        ⟨(some 126), .mv (.tmp 0), none, []⟩,
        ⟨(some 127), .mv (.tmp 4), none, []⟩,
        ⟨(some 128), .bin .sub (.tmp 127) (.val (.sc (.int .i64 (4)))), none, []⟩,
        ⟨(some 129), .mv (.tmp 14), none, []⟩,
        ⟨(some 130), .bin .add (.tmp 129) (.val (.sc (.int .u32 (1)))), none, []⟩,
        ⟨(some 131), .idxStr (.val (.sc (.string ⟨#[48, 48, 48, 49, 48, 50, 48, 51, 48, 52, 48, 53, 48, 54, 48, 55, 48, 56, 48, 57, 49, 48, 49, 49, 49, 50, 49, 51, 49, 52, 49, 53, 49, 54, 49, 55, 49, 56, 49, 57, 50, 48, 50, 49, 50, 50, 50, 51, 50, 52, 50, 53, 50, 54, 50, 55, 50, 56, 50, 57, 51, 48, 51, 49, 51, 50, 51, 51, 51, 52, 51, 53, 51, 54, 51, 55, 51, 56, 51, 57, 52, 48, 52, 49, 52, 50, 52, 51, 52, 52, 52, 53, 52, 54, 52, 55, 52, 56, 52, 57, 53, 48, 53, 49, 53, 50, 53, 51, 53, 52, 53, 53, 53, 54, 53, 55, 53, 56, 53, 57, 54, 48, 54, 49, 54, 50, 54, 51, 54, 52, 54, 53, 54, 54, 54, 55, 54, 56, 54, 57, 55, 48, 55, 49, 55, 50, 55, 51, 55, 52, 55, 53, 55, 54, 55, 55, 55, 56, 55, 57, 56, 48, 56, 49, 56, 50, 56, 51, 56, 52, 56, 53, 56, 54, 56, 55, 56, 56, 56, 57, 57, 48, 57, 49, 57, 50, 57, 51, 57, 52, 57, 53, 57, 54, 57, 55, 57, 56, 57, 57]⟩))) (.tmp 130), none, []⟩,
        ⟨(some 132), .mv (.tmp 14), none, []⟩,
        ⟨(some 133), .idxStr (.val (.sc (.string ⟨#[48, 48, 48, 49, 48, 50, 48, 51, 48, 52, 48, 53, 48, 54, 48, 55, 48, 56, 48, 57, 49, 48, 49, 49, 49, 50, 49, 51, 49, 52, 49, 53, 49, 54, 49, 55, 49, 56, 49, 57, 50, 48, 50, 49, 50, 50, 50, 51, 50, 52, 50, 53, 50, 54, 50, 55, 50, 56, 50, 57, 51, 48, 51, 49, 51, 50, 51, 51, 51, 52, 51, 53, 51, 54, 51, 55, 51, 56, 51, 57, 52, 48, 52, 49, 52, 50, 52, 51, 52, 52, 52, 53, 52, 54, 52, 55, 52, 56, 52, 57, 53, 48, 53, 49, 53, 50, 53, 51, 53, 52, 53, 53, 53, 54, 53, 55, 53, 56, 53, 57, 54, 48, 54, 49, 54, 50, 54, 51, 54, 52, 54, 53, 54, 54, 54, 55, 54, 56, 54, 57, 55, 48, 55, 49, 55, 50, 55, 51, 55, 52, 55, 53, 55, 54, 55, 55, 55, 56, 55, 57, 56, 48, 56, 49, 56, 50, 56, 51, 56, 52, 56, 53, 56, 54, 56, 55, 56, 56, 56, 57, 57, 48, 57, 49, 57, 50, 57, 51, 57, 52, 57, 53, 57, 54, 57, 55, 57, 56, 57, 57]⟩))) (.tmp 132), none, []⟩,
        ⟨(some 134), .indexS 1 (.tmp 123) (.tmp 125), none, []⟩,
        ⟨none, .store 1 (.tmp 134) (.tmp 131), none, []⟩,
        ⟨(some 135), .indexS 1 (.tmp 126) (.tmp 128), none, []⟩,
        ⟨none, .store 1 (.tmp 135) (.tmp 133), none, []⟩])
      (.region [⟨(some 136), .mv (.tmp 4), none, []⟩,
        ⟨(some 137), .bin .sub (.tmp 136) (.val (.sc (.int .i64 (4)))), none, []⟩,
        ⟨(some 4), .mv (.tmp 137), none, []⟩]))))))
      .skip))
    (.seq (.seq (.region [⟨(some 138), .mv (.tmp 4), none, []⟩,
      ⟨(some 139), .bin .geq (.tmp 138) (.val (.sc (.int .i64 (2)))), none, []⟩])
    (.cond (.tmp 139)
      (.seq (.region [⟨(some 140), .mv (.tmp 12), none, []⟩,
        ⟨(some 141), .bin .rem (.tmp 140) (.val (.sc (.int .u32 (100)))), none, []⟩,
        ⟨(some 142), .bin .mul (.tmp 141) (.val (.sc (.int .u32 (2)))), none, []⟩,
        ⟨(some 16), .mv (.tmp 142), none, []⟩])
      (.seq (.region [⟨(some 143), .mv (.tmp 12), none, []⟩,
        ⟨(some 144), .bin .quo (.tmp 143) (.val (.sc (.int .u32 (100)))), none, []⟩,
        ⟨(some 12), .mv (.tmp 144), none, []⟩])
      (.seq (.region [⟨(some 145), .mv (.tmp 0), none, []⟩,
        ⟨(some 146), .mv (.tmp 4), none, []⟩,
        ⟨(some 147), .bin .sub (.tmp 146) (.val (.sc (.int .i64 (1)))), none, []⟩,
        ⟨(some 148), .mv (.tmp 0), none, []⟩,
        ⟨(some 149), .mv (.tmp 4), none, []⟩,
        ⟨(some 150), .bin .sub (.tmp 149) (.val (.sc (.int .i64 (2)))), none, []⟩,
        ⟨(some 151), .mv (.tmp 16), none, []⟩,
        ⟨(some 152), .bin .add (.tmp 151) (.val (.sc (.int .u32 (1)))), none, []⟩,
        ⟨(some 153), .idxStr (.val (.sc (.string ⟨#[48, 48, 48, 49, 48, 50, 48, 51, 48, 52, 48, 53, 48, 54, 48, 55, 48, 56, 48, 57, 49, 48, 49, 49, 49, 50, 49, 51, 49, 52, 49, 53, 49, 54, 49, 55, 49, 56, 49, 57, 50, 48, 50, 49, 50, 50, 50, 51, 50, 52, 50, 53, 50, 54, 50, 55, 50, 56, 50, 57, 51, 48, 51, 49, 51, 50, 51, 51, 51, 52, 51, 53, 51, 54, 51, 55, 51, 56, 51, 57, 52, 48, 52, 49, 52, 50, 52, 51, 52, 52, 52, 53, 52, 54, 52, 55, 52, 56, 52, 57, 53, 48, 53, 49, 53, 50, 53, 51, 53, 52, 53, 53, 53, 54, 53, 55, 53, 56, 53, 57, 54, 48, 54, 49, 54, 50, 54, 51, 54, 52, 54, 53, 54, 54, 54, 55, 54, 56, 54, 57, 55, 48, 55, 49, 55, 50, 55, 51, 55, 52, 55, 53, 55, 54, 55, 55, 55, 56, 55, 57, 56, 48, 56, 49, 56, 50, 56, 51, 56, 52, 56, 53, 56, 54, 56, 55, 56, 56, 56, 57, 57, 48, 57, 49, 57, 50, 57, 51, 57, 52, 57, 53, 57, 54, 57, 55, 57, 56, 57, 57]⟩))) (.tmp 152), none, []⟩,
        ⟨(some 154), .mv (.tmp 16), none, []⟩,
        ⟨(some 155), .idxStr (.val (.sc (.string ⟨#[48, 48, 48, 49, 48, 50, 48, 51, 48, 52, 48, 53, 48, 54, 48, 55, 48, 56, 48, 57, 49, 48, 49, 49, 49, 50, 49, 51, 49, 52, 49, 53, 49, 54, 49, 55, 49, 56, 49, 57, 50, 48, 50, 49, 50, 50, 50, 51, 50, 52, 50, 53, 50, 54, 50, 55, 50, 56, 50, 57, 51, 48, 51, 49, 51, 50, 51, 51, 51, 52, 51, 53, 51, 54, 51, 55, 51, 56, 51, 57, 52, 48, 52, 49, 52, 50, 52, 51, 52, 52, 52, 53, 52, 54, 52, 55, 52, 56, 52, 57, 53, 48, 53, 49, 53, 50, 53, 51, 53, 52, 53, 53, 53, 54, 53, 55, 53, 56, 53, 57, 54, 48, 54, 49, 54, 50, 54, 51, 54, 52, 54, 53, 54, 54, 54, 55, 54, 56, 54, 57, 55, 48, 55, 49, 55, 50, 55, 51, 55, 52, 55, 53, 55, 54, 55, 55, 55, 56, 55, 57, 56, 48, 56, 49, 56, 50, 56, 51, 56, 52, 56, 53, 56, 54, 56, 55, 56, 56, 56, 57, 57, 48, 57, 49, 57, 50, 57, 51, 57, 52, 57, 53, 57, 54, 57, 55, 57, 56, 57, 57]⟩))) (.tmp 154), none, []⟩,
        ⟨(some 156), .indexS 1 (.tmp 145) (.tmp 147), none, []⟩,
        ⟨none, .store 1 (.tmp 156) (.tmp 153), none, []⟩,
        ⟨(some 157), .indexS 1 (.tmp 148) (.tmp 150), none, []⟩,
        ⟨none, .store 1 (.tmp 157) (.tmp 155), none, []⟩])
      (.region [⟨(some 158), .mv (.tmp 4), none, []⟩,
        ⟨(some 159), .bin .sub (.tmp 158) (.val (.sc (.int .i64 (2)))), none, []⟩,
        ⟨(some 4), .mv (.tmp 159), none, []⟩]))))
      .skip))
    (.seq (.region [⟨(some 160), .mv (.tmp 4), none, []⟩,
      ⟨(some 161), .bin .gtr (.tmp 160) (.val (.sc (.int .i64 (0)))), none, []⟩])
    (.cond (.tmp 161)
      (.region [⟨(some 162), .mv (.tmp 0), none, []⟩,
        ⟨(some 163), .mv (.tmp 12), none, []⟩,
        ⟨(some 164), .bin .add (.val (.sc (.int .u32 (48)))) (.tmp 163), none, []⟩,
        ⟨(some 165), .conv .u8 (.tmp 164), none, []⟩,
        ⟨(some 166), .indexS 1 (.tmp 162) (.val (.sc (.int .i64 (0)))), none, []⟩,
        ⟨none, .store 1 (.tmp 166) (.tmp 165), none, []⟩])
      .skip))))))) }

def f_i_strconv_formatBits : AFunc :=
  { nparams := 5, ntmps := 102, pure := true, results := [.tmp 10, .tmp 11],
    body := (.seq (.region [⟨(some 10), .mv (.val (.sc (.slice none 0 0))), none, []⟩,
      ⟨(some 11), .mv (.val (.sc (.string ⟨#[]⟩))), none, []⟩])
    (.seq (.seq (.region [⟨(some 19), .mv (.tmp 2), none, []⟩,
      ⟨(some 20), .bin .lss (.tmp 19) (.val (.sc (.int .i64 (2)))), none, []⟩,
      ⟨(some 21), .mv (.tmp 20), none, []⟩,
      ⟨(some 22), .mv (.tmp 2), (some (21, false)), []⟩,
      ⟨(some 23), .bin .eql (.tmp 22) (.val (.sc (.int .i64 (10)))), (some (21, false)), []⟩,
      ⟨(some 24), .pick (.tmp 21) (.val (.sc (.bool true))) (.tmp 23), none, []⟩,
      ⟨(some 25), .mv (.tmp 24), none, []⟩,
      ⟨(some 26), .mv (.tmp 2), (some (25, false)), []⟩,
      ⟨(some 27), .bin .gtr (.tmp 26) (.val (.sc (.int .i64 (36)))), (some (25, false)), []⟩,
      ⟨(some 28), .pick (.tmp 25) (.val (.sc (.bool true))) (.tmp 27), none, []⟩])
    (.cond (.tmp 28)
      (.region [⟨(some 29), .makeIface 9 (.val (.sc (.string ⟨#[115, 116, 114, 99, 111, 110, 118, 58, 32, 105, 108, 108, 101, 103, 97, 108, 32, 65, 112, 112, 101, 110, 100, 73, 110, 116, 47, 70, 111, 114, 109, 97, 116, 73, 110, 116, 32, 98, 97, 115, 101]⟩))), none, []⟩,
        ⟨none, .fail, none, []⟩])
      .skip))
    (.seq (.region [⟨(some 12), .allocA 132 1 [(.sc (.int .u8 (0))), (.sc (.int .u8 (0))), (.sc (.int .u8 (0))), (.sc (.int .u8 (0))), (.sc (.int .u8 (0))), (.sc (.int .u8 (0))), (.sc (.int .u8 (0))), (.sc (.int .u8 (0))), (.sc (.int .u8 (0))), (.sc (.int .u8 (0))), (.sc (.int .u8 (0))), (.sc (.int .u8 (0))), (.sc (.int .u8 (0))), (.sc (.int .u8 (0))), (.sc (.int .u8 (0))), (.sc (.int .u8 (0))), (.sc (.int .u8 (0))), (.sc (.int .u8 (0))), (.sc (.int .u8 (0))), (.sc (.int .u8 (0))), (.sc (.int .u8 (0))), (.sc (.int .u8 (0))), (.sc (.int .u8 (0))), (.sc (.int .u8 (0))), (.sc (.int .u8 (0))), (.sc (.int .u8 (0))), (.sc (.int .u8 (0))), (.sc (.int .u8 (0))), (.sc (.int .u8 (0))), (.sc (.int .u8 (0))), (.sc (.int .u8 (0))), (.sc (.int .u8 (0))), (.sc (.int .u8 (0))), (.sc (.int .u8 (0))), (.sc (.int .u8 (0))), (.sc (.int .u8 (0))), (.sc (.int .u8 (0))), (.sc (.int .u8 (0))), (.sc (.int .u8 (0))), (.sc (.int .u8 (0))), (.sc (.int .u8 (0))), (.sc (.int .u8 (0))), (.sc (.int .u8 (0))), (.sc (.int .u8 (0))), (.sc (.int .u8 (0))), (.sc (.int .u8 (0))), (.sc (.int .u8 (0))), (.sc (.int .u8 (0))), (.sc (.int .u8 (0))), (.sc (.int .u8 (0))), (.sc (.int .u8 (0))), (.sc (.int .u8 (0))), (.sc (.int .u8 (0))), (.sc (.int .u8 (0))), (.sc (.int .u8 (0))), (.sc (.int .u8 (0))), (.sc (.int .u8 (0))), (.sc (.int .u8 (0))), (.sc (.int .u8 (0))), (.sc (.int .u8 (0))), (.sc (.int .u8 (0))), (.sc (.int .u8 (0))), (.sc (.int .u8 (0))), (.sc (.int .u8 (0))), (.sc (.int .u8 (0)))], none, []⟩])
    (.seq (.region [⟨(some 13), .mv (.val (.sc (.int .i64 (65)))), none, []⟩])
    (.seq (.seq (.region [⟨(some 30), .mv (.tmp 3), none, []⟩])
    (.cond (.tmp 30)
      (.region [⟨(some 31), .mv (.tmp 1), none, []⟩,
        ⟨(some 32), .un .neg (.tmp 31), none, []⟩,
        ⟨(some 1), .mv (.tmp 32), none, []⟩])
      .skip))
    (.seq (.seq (.region [⟨(some 33), .mv (.tmp 2), none, []⟩,
      ⟨(some 34), .call (.val (.fn (.func 115) [] [])) [(.tmp 33)], none, []⟩])
    (.cond (.tmp 34)
      (.seq (.region [⟨(some 35), .mv (.tmp 2), none, []⟩,
        ⟨(some 36), .conv .u64 (.tmp 35), none, []⟩,
        ⟨(some 37), .call (.val (.fn (.func 116) [] [])) [(.tmp 36)], none, []⟩,
        ⟨(some 38), .conv .u64 (.tmp 37), none, []⟩,
        ⟨(some 14), .mv (.tmp 38), none, []⟩])
      (.seq (.region [⟨(some 39), .mv (.tmp 2), none, []⟩,
        ⟨(some 40), .conv .u64 (.tmp 39), none, []⟩,
        ⟨(some 15), .mv (.tmp 40), none, []⟩])
      (.seq (.region [⟨(some 41), .mv (.tmp 2), none, []⟩,
        ⟨(some 42), .conv .u64 (.tmp 41), none, []⟩,
        ⟨(some 43), .bin .sub (.tmp 42) (.val (.sc (.int .u64 (1)))), none, []⟩,
        ⟨(some 16), .mv (.tmp 43), none, []⟩])
      (.seq (.block 0 (.loop (.seq (.seq (.region [⟨(some 44), .mv (.tmp 1), none, []⟩,
            ⟨(some 45), .mv (.tmp 15), none, []⟩,
            ⟨(some 46), .bin .geq (.tmp 44) (.tmp 45), none, []⟩])
          (.cond (.tmp 46)
            .skip
            (.exit 0)))
          (.block 1 (.seq (.region [⟨(some 47), .mv (.tmp 13), none, []⟩,
              ⟨(some 48), .bin .sub (.tmp 47) (.val (.sc (.int .i64 (1)))), none, []⟩,
              ⟨(some 13), .mv (.tmp 48), none, []⟩])
            (.seq (.region [⟨(some 49), .mv (.tmp 13), none, []⟩,
              ⟨(some 50), .mv (.tmp 1), none, []⟩,
              ⟨(some 51), .mv (.tmp 16), none, []⟩,
              ⟨(some 52), .bin .and (.tmp 50) (.tmp 51), none, []⟩,
              ⟨(some 53), .idxStr (.val (.sc (.string ⟨#[48, 49, 50, 51, 52, 53, 54, 55, 56, 57, 97, 98, 99, 100, 101, 102, 103, 104, 105, 106, 107, 108, 109, 110, 111, 112, 113, 114, 115, 116, 117, 118, 119, 120, 121, 122]⟩))) (.tmp 52), none, []⟩,
              ⟨(some 54), .indexA 65 1 (.tmp 12) (.tmp 49), none, []⟩,
              ⟨none, .store 1 (.tmp 54) (.tmp 53), none, []⟩])
            (.region [⟨(some 55), .mv (.tmp 1), none, []⟩,
              ⟨(some 56), .mv (.tmp 14), none, []⟩,
              ⟨(some 57), .bin .shr (.tmp 55) (.tmp 56), none, []⟩,
              ⟨(some 1), .mv (.tmp 57), none, []⟩])))))))
      (.seq (.region [⟨(some 58), .mv (.tmp 13), none, []⟩,
        ⟨(some 59), .bin .sub (.tmp 58) (.val (.sc (.int .i64 (1)))), none, []⟩,
        ⟨(some 13), .mv (.tmp 59), none, []⟩])
      (.region [⟨(some 60), .mv (.tmp 13), none, []⟩,
        ⟨(some 61), .mv (.tmp 1), none, []⟩,
        ⟨(some 62), .idxStr (.val (.sc (.string ⟨#[48, 49, 50, 51, 52, 53, 54, 55, 56, 57, 97, 98, 99, 100, 101, 102, 103, 104, 105, 106, 107, 108, 109, 110, 111, 112, 113, 114, 115, 116, 117, 118, 119, 120, 121, 122]⟩))) (.tmp 61), none, []⟩,
        ⟨(some 63), .indexA 65 1 (.tmp 12) (.tmp 60), none, []⟩,
        ⟨none, .store 1 (.tmp 63) (.tmp 62), none, []⟩]))))))
      (.seq (.region [⟨(some 64), .mv (.tmp 2), none, []⟩,
        ⟨(some 65), .conv .u64 (.tmp 64), none, []⟩,
        ⟨(some 17), .mv (.tmp 65), none, []⟩])
      (.seq (.block 2 (.loop (.seq (.seq (.region [⟨(some 66), .mv (.tmp 1), none, []⟩,
            ⟨(some 67), .mv (.tmp 17), none, []⟩,
            ⟨(some 68), .bin .geq (.tmp 66) (.tmp 67), none, []⟩])
          (.cond (.tmp 68)
            .skip
            (.exit 2)))
          (.block 3 (.seq (.region [⟨(some 69), .mv (.tmp 13), none, []⟩,
              ⟨(some 70), .bin .sub (.tmp 69) (.val (.sc (.int .i64 (1)))), none, []⟩,
              ⟨(some 13), .mv (.tmp 70), none, []⟩])
            (.seq (.region [⟨(some 71), .mv (.tmp 1), none, []⟩,
              ⟨(some 72), .mv (.tmp 17), none, []⟩,
              ⟨(some 73), .bin .quo (.tmp 71) (.tmp 72), none, []⟩,
              ⟨(some 18), .mv (.tmp 73), none, []⟩])
            (.seq (.region [⟨(some 74), .mv (.tmp 13), none, []⟩,
              ⟨(some 75), .mv (.tmp 1), none, []⟩,
              ⟨(some 76), .mv (.tmp 18), none, []⟩,
              ⟨(some 77), .mv (.tmp 17), none, []⟩,
              ⟨(some 78), .bin .mul (.tmp 76) (.tmp 77), none, []⟩,
              ⟨(some 79), .bin .sub (.tmp 75) (.tmp 78), none, []⟩,
              ⟨(some 80), .idxStr (.val (.sc (.string ⟨#[48, 49, 50, 51, 52, 53, 54, 55, 56, 57, 97, 98, 99, 100, 101, 102, 103, 104, 105, 106, 107, 108, 109, 110, 111, 112, 113, 114, 115, 116, 117, 118, 119, 120, 121, 122]⟩))) (.tmp 79), none, []⟩,
              ⟨(some 81), .indexA 65 1 (.tmp 12) (.tmp 74), none, []⟩,
              ⟨none, .store 1 (.tmp 81) (.tmp 80), none, []⟩])
            (.region [⟨(some 82), .mv (.tmp 18), none, []⟩,
              ⟨(some 1), .mv (.tmp 82), none, []⟩]))))))))
      (.seq (.region [⟨(some 83), .mv (.tmp 13), none, []⟩,
        ⟨(some 84), .bin .sub (.tmp 83) (.val (.sc (.int .i64 (1)))), none, []⟩,
        ⟨(some 13), .mv (.tmp 84), none, []⟩])
      (.region [⟨(some 85), .mv (.tmp 13), none, []⟩,
        ⟨(some 86), .mv (.tmp 1), none, []⟩,
        ⟨(some 87), .idxStr (.val (.sc (.string ⟨#[48, 49, 50, 51, 52, 53, 54, 55, 56, 57, 97, 98, 99, 100, 101, 102, 103, 104, 105, 106, 107, 108, 109, 110, 111, 112, 113, 114, 115, 116, 117, 118, 119, 120, 121, 122]⟩))) (.tmp 86), none, []⟩,
        ⟨(some 88), .indexA 65 1 (.tmp 12) (.tmp 85), none, []⟩,
        ⟨none, .store 1 (.tmp 88) (.tmp 87), none, []⟩]))))))
    (.seq (.seq (.region [⟨(some 89), .mv (.tmp 3), none, []⟩])
    (.cond (.tmp 89)
      (.seq (.region [⟨(some 90), .mv (.tmp 13), none, []⟩,
        ⟨(some 91), .bin .sub (.tmp 90) (.val (.sc (.int .i64 (1)))), none, []⟩,
        ⟨(some 13), .mv (.tmp 91), none, []⟩])
      (.region [⟨(some 92), .mv (.tmp 13), none, []⟩,
        ⟨(some 93), .indexA 65 1 (.tmp 12) (.tmp 92), none, []⟩,
        ⟨none, .store 1 (.tmp 93) (.val (.sc (.int .u8 (45)))), none, []⟩]))
      .skip))
    (.seq (.seq (.region [⟨(some 94), .mv (.tmp 4), none, []⟩])
    (.cond (.tmp 94)
      (.seq (.region [⟨(some 95), .mv (.tmp 0), none, []⟩,
        ⟨(some 96), .mv (.tmp 13), none, []⟩,
        ⟨(some 97), .sliceArr 65 1 (.tmp 12) (some (.tmp 96)) none, none, []⟩,
        ⟨(some 98), .append 5 1 (.tmp 95) (.tmp 97), none, []⟩,
        ⟨(some 10), .mv (.tmp 98), none, []⟩])
      .ret)
      .skip))
    (.seq (.region [⟨(some 99), .mv (.tmp 13), none, []⟩,
      ⟨(some 100), .sliceArr 65 1 (.tmp 12) (some (.tmp 99)) none, none, []⟩,
      ⟨(some 101), .strOf (.tmp 100), none, []⟩,
      ⟨(some 11), .mv (.tmp 101), none, []⟩])
    .ret))))))))) }

def f_i_strconv_lower : AFunc :=
  { nparams := 1, ntmps := 5, pure := true, results := [.tmp 2],
    body := (.seq (.region [⟨(some 2), .mv (.val (.sc (.int .u8 (0)))), none, []⟩])
    (.seq (.region [⟨(some 3), .mv (.tmp 0), none, []⟩,
      ⟨(some 4), .bin .or (.tmp 3) (.val (.sc (.int .u8 (32)))), none, []⟩,
      ⟨(some 2), .mv (.tmp 4), none, []⟩])
    .ret)) }

def f_i_strconv_underscoreOK : AFunc :=
  { nparams := 1, ntmps := 94, pure := true, results := [.tmp 2],
    body := (.seq (.region [⟨(some 2), .mv (.val (.sc (.bool false))), none, []⟩])
    (.seq (.region [⟨(some 3), .mv (.val (.sc (.int .i32 (94)))), none, []⟩])
    (.seq (.region [⟨(some 4), .mv (.val (.sc (.int .i64 (0)))), none, []⟩])
    (.seq (.seq (.region [⟨(some 6), .mv (.tmp 0), none, []⟩,
      ⟨(some 7), .lenStr (.tmp 6), none, []⟩,
      ⟨(some 8), .bin .geq (.tmp 7) (.val (.sc (.int .i64 (1)))), none, []⟩,
      ⟨(some 9), .mv (.tmp 8), none, []⟩,
      ⟨(some 10), .mv (.tmp 0), (some (9, true)), []⟩,
      ⟨(some 11), .idxStr (.tmp 10) (.val (.sc (.int .i64 (0)))), (some (9, true)), []⟩,
      ⟨(some 12), .bin .eql (.tmp 11) (.val (.sc (.int .u8 (45)))), (some (9, true)), []⟩,
      ⟨(some 13), .mv (.tmp 12), (some (9, true)), []⟩,
      ⟨(some 14), .mv (.tmp 0), (some (13, false)), []⟩,
      ⟨(some 15), .idxStr (.tmp 14) (.val (.sc (.int .i64 (0)))), (some (13, false)), []⟩,
      ⟨(some 16), .bin .eql (.tmp 15) (.val (.sc (.int .u8 (43)))), (some (13, false)), []⟩,
      ⟨(some 17), .pick (.tmp 13) (.val (.sc (.bool true))) (.tmp 16), (some (9, true)), []⟩,
      ⟨(some 18), .pick (.tmp 9) (.tmp 17) (.val (.sc (.bool false))), none, []⟩])
    (.cond (.tmp 18)
      (.region [⟨(some 19), .mv (.tmp 0), none, []⟩,
        ⟨(some 20), .sliceStr (.tmp 19) (some (.val (.sc (.int .i64 (1))))) none, none, []⟩,
        ⟨(some 0), .mv (.tmp 20), none, []⟩])
      .skip))
    (.seq (.region [⟨(some 5), .mv (.val (.sc (.bool false))), none, []⟩])
    (.seq (.seq (.region [⟨(some 21), .mv (.tmp 0), none, []⟩,
      ⟨(some 22), .lenStr (.tmp 21), none, []⟩,
      ⟨(some 23), .bin .geq (.tmp 22) (.val (.sc (.int .i64 (2)))), none, []⟩,
      ⟨(some 24), .mv (.tmp 23), none, []⟩,
      ⟨(some 25), .mv (.tmp 0), (some (24, true)), []⟩,
      ⟨(some 26), .idxStr (.tmp 25) (.val (.sc (.int .i64 (0)))), (some (24, true)), []⟩,
      ⟨(some 27), .bin .eql (.tmp 26) (.val (.sc (.int .u8 (48)))), (some (24, true)), []⟩,
      ⟨(some 28), .pick (.tmp 24) (.tmp 27) (.val (.sc (.bool false))), none, []⟩,
      ⟨(some 29), .mv (.tmp 28), none, []⟩,
      ⟨(some 30), .mv (.tmp 0), (some (29, true)), []⟩,
      ⟨(some 31), .idxStr (.tmp 30) (.val (.sc (.int .i64 (1)))), (some (29, true)), []⟩,
      ⟨(some 32), .call (.val (.fn (.func 110) [] [])) [(.tmp 31)], (some (29, true)), []⟩,
      ⟨(some 33), .bin .eql (.tmp 32) (.val (.sc (.int .u8 (98)))), (some (29, true)), []⟩,
      ⟨(some 34), .mv (.tmp 33), (some (29, true)), []⟩,
      ⟨(some 35), .mv (.tmp 0), (some (34, false)), []⟩,
      ⟨(some 36), .idxStr (.tmp 35) (.val (.sc (.int .i64 (1)))), (some (34, false)), []⟩,
      ⟨(some 37), .call (.val (.fn (.func 110) [] [])) [(.tmp 36)], (some (34, false)), []⟩,
      ⟨(some 38), .bin .eql (.tmp 37) (.val (.sc (.int .u8 (111)))), (some (34, false)), []⟩,
      ⟨(some 39), .pick (.tmp 34) (.val (.sc (.bool true))) (.tmp 38), (some (29, true)), []⟩,
      ⟨(some 40), .mv (.tmp 39), (some (29, true)), []⟩,
      ⟨(some 41), .mv (.tmp 0), (some (40, false)), []⟩,
      ⟨(some 42), .idxStr (.tmp 41) (.val (.sc (.int .i64 (1)))), (some (40, false)), []⟩,
      ⟨(some 43), .call (.val (.fn (.func 110) [] [])) [(.tmp 42)], (some (40, false)), []⟩,
      ⟨(some 44), .bin .eql (.tmp 43) (.val (.sc (.int .u8 (120)))), (some (40, false)), []⟩,
      ⟨(some 45), .pick (.tmp 40) (.val (.sc (.bool true))) (.tmp 44), (some (29, true)), []⟩,
      ⟨(some 46), .pick (.tmp 29) (.tmp 45) (.val (.sc (.bool false))), none, []⟩])
    (.cond (.tmp 46)
      (.seq (.region [⟨(some 4), .mv (.val (.sc (.int .i64 (2)))), none, []⟩])
      (.seq (.region [⟨(some 3), .mv (.val (.sc (.int .i32 (48)))), none, []⟩])
      (.region [⟨(some 47), .mv (.tmp 0), none, []⟩,
        ⟨(some 48), .idxStr (.tmp 47) (.val (.sc (.int .i64 (1)))), none, []⟩,
        ⟨(some 49), .call (.val (.fn (.func 110) [] [])) [(.tmp 48)], none, []⟩,
        ⟨(some 50), .bin .eql (.tmp 49) (.val (.sc (.int .u8 (120)))), none, []⟩,
        ⟨(some 5), .mv (.tmp 50), none, []⟩])))
      .skip))
    (.seq (.block 0 (.loop (.seq (.seq (.region [⟨(some 51), .mv (.tmp 4), none, []⟩,
          ⟨(some 52), .mv (.tmp 0), none, []⟩,
          ⟨(some 53), .lenStr (.tmp 52), none, []⟩,
          ⟨(some 54), .bin .lss (.tmp 51) (.tmp 53), none, []⟩])
        (.cond (.tmp 54)
          .skip
          (.exit 0)))
        (.seq (.block 1 (.seq (.seq (.region [⟨(some 57), .mv (.tmp 0), none, []⟩,
            ⟨(some 58), .mv (.tmp 4), none, []⟩,
            ⟨(some 59), .idxStr (.tmp 57) (.tmp 58), none, []⟩,
            ⟨(some 60), .bin .leq (.val (.sc (.int .u8 (48)))) (.tmp 59), none, []⟩,
            ⟨(some 61), .mv (.tmp 60), none, []⟩,
            ⟨(some 62), .mv (.tmp 0), (some (61, true)), []⟩,
            ⟨(some 63), .mv (.tmp 4), (some (61, true)), []⟩,
            ⟨(some 64), .idxStr (.tmp 62) (.tmp 63), (some (61, true)), []⟩,
            ⟨(some 65), .bin .leq (.tmp 64) (.val (.sc (.int .u8 (57)))), (some (61, true)), []⟩,
            ⟨(some 66), .pick (.tmp 61) (.tmp 65) (.val (.sc (.bool false))), none, []⟩,
            ⟨(some 67), .mv (.tmp 66), none, []⟩,
            ⟨(some 68), .mv (.tmp 5), (some (67, false)), []⟩,
            ⟨(some 69), .mv (.tmp 68), (some (67, false)), []⟩,
            ⟨(some 70), .mv (.tmp 0), (some (69, true)), []⟩,
            ⟨(some 71), .mv (.tmp 4), (some (69, true)), []⟩,
            ⟨(some 72), .idxStr (.tmp 70) (.tmp 71), (some (69, true)), []⟩,
            ⟨(some 73), .call (.val (.fn (.func 110) [] [])) [(.tmp 72)], (some (69, true)), []⟩,
            ⟨(some 74), .bin .leq (.val (.sc (.int .u8 (97)))) (.tmp 73), (some (69, true)), []⟩,
            ⟨(some 75), .pick (.tmp 69) (.tmp 74) (.val (.sc (.bool false))), (some (67, false)), []⟩,
            ⟨(some 76), .mv (.tmp 75), (some (67, false)), []⟩,
            ⟨(some 77), .mv (.tmp 0), (some (76, true)), []⟩,
            ⟨(some 78), .mv (.tmp 4), (some (76, true)), []⟩,
            ⟨(some 79), .idxStr (.tmp 77) (.tmp 78), (some (76, true)), []⟩,
            ⟨(some 80), .call (.val (.fn (.func 110) [] [])) [(.tmp 79)], (some (76, true)), []⟩,
            ⟨(some 81), .bin .leq (.tmp 80) (.val (.sc (.int .u8 (102)))), (some (76, true)), []⟩,
            ⟨(some 82), .pick (.tmp 76) (.tmp 81) (.val (.sc (.bool false))), (some (67, false)), []⟩,
            ⟨(some 83), .pick (.tmp 67) (.val (.sc (.bool true))) (.tmp 82), none, []⟩])
          (.cond (.tmp 83)
            (.seq (.region [⟨(some 3), .mv (.val (.sc (.int .i32 (48)))), none, []⟩])
            (.exit 1))
            .skip))
          (.seq (.seq (.region [⟨(some 84), .mv (.tmp 0), none, []⟩,
            ⟨(some 85), .mv (.tmp 4), none, []⟩,
            ⟨(some 86), .idxStr (.tmp 84) (.tmp 85), none, []⟩,
            ⟨(some 87), .bin .eql (.tmp 86) (.val (.sc (.int .u8 (95)))), none, []⟩])
          (.cond (.tmp 87)
            (.seq (.seq (.region [⟨(some 88), .mv (.tmp 3), none, []⟩,
              ⟨(some 89), .bin .neq (.tmp 88) (.val (.sc (.int .i32 (48)))), none, []⟩])
            (.cond (.tmp 89)
              (.seq (.region [⟨(some 2), .mv (.val (.sc (.bool false))), none, []⟩])
              .ret)
              .skip))
            (.seq (.region [⟨(some 3), .mv (.val (.sc (.int .i32 (95)))), none, []⟩])
            (.exit 1)))
            .skip))
          (.seq (.seq (.region [⟨(some 90), .mv (.tmp 3), none, []⟩,
            ⟨(some 91), .bin .eql (.tmp 90) (.val (.sc (.int .i32 (95)))), none, []⟩])
          (.cond (.tmp 91)
            (.seq (.region [⟨(some 2), .mv (.val (.sc (.bool false))), none, []⟩])
            .ret)
            .skip))
          (.region [⟨(some 3), .mv (.val (.sc (.int .i32 (33)))), none, []⟩])))))
        (.region [⟨(some 55), .mv (.tmp 4), none, []⟩,
          ⟨(some 56), .bin .add (.tmp 55) (.val (.sc (.int .i64 (1)))), none, []⟩,
          ⟨(some 4), .mv (.tmp 56), none, []⟩])))))
    (.seq (.region [⟨(some 92), .mv (.tmp 3), none, []⟩,
      ⟨(some 93), .bin .neq (.tmp 92) (.val (.sc (.int .i32 (95)))), none, []⟩,
      ⟨(some 2), .mv (.tmp 93), none, []⟩])
    .ret)))))))) }

def f_i_strconv_log10Pow2 : AFunc :=
  { nparams := 1, ntmps := 6, pure := true, results := [.tmp 2],
    body := (.seq (.region [⟨(some 2), .mv (.val (.sc (.int .i64 (0)))), none, []⟩])
    (.seq (.region [⟨(some 3), .mv (.tmp 0), none, []⟩,
      ⟨(some 4), .bin .mul (.tmp 3) (.val (.sc (.int .i64 (78913)))), none, []⟩,
      ⟨(some 5), .bin .shr (.tmp 4) (.val (.sc (.int .u64 (18)))), none, []⟩,
      ⟨(some 2), .mv (.tmp 5), none, []⟩])
    .ret)) }

def f_math_bits_Len64 : AFunc :=
  { nparams := 1, ntmps := 25, pure := true, results := [.tmp 2],
    body := (.seq (.region [⟨(some 2), .mv (.val (.sc (.int .i64 (0)))), none, []⟩])
    (.seq (.seq (.region [⟨(some 3), .mv (.tmp 0), none, []⟩,
      ⟨(some 4), .bin .geq (.tmp 3) (.val (.sc (.int .u64 (4294967296)))), none, []⟩])
    (.cond (.tmp 4)
      (.seq (.region [⟨(some 5), .mv (.tmp 0), none, []⟩,
        ⟨(some 6), .bin .shr (.tmp 5) (.val (.sc (.int .u64 (32)))), none, []⟩,
        ⟨(some 0), .mv (.tmp 6), none, []⟩])
      (.region [⟨(some 2), .mv (.val (.sc (.int .i64 (32)))), none, []⟩]))
      .skip))
    (.seq (.seq (.region [⟨(some 7), .mv (.tmp 0), none, []⟩,
      ⟨(some 8), .bin .geq (.tmp 7) (.val (.sc (.int .u64 (65536)))), none, []⟩])
    (.cond (.tmp 8)
      (.seq (.region [⟨(some 9), .mv (.tmp 0), none, []⟩,
        ⟨(some 10), .bin .shr (.tmp 9) (.val (.sc (.int .u64 (16)))), none, []⟩,
        ⟨(some 0), .mv (.tmp 10), none, []⟩])
      (.region [⟨(some 11), .mv (.tmp 2), none, []⟩,
        ⟨(some 12), .bin .add (.tmp 11) (.val (.sc (.int .i64 (16)))), none, []⟩,
        ⟨(some 2), .mv (.tmp 12), none, []⟩]))
      .skip))
    (.seq (.seq (.region [⟨(some 13), .mv (.tmp 0), none, []⟩,
      ⟨(some 14), .bin .geq (.tmp 13) (.val (.sc (.int .u64 (256)))), none, []⟩])
    (.cond (.tmp 14)
      (.seq (.region [⟨(some 15), .mv (.tmp 0), none, []⟩,
        ⟨(some 16), .bin .shr (.tmp 15) (.val (.sc (.int .u64 (8)))), none, []⟩,
        ⟨(some 0), .mv (.tmp 16), none, []⟩])
      (.region [⟨(some 17), .mv (.tmp 2), none, []⟩,
        ⟨(some 18), .bin .add (.tmp 17) (.val (.sc (.int .i64 (8)))), none, []⟩,
        ⟨(some 2), .mv (.tmp 18), none, []⟩]))
      .skip))
    (.seq (.region [⟨(some 19), .mv (.tmp 2), none, []⟩,
      ⟨(some 20), .mv (.tmp 0), none, []⟩,
      ⟨(some 21), .conv .u8 (.tmp 20), none, []⟩,
      ⟨(some 22), .idxStr (.val (.sc (.string ⟨#[0, 1, 2, 2, 3, 3, 3, 3, 4, 4, 4, 4, 4, 4, 4, 4, 5, 5, 5, 5, 5, 5, 5, 5, 5, 5, 5, 5, 5, 5, 5, 5, 6, 6, 6, 6, 6, 6, 6, 6, 6, 6, 6, 6, 6, 6, 6, 6, 6, 6, 6, 6, 6, 6, 6, 6, 6, 6, 6, 6, 6, 6, 6, 6, 7, 7, 7, 7, 7, 7, 7, 7, 7, 7, 7, 7, 7, 7, 7, 7, 7, 7, 7, 7, 7, 7, 7, 7, 7, 7, 7, 7, 7, 7, 7, 7, 7, 7, 7, 7, 7, 7, 7, 7, 7, 7, 7, 7, 7, 7, 7, 7, 7, 7, 7, 7, 7, 7, 7, 7, 7, 7, 7, 7, 7, 7, 7, 7, 8, 8, 8, 8, 8, 8, 8, 8, 8, 8, 8, 8, 8, 8, 8, 8, 8, 8, 8, 8, 8, 8, 8, 8, 8, 8, 8, 8, 8, 8, 8, 8, 8, 8, 8, 8, 8, 8, 8, 8, 8, 8, 8, 8, 8, 8, 8, 8, 8, 8, 8, 8, 8, 8, 8, 8, 8, 8, 8, 8, 8, 8, 8, 8, 8, 8, 8, 8, 8, 8, 8, 8, 8, 8, 8, 8, 8, 8, 8, 8, 8, 8, 8, 8, 8, 8, 8, 8, 8, 8, 8, 8, 8, 8, 8, 8, 8, 8, 8, 8, 8, 8, 8, 8, 8, 8, 8, 8, 8, 8, 8, 8, 8, 8, 8, 8, 8, 8, 8, 8, 8, 8, 8, 8, 8, 8, 8, 8]⟩))) (.tmp 21), none, []⟩,
      ⟨(some 23), .conv .i64 (.tmp 22), none, []⟩,
      ⟨(some 24), .bin .add (.tmp 19) (.tmp 23), none, []⟩,
      ⟨(some 2), .mv (.tmp 24), none, []⟩])
    .ret))))) }

def f_i_strconv_bool2int : AFunc :=
  { nparams := 1, ntmps := 4, pure := true, results := [.tmp 2],
    body := (.seq (.region [⟨(some 2), .mv (.val (.sc (.int .i64 (0)))), none, []⟩])
    (.seq (.seq (.region [⟨(some 3), .mv (.tmp 0), none, []⟩])
    (.cond (.tmp 3)
      (.seq (.region [⟨(some 2), .mv (.val (.sc (.int .i64 (1)))), none, []⟩])
      .ret)
      .skip))
    (.seq (.region [⟨(some 2), .mv (.val (.sc (.int .i64 (0)))), none, []⟩])
    .ret))) }

def f_i_strconv_isPowerOfTwo : AFunc :=
  { nparams := 1, ntmps := 8, pure := true, results := [.tmp 2],
    body := (.seq (.region [⟨(some 2), .mv (.val (.sc (.bool false))), none, []⟩])
    (.seq (.region [⟨(some 3), .mv (.tmp 0), none, []⟩,
      ⟨(some 4), .mv (.tmp 0), none, []⟩,
      ⟨(some 5), .bin .sub (.tmp 4) (.val (.sc (.int .i64 (1)))), none, []⟩,
      ⟨(some 6), .bin .and (.tmp 3) (.tmp 5), none, []⟩,
      ⟨(some 7), .bin .eql (.tmp 6) (.val (.sc (.int .i64 (0)))), none, []⟩,
      ⟨(some 2), .mv (.tmp 7), none, []⟩])
    .ret)) }

def f_math_bits_TrailingZeros : AFunc :=
  { nparams := 1, ntmps := 8, pure := true, results := [.tmp 2],
    body := (.seq (.region [⟨(some 2), .mv (.val (.sc (.int .i64 (0)))), none, []⟩])
    (.seq (.cond (.val (.sc (.bool false)))
      (.seq (.region [⟨(some 3), .mv (.tmp 0), none, []⟩,
        ⟨(some 4), .conv .u32 (.tmp 3), none, []⟩,
        ⟨(some 5), .call (.val (.fn (.func 118) [] [])) [(.tmp 4)], none, []⟩,
        ⟨(some 2), .mv (.tmp 5), none, []⟩])
      .ret)
      .skip)
    (.seq (.region [⟨(some 6), .mv (.tmp 0), none, []⟩,
      ⟨(some 7), .call (.val (.fn (.func 119) [] [])) [(.tmp 6)], none, []⟩,
      ⟨(some 2), .mv (.tmp 7), none, []⟩])
    .ret))) }

def f_math_bits_TrailingZeros32 : AFunc :=
  { nparams := 1, ntmps := 14, pure := true, results := [.tmp 2],
    body := (.seq (.region [⟨(some 2), .mv (.val (.sc (.int .i64 (0)))), none, []⟩])
    (.seq (.seq (.region [⟨(some 3), .mv (.tmp 0), none, []⟩,
      ⟨(some 4), .bin .eql (.tmp 3) (.val (.sc (.int .u32 (0)))), none, []⟩])
    (.cond (.tmp 4)
      (.seq (.region [⟨(some 2), .mv (.val (.sc (.int .i64 (32)))), none, []⟩])
      .ret)
      .skip))
    (.seq (.region [⟨(some 5), .mv (.tmp 0), none, []⟩,
      ⟨(some 6), .mv (.tmp 0), none, []⟩,
      ⟨(some 7), .un .neg (.tmp 6), none, []⟩,
      ⟨(some 8), .bin .and (.tmp 5) (.tmp 7), none, []⟩,
      ⟨(some 9), .bin .mul (.tmp 8) (.val (.sc (.int .u32 (125613361)))), none, []⟩,
      ⟨(some 10), .bin .shr (.tmp 9) (.val (.sc (.int .u64 (27)))), none, []⟩,
      ⟨(some 11), .indexA 32 1 (.val (.eptr g9 0)) (.tmp 10), none, []⟩,
      ⟨(some 12), .load none (.tmp 11), none, []⟩,
      ⟨(some 13), .conv .i64 (.tmp 12), none, []⟩,
      ⟨(some 2), .mv (.tmp 13), none, []⟩])
    .ret))) }

def f_math_bits_TrailingZeros64 : AFunc :=
  { nparams := 1, ntmps := 14, pure := true, results := [.tmp 2],
    body := (.seq (.region [⟨(some 2), .mv (.val (.sc (.int .i64 (0)))), none, []⟩])
    (.seq (.seq (.region [⟨(some 3), .mv (.tmp 0), none, []⟩,
      ⟨(some 4), .bin .eql (.tmp 3) (.val (.sc (.int .u64 (0)))), none, []⟩])
    (.cond (.tmp 4)
      (.seq (.region [⟨(some 2), .mv (.val (.sc (.int .i64 (64)))), none, []⟩])
      .ret)
      .skip))
    (.seq (.region [⟨(some 5), .mv (.tmp 0), none, []⟩,
      ⟨(some 6), .mv (.tmp 0), none, []⟩,
      ⟨(some 7), .un .neg (.tmp 6), none, []⟩,
      ⟨(some 8), .bin .and (.tmp 5) (.tmp 7), none, []⟩,
      ⟨(some 9), .bin .mul (.tmp 8) (.val (.sc (.int .u64 (285870213051353865)))), none, []⟩,
      ⟨(some 10), .bin .shr (.tmp 9) (.val (.sc (.int .u64 (58)))), none, []⟩,
      ⟨(some 11), .indexA 64 1 (.val (.eptr g10 0)) (.tmp 10), none, []⟩,
      ⟨(some 12), .load none (.tmp 11), none, []⟩,
      ⟨(some 13), .conv .i64 (.tmp 12), none, []⟩,
      ⟨(some 2), .mv (.tmp 13), none, []⟩])
    .ret))) }

def Ft (n : Nat) : Option AFunc :=
  if n = 4 then some f_spinnakerlaw22_LexScans else
  if n = 5 then some f_spinnakerlaw22_LexBack else
  if n = 17 then some f_spinnakerlaw22_awake else
  if n = 18 then some f_lex_Scan else
  if n = 19 then some f_spinnakerref22_Scan else
  if n = 20 then some f_spinnakerref22_Same else
  if n = 21 then some f_spinnakerref22_Name else
  if n = 22 then some f_spinnakerref22_In else
  if n = 23 then some f_spinnakerref22_Words else
  if n = 24 then some f_spinnakerref22_Digits else
  if n = 25 then some f_spinnakerref22_Signs else
  if n = 35 then some f_lex_scanner_skip else
  if n = 36 then some f_lex_scanner_token else
  if n = 37 then some f_spinnakerref22_token else
  if n = 38 then some f_spinnakerref22_alpha else
  if n = 39 then some f_spinnakerref22_num else
  if n = 40 then some f_lex_letter else
  if n = 43 then some f_lex_either else
  if n = 55 then some f_bytes_IndexByte else
  if n = 56 then some f_lex_scanner_run else
  if n = 57 then some f_lex_digit else
  if n = 58 then some f_strconv_Atoi else
  if n = 59 then some f_lex_scanner_sign else
  if n = 60 then some f_spinnakerref22_number else
  if n = 61 then some f_slices_IndexFuncbytebyte else
  if n = 65 then some f_strconv_Itoa else
  if n = 73 then some f_lex_scanner_run_1 else
  if n = 74 then some f_i_strconv_Atoi else
  if n = 75 then some f_strconv_toError else
  if n = 76 then some f_bytes_HasPrefix else
  if n = 78 then some f_i_strconv_Itoa else
  if n = 85 then some f_i_strconv_ParseInt else
  if n = 86 then some f_strconv_syntaxError else
  if n = 87 then some f_strconv_rangeError else
  if n = 88 then some f_strconv_baseError else
  if n = 89 then some f_strconv_bitSizeError else
  if n = 90 then some f_bytes_Equal else
  if n = 91 then some f_i_strconv_FormatInt else
  if n = 98 then some f_i_strconv_ParseUint else
  if n = 99 then some f_i_stringslite_Clone else
  if n = 100 then some f_errors_New else
  if n = 101 then some f_i_strconv_small else
  if n = 102 then some f_i_strconv_numDigits else
  if n = 103 then some f_i_strconv_formatBase10 else
  if n = 104 then some f_i_strconv_formatBits else
  if n = 110 then some f_i_strconv_lower else
  if n = 111 then some f_i_strconv_underscoreOK else
  if n = 112 then some f_i_strconv_log10Pow2 else
  if n = 113 then some f_math_bits_Len64 else
  if n = 114 then some f_i_strconv_bool2int else
  if n = 115 then some f_i_strconv_isPowerOfTwo else
  if n = 116 then some f_math_bits_TrailingZeros else
  if n = 118 then some f_math_bits_TrailingZeros32 else
  if n = 119 then some f_math_bits_TrailingZeros64 else
  none
def Xt (n : Nat) : Option (Nat → List V → Heap → Option (V × Heap)) :=
  if n = 72 then some xIndexByte else
  none
def quietT (n : Nat) : Nat := if [].contains n then 2 else if [20, 21, 22, 23, 24, 25, 38, 39, 40, 43, 55, 57, 60, 72, 74, 76, 85, 90, 98, 100, 101, 102, 110, 111, 112, 113, 114, 115, 116, 118, 119].contains n then 1 else 0

abbrev S0 : Fns := ⟨Xt, Ft⟩
def glT (n : Nat) : Option (List V) :=
  if n = 2 then some g2 else
  if n = 4 then some g4 else
  if n = 5 then some g5 else
  if n = 6 then some g6 else
  if n = 9 then some g9 else
  if n = 10 then some g10 else
  none
-- GLOB 2 spinnaker/lex.signs 93
-- GLOB 4 strconv.ErrSyntax 67
-- GLOB 5 strconv.ErrRange 67
-- GLOB 6 internal/strconv.uint64pow10 130
-- GLOB 9 math/bits.deBruijn32tab 141
-- GLOB 10 math/bits.deBruijn64tab 142
end Go.Am
end
section
/- Am: a call as a row sees it: its arguments and what is there at the start, as abstract values; what the row asks behind it. -/
namespace Go.Am
open Go.RowKit (Below)

/-- Where a call begins: all that is there stays as it is. -/
def start (W : World) : Tie := { fz := fun b o => W.cell? ⟨b, o, none⟩, n := 0, bx := fun _ => 0, rw := fun _ => none, b0 := W.heap.size }

theorem start_rel (W : World) : Rel (start W) [] W where
  n := rfl
  fz _ _ _ h := h
  box b t cs e := by simp at e
  row b t sz e rows eq := by simp at eq
  mp b es e := by simp at e
  low b k h := by simp [Tie.real] at h
  inj b b' k h := by simp [Tie.real] at h
  hb0 := Nat.le_refl _

section
variable {H : Type} {enc : TypeId × Value → H} {P : Program} {W : World} {base : Nat} {spare : Nat → Bool} {held : Bool}

/-- Cells that stand for abstract ones, of a kind. -/
def Reads (W : World) (Good : List V → Prop) (n : Nat) (cs : List Value) : Prop := ∃ vs : List V, vs.length = n ∧ vs.all ground = true ∧ Good vs ∧ RepL (start W) vs cs

theorem cell_spot {a : Addr} {v : Value} (h : W.cell? a = some v) : a.spot = none := by
  unfold World.cell? at h
  split at h
  · split at h
    · simp at h
    · rename_i hs
      simpa using hs
  · simp at h

theorem add_of_none {a : Addr} (h : a.spot = none) (n : Nat) : a.add n = ⟨a.block, a.off + n, none⟩ := by
  obtain ⟨b, o, s⟩ := a
  simp only at h
  subst h
  exact add_none b o n

theorem repF_start {b : Nat} : ∀ {vs : List V} {o : Nat} {cs : List Value}, RepL (start W) vs cs → (∀ (j : Nat) c, cs[j]? = some c → W.cell? ⟨b, o + j, none⟩ = some c) → RepF (start W) b o vs
  | [], _, _, _, _ => by simp [RepF]
  | v :: vs, o, cs, h, hc => by
    simp only [RepL] at h
    obtain ⟨c, rest, rfl, h1, h2⟩ := h
    simp only [RepF]
    refine ⟨⟨c, by simpa [start] using hc 0 c rfl, h1⟩, repF_start h2 fun j d hj => ?_⟩
    have := hc (j + 1) d (by simpa using hj)
    rwa [show o + (j + 1) = o + 1 + j by omega] at this

theorem cells_inv {a : Addr} {n : Nat} {cs : List Value} (h : W.cells? base a n = some cs) : cs.length = n ∧ ∀ (j : Nat) c, cs[j]? = some c → W.cell? (a.add j) = some c := by
  unfold World.cells? at h
  split at h
  · have key : ∀ (l : List Nat) (cs : List Value), (l.mapM fun i => W.cell? (a.add i)) = some cs → cs.length = l.length ∧ ∀ (j i : Nat) c, l[j]? = some i → cs[j]? = some c → W.cell? (a.add i) = some c := by
      intro l
      induction l with
      | nil => intro cs h; simp at h; subst h; simp
      | cons i l ih =>
        intro cs h
        rw [List.mapM_cons] at h
        simp only [Option.bind_eq_bind, Option.bind_eq_some_iff, Option.pure_def, Option.some.injEq] at h
        obtain ⟨c, h1, r, h2, rfl⟩ := h
        obtain ⟨q1, q2⟩ := ih r h2
        refine ⟨by simp [q1], fun j i' c' hj hc => ?_⟩
        cases j with
        | zero => simp at hj hc; subst hj; subst hc; exact h1
        | succ j => exact q2 j i' c' (by simpa using hj) (by simpa using hc)
    obtain ⟨q1, q2⟩ := key _ _ h
    refine ⟨by simpa using q1, fun j c hj => ?_⟩
    have hlt : j < n := by
      have := (List.getElem?_eq_some_iff.1 hj).1
      simp at q1
      omega
    exact q2 j j c (by simp [hlt]) hj
  · simp at h

/-- A slice that is read whole. -/
theorem trod_slcN {t e : TypeId} {fuel : Nat} {cs : List Value} {x : DataW H × List MemPlace} {Good : List V → Prop} (ht : P.underlying t = some (.slice e)) (h0 : 0 < P.cellsOf e)
    (hel : ∀ (n : Nat) (cs : List Value) (y : DataW H × List MemPlace), fuel = n + 1 → DataW.trod enc P W base spare held n e cs = some y → cs.length = P.cellsOf e → Reads W Good (P.cellsOf e) cs)
    (h : DataW.trod enc P W base spare held fuel t cs = some x) : ∃ rows : List (List V), RepL (start W) [.slc .any (P.cellsOf e) rows] cs ∧ rows.length ≤ Go.maxLen ∧ ∀ r ∈ rows, r.length = P.cellsOf e ∧ Good r := by
  rcases DataW.trod_slice ht h with ⟨rfl, _⟩ | ⟨a, len, cap, elems, rest, n, hfu, rfl, _, _, hl, hm, hlen, hi, _, _⟩
  · refine ⟨[], ?_, by simp, by simp⟩
    simp only [RepL, RepV]
    exact ⟨_, _, rfl, ⟨none, 0, rfl, by simp, by simp, by simp, 0, 0, by simp, by simp, by simp [RepRows]⟩, rfl⟩
  · have hex : ∀ k, k ≤ len → ∃ rows : List (List V), rows.length = k ∧ (rows.all fun l => l.all ground) = true ∧ (∀ r ∈ rows, r.length = P.cellsOf e ∧ Good r) ∧
        (rows ≠ [] → a.spot = none) ∧ ∀ (i : Nat) r, rows[i]? = some r → RepF (start W) a.block (a.off + i * P.cellsOf e) r := by
      intro k
      induction k with
      | zero => intro _; exact ⟨[], rfl, by simp, by simp, by simp, by simp⟩
      | succ k ih =>
        intro hk
        obtain ⟨rows, q1, q2, q3, q4, q5⟩ := ih (by omega)
        have hik := hi k (by omega)
        rw [List.getElem?_eq_getElem (by omega), Option.bind_eq_some_iff] at hik
        obtain ⟨cs', h1, h2⟩ := hik
        obtain ⟨hcl, hcc⟩ := cells_inv h1
        obtain ⟨vs, v1, v2, v3, v4⟩ := hel n cs' _ hfu h2 hcl
        have hsp : a.spot = none := by
          by_cases hne : rows = []
          · have hk0 : k = 0 := by rw [← q1, hne]; rfl
            subst hk0
            obtain ⟨c, hc⟩ : ∃ c, cs'[0]? = some c := ⟨cs'[0]'(by omega), List.getElem?_eq_getElem (by omega)⟩
            have := cell_spot (hcc 0 c hc)
            simpa [Addr.add] using this
          · exact q4 hne
        refine ⟨rows ++ [vs], by simp [q1], by simp [q2, v2], ?_, fun _ => hsp, ?_⟩
        · intro r hr
          rcases List.mem_append.1 hr with hr | hr
          · exact q3 r hr
          · simp at hr; subst hr; exact ⟨v1, v3⟩
        · intro i r hr
          rcases Nat.lt_or_ge i rows.length with hlt | hge
          · rw [List.getElem?_append_left hlt] at hr
            exact q5 i r hr
          · rw [List.getElem?_append_right hge] at hr
            have hik : i = k := by
              have := (List.getElem?_eq_some_iff.1 hr).1
              simp at this
              omega
            subst hik
            simp [q1] at hr
            subst hr
            refine repF_start v4 fun j c hj => ?_
            have := hcc j c hj
            rw [add_of_none hsp, add_of_none rfl] at this
            simpa using this
    obtain ⟨rows, q1, q2, q3, q4, q5⟩ := hex len (Nat.le_refl _)
    refine ⟨rows, ?_, by omega, q3⟩
    simp only [RepL, RepV]
    refine ⟨_, _, rfl, ⟨some a, cap, by rw [q1], by omega, by simp [Cp.isFull], q2, a.block, a.off, fun hne => ?_, fun e => by simp at e, ?_⟩, rfl⟩
    · obtain ⟨b, o, s⟩ := a
      have := q4 hne
      simp only at this
      subst this
      rfl
    · exact RepRows.of_get fun i r hr => ⟨(q3 r (List.mem_of_getElem? hr)).1, q5 i r hr⟩

/-- A slice that is read whole. -/
theorem trod_slc {t e : TypeId} {fuel : Nat} {cs : List Value} {x : DataW H × List MemPlace} {Good : List V → Prop} (ht : P.underlying t = some (.slice e)) (h0 : 0 < P.cellsOf e)
    (hel : ∀ (n : Nat) (cs : List Value) (y : DataW H × List MemPlace), DataW.trod enc P W base spare held n e cs = some y → cs.length = P.cellsOf e → Reads W Good (P.cellsOf e) cs)
    (h : DataW.trod enc P W base spare held fuel t cs = some x) : ∃ rows : List (List V), RepL (start W) [.slc .any (P.cellsOf e) rows] cs ∧ rows.length ≤ Go.maxLen ∧ ∀ r ∈ rows, r.length = P.cellsOf e ∧ Good r :=
  trod_slcN ht h0 (fun n cs y _ => hel n cs y) h

theorem trod_intV {t : TypeId} {k : IntKind} {fuel : Nat} {cs : List Value} {x : DataW H × List MemPlace} (ht : P.underlying t = some (.int k)) (h : DataW.trod enc P W base spare held fuel t cs = some x) :
    ∃ n : Int, k.min ≤ n ∧ n ≤ k.max ∧ RepL (start W) [.sc (.int k n)] cs := by
  obtain ⟨n, rfl, _, hw⟩ := DataW.trod_int ht h
  simp only [Lit.wf, Bool.and_eq_true, decide_eq_true_eq] at hw
  exact ⟨n, hw.1, hw.2, by simp [RepL, RepV, Value.oneCell']⟩

theorem trod_strV {t : TypeId} {fuel : Nat} {cs : List Value} {x : DataW H × List MemPlace} (ht : P.underlying t = some .string) (h : DataW.trod enc P W base spare held fuel t cs = some x) :
    ∃ s : ByteArray, s.size ≤ Go.maxLen ∧ RepL (start W) [.sc (.string s)] cs := by
  obtain ⟨s, rfl, _, hw⟩ := DataW.trod_string ht h
  exact ⟨s, hw, by simp [RepL, RepV, Value.oneCell']⟩
end
end Go.Am
end
section
/- Am: what a law's row asks behind the call. -/
namespace Go.Am
open Go.ChangeShapes Go.WideShapes Go.ChangeAt Go.RowKit
section
variable {H : Type} {enc : TypeId × Value → H} {P : Program} {W W' : World}

theorem trodAll_stays (hl : laidOutB P = true) (hb : Below W.heap.size W W') : ∀ {ts : List TypeId} {vs : List Value} {ds : List (DataW H)} {ps : List MemPlace}, (∀ t ∈ ts, P.readableRec t = true ∧ t < P.types.size) →
    DataW.TrodAll enc P W 0 (fun _ => true) true ts vs ds ps → (∀ x ∈ ps, x.block < W.heap.size) → ∀ sp : Nat → Bool, (∀ p ∈ ps, sp p.block = true) → DataW.TrodAll enc P W' 0 sp true ts vs ds ps
  | [], _, _, _, _, h, _, sp, _ => by
    obtain ⟨rfl, rfl, rfl⟩ := trodAll_nil h
    exact trodAll_mk0
  | t :: ts, _, _, _, hr, h, hlt, sp, hsp => by
    obtain ⟨v, vs1, d, ds1, p, q, rfl, rfl, rfl, h1, h2⟩ := trodAll_cons h
    have ht := hr t (by simp)
    have k1 : DataW.Trod enc P W' 0 sp true t v d p := WideElems.Trod_stays hl ht.1 ht.2 h1 (fun x hx => hb.same (hlt x (by simp [hx]))) (fun x hx => hsp x (by simp [hx]))
    exact trodAll_cons_mk k1 (trodAll_stays hl hb (fun u hu => hr u (by simp [hu])) h2 (fun x hx => hlt x (by simp [hx])) sp (fun x hx => hsp x (by simp [hx])))

/-- THE ROW's END: the law is true, and nothing that was there has turned. -/
theorem law_post {f : Func} {s : ChangeSpec} {apart fresh handsOn again : Bool} {args : Array Value} {ds gs : List (DataW H)} {before : List MemPlace} {tb : TypeId} (hl : laidOutB P = true)
    (hpar : ∀ t ∈ f.params.toList, P.readableRec t = true ∧ t < P.types.size) (hres : f.resultTypes = #[tb]) (htb : P.underlying tb = some .bool) (hvars : s.vars = [])
    (hspec : (s.fn H (ds ++ gs)).results = [.lit (.bool true)] ∧ (s.fn H (ds ++ gs)).args = ds ∧ (s.fn H (ds ++ gs)).vars = [])
    (hW : DataW.Whole enc P f.params.toList s.vars apart W args.toList ds gs before) (hb : Below W.heap.size W W') : s.post enc P f apart fresh handsOn again W args (.bool true) W' := by
  have hlt := hW.lt
  have hW' := hW
  obtain ⟨p, q, hA, hV, rfl, hz, hn⟩ := hW
  rw [hvars] at hV
  obtain ⟨rfl, rfl⟩ := trodVars_none hV
  simp only [List.append_nil] at hW' hlt hz hn hspec
  have hargs : ∀ sp : Nat → Bool, (∀ x ∈ p, sp x.block = true) → DataW.TrodAll enc P W' 0 sp true f.params.toList args.toList ds p := trodAll_stays hl hb hpar hA hlt
  have hr : ∀ (b : Nat) (sp : Nat → Bool) (hd : Bool), DataW.TrodAll enc P W' b sp hd f.resultTypes.toList ((Value.bool true).resultList f.resultTypes.size) [DataW.lit (.bool true)] [] := by
    intro b sp hd
    rw [hres]
    exact trodAll_cons_mk (shut_bool htb true) trodAll_mk0
  have hk : W.keptBut W' (· ∈ p) := hb.frame _
  refine ⟨ds, [], p, [], p, [], by simpa using hW', ?_, ?_, ?_, World.keptBut_mono (fun x hx => ⟨hx, .inr (.inl hx)⟩) hk, fun _ => ⟨?_, ?_⟩⟩
  · rw [List.append_nil, hspec.1]; exact hr _ _ _
  · rw [List.append_nil, hspec.2.1]; exact hargs _ fun x hx => by simpa using hlt x hx
  · rw [List.append_nil, hspec.2.2, hvars]; rfl
  · exact ok_one hres rfl (okWide_bool_mk htb _)
  · refine ⟨_, [], ([] ++ p) ++ [], ⟨[] ++ p, [], trodAll_append (hargs _ (fun _ _ => rfl)) (hr _ _ _), ?_, rfl, ?_, ?_⟩, ?_⟩
    · rw [hvars]; exact rfl
    · intro b off hp
      simp only [List.nil_append, List.append_nil] at hp
      rw [hb.frozen (hlt _ hp)]
      exact hz b off hp
    · intro ha
      simpa using hn ha
    · intro x hx _
      simpa using hx

/-- A CALL WHOSE ABSTRACT RUN SAYS true. -/
theorem law_calls {gl : Nat → Option (List V)} {S : Fns} {f : FuncId} {fn : Func} {args : Array Value} {vs : List V} (hcall : ∀ n, CallOk P gl (evCall S.X S.F n)) (hgl : GlobOk (start W) gl) (hargs : RepL (start W) vs args.toList)
    (hf : P.funcs[f]? = some fn) (hname : (fn.name == "runtime.NumGoroutine") = false) (hbody : fn.body.isSome = true) (hw : WpF S 0 f vs [] fun v _ => v = .bool true) :
    Calls P f args W fun e W' => e = .returned (.bool true) ∧ Below W.heap.size W W' := by
  obtain ⟨n, v, h', e, rfl⟩ := hw
  have h1 := (hcall n).runs 0 f vs [] _ _ e (Nat.zero_le _) (start W) W args hgl (start_rel W) hargs
  unfold CallsF at h1
  have henter : (callFunc f args).run P W = .ok (.enter f args) W := by
    have hname' : ¬ fn.name = "runtime.NumGoroutine" := by simpa using hname
    obtain ⟨b, hb⟩ := Option.isSome_iff_exists.1 hbody
    simp [callFunc, hf, hname', hb]
  rw [henter] at h1
  refine h1.mono fun ee W' hq => ?_
  cases ee with
  | returned rv =>
    obtain ⟨G', hreach, hv⟩ := hq
    exact ⟨by rw [hv.sc_inv], hreach.below⟩
  | panicked c => exact hq.elim
  | outgrown => exact hq.elim
end
end Go.Am
end
section
/- Am: package-level tables that a row lists. -/
namespace Go.Am
section
variable {P : Program} {W : World}

/-- A scalar of a listed datum. -/
def absLit {H : Type} : DataW H → Option V
  | .lit (.bool b) => some (.sc (.bool b))
  | .lit (.int k n) => some (.sc (.int k n))
  | .lit (.string l) => some (.sc (.string ⟨l.toArray⟩))
  | _ => none

def absLits {H : Type} : List (DataW H) → Option (List V)
  | [] => some []
  | d :: r => (absLit d).bind fun v => (absLits r).map (v :: ·)

/-- A table of scalars. -/
def absTab {H : Type} : DataW H → Option (List V)
  | .agg l => absLits l
  | _ => none

theorem absLits_get {H : Type} : ∀ {ds : List (DataW H)} {vs : List V}, absLits ds = some vs → vs.length = ds.length ∧ ∀ (i : Nat) d, ds[i]? = some d → ∃ v, vs[i]? = some v ∧ absLit d = some v
  | [], vs, h => by simp only [absLits, Option.some.injEq] at h; subst h; simp
  | d :: ds, vs, h => by
    simp only [absLits, Option.bind_eq_some_iff, Option.map_eq_some_iff] at h
    obtain ⟨v, h1, us, h2, rfl⟩ := h
    obtain ⟨q1, q2⟩ := absLits_get h2
    refine ⟨by simp [q1], fun i d' hi => ?_⟩
    cases i with
    | zero => simp at hi; subst hi; exact ⟨v, by simp, h1⟩
    | succ i => obtain ⟨u, h3, h4⟩ := q2 i d' (by simpa using hi); exact ⟨u, by simpa using h3, h4⟩

theorem lit_rep {H : Type} {enc : TypeId × Value → H} {base : Nat} {sp : Nat → Bool} {held : Bool} {fuel : Nat} {t : TypeId} {c : Value} {d : DataW H} {p : List MemPlace} {v : V} (h : DataW.trod enc P W base sp held fuel t [c] = some (d, p)) (hv : absLit d = some v) :
    ground v = true ∧ RepV (start W) v c := by
  have one : ∀ (l : Lit), d = .lit l → (∃ b, l = .bool b ∧ c = .bool b) ∨ (∃ k n, l = .int k n ∧ c = .int k n) ∨ (∃ s : ByteArray, l = .string s.data.toList ∧ c = .string s) ∨ (∀ v, absLit d ≠ some v) := by
    rintro l rfl
    cases fuel with
    | zero => simp [DataW.trod] at h
    | succ fuel =>
      unfold DataW.trod at h
      split at h
      all_goals try (exfalso; simp at h; done)
      · rename_i b _ e
        simp only [Option.some.injEq, Prod.mk.injEq, DataW.lit.injEq] at h
        simp only [List.cons.injEq, and_true] at e
        exact .inl ⟨b, h.1.symm, e⟩
      · rename_i k k' n _ e
        split at h
        · rename_i hc
          simp only [Option.some.injEq, Prod.mk.injEq, DataW.lit.injEq] at h
          simp only [List.cons.injEq, and_true] at e
          exact .inr (.inl ⟨_, n, h.1.symm, by rw [e, hc.1]⟩)
        · simp at h
      · split at h
        · simp only [Option.some.injEq, Prod.mk.injEq, DataW.lit.injEq] at h
          refine .inr (.inr (.inr fun v => ?_))
          rw [← h.1]
          simp [absLit]
        · simp at h
      · rename_i s _ e
        split at h
        · simp only [Option.some.injEq, Prod.mk.injEq, DataW.lit.injEq] at h
          simp only [List.cons.injEq, and_true] at e
          exact .inr (.inr (.inl ⟨s, h.1.symm, e⟩))
        · simp at h
      all_goals
        exfalso
        repeat' first
          | (simp at h; done)
          | split at h
          | (simp only [Option.bind_eq_some_iff, Option.map_eq_some_iff, Prod.mk.injEq] at h; obtain ⟨_, _, h⟩ := h)
          | skip
  unfold absLit at hv
  split at hv
  · rename_i b
    injection hv with hv
    subst hv
    rcases one _ rfl with ⟨b', h1, rfl⟩ | ⟨k, n, h1, _⟩ | ⟨s, h1, _⟩ | h1
    · injection h1 with h1; subst h1; simp [ground, RepV, Value.oneCell']
    · simp at h1
    · simp at h1
    · exact absurd rfl (h1 _)
  · rename_i k n
    injection hv with hv
    subst hv
    rcases one _ rfl with ⟨b', h1, _⟩ | ⟨k', n', h1, rfl⟩ | ⟨s, h1, _⟩ | h1
    · simp at h1
    · injection h1 with h1 h2; subst h1; subst h2; simp [ground, RepV, Value.oneCell']
    · simp at h1
    · exact absurd rfl (h1 _)
  · rename_i l
    injection hv with hv
    subst hv
    rcases one _ rfl with ⟨b', h1, _⟩ | ⟨k', n', h1, _⟩ | ⟨s, h1, rfl⟩ | h1
    · simp at h1
    · simp at h1
    · injection h1 with h1; subst h1; simp [ground, RepV, Value.oneCell']
    · exact absurd rfl (h1 _)
  · simp at hv

/-- A listed table of scalars. -/
theorem tab_rep {H : Type} {enc : TypeId × Value → H} {base : Nat} {sp : Nat → Bool} {held : Bool} {fuel : Nat} {t e : TypeId} {n : Nat} {cs : List Value} {d : DataW H} {p : List MemPlace} {vs : List V}
    (ht : P.underlying t = some (.array n e)) (hce : P.cellsOf e = 1) (hct : P.cellsOf t = n) (h : DataW.trod enc P W base sp held fuel t cs = some (d, p)) (hv : absTab d = some vs) :
    vs.all ground = true ∧ RepL (start W) vs cs := by
  obtain ⟨xs, m, rfl, hx, hl, hn, hel⟩ := DataW.trod_array ht h
  simp only [Prod.mk.injEq] at hx
  obtain ⟨rfl, _⟩ := hx
  simp only [absTab] at hv
  obtain ⟨q1, q2⟩ := absLits_get hv
  have key : ∀ i, i < n → ∃ v c, vs[i]? = some v ∧ cs[i]? = some c ∧ ground v = true ∧ RepV (start W) v c := by
    intro i hi
    have h1 := hel i hi
    rw [List.getElem?_eq_getElem (by omega)] at h1
    have hc : (cs.drop (i * P.cellsOf e)).take (P.cellsOf e) = [cs[i]'(by omega)] := by
      rw [hce, Nat.mul_one]
      have : i < cs.length := by omega
      rw [List.drop_eq_getElem_cons this]
      rfl
    rw [hc] at h1
    obtain ⟨v, h2, h3⟩ := q2 i (xs[i]'(by omega)).1 (by simp [List.getElem?_eq_getElem (show i < xs.length by omega)])
    obtain ⟨h4, h5⟩ := lit_rep h1 h3
    exact ⟨v, _, h2, List.getElem?_eq_getElem (by omega), h4, h5⟩
  have hvl : vs.length = n := by simp [q1, hn]
  have hcl : cs.length = n := by omega
  clear hel q2 hv h
  refine ⟨?_, ?_⟩
  · rw [List.all_eq_true]
    intro v hv
    obtain ⟨i, hi⟩ := List.getElem?_of_mem hv
    obtain ⟨v', c, h1, _, h3, _⟩ := key i (by have := (List.getElem?_eq_some_iff.1 hi).1; omega)
    rw [hi] at h1
    injection h1 with h1
    rw [h1]
    exact h3
  · clear q1 hn hl ht hct
    induction n generalizing vs cs with
    | zero =>
      have h1 : vs = [] := List.eq_nil_of_length_eq_zero hvl
      have h2 : cs = [] := List.eq_nil_of_length_eq_zero hcl
      rw [h1, h2]
      simp [RepL]
    | succ n ih =>
      match vs, cs, hvl, hcl with
      | v :: vs, c :: cs, hvl, hcl =>
        simp only [RepL]
        obtain ⟨v', c', h1, h2, _, h4⟩ := key 0 (by omega)
        simp at h1 h2
        subst h1; subst h2
        refine ⟨c, cs, rfl, h4, ih (fun i hi => ?_) (by simpa using hvl) (by simpa using hcl)⟩
        obtain ⟨v', c', h5, h6, h7, h8⟩ := key (i + 1) (by omega)
        exact ⟨v', c', by simpa using h5, by simpa using h6, h7, h8⟩

theorem laid_mem {laid : List (String × DataW Unit)} {name : String} {d : DataW Unit} : ∀ {ps : List MemPlace}, DataW.LaidVars P W laid ps → (name, d) ∈ laid →
    ∃ g t cs fuel p, P.globalNamed name = some g ∧ (P.globals[g]?).map (·.type) = some t ∧ W.var? P name = some cs ∧ DataW.trod (fun _ => ()) P W 0 (fun _ => true) false fuel t cs.toList = some (d, p) := by
  induction laid with
  | nil => intro ps _ h; simp at h
  | cons x r ih =>
    intro ps h hm
    obtain ⟨n, d'⟩ := x
    obtain ⟨g, t, cs, fuel, p, q, h1, h2, h3, h4, h5, _⟩ := h
    rcases List.mem_cons.1 hm with hm | hm
    · injection hm with e1 e2
      subst e1; subst e2
      exact ⟨g, t, cs, fuel, p, h1, h2, h3, h4⟩
    · exact ih h5 hm

/-- .. as an abstract global. -/
theorem glob_tab {laid : List (String × DataW Unit)} {name : String} {d : DataW Unit} {g : Nat} {t e : TypeId} {n : Nat} {vs : List V} (h : laidMet P laid W) (hm : (name, d) ∈ laid) (hg : P.globalNamed name = some g) (hty : (P.globals[g]?).map (·.type) = some t)
    (ht : P.underlying t = some (.array n e)) (hce : P.cellsOf e = 1) (hct : P.cellsOf t = n) (hv : absTab d = some vs) : RepV (start W) (.eptr vs 0) (.pointer (some ⟨g, 0, none⟩)) := by
  obtain ⟨ps, hl, _⟩ := h
  obtain ⟨g', t', cs, fuel, p, h1, h2, h3, h4⟩ := laid_mem hl hm
  obtain rfl := Option.some.inj (hg.symm.trans h1)
  obtain rfl := Option.some.inj (hty.symm.trans h2)
  obtain ⟨q1, q2⟩ := tab_rep ht hce hct h4 hv
  simp only [RepV]
  refine ⟨g, 0, rfl, q1, repF_start q2 fun j c hj => ?_⟩
  rw [World.var?_cell hg h3 (0 + j), Nat.zero_add, ← Array.getElem?_toList]
  exact hj

/-- A listed variable of an interface type: of what stands in it nothing is told. -/
theorem glob_opq {laid : List (String × DataW Unit)} {name : String} {d : DataW Unit} {g : Nat} {t : TypeId} {ms : Array (String × TypeId)} (h : laidMet P laid W) (hm : (name, d) ∈ laid) (hg : P.globalNamed name = some g) (hty : (P.globals[g]?).map (·.type) = some t)
    (ht : P.underlying t = some (.interface ms)) : RepV (start W) (.eptr [.opq] 0) (.pointer (some ⟨g, 0, none⟩)) := by
  obtain ⟨ps, hl, _⟩ := h
  obtain ⟨g', t', cs, fuel, p, h1, h2, h3, h4⟩ := laid_mem hl hm
  obtain rfl := Option.some.inj (hg.symm.trans h1)
  obtain rfl := Option.some.inj (hty.symm.trans h2)
  have hc : ∃ c, cs.toList = [c] ∧ c.oneCell' = true := by
    cases fuel with
    | zero => simp [DataW.trod] at h4
    | succ fuel =>
      unfold DataW.trod at h4
      rw [ht] at h4
      split at h4
      all_goals try (exfalso; simp_all; done)
      · rename_i e; exact ⟨_, e, rfl⟩
      · rename_i e; exact ⟨_, e, rfl⟩
  obtain ⟨c, hc, h1c⟩ := hc
  simp only [RepV]
  refine ⟨g, 0, rfl, rfl, ?_⟩
  simp only [RepF, and_true]
  refine ⟨c, ?_, by simp only [RepV]; exact h1c⟩
  show W.cell? ⟨g, 0, none⟩ = some c
  rw [World.var?_cell hg h3 0, ← Array.getElem?_toList, hc]
  rfl
end
end Go.Am
end
