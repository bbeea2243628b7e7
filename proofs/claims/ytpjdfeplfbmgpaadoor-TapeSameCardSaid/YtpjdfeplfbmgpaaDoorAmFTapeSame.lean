/- Am: functions of the program, as the abstract machine runs them (printed by a program). -/
import Derived.Test.YtpjdfeplfbmgpaaDoorAmSim
import Derived.Test.YtpjdfeplfbmgpaaDoorAmQuiet
namespace Go.Am
def g0 : List V := [.sc (.string ⟨#[114, 117, 110, 115]⟩), .sc (.string ⟨#[104, 97, 108, 116]⟩), .sc (.string ⟨#[122, 101, 114, 111]⟩), .sc (.string ⟨#[105, 110, 100, 101, 120]⟩), .sc (.string ⟨#[105, 108, 108, 101, 103, 97, 108]⟩), .sc (.string ⟨#[102, 101, 116, 99, 104]⟩), .sc (.string ⟨#[97, 99, 99, 101, 115, 115]⟩), .sc (.string ⟨#[98, 114, 101, 97, 107]⟩), .sc (.string ⟨#[99, 97, 108, 108]⟩)]
def g6 : List V := [.sc (.int .u64 1), .sc (.int .u64 10), .sc (.int .u64 100), .sc (.int .u64 1000), .sc (.int .u64 10000), .sc (.int .u64 100000), .sc (.int .u64 1000000), .sc (.int .u64 10000000), .sc (.int .u64 100000000), .sc (.int .u64 1000000000), .sc (.int .u64 10000000000), .sc (.int .u64 100000000000), .sc (.int .u64 1000000000000), .sc (.int .u64 10000000000000), .sc (.int .u64 100000000000000), .sc (.int .u64 1000000000000000), .sc (.int .u64 10000000000000000), .sc (.int .u64 100000000000000000), .sc (.int .u64 1000000000000000000), .sc (.int .u64 10000000000000000000)]
def g9 : List V := [.sc (.int .u8 0), .sc (.int .u8 1), .sc (.int .u8 28), .sc (.int .u8 2), .sc (.int .u8 29), .sc (.int .u8 14), .sc (.int .u8 24), .sc (.int .u8 3), .sc (.int .u8 30), .sc (.int .u8 22), .sc (.int .u8 20), .sc (.int .u8 15), .sc (.int .u8 25), .sc (.int .u8 17), .sc (.int .u8 4), .sc (.int .u8 8), .sc (.int .u8 31), .sc (.int .u8 27), .sc (.int .u8 13), .sc (.int .u8 23), .sc (.int .u8 21), .sc (.int .u8 19), .sc (.int .u8 16), .sc (.int .u8 7), .sc (.int .u8 26), .sc (.int .u8 12), .sc (.int .u8 18), .sc (.int .u8 6), .sc (.int .u8 11), .sc (.int .u8 5), .sc (.int .u8 10), .sc (.int .u8 9)]
def g10 : List V := [.sc (.int .u8 0), .sc (.int .u8 1), .sc (.int .u8 56), .sc (.int .u8 2), .sc (.int .u8 57), .sc (.int .u8 49), .sc (.int .u8 28), .sc (.int .u8 3), .sc (.int .u8 61), .sc (.int .u8 58), .sc (.int .u8 42), .sc (.int .u8 50), .sc (.int .u8 38), .sc (.int .u8 29), .sc (.int .u8 17), .sc (.int .u8 4), .sc (.int .u8 62), .sc (.int .u8 47), .sc (.int .u8 59), .sc (.int .u8 36), .sc (.int .u8 45), .sc (.int .u8 43), .sc (.int .u8 51), .sc (.int .u8 22), .sc (.int .u8 53), .sc (.int .u8 39), .sc (.int .u8 33), .sc (.int .u8 30), .sc (.int .u8 24), .sc (.int .u8 18), .sc (.int .u8 12), .sc (.int .u8 5), .sc (.int .u8 63), .sc (.int .u8 55), .sc (.int .u8 48), .sc (.int .u8 27), .sc (.int .u8 60), .sc (.int .u8 41), .sc (.int .u8 37), .sc (.int .u8 16), .sc (.int .u8 46), .sc (.int .u8 35), .sc (.int .u8 44), .sc (.int .u8 21), .sc (.int .u8 52), .sc (.int .u8 32), .sc (.int .u8 23), .sc (.int .u8 11), .sc (.int .u8 54), .sc (.int .u8 26), .sc (.int .u8 40), .sc (.int .u8 15), .sc (.int .u8 34), .sc (.int .u8 20), .sc (.int .u8 31), .sc (.int .u8 10), .sc (.int .u8 25), .sc (.int .u8 14), .sc (.int .u8 19), .sc (.int .u8 9), .sc (.int .u8 13), .sc (.int .u8 8), .sc (.int .u8 7), .sc (.int .u8 6)]
abbrev k_spinnakerlaw46_TapeSame : Nat := 3
abbrev k_spinnakerlaw46_large : Nat := 9
abbrev k_spinnakerlaw46_awake : Nat := 10
abbrev k_tape_Same : Nat := 11
abbrev k_spinnakerref46_Same : Nat := 12
abbrev k_tape_Begins : Nat := 13
abbrev k_spinnakerref46_Begins : Nat := 14
abbrev k_tape_Word : Nat := 15
abbrev k_spinnakerref46_Word : Nat := 16
abbrev k_tape_Text : Nat := 28
abbrev k_spinnakerref01_Ints : Nat := 31
abbrev k_slices_EqualFuncintintintint : Nat := 32
abbrev k_slices_Equalintint : Nat := 33
abbrev k_tape_Begins_1 : Nat := 34
abbrev k_tape_Text_1 : Nat := 45
abbrev k_slices_ContainsFuncintint : Nat := 46
abbrev k_strings_Builder_WriteString : Nat := 47
abbrev k_tape_line : Nat := 48
abbrev k_strings_Builder_String : Nat := 49
abbrev k_slices_IndexFuncintint : Nat := 63
abbrev k_strings_Builder_copyCheck : Nat := 64
abbrev k_strconv_Itoa : Nat := 65
abbrev k_strings_Join : Nat := 66
abbrev k_i_abi_NoEscape : Nat := 77
abbrev k_i_strconv_Itoa : Nat := 78
abbrev k_strings_Builder_Grow : Nat := 79
abbrev k_i_strconv_FormatInt : Nat := 91
abbrev k_strings_Builder_grow : Nat := 92
abbrev k_i_strconv_small : Nat := 101
abbrev k_i_strconv_numDigits : Nat := 102
abbrev k_i_strconv_formatBase10 : Nat := 103
abbrev k_i_strconv_formatBits : Nat := 104
abbrev k_i_bytealg_MakeNoZero : Nat := 105
abbrev k_i_strconv_log10Pow2 : Nat := 112
abbrev k_math_bits_Len64 : Nat := 113
abbrev k_i_strconv_bool2int : Nat := 114
abbrev k_i_strconv_isPowerOfTwo : Nat := 115
abbrev k_math_bits_TrailingZeros : Nat := 116
abbrev k_math_bits_TrailingZeros32 : Nat := 118
abbrev k_math_bits_TrailingZeros64 : Nat := 119
def f_spinnakerlaw46_TapeSame : AFunc :=
  { nparams := 3, ntmps := 50, pure := true, results := [.tmp 6],
    body := (.seq (.region [⟨(some 6), .mv (.val (.sc (.bool false))), none, []⟩])
    (.seq (.seq (.region [⟨(some 7), .mv (.tmp 0), none, []⟩,
      ⟨(some 8), .call (.val (.fn (.func 9) [] [])) [(.tmp 7)], none, []⟩,
      ⟨(some 9), .mv (.tmp 8), none, []⟩,
      ⟨(some 10), .mv (.tmp 1), (some (9, false)), []⟩,
      ⟨(some 11), .call (.val (.fn (.func 9) [] [])) [(.tmp 10)], (some (9, false)), []⟩,
      ⟨(some 12), .pick (.tmp 9) (.val (.sc (.bool true))) (.tmp 11), none, []⟩])
    (.cond (.tmp 12)
      (.seq (.region [⟨(some 13), .call (.val (.fn (.func 10) [] [])) [], none, []⟩,
        ⟨(some 6), .mv (.tmp 13), none, []⟩])
      .ret)
      .skip))
    (.seq (.region [⟨(some 14), .mv (.tmp 0), none, []⟩,
      ⟨(some 15), .mv (.tmp 1), none, []⟩,
      ⟨(some 16), .call (.val (.fn (.func 11) [] [])) [(.tmp 14), (.tmp 15)], none, []⟩,
      ⟨(some 17), .mv (.tmp 0), none, []⟩,
      ⟨(some 18), .mv (.tmp 1), none, []⟩,
      ⟨(some 19), .call (.val (.fn (.func 12) [] [])) [(.tmp 17), (.tmp 18)], none, []⟩,
      ⟨(some 20), .eqBool false (.tmp 16) (.tmp 19), none, []⟩,
      ⟨(some 21), .mv (.tmp 20), none, []⟩,
      ⟨(some 22), .mv (.tmp 0), (some (21, true)), []⟩,
      ⟨(some 23), .mv (.tmp 1), (some (21, true)), []⟩,
      ⟨(some 24), .call (.val (.fn (.func 13) [] [])) [(.tmp 22), (.tmp 23)], (some (21, true)), []⟩,
      ⟨(some 25), .mv (.tmp 0), (some (21, true)), []⟩,
      ⟨(some 26), .mv (.tmp 1), (some (21, true)), []⟩,
      ⟨(some 27), .call (.val (.fn (.func 14) [] [])) [(.tmp 25), (.tmp 26)], (some (21, true)), []⟩,
      ⟨(some 28), .eqBool false (.tmp 24) (.tmp 27), (some (21, true)), []⟩,
      ⟨(some 29), .pick (.tmp 21) (.tmp 28) (.val (.sc (.bool false))), none, []⟩,
      ⟨(some 30), .mv (.tmp 29), none, []⟩,
      ⟨(some 31), .mv (.tmp 0), (some (30, true)), []⟩,
      ⟨(some 32), .mv (.tmp 0), (some (30, true)), []⟩,
      ⟨(some 33), .call (.val (.fn (.func 11) [] [])) [(.tmp 31), (.tmp 32)], (some (30, true)), []⟩,
      ⟨(some 34), .pick (.tmp 30) (.tmp 33) (.val (.sc (.bool false))), none, []⟩,
      ⟨(some 35), .mv (.tmp 34), none, []⟩,
      ⟨(some 36), .mv (.tmp 0), (some (35, true)), []⟩,
      ⟨(some 37), .mv (.tmp 0), (some (35, true)), []⟩,
      ⟨(some 38), .call (.val (.fn (.func 13) [] [])) [(.tmp 36), (.tmp 37)], (some (35, true)), []⟩,
      ⟨(some 39), .pick (.tmp 35) (.tmp 38) (.val (.sc (.bool false))), none, []⟩,
      ⟨(some 40), .mv (.tmp 39), none, []⟩,
      ⟨(some 41), .mv (.tmp 2), (some (40, true)), []⟩,
      ⟨(some 42), .call (.val (.fn (.func 15) [] [])) [(.tmp 41)], (some (40, true)), []⟩,
      ⟨(some 43), .mv (.tmp 2), (some (40, true)), []⟩,
      ⟨(some 44), .call (.val (.fn (.func 16) [] [])) [(.tmp 43)], (some (40, true)), []⟩,
      ⟨(some 45), .bin .eql (.tmp 42) (.tmp 44), (some (40, true)), []⟩,
      ⟨(some 46), .pick (.tmp 40) (.tmp 45) (.val (.sc (.bool false))), none, []⟩,
      ⟨(some 47), .mv (.tmp 46), none, []⟩,
      ⟨(some 48), .call (.val (.fn (.func 10) [] [])) [], (some (47, true)), []⟩,
      ⟨(some 49), .pick (.tmp 47) (.tmp 48) (.val (.sc (.bool false))), none, []⟩,
      ⟨(some 6), .mv (.tmp 49), none, []⟩])
    .ret))) }

def f_spinnakerlaw46_large : AFunc :=
  { nparams := 1, ntmps := 29, pure := true, results := [.tmp 2],
    body := (.seq (.region [⟨(some 2), .mv (.val (.sc (.bool false))), none, []⟩])
    (.seq (.region [⟨(some 3), .mv (.val (.sc (.int .i64 (0)))), none, []⟩])
    (.seq (.seq (.region [⟨(some 4), .mv (.val (.sc (.int .i64 (0)))), none, []⟩])
    (.block 0 (.loop (.seq (.seq (.region [⟨(some 5), .mv (.tmp 4), none, []⟩,
          ⟨(some 6), .mv (.tmp 0), none, []⟩,
          ⟨(some 7), .len (.tmp 6), none, []⟩,
          ⟨(some 8), .bin .lss (.tmp 5) (.tmp 7), none, []⟩,
          ⟨(some 9), .mv (.tmp 8), none, []⟩,
          ⟨(some 10), .mv (.tmp 4), (some (9, true)), []⟩,
          ⟨(some 11), .bin .lss (.tmp 10) (.val (.sc (.int .i64 (20)))), (some (9, true)), []⟩,
          ⟨(some 12), .pick (.tmp 9) (.tmp 11) (.val (.sc (.bool false))), none, []⟩])
        (.cond (.tmp 12)
          .skip
          (.exit 0)))
        (.seq (.block 1 (.region [⟨(some 15), .mv (.tmp 3), none, []⟩,
            ⟨(some 16), .mv (.tmp 0), none, []⟩,
            ⟨(some 17), .mv (.tmp 4), none, []⟩,
            ⟨(some 18), .indexS 1 (.tmp 16) (.tmp 17), none, []⟩,
            ⟨(some 19), .load none (.tmp 18), none, []⟩,
            ⟨(some 20), .len (.tmp 19), none, []⟩,
            ⟨(some 21), .bin .add (.tmp 15) (.tmp 20), none, []⟩,
            ⟨(some 3), .mv (.tmp 21), none, []⟩]))
        (.region [⟨(some 13), .mv (.tmp 4), none, []⟩,
          ⟨(some 14), .bin .add (.tmp 13) (.val (.sc (.int .i64 (1)))), none, []⟩,
          ⟨(some 4), .mv (.tmp 14), none, []⟩]))))))
    (.seq (.region [⟨(some 22), .mv (.tmp 0), none, []⟩,
      ⟨(some 23), .len (.tmp 22), none, []⟩,
      ⟨(some 24), .bin .gtr (.tmp 23) (.val (.sc (.int .i64 (20)))), none, []⟩,
      ⟨(some 25), .mv (.tmp 24), none, []⟩,
      ⟨(some 26), .mv (.tmp 3), (some (25, false)), []⟩,
      ⟨(some 27), .bin .gtr (.tmp 26) (.val (.sc (.int .i64 (1000)))), (some (25, false)), []⟩,
      ⟨(some 28), .pick (.tmp 25) (.val (.sc (.bool true))) (.tmp 27), none, []⟩,
      ⟨(some 2), .mv (.tmp 28), none, []⟩])
    .ret)))) }

def f_spinnakerlaw46_awake : AFunc :=
  { nparams := 0, ntmps := 20, pure := true, results := [.tmp 0],
    body := (.seq (.region [⟨(some 0), .mv (.val (.sc (.bool false))), none, []⟩])
    (.seq (.region [⟨(some 4), .bslice 3 1 [(.sc (.int .i64 (0)))] 2 [(0, (.val (.sc (.int .i64 (5))))), (1, (.val (.sc (.int .i64 (-1)))))], none, []⟩,
      ⟨(some 5), .bslice 42 1 [(.sc (.slice none 0 0))] 1 [(0, (.tmp 4))], none, []⟩,
      ⟨(some 6), .bslice 3 1 [(.sc (.int .i64 (0)))] 1 [(0, (.val (.sc (.int .i64 (1)))))], none, []⟩,
      ⟨(some 7), .call (.val (.fn (.func 28) [] [])) [(.tmp 5), (.tmp 6)], none, []⟩,
      ⟨(some 3), .mv (.tmp 7), none, []⟩,
      ⟨(some 8), .extract (.tmp 3) 0, none, []⟩,
      ⟨(some 9), .extract (.tmp 3) 1, none, []⟩,
      ⟨(some 1), .mv (.tmp 8), none, []⟩,
      ⟨(some 2), .mv (.tmp 9), none, []⟩])
    (.seq (.region [⟨(some 10), .mv (.tmp 1), none, []⟩,
      ⟨(some 11), .bin .eql (.tmp 10) (.val (.sc (.string ⟨#[48, 58, 32, 53, 32, 45, 49, 32, 104, 97, 108, 116, 10]⟩))), none, []⟩,
      ⟨(some 12), .mv (.tmp 11), none, []⟩,
      ⟨(some 13), .mv (.tmp 2), (some (12, true)), []⟩,
      ⟨(some 14), .bin .eql (.tmp 13) (.val (.sc (.int .i64 (0)))), (some (12, true)), []⟩,
      ⟨(some 15), .pick (.tmp 12) (.tmp 14) (.val (.sc (.bool false))), none, []⟩,
      ⟨(some 16), .mv (.tmp 15), none, []⟩,
      ⟨(some 17), .call (.val (.fn (.func 15) [] [])) [(.val (.sc (.int .i64 (8))))], (some (16, true)), []⟩,
      ⟨(some 18), .bin .eql (.tmp 17) (.val (.sc (.string ⟨#[99, 97, 108, 108]⟩))), (some (16, true)), []⟩,
      ⟨(some 19), .pick (.tmp 16) (.tmp 18) (.val (.sc (.bool false))), none, []⟩,
      ⟨(some 0), .mv (.tmp 19), none, []⟩])
    .ret))) }

def f_tape_Same : AFunc :=
  { nparams := 2, ntmps := 8, pure := true, results := [.tmp 4],
    body := (.seq (.region [⟨(some 4), .mv (.val (.sc (.bool false))), none, []⟩])
    (.seq (.region [⟨(some 5), .mv (.tmp 0), none, []⟩,
      ⟨(some 6), .mv (.tmp 1), none, []⟩,
      ⟨(some 7), .call (.val (.fn (.func 32) [] [])) [(.tmp 5), (.tmp 6), (.val (.fn (.func 33) [] []))], none, []⟩,
      ⟨(some 4), .mv (.tmp 7), none, []⟩])
    .ret)) }

def f_spinnakerref46_Same : AFunc :=
  { nparams := 2, ntmps := 27, pure := true, results := [.tmp 4],
    body := (.seq (.region [⟨(some 4), .mv (.val (.sc (.bool false))), none, []⟩])
    (.seq (.seq (.region [⟨(some 6), .mv (.tmp 0), none, []⟩,
      ⟨(some 7), .len (.tmp 6), none, []⟩,
      ⟨(some 8), .mv (.tmp 1), none, []⟩,
      ⟨(some 9), .len (.tmp 8), none, []⟩,
      ⟨(some 10), .bin .neq (.tmp 7) (.tmp 9), none, []⟩])
    (.cond (.tmp 10)
      (.seq (.region [⟨(some 4), .mv (.val (.sc (.bool false))), none, []⟩])
      .ret)
      .skip))
    (.seq (.seq (.region [⟨(some 5), .mv (.val (.sc (.int .i64 (0)))), none, []⟩])
    (.block 0 (.loop (.seq (.seq (.region [⟨(some 11), .mv (.tmp 5), none, []⟩,
          ⟨(some 12), .mv (.tmp 0), none, []⟩,
          ⟨(some 13), .len (.tmp 12), none, []⟩,
          ⟨(some 14), .bin .lss (.tmp 11) (.tmp 13), none, []⟩])
        (.cond (.tmp 14)
          .skip
          (.exit 0)))
        (.seq (.block 1 (.seq (.region [⟨(some 17), .mv (.tmp 0), none, []⟩,
            ⟨(some 18), .mv (.tmp 5), none, []⟩,
            ⟨(some 19), .indexS 1 (.tmp 17) (.tmp 18), none, []⟩,
            ⟨(some 20), .load none (.tmp 19), none, []⟩,
            ⟨(some 21), .mv (.tmp 1), none, []⟩,
            ⟨(some 22), .mv (.tmp 5), none, []⟩,
            ⟨(some 23), .indexS 1 (.tmp 21) (.tmp 22), none, []⟩,
            ⟨(some 24), .load none (.tmp 23), none, []⟩,
            ⟨(some 25), .call (.val (.fn (.func 31) [] [])) [(.tmp 20), (.tmp 24)], none, []⟩,
            ⟨(some 26), .un .not (.tmp 25), none, []⟩])
          (.cond (.tmp 26)
            (.seq (.region [⟨(some 4), .mv (.val (.sc (.bool false))), none, []⟩])
            .ret)
            .skip)))
        (.region [⟨(some 15), .mv (.tmp 5), none, []⟩,
          ⟨(some 16), .bin .add (.tmp 15) (.val (.sc (.int .i64 (1)))), none, []⟩,
          ⟨(some 5), .mv (.tmp 16), none, []⟩]))))))
    (.seq (.region [⟨(some 4), .mv (.val (.sc (.bool true))), none, []⟩])
    .ret)))) }

def f_tape_Begins : AFunc :=
  { nparams := 2, ntmps := 8, pure := true, results := [.tmp 4],
    body := (.seq (.region [⟨(some 4), .mv (.val (.sc (.bool false))), none, []⟩])
    (.seq (.region [⟨(some 5), .mv (.tmp 0), none, []⟩,
      ⟨(some 6), .mv (.tmp 1), none, []⟩,
      ⟨(some 7), .call (.val (.fn (.func 32) [] [])) [(.tmp 5), (.tmp 6), (.val (.fn (.func 34) [] []))], none, []⟩,
      ⟨(some 4), .mv (.tmp 7), none, []⟩])
    .ret)) }

def f_spinnakerref46_Begins : AFunc :=
  { nparams := 2, ntmps := 46, pure := true, results := [.tmp 4],
    body := (.seq (.region [⟨(some 4), .mv (.val (.sc (.bool false))), none, []⟩])
    (.seq (.seq (.region [⟨(some 6), .mv (.tmp 0), none, []⟩,
      ⟨(some 7), .len (.tmp 6), none, []⟩,
      ⟨(some 8), .mv (.tmp 1), none, []⟩,
      ⟨(some 9), .len (.tmp 8), none, []⟩,
      ⟨(some 10), .bin .neq (.tmp 7) (.tmp 9), none, []⟩])
    (.cond (.tmp 10)
      (.seq (.region [⟨(some 4), .mv (.val (.sc (.bool false))), none, []⟩])
      .ret)
      .skip))
    (.seq (.seq (.region [⟨(some 5), .mv (.val (.sc (.int .i64 (0)))), none, []⟩])
    (.block 0 (.loop (.seq (.seq (.region [⟨(some 11), .mv (.tmp 5), none, []⟩,
          ⟨(some 12), .mv (.tmp 0), none, []⟩,
          ⟨(some 13), .len (.tmp 12), none, []⟩,
          ⟨(some 14), .bin .lss (.tmp 11) (.tmp 13), none, []⟩])
        (.cond (.tmp 14)
          .skip
          (.exit 0)))
        (.seq (.block 1 (.seq (.region [⟨(some 17), .mv (.tmp 0), none, []⟩,
            ⟨(some 18), .mv (.tmp 5), none, []⟩,
            ⟨(some 19), .indexS 1 (.tmp 17) (.tmp 18), none, []⟩,
            ⟨(some 20), .load none (.tmp 19), none, []⟩,
            ⟨(some 21), .len (.tmp 20), none, []⟩,
            ⟨(some 22), .mv (.tmp 1), none, []⟩,
            ⟨(some 23), .mv (.tmp 5), none, []⟩,
            ⟨(some 24), .indexS 1 (.tmp 22) (.tmp 23), none, []⟩,
            ⟨(some 25), .load none (.tmp 24), none, []⟩,
            ⟨(some 26), .len (.tmp 25), none, []⟩,
            ⟨(some 27), .bin .gtr (.tmp 21) (.tmp 26), none, []⟩,
            ⟨(some 28), .mv (.tmp 27), none, []⟩,
            ⟨(some 29), .mv (.tmp 0), (some (28, false)), []⟩,
            ⟨(some 30), .mv (.tmp 5), (some (28, false)), []⟩,
            ⟨(some 31), .indexS 1 (.tmp 29) (.tmp 30), (some (28, false)), []⟩,
            ⟨(some 32), .load none (.tmp 31), (some (28, false)), []⟩,
            ⟨(some 33), .mv (.tmp 1), (some (28, false)), []⟩,
            ⟨(some 34), .mv (.tmp 5), (some (28, false)), []⟩,
            ⟨(some 35), .indexS 1 (.tmp 33) (.tmp 34), (some (28, false)), []⟩,
            ⟨(some 36), .load none (.tmp 35), (some (28, false)), []⟩,
            ⟨(some 37), .mv (.tmp 0), (some (28, false)), []⟩,
            ⟨(some 38), .mv (.tmp 5), (some (28, false)), []⟩,
            ⟨(some 39), .indexS 1 (.tmp 37) (.tmp 38), (some (28, false)), []⟩,
            ⟨(some 40), .load none (.tmp 39), (some (28, false)), []⟩,
            ⟨(some 41), .len (.tmp 40), (some (28, false)), []⟩,
            ⟨(some 42), .slice 1 (.tmp 36) none (some (.tmp 41)) none, (some (28, false)), []⟩,
            ⟨(some 43), .call (.val (.fn (.func 31) [] [])) [(.tmp 32), (.tmp 42)], (some (28, false)), []⟩,
            ⟨(some 44), .un .not (.tmp 43), (some (28, false)), []⟩,
            ⟨(some 45), .pick (.tmp 28) (.val (.sc (.bool true))) (.tmp 44), none, []⟩])
          (.cond (.tmp 45)
            (.seq (.region [⟨(some 4), .mv (.val (.sc (.bool false))), none, []⟩])
            .ret)
            .skip)))
        (.region [⟨(some 15), .mv (.tmp 5), none, []⟩,
          ⟨(some 16), .bin .add (.tmp 15) (.val (.sc (.int .i64 (1)))), none, []⟩,
          ⟨(some 5), .mv (.tmp 16), none, []⟩]))))))
    (.seq (.region [⟨(some 4), .mv (.val (.sc (.bool true))), none, []⟩])
    .ret)))) }

def f_tape_Word : AFunc :=
  { nparams := 1, ntmps := 12, pure := true, results := [.tmp 2],
    body := (.seq (.region [⟨(some 2), .mv (.val (.sc (.string ⟨#[]⟩))), none, []⟩])
    (.seq (.seq (.region [⟨(some 3), .mv (.tmp 0), none, []⟩,
      ⟨(some 4), .bin .lss (.tmp 3) (.val (.sc (.int .i64 (0)))), none, []⟩,
      ⟨(some 5), .mv (.tmp 4), none, []⟩,
      ⟨(some 6), .mv (.tmp 0), (some (5, false)), []⟩,
      ⟨(some 7), .bin .geq (.tmp 6) (.val (.sc (.int .i64 (9)))), (some (5, false)), []⟩,
      ⟨(some 8), .pick (.tmp 5) (.val (.sc (.bool true))) (.tmp 7), none, []⟩])
    (.cond (.tmp 8)
      (.seq (.region [⟨(some 2), .mv (.val (.sc (.string ⟨#[]⟩))), none, []⟩])
      .ret)
      .skip))
    (.seq (.region [⟨(some 9), .mv (.tmp 0), none, []⟩,
      ⟨(some 10), .indexA 9 1 (.val (.eptr g0 0)) (.tmp 9), none, []⟩,
      ⟨(some 11), .load none (.tmp 10), none, []⟩,
      ⟨(some 2), .mv (.tmp 11), none, []⟩])
    .ret))) }

def f_spinnakerref46_Word : AFunc :=
  { nparams := 1, ntmps := 15, pure := true, results := [.tmp 2],
    body := (.seq (.region [⟨(some 2), .mv (.val (.sc (.string ⟨#[]⟩))), none, []⟩])
    (.seq (.region [⟨(some 4), .bslice 9 1 [(.sc (.string ⟨#[]⟩))] 9 [(0, (.val (.sc (.string ⟨#[114, 117, 110, 115]⟩)))), (1, (.val (.sc (.string ⟨#[104, 97, 108, 116]⟩)))), (2, (.val (.sc (.string ⟨#[122, 101, 114, 111]⟩)))), (3, (.val (.sc (.string ⟨#[105, 110, 100, 101, 120]⟩)))), (4, (.val (.sc (.string ⟨#[105, 108, 108, 101, 103, 97, 108]⟩)))), (5, (.val (.sc (.string ⟨#[102, 101, 116, 99, 104]⟩)))), (6, (.val (.sc (.string ⟨#[97, 99, 99, 101, 115, 115]⟩)))), (7, (.val (.sc (.string ⟨#[98, 114, 101, 97, 107]⟩)))), (8, (.val (.sc (.string ⟨#[99, 97, 108, 108]⟩))))], none, []⟩,
      ⟨(some 3), .mv (.tmp 4), none, []⟩])
    (.seq (.seq (.region [⟨(some 5), .mv (.tmp 0), none, []⟩,
      ⟨(some 6), .bin .lss (.tmp 5) (.val (.sc (.int .i64 (0)))), none, []⟩,
      ⟨(some 7), .mv (.tmp 6), none, []⟩,
      ⟨(some 8), .mv (.tmp 0), (some (7, false)), []⟩,
      ⟨(some 9), .bin .gtr (.tmp 8) (.val (.sc (.int .i64 (8)))), (some (7, false)), []⟩,
      ⟨(some 10), .pick (.tmp 7) (.val (.sc (.bool true))) (.tmp 9), none, []⟩])
    (.cond (.tmp 10)
      (.seq (.region [⟨(some 2), .mv (.val (.sc (.string ⟨#[]⟩))), none, []⟩])
      .ret)
      .skip))
    (.seq (.region [⟨(some 11), .mv (.tmp 3), none, []⟩,
      ⟨(some 12), .mv (.tmp 0), none, []⟩,
      ⟨(some 13), .indexS 1 (.tmp 11) (.tmp 12), none, []⟩,
      ⟨(some 14), .load none (.tmp 13), none, []⟩,
      ⟨(some 2), .mv (.tmp 14), none, []⟩])
    .ret)))) }

def f_tape_Text : AFunc :=
  { nparams := 2, ntmps := 42, pure := true, results := [.tmp 4, .tmp 5],
    body := (.seq (.region [⟨(some 4), .mv (.val (.sc (.string ⟨#[]⟩))), none, []⟩,
      ⟨(some 5), .mv (.val (.sc (.int .i64 (0)))), none, []⟩])
    (.seq (.region [⟨(some 6), .mv (.val (.fn (.func 45) [] [])), none, []⟩])
    (.seq (.seq (.region [⟨(some 10), .mv (.tmp 0), none, []⟩,
      ⟨(some 11), .len (.tmp 10), none, []⟩,
      ⟨(some 12), .mv (.tmp 1), none, []⟩,
      ⟨(some 13), .len (.tmp 12), none, []⟩,
      ⟨(some 14), .bin .neq (.tmp 11) (.tmp 13), none, []⟩,
      ⟨(some 15), .mv (.tmp 14), none, []⟩,
      ⟨(some 16), .mv (.tmp 1), (some (15, false)), []⟩,
      ⟨(some 17), .len (.tmp 16), (some (15, false)), []⟩,
      ⟨(some 18), .bin .gtr (.tmp 17) (.val (.sc (.int .i64 (8)))), (some (15, false)), []⟩,
      ⟨(some 19), .pick (.tmp 15) (.val (.sc (.bool true))) (.tmp 18), none, []⟩,
      ⟨(some 20), .mv (.tmp 19), none, []⟩,
      ⟨(some 21), .mv (.tmp 1), (some (20, false)), []⟩,
      ⟨(some 22), .mv (.tmp 6), (some (20, false)), []⟩,
      ⟨(some 23), .call (.val (.fn (.func 46) [] [])) [(.tmp 21), (.tmp 22)], (some (20, false)), []⟩,
      ⟨(some 24), .pick (.tmp 20) (.val (.sc (.bool true))) (.tmp 23), none, []⟩])
    (.cond (.tmp 24)
      (.seq (.region [⟨(some 4), .mv (.val (.sc (.string ⟨#[]⟩))), none, []⟩,
        ⟨(some 5), .mv (.val (.sc (.int .i64 (2)))), none, []⟩])
      .ret)
      .skip))
    (.seq (.region [⟨(some 7), .alloc 65 [(.sc (.pointer none)), (.sc (.slice none 0 0))], none, []⟩])
    (.seq (.seq (.region [⟨(some 25), .mv (.tmp 0), none, []⟩,
      ⟨(some 26), .len (.tmp 25), none, []⟩,
      ⟨(some 27), .mv (.val (.sc (.int .i64 (0)))), none, []⟩])
    (.block 0 (.loop (.seq (.region [⟨(some 28), .bin .lss (.tmp 27) (.tmp 26), none, []⟩])
        (.seq (.cond (.tmp 28)
          .skip
          (.exit 0))
        (.seq (.block 1 (.seq (.region [⟨(some 29), .mv (.tmp 27), none, []⟩,
            ⟨(some 30), .indexS 1 (.tmp 25) (.tmp 27), none, []⟩,
            ⟨(some 31), .load none (.tmp 30), none, []⟩,
            ⟨(some 8), .mv (.tmp 29), none, []⟩,
            ⟨(some 9), .mv (.tmp 31), none, []⟩])
          (.region [⟨(some 32), .mv (.tmp 8), none, []⟩,
            ⟨(some 33), .mv (.tmp 9), none, []⟩,
            ⟨(some 34), .mv (.tmp 1), none, []⟩,
            ⟨(some 35), .mv (.tmp 8), none, []⟩,
            ⟨(some 36), .indexS 1 (.tmp 34) (.tmp 35), none, []⟩,
            ⟨(some 37), .load none (.tmp 36), none, []⟩,
            ⟨(some 38), .call (.val (.fn (.func 48) [] [])) [(.tmp 32), (.tmp 33), (.tmp 37)], none, []⟩,
            ⟨(some 39), .call (.val (.fn (.func 47) [] [])) [(.tmp 7), (.tmp 38)], none, []⟩])))
        (.region [⟨(some 40), .bin .add (.tmp 27) (.val (.sc (.int .i64 (1)))), none, []⟩,
          ⟨(some 27), .mv (.tmp 40), none, []⟩])))))))
    (.seq (.region [⟨(some 41), .call (.val (.fn (.func 49) [] [])) [(.tmp 7)], none, []⟩,
      ⟨(some 4), .mv (.tmp 41), none, []⟩,
      ⟨(some 5), .mv (.val (.sc (.int .i64 (0)))), none, []⟩])
    .ret)))))) }

def f_spinnakerref01_Ints : AFunc :=
  { nparams := 2, ntmps := 26, pure := true, results := [.tmp 4],
    body := (.seq (.region [⟨(some 4), .mv (.val (.sc (.bool false))), none, []⟩])
    (.seq (.seq (.region [⟨(some 6), .mv (.tmp 0), none, []⟩,
      ⟨(some 7), .len (.tmp 6), none, []⟩,
      ⟨(some 8), .mv (.tmp 1), none, []⟩,
      ⟨(some 9), .len (.tmp 8), none, []⟩,
      ⟨(some 10), .bin .neq (.tmp 7) (.tmp 9), none, []⟩])
    (.cond (.tmp 10)
      (.seq (.region [⟨(some 4), .mv (.val (.sc (.bool false))), none, []⟩])
      .ret)
      .skip))
    (.seq (.seq (.region [⟨(some 5), .mv (.val (.sc (.int .i64 (0)))), none, []⟩])
    (.block 0 (.loop (.seq (.seq (.region [⟨(some 11), .mv (.tmp 5), none, []⟩,
          ⟨(some 12), .mv (.tmp 0), none, []⟩,
          ⟨(some 13), .len (.tmp 12), none, []⟩,
          ⟨(some 14), .bin .lss (.tmp 11) (.tmp 13), none, []⟩])
        (.cond (.tmp 14)
          .skip
          (.exit 0)))
        (.seq (.block 1 (.seq (.region [⟨(some 17), .mv (.tmp 0), none, []⟩,
            ⟨(some 18), .mv (.tmp 5), none, []⟩,
            ⟨(some 19), .indexS 1 (.tmp 17) (.tmp 18), none, []⟩,
            ⟨(some 20), .load none (.tmp 19), none, []⟩,
            ⟨(some 21), .mv (.tmp 1), none, []⟩,
            ⟨(some 22), .mv (.tmp 5), none, []⟩,
            ⟨(some 23), .indexS 1 (.tmp 21) (.tmp 22), none, []⟩,
            ⟨(some 24), .load none (.tmp 23), none, []⟩,
            ⟨(some 25), .bin .neq (.tmp 20) (.tmp 24), none, []⟩])
          (.cond (.tmp 25)
            (.seq (.region [⟨(some 4), .mv (.val (.sc (.bool false))), none, []⟩])
            .ret)
            .skip)))
        (.region [⟨(some 15), .mv (.tmp 5), none, []⟩,
          ⟨(some 16), .bin .add (.tmp 15) (.val (.sc (.int .i64 (1)))), none, []⟩,
          ⟨(some 5), .mv (.tmp 16), none, []⟩]))))))
    (.seq (.region [⟨(some 4), .mv (.val (.sc (.bool true))), none, []⟩])
    .ret)))) }

def f_slices_EqualFuncintintintint : AFunc :=
  { nparams := 3, ntmps := 32, pure := true, results := [.tmp 6],
    body := (.seq (.region [⟨(some 6), .mv (.val (.sc (.bool false))), none, []⟩])
    (.seq (.seq (.region [⟨(some 10), .mv (.tmp 0), none, []⟩,
      ⟨(some 11), .len (.tmp 10), none, []⟩,
      ⟨(some 12), .mv (.tmp 1), none, []⟩,
      ⟨(some 13), .len (.tmp 12), none, []⟩,
      ⟨(some 14), .bin .neq (.tmp 11) (.tmp 13), none, []⟩])
    (.cond (.tmp 14)
      (.seq (.region [⟨(some 6), .mv (.val (.sc (.bool false))), none, []⟩])
      .ret)
      .skip))
    (.seq (.seq (.region [⟨(some 15), .mv (.tmp 0), none, []⟩,
      ⟨(some 16), .len (.tmp 15), none, []⟩,
      ⟨(some 17), .mv (.val (.sc (.int .i64 (0)))), none, []⟩])
    (.block 0 (.loop (.seq (.region [⟨(some 18), .bin .lss (.tmp 17) (.tmp 16), none, []⟩])
        (.seq (.cond (.tmp 18)
          .skip
          (.exit 0))
        (.seq (.block 1 (.seq (.region [⟨(some 19), .mv (.tmp 17), none, []⟩,
            ⟨(some 20), .indexS 1 (.tmp 15) (.tmp 17), none, []⟩,
            ⟨(some 21), .load none (.tmp 20), none, []⟩,
            ⟨(some 7), .mv (.tmp 19), none, []⟩,
            ⟨(some 8), .mv (.tmp 21), none, []⟩])
          (.seq (.region [⟨(some 22), .mv (.tmp 1), none, []⟩,
            ⟨(some 23), .mv (.tmp 7), none, []⟩,
            ⟨(some 24), .indexS 1 (.tmp 22) (.tmp 23), none, []⟩,
            ⟨(some 25), .load none (.tmp 24), none, []⟩,
            ⟨(some 9), .mv (.tmp 25), none, []⟩])
          (.seq (.region [⟨(some 26), .mv (.tmp 2), none, []⟩,
            ⟨(some 27), .mv (.tmp 8), none, []⟩,
            ⟨(some 28), .mv (.tmp 9), none, []⟩,
            ⟨(some 29), .call (.tmp 26) [(.tmp 27), (.tmp 28)], none, []⟩,
            ⟨(some 30), .un .not (.tmp 29), none, []⟩])
          (.cond (.tmp 30)
            (.seq (.region [⟨(some 6), .mv (.val (.sc (.bool false))), none, []⟩])
            .ret)
            .skip)))))
        (.region [⟨(some 31), .bin .add (.tmp 17) (.val (.sc (.int .i64 (1)))), none, []⟩,
          ⟨(some 17), .mv (.tmp 31), none, []⟩])))))))
    (.seq (.region [⟨(some 6), .mv (.val (.sc (.bool true))), none, []⟩])
    .ret)))) }

def f_slices_Equalintint : AFunc :=
  { nparams := 2, ntmps := 26, pure := true, results := [.tmp 4],
    body := (.seq (.region [⟨(some 4), .mv (.val (.sc (.bool false))), none, []⟩])
    (.seq (.seq (.region [⟨(some 6), .mv (.tmp 0), none, []⟩,
      ⟨(some 7), .len (.tmp 6), none, []⟩,
      ⟨(some 8), .mv (.tmp 1), none, []⟩,
      ⟨(some 9), .len (.tmp 8), none, []⟩,
      ⟨(some 10), .bin .neq (.tmp 7) (.tmp 9), none, []⟩])
    (.cond (.tmp 10)
      (.seq (.region [⟨(some 4), .mv (.val (.sc (.bool false))), none, []⟩])
      .ret)
      .skip))
    (.seq (.seq (.region [⟨(some 11), .mv (.tmp 0), none, []⟩,
      ⟨(some 12), .len (.tmp 11), none, []⟩,
      ⟨(some 13), .mv (.val (.sc (.int .i64 (0)))), none, []⟩])
    (.block 0 (.loop (.seq (.region [⟨(some 14), .bin .lss (.tmp 13) (.tmp 12), none, []⟩])
        (.seq (.cond (.tmp 14)
          .skip
          (.exit 0))
        (.seq (.block 1 (.seq (.region [⟨(some 15), .mv (.tmp 13), none, []⟩,
            ⟨(some 5), .mv (.tmp 15), none, []⟩])
          (.seq (.region [⟨(some 16), .mv (.tmp 0), none, []⟩,
            ⟨(some 17), .mv (.tmp 5), none, []⟩,
            ⟨(some 18), .indexS 1 (.tmp 16) (.tmp 17), none, []⟩,
            ⟨(some 19), .load none (.tmp 18), none, []⟩,
            ⟨(some 20), .mv (.tmp 1), none, []⟩,
            ⟨(some 21), .mv (.tmp 5), none, []⟩,
            ⟨(some 22), .indexS 1 (.tmp 20) (.tmp 21), none, []⟩,
            ⟨(some 23), .load none (.tmp 22), none, []⟩,
            ⟨(some 24), .bin .neq (.tmp 19) (.tmp 23), none, []⟩])
          (.cond (.tmp 24)
            (.seq (.region [⟨(some 4), .mv (.val (.sc (.bool false))), none, []⟩])
            .ret)
            .skip))))
        (.region [⟨(some 25), .bin .add (.tmp 13) (.val (.sc (.int .i64 (1)))), none, []⟩,
          ⟨(some 13), .mv (.tmp 25), none, []⟩])))))))
    (.seq (.region [⟨(some 4), .mv (.val (.sc (.bool true))), none, []⟩])
    .ret)))) }

def f_tape_Begins_1 : AFunc :=
  { nparams := 2, ntmps := 18, pure := true, results := [.tmp 4],
    body := (.seq (.region [⟨(some 4), .mv (.val (.sc (.bool false))), none, []⟩])
    (.seq (.region [⟨(some 5), .mv (.tmp 0), none, []⟩,
      ⟨(some 6), .len (.tmp 5), none, []⟩,
      ⟨(some 7), .mv (.tmp 1), none, []⟩,
      ⟨(some 8), .len (.tmp 7), none, []⟩,
      ⟨(some 9), .bin .leq (.tmp 6) (.tmp 8), none, []⟩,
      ⟨(some 10), .mv (.tmp 9), none, []⟩,
      ⟨(some 11), .mv (.tmp 0), (some (10, true)), []⟩,
      ⟨(some 12), .mv (.tmp 1), (some (10, true)), []⟩,
      ⟨(some 13), .mv (.tmp 0), (some (10, true)), []⟩,
      ⟨(some 14), .len (.tmp 13), (some (10, true)), []⟩,
      ⟨(some 15), .slice 1 (.tmp 12) none (some (.tmp 14)) none, (some (10, true)), []⟩,
      ⟨(some 16), .call (.val (.fn (.func 33) [] [])) [(.tmp 11), (.tmp 15)], (some (10, true)), []⟩,
      ⟨(some 17), .pick (.tmp 10) (.tmp 16) (.val (.sc (.bool false))), none, []⟩,
      ⟨(some 4), .mv (.tmp 17), none, []⟩])
    .ret)) }

def f_tape_Text_1 : AFunc :=
  { nparams := 1, ntmps := 6, pure := true, results := [.tmp 2],
    body := (.seq (.region [⟨(some 2), .mv (.val (.sc (.bool false))), none, []⟩])
    (.seq (.region [⟨(some 3), .mv (.tmp 0), none, []⟩,
      ⟨(some 4), .call (.val (.fn (.func 15) [] [])) [(.tmp 3)], none, []⟩,
      ⟨(some 5), .bin .eql (.tmp 4) (.val (.sc (.string ⟨#[]⟩))), none, []⟩,
      ⟨(some 2), .mv (.tmp 5), none, []⟩])
    .ret)) }

def f_slices_ContainsFuncintint : AFunc :=
  { nparams := 2, ntmps := 9, pure := true, results := [.tmp 4],
    body := (.seq (.region [⟨(some 4), .mv (.val (.sc (.bool false))), none, []⟩])
    (.seq (.region [⟨(some 5), .mv (.tmp 0), none, []⟩,
      ⟨(some 6), .mv (.tmp 1), none, []⟩,
      ⟨(some 7), .call (.val (.fn (.func 63) [] [])) [(.tmp 5), (.tmp 6)], none, []⟩,
      ⟨(some 8), .bin .geq (.tmp 7) (.val (.sc (.int .i64 (0)))), none, []⟩,
      ⟨(some 4), .mv (.tmp 8), none, []⟩])
    .ret)) }

def f_strings_Builder_WriteString : AFunc :=
  { nparams := 2, ntmps := 19, pure := false, results := [.tmp 4, .tmp 5],
    body := (.seq (.region [⟨(some 4), .mv (.val (.sc (.int .i64 (0)))), none, []⟩,
      ⟨(some 5), .mv (.val (.sc .nilIface)), none, []⟩])
    (.seq (.region [⟨(some 6), .mv (.tmp 0), none, []⟩,
      ⟨(some 7), .call (.val (.fn (.func 64) [] [])) [(.tmp 6)], none, []⟩])
    (.seq (.region [⟨(some 8), .mv (.tmp 0), none, []⟩,
      ⟨(some 9), .mv (.tmp 0), none, []⟩,
      ⟨(some 10), .nilCheck (.tmp 9), none, []⟩,
      ⟨(some 11), .fieldAddr 1 (.tmp 10), none, []⟩,
      ⟨(some 12), .load none (.tmp 11), none, []⟩,
      ⟨(some 13), .mv (.tmp 1), none, []⟩,
      ⟨(some 14), .append 5 1 (.tmp 12) (.tmp 13), none, []⟩,
      ⟨(some 15), .nilCheck (.tmp 8), none, []⟩,
      ⟨(some 16), .fieldAddr 1 (.tmp 15), none, []⟩,
      ⟨none, .store 1 (.tmp 16) (.tmp 14), none, []⟩])
    (.seq (.region [⟨(some 17), .mv (.tmp 1), none, []⟩,
      ⟨(some 18), .lenStr (.tmp 17), none, []⟩,
      ⟨(some 4), .mv (.tmp 18), none, []⟩,
      ⟨(some 5), .mv (.val (.sc .nilIface)), none, []⟩])
    .ret)))) }

def f_tape_line : AFunc :=
  { nparams := 3, ntmps := 33, pure := true, results := [.tmp 6],
    body := (.seq (.region [⟨(some 6), .mv (.val (.sc (.string ⟨#[]⟩))), none, []⟩])
    (.seq (.region [⟨(some 10), .mv (.tmp 0), none, []⟩,
      ⟨(some 11), .call (.val (.fn (.func 65) [] [])) [(.tmp 10)], none, []⟩,
      ⟨(some 12), .bin .add (.tmp 11) (.val (.sc (.string ⟨#[58]⟩))), none, []⟩,
      ⟨(some 13), .bslice 9 1 [(.sc (.string ⟨#[]⟩))] 1 [(0, (.tmp 12))], none, []⟩,
      ⟨(some 7), .mv (.tmp 13), none, []⟩])
    (.seq (.seq (.region [⟨(some 14), .mv (.tmp 1), none, []⟩,
      ⟨(some 15), .len (.tmp 14), none, []⟩,
      ⟨(some 16), .mv (.val (.sc (.int .i64 (0)))), none, []⟩])
    (.block 0 (.loop (.seq (.region [⟨(some 17), .bin .lss (.tmp 16) (.tmp 15), none, []⟩])
        (.seq (.cond (.tmp 17)
          .skip
          (.exit 0))
        (.seq (.block 1 (.seq (.region [⟨(some 18), .indexS 1 (.tmp 14) (.tmp 16), none, []⟩,
            ⟨(some 19), .load none (.tmp 18), none, []⟩,
            ⟨(some 9), .mv (.tmp 19), none, []⟩])
          (.region [⟨(some 20), .mv (.tmp 7), none, []⟩,
            ⟨(some 21), .mv (.tmp 9), none, []⟩,
            ⟨(some 22), .call (.val (.fn (.func 65) [] [])) [(.tmp 21)], none, []⟩,
            ⟨(some 23), .bslice 9 1 [(.sc (.string ⟨#[]⟩))] 1 [(0, (.tmp 22))], none, []⟩,
            ⟨(some 24), .append 9 1 (.tmp 20) (.tmp 23), none, []⟩,
            ⟨(some 7), .mv (.tmp 24), none, []⟩])))
        (.region [⟨(some 25), .bin .add (.tmp 16) (.val (.sc (.int .i64 (1)))), none, []⟩,
          ⟨(some 16), .mv (.tmp 25), none, []⟩])))))))
    (.seq (.region [⟨(some 26), .mv (.tmp 7), none, []⟩,
      ⟨(some 27), .mv (.tmp 2), none, []⟩,
      ⟨(some 28), .call (.val (.fn (.func 15) [] [])) [(.tmp 27)], none, []⟩,
      ⟨(some 29), .bslice 9 1 [(.sc (.string ⟨#[]⟩))] 1 [(0, (.tmp 28))], none, []⟩,
      ⟨(some 30), .append 9 1 (.tmp 26) (.tmp 29), none, []⟩,
      ⟨(some 31), .call (.val (.fn (.func 66) [] [])) [(.tmp 30), (.val (.sc (.string ⟨#[32]⟩)))], none, []⟩,
      ⟨(some 32), .bin .add (.tmp 31) (.val (.sc (.string ⟨#[10]⟩))), none, []⟩,
      ⟨(some 6), .mv (.tmp 32), none, []⟩])
    .ret)))) }

def f_strings_Builder_String : AFunc :=
  { nparams := 1, ntmps := 14, pure := false, results := [.tmp 2],
    body := (.seq (.region [⟨(some 2), .mv (.val (.sc (.string ⟨#[]⟩))), none, []⟩])
    (.seq (.region [⟨(some 3), .mv (.tmp 0), none, []⟩,
      ⟨(some 4), .nilCheck (.tmp 3), none, []⟩,
      ⟨(some 5), .fieldAddr 1 (.tmp 4), none, []⟩,
      ⟨(some 6), .load none (.tmp 5), none, []⟩,
      ⟨(some 7), .sliceData (.tmp 6), none, []⟩,
      ⟨(some 8), .mv (.tmp 0), none, []⟩,
      ⟨(some 9), .nilCheck (.tmp 8), none, []⟩,
      ⟨(some 10), .fieldAddr 1 (.tmp 9), none, []⟩,
      ⟨(some 11), .load none (.tmp 10), none, []⟩,
      ⟨(some 12), .len (.tmp 11), none, []⟩,
      ⟨(some 13), .strData 5 (.tmp 7) (.tmp 12), none, []⟩,
      ⟨(some 2), .mv (.tmp 13), none, []⟩])
    .ret)) }

def f_slices_IndexFuncintint : AFunc :=
  { nparams := 2, ntmps := 19, pure := true, results := [.tmp 4],
    body := (.seq (.region [⟨(some 4), .mv (.val (.sc (.int .i64 (0)))), none, []⟩])
    (.seq (.seq (.region [⟨(some 6), .mv (.tmp 0), none, []⟩,
      ⟨(some 7), .len (.tmp 6), none, []⟩,
      ⟨(some 8), .mv (.val (.sc (.int .i64 (0)))), none, []⟩])
    (.block 0 (.loop (.seq (.region [⟨(some 9), .bin .lss (.tmp 8) (.tmp 7), none, []⟩])
        (.seq (.cond (.tmp 9)
          .skip
          (.exit 0))
        (.seq (.block 1 (.seq (.region [⟨(some 10), .mv (.tmp 8), none, []⟩,
            ⟨(some 5), .mv (.tmp 10), none, []⟩])
          (.seq (.region [⟨(some 11), .mv (.tmp 1), none, []⟩,
            ⟨(some 12), .mv (.tmp 0), none, []⟩,
            ⟨(some 13), .mv (.tmp 5), none, []⟩,
            ⟨(some 14), .indexS 1 (.tmp 12) (.tmp 13), none, []⟩,
            ⟨(some 15), .load none (.tmp 14), none, []⟩,
            ⟨(some 16), .call (.tmp 11) [(.tmp 15)], none, []⟩])
          (.cond (.tmp 16)
            (.seq (.region [⟨(some 17), .mv (.tmp 5), none, []⟩,
              ⟨(some 4), .mv (.tmp 17), none, []⟩])
            .ret)
            .skip))))
        (.region [⟨(some 18), .bin .add (.tmp 8) (.val (.sc (.int .i64 (1)))), none, []⟩,
          ⟨(some 8), .mv (.tmp 18), none, []⟩])))))))
    (.seq (.region [⟨(some 4), .mv (.val (.sc (.int .i64 (-1)))), none, []⟩])
    .ret))) }

def f_strings_Builder_copyCheck : AFunc :=
  { nparams := 1, ntmps := 20, pure := false, results := [],
    body := (.seq (.region [⟨(some 2), .mv (.tmp 0), none, []⟩,
      ⟨(some 3), .nilCheck (.tmp 2), none, []⟩,
      ⟨(some 4), .fieldAddr 0 (.tmp 3), none, []⟩,
      ⟨(some 5), .load none (.tmp 4), none, []⟩,
      ⟨(some 6), .isNil false .ptr (.tmp 5), none, []⟩])
    (.cond (.tmp 6)
      (.region [⟨(some 7), .mv (.tmp 0), none, []⟩,
        ⟨(some 8), .mv (.tmp 0), none, []⟩,
        ⟨(some 9), .uncast (.tmp 8), none, []⟩,
        ⟨(some 10), .call (.val (.fn (.func 77) [] [])) [(.tmp 9)], none, []⟩,
        ⟨(some 11), .cast 65 2 (.tmp 10), none, []⟩,
        ⟨(some 12), .nilCheck (.tmp 7), none, []⟩,
        ⟨(some 13), .fieldAddr 0 (.tmp 12), none, []⟩,
        ⟨none, .store 1 (.tmp 13) (.tmp 11), none, []⟩])
      (.seq (.region [⟨(some 14), .mv (.tmp 0), none, []⟩,
        ⟨(some 15), .nilCheck (.tmp 14), none, []⟩,
        ⟨(some 16), .fieldAddr 0 (.tmp 15), none, []⟩,
        ⟨(some 17), .load none (.tmp 16), none, []⟩,
        ⟨(some 18), .mv (.tmp 0), none, []⟩,
        ⟨(some 19), .eqPtr true (.tmp 17) (.tmp 18), none, []⟩])
      (.cond (.tmp 19)
        .fail
        .skip)))) }

def f_strconv_Itoa : AFunc :=
  { nparams := 1, ntmps := 5, pure := true, results := [.tmp 2],
    body := (.seq (.region [⟨(some 2), .mv (.val (.sc (.string ⟨#[]⟩))), none, []⟩])
    (.seq (.region [⟨(some 3), .mv (.tmp 0), none, []⟩,
      ⟨(some 4), .call (.val (.fn (.func 78) [] [])) [(.tmp 3)], none, []⟩,
      ⟨(some 2), .mv (.tmp 4), none, []⟩])
    .ret)) }

def f_strings_Join : AFunc :=
  { nparams := 2, ntmps := 75, pure := true, results := [.tmp 4],
    body := (.seq (.region [⟨(some 4), .mv (.val (.sc (.string ⟨#[]⟩))), none, []⟩])
    (.seq (.seq (.region [⟨(some 11), .mv (.tmp 0), none, []⟩,
      ⟨(some 12), .len (.tmp 11), none, []⟩])
    (.block 0 (.seq (.region [⟨(some 14), .bin .eql (.tmp 12) (.val (.sc (.int .i64 (0)))), none, []⟩,
        ⟨(some 13), .mv (.tmp 14), none, []⟩])
      (.cond (.tmp 13)
        (.seq (.region [⟨(some 4), .mv (.val (.sc (.string ⟨#[]⟩))), none, []⟩])
        .ret)
        (.seq (.region [⟨(some 16), .bin .eql (.tmp 12) (.val (.sc (.int .i64 (1)))), none, []⟩,
          ⟨(some 15), .mv (.tmp 16), none, []⟩])
        (.cond (.tmp 15)
          (.seq (.region [⟨(some 17), .mv (.tmp 0), none, []⟩,
            ⟨(some 18), .indexS 1 (.tmp 17) (.val (.sc (.int .i64 (0)))), none, []⟩,
            ⟨(some 19), .load none (.tmp 18), none, []⟩,
            ⟨(some 4), .mv (.tmp 19), none, []⟩])
          .ret)
          .skip))))))
    (.seq (.region [⟨(some 5), .mv (.val (.sc (.int .i64 (0)))), none, []⟩])
    (.seq (.seq (.region [⟨(some 20), .mv (.tmp 1), none, []⟩,
      ⟨(some 21), .lenStr (.tmp 20), none, []⟩,
      ⟨(some 22), .bin .gtr (.tmp 21) (.val (.sc (.int .i64 (0)))), none, []⟩])
    (.cond (.tmp 22)
      (.seq (.seq (.region [⟨(some 23), .mv (.tmp 1), none, []⟩,
        ⟨(some 24), .lenStr (.tmp 23), none, []⟩,
        ⟨(some 25), .mv (.tmp 0), none, []⟩,
        ⟨(some 26), .len (.tmp 25), none, []⟩,
        ⟨(some 27), .bin .sub (.tmp 26) (.val (.sc (.int .i64 (1)))), none, []⟩,
        ⟨(some 28), .bin .quo (.val (.sc (.int .i64 (9223372036854775807)))) (.tmp 27), none, []⟩,
        ⟨(some 29), .bin .geq (.tmp 24) (.tmp 28), none, []⟩])
      (.cond (.tmp 29)
        (.region [⟨(some 30), .makeIface 9 (.val (.sc (.string ⟨#[115, 116, 114, 105, 110, 103, 115, 58, 32, 74, 111, 105, 110, 32, 111, 117, 116, 112, 117, 116, 32, 108, 101, 110, 103, 116, 104, 32, 111, 118, 101, 114, 102, 108, 111, 119]⟩))), none, []⟩,
          ⟨none, .fail, none, []⟩])
        .skip))
      (.region [⟨(some 31), .mv (.tmp 5), none, []⟩,
        ⟨(some 32), .mv (.tmp 1), none, []⟩,
        ⟨(some 33), .lenStr (.tmp 32), none, []⟩,
        ⟨(some 34), .mv (.tmp 0), none, []⟩,
        ⟨(some 35), .len (.tmp 34), none, []⟩,
        ⟨(some 36), .bin .sub (.tmp 35) (.val (.sc (.int .i64 (1)))), none, []⟩,
        ⟨(some 37), .bin .mul (.tmp 33) (.tmp 36), none, []⟩,
        ⟨(some 38), .bin .add (.tmp 31) (.tmp 37), none, []⟩,
        ⟨(some 5), .mv (.tmp 38), none, []⟩]))
      .skip))
    (.seq (.seq (.region [⟨(some 39), .mv (.tmp 0), none, []⟩,
      ⟨(some 40), .len (.tmp 39), none, []⟩,
      ⟨(some 41), .mv (.val (.sc (.int .i64 (0)))), none, []⟩])
    (.block 1 (.loop (.seq (.region [⟨(some 42), .bin .lss (.tmp 41) (.tmp 40), none, []⟩])
        (.seq (.cond (.tmp 42)
          .skip
          (.exit 1))
        (.seq (.block 2 (.seq (.region [⟨(some 43), .indexS 1 (.tmp 39) (.tmp 41), none, []⟩,
            ⟨(some 44), .load none (.tmp 43), none, []⟩,
            ⟨(some 7), .mv (.tmp 44), none, []⟩])
          (.seq (.seq (.region [⟨(some 45), .mv (.tmp 7), none, []⟩,
            ⟨(some 46), .lenStr (.tmp 45), none, []⟩,
            ⟨(some 47), .mv (.tmp 5), none, []⟩,
            ⟨(some 48), .bin .sub (.val (.sc (.int .i64 (9223372036854775807)))) (.tmp 47), none, []⟩,
            ⟨(some 49), .bin .gtr (.tmp 46) (.tmp 48), none, []⟩])
          (.cond (.tmp 49)
            (.region [⟨(some 50), .makeIface 9 (.val (.sc (.string ⟨#[115, 116, 114, 105, 110, 103, 115, 58, 32, 74, 111, 105, 110, 32, 111, 117, 116, 112, 117, 116, 32, 108, 101, 110, 103, 116, 104, 32, 111, 118, 101, 114, 102, 108, 111, 119]⟩))), none, []⟩,
              ⟨none, .fail, none, []⟩])
            .skip))
          (.region [⟨(some 51), .mv (.tmp 5), none, []⟩,
            ⟨(some 52), .mv (.tmp 7), none, []⟩,
            ⟨(some 53), .lenStr (.tmp 52), none, []⟩,
            ⟨(some 54), .bin .add (.tmp 51) (.tmp 53), none, []⟩,
            ⟨(some 5), .mv (.tmp 54), none, []⟩]))))
        (.region [⟨(some 55), .bin .add (.tmp 41) (.val (.sc (.int .i64 (1)))), none, []⟩,
          ⟨(some 41), .mv (.tmp 55), none, []⟩])))))))
    (.seq (.region [⟨(some 8), .alloc 65 [(.sc (.pointer none)), (.sc (.slice none 0 0))], none, []⟩])
    (.seq (.region [⟨(some 56), .mv (.tmp 5), none, []⟩,
      ⟨(some 57), .call (.val (.fn (.func 79) [] [])) [(.tmp 8), (.tmp 56)], none, []⟩])
    (.seq (.region [⟨(some 58), .mv (.tmp 0), none, []⟩,
      ⟨(some 59), .indexS 1 (.tmp 58) (.val (.sc (.int .i64 (0)))), none, []⟩,
      ⟨(some 60), .load none (.tmp 59), none, []⟩,
      ⟨(some 61), .call (.val (.fn (.func 47) [] [])) [(.tmp 8), (.tmp 60)], none, []⟩])
    (.seq (.seq (.region [⟨(some 62), .mv (.tmp 0), none, []⟩,
      ⟨(some 63), .slice 1 (.tmp 62) (some (.val (.sc (.int .i64 (1))))) none none, none, []⟩,
      ⟨(some 64), .len (.tmp 63), none, []⟩,
      ⟨(some 65), .mv (.val (.sc (.int .i64 (0)))), none, []⟩])
    (.block 3 (.loop (.seq (.region [⟨(some 66), .bin .lss (.tmp 65) (.tmp 64), none, []⟩])
        (.seq (.cond (.tmp 66)
          .skip
          (.exit 3))
        (.seq (.block 4 (.seq (.region [⟨(some 67), .indexS 1 (.tmp 63) (.tmp 65), none, []⟩,
            ⟨(some 68), .load none (.tmp 67), none, []⟩,
            ⟨(some 10), .mv (.tmp 68), none, []⟩])
          (.seq (.region [⟨(some 69), .mv (.tmp 1), none, []⟩,
            ⟨(some 70), .call (.val (.fn (.func 47) [] [])) [(.tmp 8), (.tmp 69)], none, []⟩])
          (.region [⟨(some 71), .mv (.tmp 10), none, []⟩,
            ⟨(some 72), .call (.val (.fn (.func 47) [] [])) [(.tmp 8), (.tmp 71)], none, []⟩]))))
        (.region [⟨(some 73), .bin .add (.tmp 65) (.val (.sc (.int .i64 (1)))), none, []⟩,
          ⟨(some 65), .mv (.tmp 73), none, []⟩])))))))
    (.seq (.region [⟨(some 74), .call (.val (.fn (.func 49) [] [])) [(.tmp 8)], none, []⟩,
      ⟨(some 4), .mv (.tmp 74), none, []⟩])
    .ret)))))))))) }

def f_i_strconv_Itoa : AFunc :=
  { nparams := 1, ntmps := 5, pure := true, results := [.tmp 2],
    body := (.seq (.region [⟨(some 2), .mv (.val (.sc (.string ⟨#[]⟩))), none, []⟩])
    (.seq (.region [⟨(some 3), .mv (.tmp 0), none, []⟩,
      ⟨(some 4), .call (.val (.fn (.func 91) [] [])) [(.tmp 3), (.val (.sc (.int .i64 (10))))], none, []⟩,
      ⟨(some 2), .mv (.tmp 4), none, []⟩])
    .ret)) }

def f_strings_Builder_Grow : AFunc :=
  { nparams := 2, ntmps := 25, pure := false, results := [],
    body := (.seq (.region [⟨(some 4), .mv (.tmp 0), none, []⟩,
      ⟨(some 5), .call (.val (.fn (.func 64) [] [])) [(.tmp 4)], none, []⟩])
    (.seq (.seq (.region [⟨(some 6), .mv (.tmp 1), none, []⟩,
      ⟨(some 7), .bin .lss (.tmp 6) (.val (.sc (.int .i64 (0)))), none, []⟩])
    (.cond (.tmp 7)
      (.region [⟨(some 8), .makeIface 9 (.val (.sc (.string ⟨#[115, 116, 114, 105, 110, 103, 115, 46, 66, 117, 105, 108, 100, 101, 114, 46, 71, 114, 111, 119, 58, 32, 110, 101, 103, 97, 116, 105, 118, 101, 32, 99, 111, 117, 110, 116]⟩))), none, []⟩,
        ⟨none, .fail, none, []⟩])
      .skip))
    (.seq (.region [⟨(some 9), .mv (.tmp 0), none, []⟩,
      ⟨(some 10), .nilCheck (.tmp 9), none, []⟩,
      ⟨(some 11), .fieldAddr 1 (.tmp 10), none, []⟩,
      ⟨(some 12), .load none (.tmp 11), none, []⟩,
      ⟨(some 13), .cap (.tmp 12), none, []⟩,
      ⟨(some 14), .mv (.tmp 0), none, []⟩,
      ⟨(some 15), .nilCheck (.tmp 14), none, []⟩,
      ⟨(some 16), .fieldAddr 1 (.tmp 15), none, []⟩,
      ⟨(some 17), .load none (.tmp 16), none, []⟩,
      ⟨(some 18), .len (.tmp 17), none, []⟩,
      ⟨(some 19), .bin .sub (.tmp 13) (.tmp 18), none, []⟩,
      ⟨(some 20), .mv (.tmp 1), none, []⟩,
      ⟨(some 21), .bin .lss (.tmp 19) (.tmp 20), none, []⟩])
    (.cond (.tmp 21)
      (.region [⟨(some 22), .mv (.tmp 0), none, []⟩,
        ⟨(some 23), .mv (.tmp 1), none, []⟩,
        ⟨(some 24), .call (.val (.fn (.func 92) [] [])) [(.tmp 22), (.tmp 23)], none, []⟩])
      .skip)))) }

def f_i_strconv_FormatInt : AFunc :=
  { nparams := 2, ntmps := 54, pure := true, results := [.tmp 4],
    body := (.seq (.region [⟨(some 4), .mv (.val (.sc (.string ⟨#[]⟩))), none, []⟩])
    (.seq (.seq (.region [⟨(some 10), .mv (.tmp 1), none, []⟩,
      ⟨(some 11), .bin .eql (.tmp 10) (.val (.sc (.int .i64 (10)))), none, []⟩])
    (.cond (.tmp 11)
      (.seq (.seq (.region [⟨(some 12), .mv (.tmp 0), none, []⟩,
        ⟨(some 13), .bin .leq (.val (.sc (.int .i64 (0)))) (.tmp 12), none, []⟩,
        ⟨(some 14), .mv (.tmp 13), none, []⟩,
        ⟨(some 15), .mv (.tmp 0), (some (14, true)), []⟩,
        ⟨(some 16), .bin .lss (.tmp 15) (.val (.sc (.int .i64 (100)))), (some (14, true)), []⟩,
        ⟨(some 17), .pick (.tmp 14) (.tmp 16) (.val (.sc (.bool false))), none, []⟩])
      (.cond (.tmp 17)
        (.seq (.region [⟨(some 18), .mv (.tmp 0), none, []⟩,
          ⟨(some 19), .call (.val (.fn (.func 101) [] [])) [(.tmp 18)], none, []⟩,
          ⟨(some 4), .mv (.tmp 19), none, []⟩])
        .ret)
        .skip))
      (.seq (.region [⟨(some 5), .allocA 118 1 [(.sc (.int .u8 (0))), (.sc (.int .u8 (0))), (.sc (.int .u8 (0))), (.sc (.int .u8 (0))), (.sc (.int .u8 (0))), (.sc (.int .u8 (0))), (.sc (.int .u8 (0))), (.sc (.int .u8 (0))), (.sc (.int .u8 (0))), (.sc (.int .u8 (0))), (.sc (.int .u8 (0))), (.sc (.int .u8 (0))), (.sc (.int .u8 (0))), (.sc (.int .u8 (0))), (.sc (.int .u8 (0))), (.sc (.int .u8 (0))), (.sc (.int .u8 (0))), (.sc (.int .u8 (0))), (.sc (.int .u8 (0))), (.sc (.int .u8 (0))), (.sc (.int .u8 (0))), (.sc (.int .u8 (0))), (.sc (.int .u8 (0))), (.sc (.int .u8 (0)))], none, []⟩])
      (.seq (.region [⟨(some 20), .mv (.tmp 0), none, []⟩,
        ⟨(some 21), .conv .u64 (.tmp 20), none, []⟩,
        ⟨(some 6), .mv (.tmp 21), none, []⟩])
      (.seq (.seq (.region [⟨(some 22), .mv (.tmp 0), none, []⟩,
        ⟨(some 23), .bin .lss (.tmp 22) (.val (.sc (.int .i64 (0)))), none, []⟩])
      (.cond (.tmp 23)
        (.region [⟨(some 24), .mv (.tmp 6), none, []⟩,
          ⟨(some 25), .un .neg (.tmp 24), none, []⟩,
          ⟨(some 6), .mv (.tmp 25), none, []⟩])
        .skip))
      (.seq (.region [⟨(some 26), .mv (.tmp 6), none, []⟩,
        ⟨(some 27), .call (.val (.fn (.func 102) [] [])) [(.tmp 26)], none, []⟩,
        ⟨(some 7), .mv (.tmp 27), none, []⟩])
      (.seq (.region [⟨(some 28), .mv (.tmp 7), none, []⟩,
        ⟨(some 29), .bin .add (.val (.sc (.int .i64 (1)))) (.tmp 28), none, []⟩,
        ⟨(some 30), .sliceArr 24 1 (.tmp 5) (some (.val (.sc (.int .i64 (1))))) (some (.tmp 29)), none, []⟩,
        ⟨(some 31), .mv (.tmp 6), none, []⟩,
        ⟨(some 32), .call (.val (.fn (.func 103) [] [])) [(.tmp 30), (.tmp 31)], none, []⟩])
      (.seq (.seq (.region [⟨(some 33), .mv (.tmp 0), none, []⟩,
        ⟨(some 34), .bin .lss (.tmp 33) (.val (.sc (.int .i64 (0)))), none, []⟩])
      (.cond (.tmp 34)
        (.seq (.region [⟨(some 35), .indexA 24 1 (.tmp 5) (.val (.sc (.int .i64 (0)))), none, []⟩,
          ⟨none, .store 1 (.tmp 35) (.val (.sc (.int .u8 (45)))), none, []⟩])
        (.seq (.region [⟨(some 36), .mv (.tmp 7), none, []⟩,
          ⟨(some 37), .bin .add (.val (.sc (.int .i64 (1)))) (.tmp 36), none, []⟩,
          ⟨(some 38), .sliceArr 24 1 (.tmp 5) none (some (.tmp 37)), none, []⟩,
          ⟨(some 39), .strOf (.tmp 38), none, []⟩,
          ⟨(some 4), .mv (.tmp 39), none, []⟩])
        .ret))
        .skip))
      (.seq (.region [⟨(some 40), .mv (.tmp 7), none, []⟩,
        ⟨(some 41), .bin .add (.val (.sc (.int .i64 (1)))) (.tmp 40), none, []⟩,
        ⟨(some 42), .sliceArr 24 1 (.tmp 5) (some (.val (.sc (.int .i64 (1))))) (some (.tmp 41)), none, []⟩,
        ⟨(some 43), .strOf (.tmp 42), none, []⟩,
        ⟨(some 4), .mv (.tmp 43), none, []⟩])
      .ret))))))))
      .skip))
    (.seq (.region [⟨(some 45), .mv (.tmp 0), none, []⟩,
      ⟨(some 46), .conv .u64 (.tmp 45), none, []⟩,
      ⟨(some 47), .mv (.tmp 1), none, []⟩,
      ⟨(some 48), .mv (.tmp 0), none, []⟩,
      ⟨(some 49), .bin .lss (.tmp 48) (.val (.sc (.int .i64 (0)))), none, []⟩,
      ⟨(some 50), .call (.val (.fn (.func 104) [] [])) [(.val (.sc (.slice none 0 0))), (.tmp 46), (.tmp 47), (.tmp 49), (.val (.sc (.bool false)))], none, []⟩,
      ⟨(some 44), .mv (.tmp 50), none, []⟩,
      ⟨(some 51), .extract (.tmp 44) 0, none, []⟩,
      ⟨(some 52), .extract (.tmp 44) 1, none, []⟩,
      ⟨(some 8), .mv (.tmp 51), none, []⟩,
      ⟨(some 9), .mv (.tmp 52), none, []⟩])
    (.seq (.region [⟨(some 53), .mv (.tmp 9), none, []⟩,
      ⟨(some 4), .mv (.tmp 53), none, []⟩])
    .ret)))) }

def f_strings_Builder_grow : AFunc :=
  { nparams := 2, ntmps := 30, pure := false, results := [],
    body := (.seq (.region [⟨(some 5), .mv (.tmp 0), none, []⟩,
      ⟨(some 6), .nilCheck (.tmp 5), none, []⟩,
      ⟨(some 7), .fieldAddr 1 (.tmp 6), none, []⟩,
      ⟨(some 8), .load none (.tmp 7), none, []⟩,
      ⟨(some 9), .cap (.tmp 8), none, []⟩,
      ⟨(some 10), .bin .mul (.val (.sc (.int .i64 (2)))) (.tmp 9), none, []⟩,
      ⟨(some 11), .mv (.tmp 1), none, []⟩,
      ⟨(some 12), .bin .add (.tmp 10) (.tmp 11), none, []⟩,
      ⟨(some 14), .mv (.tmp 0), none, []⟩,
      ⟨(some 15), .nilCheck (.tmp 14), none, []⟩,
      ⟨(some 16), .fieldAddr 1 (.tmp 15), none, []⟩,
      ⟨(some 17), .load none (.tmp 16), none, []⟩,
      ⟨(some 18), .len (.tmp 17), none, []⟩,
      ⟨(some 13), .call (.val (.fn (.func 105) [] [])) [(.tmp 12)], none, []⟩,
      ⟨(some 19), .slice 1 (.tmp 13) none (some (.tmp 18)) none, none, []⟩,
      ⟨(some 4), .mv (.tmp 19), none, []⟩])
    (.seq (.region [⟨(some 20), .mv (.tmp 4), none, []⟩,
      ⟨(some 21), .mv (.tmp 0), none, []⟩,
      ⟨(some 22), .nilCheck (.tmp 21), none, []⟩,
      ⟨(some 23), .fieldAddr 1 (.tmp 22), none, []⟩,
      ⟨(some 24), .load none (.tmp 23), none, []⟩,
      ⟨(some 25), .copy 1 (.tmp 20) (.tmp 24), none, []⟩])
    (.region [⟨(some 26), .mv (.tmp 0), none, []⟩,
      ⟨(some 27), .mv (.tmp 4), none, []⟩,
      ⟨(some 28), .nilCheck (.tmp 26), none, []⟩,
      ⟨(some 29), .fieldAddr 1 (.tmp 28), none, []⟩,
      ⟨none, .store 1 (.tmp 29) (.tmp 27), none, []⟩]))) }

def f_i_strconv_small : AFunc :=
  { nparams := 1, ntmps := 15, pure := true, results := [.tmp 2],
    body := (.seq (.region [⟨(some 2), .mv (.val (.sc (.string ⟨#[]⟩))), none, []⟩])
    (.seq (.seq (.region [⟨(some 3), .mv (.tmp 0), none, []⟩,
      ⟨(some 4), .bin .lss (.tmp 3) (.val (.sc (.int .i64 (10)))), none, []⟩])
    (.cond (.tmp 4)
      (.seq (.region [⟨(some 5), .mv (.tmp 0), none, []⟩,
        ⟨(some 6), .mv (.tmp 0), none, []⟩,
        ⟨(some 7), .bin .add (.tmp 6) (.val (.sc (.int .i64 (1)))), none, []⟩,
        ⟨(some 8), .sliceStr (.val (.sc (.string ⟨#[48, 49, 50, 51, 52, 53, 54, 55, 56, 57, 97, 98, 99, 100, 101, 102, 103, 104, 105, 106, 107, 108, 109, 110, 111, 112, 113, 114, 115, 116, 117, 118, 119, 120, 121, 122]⟩))) (some (.tmp 5)) (some (.tmp 7)), none, []⟩,
        ⟨(some 2), .mv (.tmp 8), none, []⟩])
      .ret)
      .skip))
    (.seq (.region [⟨(some 9), .mv (.tmp 0), none, []⟩,
      ⟨(some 10), .bin .mul (.tmp 9) (.val (.sc (.int .i64 (2)))), none, []⟩,
      ⟨(some 11), .mv (.tmp 0), none, []⟩,
      ⟨(some 12), .bin .mul (.tmp 11) (.val (.sc (.int .i64 (2)))), none, []⟩,
      ⟨(some 13), .bin .add (.tmp 12) (.val (.sc (.int .i64 (2)))), none, []⟩,
      ⟨(some 14), .sliceStr (.val (.sc (.string ⟨#[48, 48, 48, 49, 48, 50, 48, 51, 48, 52, 48, 53, 48, 54, 48, 55, 48, 56, 48, 57, 49, 48, 49, 49, 49, 50, 49, 51, 49, 52, 49, 53, 49, 54, 49, 55, 49, 56, 49, 57, 50, 48, 50, 49, 50, 50, 50, 51, 50, 52, 50, 53, 50, 54, 50, 55, 50, 56, 50, 57, 51, 48, 51, 49, 51, 50, 51, 51, 51, 52, 51, 53, 51, 54, 51, 55, 51, 56, 51, 57, 52, 48, 52, 49, 52, 50, 52, 51, 52, 52, 52, 53, 52, 54, 52, 55, 52, 56, 52, 57, 53, 48, 53, 49, 53, 50, 53, 51, 53, 52, 53, 53, 53, 54, 53, 55, 53, 56, 53, 57, 54, 48, 54, 49, 54, 50, 54, 51, 54, 52, 54, 53, 54, 54, 54, 55, 54, 56, 54, 57, 55, 48, 55, 49, 55, 50, 55, 51, 55, 52, 55, 53, 55, 54, 55, 55, 55, 56, 55, 57, 56, 48, 56, 49, 56, 50, 56, 51, 56, 52, 56, 53, 56, 54, 56, 55, 56, 56, 56, 57, 57, 48, 57, 49, 57, 50, 57, 51, 57, 52, 57, 53, 57, 54, 57, 55, 57, 56, 57, 57]⟩))) (some (.tmp 10)) (some (.tmp 13)), none, []⟩,
      ⟨(some 2), .mv (.tmp 14), none, []⟩])
    .ret))) }

def f_i_strconv_numDigits : AFunc :=
  { nparams := 1, ntmps := 15, pure := true, results := [.tmp 2],
    body := (.seq (.region [⟨(some 2), .mv (.val (.sc (.int .i64 (0)))), none, []⟩])
    (.seq (.region [⟨(some 4), .mv (.tmp 0), none, []⟩,
      ⟨(some 5), .call (.val (.fn (.func 113) [] [])) [(.tmp 4)], none, []⟩,
      ⟨(some 6), .call (.val (.fn (.func 112) [] [])) [(.tmp 5)], none, []⟩,
      ⟨(some 3), .mv (.tmp 6), none, []⟩])
    (.seq (.region [⟨(some 7), .mv (.tmp 3), none, []⟩,
      ⟨(some 8), .mv (.tmp 0), none, []⟩,
      ⟨(some 9), .mv (.tmp 3), none, []⟩,
      ⟨(some 10), .indexA 20 1 (.val (.eptr g6 0)) (.tmp 9), none, []⟩,
      ⟨(some 11), .load none (.tmp 10), none, []⟩,
      ⟨(some 12), .bin .geq (.tmp 8) (.tmp 11), none, []⟩,
      ⟨(some 13), .call (.val (.fn (.func 114) [] [])) [(.tmp 12)], none, []⟩,
      ⟨(some 14), .bin .add (.tmp 7) (.tmp 13), none, []⟩,
      ⟨(some 2), .mv (.tmp 14), none, []⟩])
    .ret))) }

def f_i_strconv_formatBase10 : AFunc :=
  { nparams := 2, ntmps := 167, pure := true, results := [],
    body := (.seq (.region [⟨(some 17), .mv (.tmp 0), none, []⟩,
      ⟨(some 18), .len (.tmp 17), none, []⟩,
      ⟨(some 4), .mv (.tmp 18), none, []⟩])
    (.seq (.block 0 (.loop (.seq (.seq (.region [⟨(some 19), .mv (.tmp 4), none, []⟩,
          ⟨(some 20), .bin .geq (.tmp 19) (.val (.sc (.int .i64 (8)))), none, []⟩])
        (.cond (.tmp 20)
          .skip
          (.exit 0)))
        (.block 1 (.seq (.region [⟨(some 21), .mv (.tmp 1), none, []⟩,
            ⟨(some 22), .bin .rem (.tmp 21) (.val (.sc (.int .u64 (100000000)))), none, []⟩,
            ⟨(some 23), .conv .u32 (.tmp 22), none, []⟩,
            ⟨(some 5), .mv (.tmp 23), none, []⟩])
          (.seq (.region [⟨(some 24), .mv (.tmp 1), none, []⟩,
            ⟨(some 25), .bin .quo (.tmp 24) (.val (.sc (.int .u64 (100000000)))), none, []⟩,
            ⟨(some 1), .mv (.tmp 25), none, []⟩])
          (.seq (.region [⟨(some 26), .mv (.tmp 5), none, []⟩,
            ⟨(some 27), .bin .quo (.tmp 26) (.val (.sc (.int .u32 (10000)))), none, []⟩,
            ⟨(some 28), .mv (.tmp 5), none, []⟩,
            ⟨(some 29), .bin .rem (.tmp 28) (.val (.sc (.int .u32 (10000)))), none, []⟩,
            ⟨(some 6), .mv (.tmp 27), none, []⟩,
            ⟨(some 7), .mv (.tmp 29), none, []⟩])
          (.seq (.region [⟨(some 30), .mv (.tmp 7), none, []⟩,
            ⟨(some 31), .bin .quo (.tmp 30) (.val (.sc (.int .u32 (100)))), none, []⟩,
            ⟨(some 32), .bin .mul (.tmp 31) (.val (.sc (.int .u32 (2)))), none, []⟩,
            ⟨(some 33), .mv (.tmp 7), none, []⟩,
            ⟨(some 34), .bin .rem (.tmp 33) (.val (.sc (.int .u32 (100)))), none, []⟩,
            ⟨(some 35), .bin .mul (.tmp 34) (.val (.sc (.int .u32 (2)))), none, []⟩,
            ⟨(some 8), .mv (.tmp 32), none, []⟩,
            ⟨(some 9), .mv (.tmp 35), none, []⟩])
          (.seq (.region [⟨(some 36), .mv (.tmp 6), none, []⟩,
            ⟨(some 37), .bin .quo (.tmp 36) (.val (.sc (.int .u32 (100)))), none, []⟩,
            ⟨(some 38), .bin .mul (.tmp 37) (.val (.sc (.int .u32 (2)))), none, []⟩,
            ⟨(some 39), .mv (.tmp 6), none, []⟩,
            ⟨(some 40), .bin .rem (.tmp 39) (.val (.sc (.int .u32 (100)))), none, []⟩,
            ⟨(some 41), .bin .mul (.tmp 40) (.val (.sc (.int .u32 (2)))), none, []⟩,
            ⟨(some 10), .mv (.tmp 38), none, []⟩,
            ⟨(some 11), .mv (.tmp 41), none, []⟩])
          (.seq (.region [⟨(some 42), .mv (.tmp 0), none, []⟩,
            ⟨(some 43), .mv (.tmp 4), none, []⟩,
            ⟨(some 44), .bin .sub (.tmp 43) (.val (.sc (.int .i64 (1)))), none, []⟩,
            ⟨(some 45), .mv (.tmp 0), none, []⟩,
            ⟨(some 46), .mv (.tmp 4), none, []⟩,
            ⟨(some 47), .bin .sub (.tmp 46) (.val (.sc (.int .i64 (2)))), none, []⟩,
            ⟨(some 48), .mv (.tmp 9), none, []⟩,
            ⟨(some 49), .bin .add (.tmp 48) (.val (.sc (.int .u32 (1)))), none, []⟩,
            ⟨(some 50), .idxStr (.val (.sc (.string ⟨#[48, 48, 48, 49, 48, 50, 48, 51, 48, 52, 48, 53, 48, 54, 48, 55, 48, 56, 48, 57, 49, 48, 49, 49, 49, 50, 49, 51, 49, 52, 49, 53, 49, 54, 49, 55, 49, 56, 49, 57, 50, 48, 50, 49, 50, 50, 50, 51, 50, 52, 50, 53, 50, 54, 50, 55, 50, 56, 50, 57, 51, 48, 51, 49, 51, 50, 51, 51, 51, 52, 51, 53, 51, 54, 51, 55, 51, 56, 51, 57, 52, 48, 52, 49, 52, 50, 52, 51, 52, 52, 52, 53, 52, 54, 52, 55, 52, 56, 52, 57, 53, 48, 53, 49, 53, 50, 53, 51, 53, 52, 53, 53, 53, 54, 53, 55, 53, 56, 53, 57, 54, 48, 54, 49, 54, 50, 54, 51, 54, 52, 54, 53, 54, 54, 54, 55, 54, 56, 54, 57, 55, 48, 55, 49, 55, 50, 55, 51, 55, 52, 55, 53, 55, 54, 55, 55, 55, 56, 55, 57, 56, 48, 56, 49, 56, 50, 56, 51, 56, 52, 56, 53, 56, 54, 56, 55, 56, 56, 56, 57, 57, 48, 57, 49, 57, 50, 57, 51, 57, 52, 57, 53, 57, 54, 57, 55, 57, 56, 57, 57]⟩))) (.tmp 49), none, []⟩,
            ⟨(some 51), .mv (.tmp 9), none, []⟩,
            ⟨(some 52), .idxStr (.val (.sc (.string ⟨#[48, 48, 48, 49, 48, 50, 48, 51, 48, 52, 48, 53, 48, 54, 48, 55, 48, 56, 48, 57, 49, 48, 49, 49, 49, 50, 49, 51, 49, 52, 49, 53, 49, 54, 49, 55, 49, 56, 49, 57, 50, 48, 50, 49, 50, 50, 50, 51, 50, 52, 50, 53, 50, 54, 50, 55, 50, 56, 50, 57, 51, 48, 51, 49, 51, 50, 51, 51, 51, 52, 51, 53, 51, 54, 51, 55, 51, 56, 51, 57, 52, 48, 52, 49, 52, 50, 52, 51, 52, 52, 52, 53, 52, 54, 52, 55, 52, 56, 52, 57, 53, 48, 53, 49, 53, 50, 53, 51, 53, 52, 53, 53, 53, 54, 53, 55, 53, 56, 53, 57, 54, 48, 54, 49, 54, 50, 54, 51, 54, 52, 54, 53, 54, 54, 54, 55, 54, 56, 54, 57, 55, 48, 55, 49, 55, 50, 55, 51, 55, 52, 55, 53, 55, 54, 55, 55, 55, 56, 55, 57, 56, 48, 56, 49, 56, 50, 56, 51, 56, 52, 56, 53, 56, 54, 56, 55, 56, 56, 56, 57, 57, 48, 57, 49, 57, 50, 57, 51, 57, 52, 57, 53, 57, 54, 57, 55, 57, 56, 57, 57]⟩))) (.tmp 51), none, []⟩,
            ⟨(some 53), .indexS 1 (.tmp 42) (.tmp 44), none, []⟩,
            ⟨none, .store 1 (.tmp 53) (.tmp 50), none, []⟩,
            ⟨(some 54), .indexS 1 (.tmp 45) (.tmp 47), none, []⟩,
            ⟨none, .store 1 (.tmp 54) (.tmp 52), none, []⟩])
          (.seq (.region [⟨(some 55), .mv (.tmp 0), none, []⟩,
            ⟨(some 56), .mv (.tmp 4), none, []⟩,
            ⟨(some 57), .bin .sub (.tmp 56) (.val (.sc (.int .i64 (3)))), none, []⟩,
            ⟨(some 58), .mv (.tmp 0), none, []⟩,
            ⟨(some 59), .mv (.tmp 4), none, []⟩,
            ⟨(some 60), .bin .sub (.tmp 59) (.val (.sc (.int .i64 (4)))), none, []⟩,
            ⟨(some 61), .mv (.tmp 8), none, []⟩,
            ⟨(some 62), .bin .add (.tmp 61) (.val (.sc (.int .u32 (1)))), none, []⟩,
            ⟨(some 63), .idxStr (.val (.sc (.string ⟨#[48, 48, 48, 49, 48, 50, 48, 51, 48, 52, 48, 53, 48, 54, 48, 55, 48, 56, 48, 57, 49, 48, 49, 49, 49, 50, 49, 51, 49, 52, 49, 53, 49, 54, 49, 55, 49, 56, 49, 57, 50, 48, 50, 49, 50, 50, 50, 51, 50, 52, 50, 53, 50, 54, 50, 55, 50, 56, 50, 57, 51, 48, 51, 49, 51, 50, 51, 51, 51, 52, 51, 53, 51, 54, 51, 55, 51, 56, 51, 57, 52, 48, 52, 49, 52, 50, 52, 51, 52, 52, 52, 53, 52, 54, 52, 55, 52, 56, 52, 57, 53, 48, 53, 49, 53, 50, 53, 51, 53, 52, 53, 53, 53, 54, 53, 55, 53, 56, 53, 57, 54, 48, 54, 49, 54, 50, 54, 51, 54, 52, 54, 53, 54, 54, 54, 55, 54, 56, 54, 57, 55, 48, 55, 49, 55, 50, 55, 51, 55, 52, 55, 53, 55, 54, 55, 55, 55, 56, 55, 57, 56, 48, 56, 49, 56, 50, 56, 51, 56, 52, 56, 53, 56, 54, 56, 55, 56, 56, 56, 57, 57, 48, 57, 49, 57, 50, 57, 51, 57, 52, 57, 53, 57, 54, 57, 55, 57, 56, 57, 57]⟩))) (.tmp 62), none, []⟩,
            ⟨(some 64), .mv (.tmp 8), none, []⟩,
            ⟨(some 65), .idxStr (.val (.sc (.string ⟨#[48, 48, 48, 49, 48, 50, 48, 51, 48, 52, 48, 53, 48, 54, 48, 55, 48, 56, 48, 57, 49, 48, 49, 49, 49, 50, 49, 51, 49, 52, 49, 53, 49, 54, 49, 55, 49, 56, 49, 57, 50, 48, 50, 49, 50, 50, 50, 51, 50, 52, 50, 53, 50, 54, 50, 55, 50, 56, 50, 57, 51, 48, 51, 49, 51, 50, 51, 51, 51, 52, 51, 53, 51, 54, 51, 55, 51, 56, 51, 57, 52, 48, 52, 49, 52, 50, 52, 51, 52, 52, 52, 53, 52, 54, 52, 55, 52, 56, 52, 57, 53, 48, 53, 49, 53, 50, 53, 51, 53, 52, 53, 53, 53, 54, 53, 55, 53, 56, 53, 57, 54, 48, 54, 49, 54, 50, 54, 51, 54, 52, 54, 53, 54, 54, 54, 55, 54, 56, 54, 57, 55, 48, 55, 49, 55, 50, 55, 51, 55, 52, 55, 53, 55, 54, 55, 55, 55, 56, 55, 57, 56, 48, 56, 49, 56, 50, 56, 51, 56, 52, 56, 53, 56, 54, 56, 55, 56, 56, 56, 57, 57, 48, 57, 49, 57, 50, 57, 51, 57, 52, 57, 53, 57, 54, 57, 55, 57, 56, 57, 57]⟩))) (.tmp 64), none, []⟩,
            ⟨(some 66), .indexS 1 (.tmp 55) (.tmp 57), none, []⟩,
            ⟨none, .store 1 (.tmp 66) (.tmp 63), none, []⟩,
            ⟨(some 67), .indexS 1 (.tmp 58) (.tmp 60), none, []⟩,
            ⟨none, .store 1 (.tmp 67) (.tmp 65), none, []⟩])
          (.seq (.region [⟨(some 68), .mv (.tmp 0), none, []⟩,
            ⟨(some 69), .mv (.tmp 4), none, []⟩,
            ⟨(some 70), .bin .sub (.tmp 69) (.val (.sc (.int .i64 (5)))), none, []⟩,
            ⟨(some 71), .mv (.tmp 0), none, []⟩,
            ⟨(some 72), .mv (.tmp 4), none, []⟩,
            ⟨(some 73), .bin .sub (.tmp 72) (.val (.sc (.int .i64 (6)))), none, []⟩,
            ⟨(some 74), .mv (.tmp 11), none, []⟩,
            ⟨(some 75), .bin .add (.tmp 74) (.val (.sc (.int .u32 (1)))), none, []⟩,
            ⟨(some 76), .idxStr (.val (.sc (.string ⟨#[48, 48, 48, 49, 48, 50, 48, 51, 48, 52, 48, 53, 48, 54, 48, 55, 48, 56, 48, 57, 49, 48, 49, 49, 49, 50, 49, 51, 49, 52, 49, 53, 49, 54, 49, 55, 49, 56, 49, 57, 50, 48, 50, 49, 50, 50, 50, 51, 50, 52, 50, 53, 50, 54, 50, 55, 50, 56, 50, 57, 51, 48, 51, 49, 51, 50, 51, 51, 51, 52, 51, 53, 51, 54, 51, 55, 51, 56, 51, 57, 52, 48, 52, 49, 52, 50, 52, 51, 52, 52, 52, 53, 52, 54, 52, 55, 52, 56, 52, 57, 53, 48, 53, 49, 53, 50, 53, 51, 53, 52, 53, 53, 53, 54, 53, 55, 53, 56, 53, 57, 54, 48, 54, 49, 54, 50, 54, 51, 54, 52, 54, 53, 54, 54, 54, 55, 54, 56, 54, 57, 55, 48, 55, 49, 55, 50, 55, 51, 55, 52, 55, 53, 55, 54, 55, 55, 55, 56, 55, 57, 56, 48, 56, 49, 56, 50, 56, 51, 56, 52, 56, 53, 56, 54, 56, 55, 56, 56, 56, 57, 57, 48, 57, 49, 57, 50, 57, 51, 57, 52, 57, 53, 57, 54, 57, 55, 57, 56, 57, 57]⟩))) (.tmp 75), none, []⟩,
            ⟨(some 77), .mv (.tmp 11), none, []⟩,
            ⟨(some 78), .idxStr (.val (.sc (.string ⟨#[48, 48, 48, 49, 48, 50, 48, 51, 48, 52, 48, 53, 48, 54, 48, 55, 48, 56, 48, 57, 49, 48, 49, 49, 49, 50, 49, 51, 49, 52, 49, 53, 49, 54, 49, 55, 49, 56, 49, 57, 50, 48, 50, 49, 50, 50, 50, 51, 50, 52, 50, 53, 50, 54, 50, 55, 50, 56, 50, 57, 51, 48, 51, 49, 51, 50, 51, 51, 51, 52, 51, 53, 51, 54, 51, 55, 51, 56, 51, 57, 52, 48, 52, 49, 52, 50, 52, 51, 52, 52, 52, 53, 52, 54, 52, 55, 52, 56, 52, 57, 53, 48, 53, 49, 53, 50, 53, 51, 53, 52, 53, 53, 53, 54, 53, 55, 53, 56, 53, 57, 54, 48, 54, 49, 54, 50, 54, 51, 54, 52, 54, 53, 54, 54, 54, 55, 54, 56, 54, 57, 55, 48, 55, 49, 55, 50, 55, 51, 55, 52, 55, 53, 55, 54, 55, 55, 55, 56, 55, 57, 56, 48, 56, 49, 56, 50, 56, 51, 56, 52, 56, 53, 56, 54, 56, 55, 56, 56, 56, 57, 57, 48, 57, 49, 57, 50, 57, 51, 57, 52, 57, 53, 57, 54, 57, 55, 57, 56, 57, 57]⟩))) (.tmp 77), none, []⟩,
            ⟨(some 79), .indexS 1 (.tmp 68) (.tmp 70), none, []⟩,
            ⟨none, .store 1 (.tmp 79) (.tmp 76), none, []⟩,
            ⟨(some 80), .indexS 1 (.tmp 71) (.tmp 73), none, []⟩,
            ⟨none, .store 1 (.tmp 80) (.tmp 78), none, []⟩])
          (.seq (.region [⟨(some 81), .mv (.tmp 0), none, []⟩,
            ⟨(some 82), .mv (.tmp 4), none, []⟩,
            ⟨(some 83), .bin .sub (.tmp 82) (.val (.sc (.int .i64 (7)))), none, []⟩,
            ⟨(some 84), .mv (.tmp 0), none, []⟩,
            ⟨(some 85), .mv (.tmp 4), none, []⟩,
            ⟨(some 86), .bin .sub (.tmp 85) (.val (.sc (.int .i64 (8)))), none, []⟩,
            ⟨(some 87), .mv (.tmp 10), none, []⟩,
            ⟨(some 88), .bin .add (.tmp 87) (.val (.sc (.int .u32 (1)))), none, []⟩,
            ⟨(some 89), .idxStr (.val (.sc (.string ⟨#[48, 48, 48, 49, 48, 50, 48, 51, 48, 52, 48, 53, 48, 54, 48, 55, 48, 56, 48, 57, 49, 48, 49, 49, 49, 50, 49, 51, 49, 52, 49, 53, 49, 54, 49, 55, 49, 56, 49, 57, 50, 48, 50, 49, 50, 50, 50, 51, 50, 52, 50, 53, 50, 54, 50, 55, 50, 56, 50, 57, 51, 48, 51, 49, 51, 50, 51, 51, 51, 52, 51, 53, 51, 54, 51, 55, 51, 56, 51, 57, 52, 48, 52, 49, 52, 50, 52, 51, 52, 52, 52, 53, 52, 54, 52, 55, 52, 56, 52, 57, 53, 48, 53, 49, 53, 50, 53, 51, 53, 52, 53, 53, 53, 54, 53, 55, 53, 56, 53, 57, 54, 48, 54, 49, 54, 50, 54, 51, 54, 52, 54, 53, 54, 54, 54, 55, 54, 56, 54, 57, 55, 48, 55, 49, 55, 50, 55, 51, 55, 52, 55, 53, 55, 54, 55, 55, 55, 56, 55, 57, 56, 48, 56, 49, 56, 50, 56, 51, 56, 52, 56, 53, 56, 54, 56, 55, 56, 56, 56, 57, 57, 48, 57, 49, 57, 50, 57, 51, 57, 52, 57, 53, 57, 54, 57, 55, 57, 56, 57, 57]⟩))) (.tmp 88), none, []⟩,
            ⟨(some 90), .mv (.tmp 10), none, []⟩,
            ⟨(some 91), .idxStr (.val (.sc (.string ⟨#[48, 48, 48, 49, 48, 50, 48, 51, 48, 52, 48, 53, 48, 54, 48, 55, 48, 56, 48, 57, 49, 48, 49, 49, 49, 50, 49, 51, 49, 52, 49, 53, 49, 54, 49, 55, 49, 56, 49, 57, 50, 48, 50, 49, 50, 50, 50, 51, 50, 52, 50, 53, 50, 54, 50, 55, 50, 56, 50, 57, 51, 48, 51, 49, 51, 50, 51, 51, 51, 52, 51, 53, 51, 54, 51, 55, 51, 56, 51, 57, 52, 48, 52, 49, 52, 50, 52, 51, 52, 52, 52, 53, 52, 54, 52, 55, 52, 56, 52, 57, 53, 48, 53, 49, 53, 50, 53, 51, 53, 52, 53, 53, 53, 54, 53, 55, 53, 56, 53, 57, 54, 48, 54, 49, 54, 50, 54, 51, 54, 52, 54, 53, 54, 54, 54, 55, 54, 56, 54, 57, 55, 48, 55, 49, 55, 50, 55, 51, 55, 52, 55, 53, 55, 54, 55, 55, 55, 56, 55, 57, 56, 48, 56, 49, 56, 50, 56, 51, 56, 52, 56, 53, 56, 54, 56, 55, 56, 56, 56, 57, 57, 48, 57, 49, 57, 50, 57, 51, 57, 52, 57, 53, 57, 54, 57, 55, 57, 56, 57, 57]⟩))) (.tmp 90), none, []⟩,
            ⟨(some 92), .indexS 1 (.tmp 81) (.tmp 83), none, []⟩,
            ⟨none, .store 1 (.tmp 92) (.tmp 89), none, []⟩,
            ⟨(some 93), .indexS 1 (.tmp 84) (.tmp 86), none, []⟩,
            ⟨none, .store 1 (.tmp 93) (.tmp 91), none, []⟩])
          (.region [⟨(some 94), .mv (.tmp 4), none, []⟩,
            ⟨(some 95), .bin .sub (.tmp 94) (.val (.sc (.int .i64 (8)))), none, []⟩,
            ⟨(some 4), .mv (.tmp 95), none, []⟩]))))))))))))))
    (.seq (.region [⟨(some 96), .mv (.tmp 1), none, []⟩,
      ⟨(some 97), .conv .u32 (.tmp 96), none, []⟩,
      ⟨(some 12), .mv (.tmp 97), none, []⟩])
    (.seq (.seq (.region [⟨(some 98), .mv (.tmp 4), none, []⟩,
      ⟨(some 99), .bin .geq (.tmp 98) (.val (.sc (.int .i64 (4)))), none, []⟩])
    (.cond (.tmp 99)
      (.seq (.region [⟨(some 100), .mv (.tmp 12), none, []⟩,
        ⟨(some 101), .bin .rem (.tmp 100) (.val (.sc (.int .u32 (10000)))), none, []⟩,
        ⟨(some 13), .mv (.tmp 101), none, []⟩])
      (.seq (.region [⟨(some 102), .mv (.tmp 12), none, []⟩,
        ⟨(some 103), .bin .quo (.tmp 102) (.val (.sc (.int .u32 (10000)))), none, []⟩,
        ⟨(some 12), .mv (.tmp 103), none, []⟩])
      (.seq (.region [⟨(some 104), .mv (.tmp 13), none, []⟩,
        ⟨(some 105), .bin .quo (.tmp 104) (.val (.sc (.int .u32 (100)))), none, []⟩,
        ⟨(some 106), .bin .mul (.tmp 105) (.val (.sc (.int .u32 (2)))), none, []⟩,
        ⟨(some 107), .mv (.tmp 13), none, []⟩,
        ⟨(some 108), .bin .rem (.tmp 107) (.val (.sc (.int .u32 (100)))), none, []⟩,
        ⟨(some 109), .bin .mul (.tmp 108) (.val (.sc (.int .u32 (2)))), none, []⟩,
        ⟨(some 14), .mv (.tmp 106), none, []⟩,
        ⟨(some 15), .mv (.tmp 109), none, []⟩])
      (.seq (.region [⟨(some 110), .mv (.tmp 0), none, []⟩,
        ⟨(some 111), .mv (.tmp 4), none, []⟩,
        ⟨(some 112), .bin .sub (.tmp 111) (.val (.sc (.int .i64 (1)))), none, []⟩,
        ⟨(some 113), .mv (.tmp 0), none, []⟩,
        ⟨(some 114), .mv (.tmp 4), none, []⟩,
        ⟨(some 115), .bin .sub (.tmp 114) (.val (.sc (.int .i64 (2)))), none, []⟩,
        ⟨(some 116), .mv (.tmp 15), none, []⟩,
        ⟨(some 117), .bin .add (.tmp 116) (.val (.sc (.int .u32 (1)))), none, []⟩,
        ⟨(some 118), .idxStr (.val (.sc (.string ⟨#[48, 48, 48, 49, 48, 50, 48, 51, 48, 52, 48, 53, 48, 54, 48, 55, 48, 56, 48, 57, 49, 48, 49, 49, 49, 50, 49, 51, 49, 52, 49, 53, 49, 54, 49, 55, 49, 56, 49, 57, 50, 48, 50, 49, 50, 50, 50, 51, 50, 52, 50, 53, 50, 54, 50, 55, 50, 56, 50, 57, 51, 48, 51, 49, 51, 50, 51, 51, 51, 52, 51, 53, 51, 54, 51, 55, 51, 56, 51, 57, 52, 48, 52, 49, 52, 50, 52, 51, 52, 52, 52, 53, 52, 54, 52, 55, 52, 56, 52, 57, 53, 48, 53, 49, 53, 50, 53, 51, 53, 52, 53, 53, 53, 54, 53, 55, 53, 56, 53, 57, 54, 48, 54, 49, 54, 50, 54, 51, 54, 52, 54, 53, 54, 54, 54, 55, 54, 56, 54, 57, 55, 48, 55, 49, 55, 50, 55, 51, 55, 52, 55, 53, 55, 54, 55, 55, 55, 56, 55, 57, 56, 48, 56, 49, 56, 50, 56, 51, 56, 52, 56, 53, 56, 54, 56, 55, 56, 56, 56, 57, 57, 48, 57, 49, 57, 50, 57, 51, 57, 52, 57, 53, 57, 54, 57, 55, 57, 56, 57, 57]⟩))) (.tmp 117), none, []⟩,
        ⟨(some 119), .mv (.tmp 15), none, []⟩,
        ⟨(some 120), .idxStr (.val (.sc (.string ⟨#[48, 48, 48, 49, 48, 50, 48, 51, 48, 52, 48, 53, 48, 54, 48, 55, 48, 56, 48, 57, 49, 48, 49, 49, 49, 50, 49, 51, 49, 52, 49, 53, 49, 54, 49, 55, 49, 56, 49, 57, 50, 48, 50, 49, 50, 50, 50, 51, 50, 52, 50, 53, 50, 54, 50, 55, 50, 56, 50, 57, 51, 48, 51, 49, 51, 50, 51, 51, 51, 52, 51, 53, 51, 54, 51, 55, 51, 56, 51, 57, 52, 48, 52, 49, 52, 50, 52, 51, 52, 52, 52, 53, 52, 54, 52, 55, 52, 56, 52, 57, 53, 48, 53, 49, 53, 50, 53, 51, 53, 52, 53, 53, 53, 54, 53, 55, 53, 56, 53, 57, 54, 48, 54, 49, 54, 50, 54, 51, 54, 52, 54, 53, 54, 54, 54, 55, 54, 56, 54, 57, 55, 48, 55, 49, 55, 50, 55, 51, 55, 52, 55, 53, 55, 54, 55, 55, 55, 56, 55, 57, 56, 48, 56, 49, 56, 50, 56, 51, 56, 52, 56, 53, 56, 54, 56, 55, 56, 56, 56, 57, 57, 48, 57, 49, 57, 50, 57, 51, 57, 52, 57, 53, 57, 54, 57, 55, 57, 56, 57, 57]⟩))) (.tmp 119), none, []⟩,
        ⟨(some 121), .indexS 1 (.tmp 110) (.tmp 112), none, []⟩,
        ⟨none, .store 1 (.tmp 121) (.tmp 118), none, []⟩,
        ⟨(some 122), .indexS 1 (.tmp 113) (.tmp 115), none, []⟩,
        ⟨none, .store 1 (.tmp 122) (.tmp 120), none, []⟩])
      (.seq (.region [⟨(some 123), .mv (.tmp 0), none, []⟩,
        ⟨(some 124), .mv (.tmp 4), none, []⟩,
        ⟨(some 125), .bin .sub (.tmp 124) (.val (.sc (.int .i64 (3)))), none, []⟩,
        ⟨(some 126), .mv (.tmp 0), none, []⟩,
        ⟨(some 127), .mv (.tmp 4), none, []⟩,
        ⟨(some 128), .bin .sub (.tmp 127) (.val (.sc (.int .i64 (4)))), none, []⟩,
        ⟨(some 129), .mv (.tmp 14), none, []⟩,
        ⟨(some 130), .bin .add (.tmp 129) (.val (.sc (.int .u32 (1)))), none, []⟩,
        ⟨(some 131), .idxStr (.val (.sc (.string ⟨#[48, 48, 48, 49, 48, 50, 48, 51, 48, 52, 48, 53, 48, 54, 48, 55, 48, 56, 48, 57, 49, 48, 49, 49, 49, 50, 49, 51, 49, 52, 49, 53, 49, 54, 49, 55, 49, 56, 49, 57, 50, 48, 50, 49, 50, 50, 50, 51, 50, 52, 50, 53, 50, 54, 50, 55, 50, 56, 50, 57, 51, 48, 51, 49, 51, 50, 51, 51, 51, 52, 51, 53, 51, 54, 51, 55, 51, 56, 51, 57, 52, 48, 52, 49, 52, 50, 52, 51, 52, 52, 52, 53, 52, 54, 52, 55, 52, 56, 52, 57, 53, 48, 53, 49, 53, 50, 53, 51, 53, 52, 53, 53, 53, 54, 53, 55, 53, 56, 53, 57, 54, 48, 54, 49, 54, 50, 54, 51, 54, 52, 54, 53, 54, 54, 54, 55, 54, 56, 54, 57, 55, 48, 55, 49, 55, 50, 55, 51, 55, 52, 55, 53, 55, 54, 55, 55, 55, 56, 55, 57, 56, 48, 56, 49, 56, 50, 56, 51, 56, 52, 56, 53, 56, 54, 56, 55, 56, 56, 56, 57, 57, 48, 57, 49, 57, 50, 57, 51, 57, 52, 57, 53, 57, 54, 57, 55, 57, 56, 57, 57]⟩))) (.tmp 130), none, []⟩,
        ⟨(some 132), .mv (.tmp 14), none, []⟩,
        ⟨(some 133), .idxStr (.val (.sc (.string ⟨#[48, 48, 48, 49, 48, 50, 48, 51, 48, 52, 48, 53, 48, 54, 48, 55, 48, 56, 48, 57, 49, 48, 49, 49, 49, 50, 49, 51, 49, 52, 49, 53, 49, 54, 49, 55, 49, 56, 49, 57, 50, 48, 50, 49, 50, 50, 50, 51, 50, 52, 50, 53, 50, 54, 50, 55, 50, 56, 50, 57, 51, 48, 51, 49, 51, 50, 51, 51, 51, 52, 51, 53, 51, 54, 51, 55, 51, 56, 51, 57, 52, 48, 52, 49, 52, 50, 52, 51, 52, 52, 52, 53, 52, 54, 52, 55, 52, 56, 52, 57, 53, 48, 53, 49, 53, 50, 53, 51, 53, 52, 53, 53, 53, 54, 53, 55, 53, 56, 53, 57, 54, 48, 54, 49, 54, 50, 54, 51, 54, 52, 54, 53, 54, 54, 54, 55, 54, 56, 54, 57, 55, 48, 55, 49, 55, 50, 55, 51, 55, 52, 55, 53, 55, 54, 55, 55, 55, 56, 55, 57, 56, 48, 56, 49, 56, 50, 56, 51, 56, 52, 56, 53, 56, 54, 56, 55, 56, 56, 56, 57, 57, 48, 57, 49, 57, 50, 57, 51, 57, 52, 57, 53, 57, 54, 57, 55, 57, 56, 57, 57]⟩))) (.tmp 132), none, []⟩,
        ⟨(some 134), .indexS 1 (.tmp 123) (.tmp 125), none, []⟩,
        ⟨none, .store 1 (.tmp 134) (.tmp 131), none, []⟩,
        ⟨(some 135), .indexS 1 (.tmp 126) (.tmp 128), none, []⟩,
        ⟨none, .store 1 (.tmp 135) (.tmp 133), none, []⟩])
      (.region [⟨(some 136), .mv (.tmp 4), none, []⟩,
        ⟨(some 137), .bin .sub (.tmp 136) (.val (.sc (.int .i64 (4)))), none, []⟩,
        ⟨(some 4), .mv (.tmp 137), none, []⟩]))))))
      .skip))
    (.seq (.seq (.region [⟨(some 138), .mv (.tmp 4), none, []⟩,
      ⟨(some 139), .bin .geq (.tmp 138) (.val (.sc (.int .i64 (2)))), none, []⟩])
    (.cond (.tmp 139)
      (.seq (.region [⟨(some 140), .mv (.tmp 12), none, []⟩,
        ⟨(some 141), .bin .rem (.tmp 140) (.val (.sc (.int .u32 (100)))), none, []⟩,
        ⟨(some 142), .bin .mul (.tmp 141) (.val (.sc (.int .u32 (2)))), none, []⟩,
        ⟨(some 16), .mv (.tmp 142), none, []⟩])
      (.seq (.region [⟨(some 143), .mv (.tmp 12), none, []⟩,
        ⟨(some 144), .bin .quo (.tmp 143) (.val (.sc (.int .u32 (100)))), none, []⟩,
        ⟨(some 12), .mv (.tmp 144), none, []⟩])
      (.seq (.region [⟨(some 145), .mv (.tmp 0), none, []⟩,
        ⟨(some 146), .mv (.tmp 4), none, []⟩,
        ⟨(some 147), .bin .sub (.tmp 146) (.val (.sc (.int .i64 (1)))), none, []⟩,
        ⟨(some 148), .mv (.tmp 0), none, []⟩,
        ⟨(some 149), .mv (.tmp 4), none, []⟩,
        ⟨(some 150), .bin .sub (.tmp 149) (.val (.sc (.int .i64 (2)))), none, []⟩,
        ⟨(some 151), .mv (.tmp 16), none, []⟩,
        ⟨(some 152), .bin .add (.tmp 151) (.val (.sc (.int .u32 (1)))), none, []⟩,
        ⟨(some 153), .idxStr (.val (.sc (.string ⟨#[48, 48, 48, 49, 48, 50, 48, 51, 48, 52, 48, 53, 48, 54, 48, 55, 48, 56, 48, 57, 49, 48, 49, 49, 49, 50, 49, 51, 49, 52, 49, 53, 49, 54, 49, 55, 49, 56, 49, 57, 50, 48, 50, 49, 50, 50, 50, 51, 50, 52, 50, 53, 50, 54, 50, 55, 50, 56, 50, 57, 51, 48, 51, 49, 51, 50, 51, 51, 51, 52, 51, 53, 51, 54, 51, 55, 51, 56, 51, 57, 52, 48, 52, 49, 52, 50, 52, 51, 52, 52, 52, 53, 52, 54, 52, 55, 52, 56, 52, 57, 53, 48, 53, 49, 53, 50, 53, 51, 53, 52, 53, 53, 53, 54, 53, 55, 53, 56, 53, 57, 54, 48, 54, 49, 54, 50, 54, 51, 54, 52, 54, 53, 54, 54, 54, 55, 54, 56, 54, 57, 55, 48, 55, 49, 55, 50, 55, 51, 55, 52, 55, 53, 55, 54, 55, 55, 55, 56, 55, 57, 56, 48, 56, 49, 56, 50, 56, 51, 56, 52, 56, 53, 56, 54, 56, 55, 56, 56, 56, 57, 57, 48, 57, 49, 57, 50, 57, 51, 57, 52, 57, 53, 57, 54, 57, 55, 57, 56, 57, 57]⟩))) (.tmp 152), none, []⟩,
        ⟨(some 154), .mv (.tmp 16), none, []⟩,
        ⟨(some 155), .idxStr (.val (.sc (.string ⟨#[48, 48, 48, 49, 48, 50, 48, 51, 48, 52, 48, 53, 48, 54, 48, 55, 48, 56, 48, 57, 49, 48, 49, 49, 49, 50, 49, 51, 49, 52, 49, 53, 49, 54, 49, 55, 49, 56, 49, 57, 50, 48, 50, 49, 50, 50, 50, 51, 50, 52, 50, 53, 50, 54, 50, 55, 50, 56, 50, 57, 51, 48, 51, 49, 51, 50, 51, 51, 51, 52, 51, 53, 51, 54, 51, 55, 51, 56, 51, 57, 52, 48, 52, 49, 52, 50, 52, 51, 52, 52, 52, 53, 52, 54, 52, 55, 52, 56, 52, 57, 53, 48, 53, 49, 53, 50, 53, 51, 53, 52, 53, 53, 53, 54, 53, 55, 53, 56, 53, 57, 54, 48, 54, 49, 54, 50, 54, 51, 54, 52, 54, 53, 54, 54, 54, 55, 54, 56, 54, 57, 55, 48, 55, 49, 55, 50, 55, 51, 55, 52, 55, 53, 55, 54, 55, 55, 55, 56, 55, 57, 56, 48, 56, 49, 56, 50, 56, 51, 56, 52, 56, 53, 56, 54, 56, 55, 56, 56, 56, 57, 57, 48, 57, 49, 57, 50, 57, 51, 57, 52, 57, 53, 57, 54, 57, 55, 57, 56, 57, 57]⟩))) (.tmp 154), none, []⟩,
        ⟨(some 156), .indexS 1 (.tmp 145) (.tmp 147), none, []⟩,
        ⟨none, .store 1 (.tmp 156) (.tmp 153), none, []⟩,
        ⟨(some 157), .indexS 1 (.tmp 148) (.tmp 150), none, []⟩,
        ⟨none, .store 1 (.tmp 157) (.tmp 155), none, []⟩])
      (.region [⟨(some 158), .mv (.tmp 4), none, []⟩,
        ⟨(some 159), .bin .sub (.tmp 158) (.val (.sc (.int .i64 (2)))), none, []⟩,
        ⟨(some 4), .mv (.tmp 159), none, []⟩]))))
      .skip))
    (.seq (.region [⟨(some 160), .mv (.tmp 4), none, []⟩,
      ⟨(some 161), .bin .gtr (.tmp 160) (.val (.sc (.int .i64 (0)))), none, []⟩])
    (.cond (.tmp 161)
      (.region [⟨(some 162), .mv (.tmp 0), none, []⟩,
        ⟨(some 163), .mv (.tmp 12), none, []⟩,
        ⟨(some 164), .bin .add (.val (.sc (.int .u32 (48)))) (.tmp 163), none, []⟩,
        ⟨(some 165), .conv .u8 (.tmp 164), none, []⟩,
        ⟨(some 166), .indexS 1 (.tmp 162) (.val (.sc (.int .i64 (0)))), none, []⟩,
        ⟨none, .store 1 (.tmp 166) (.tmp 165), none, []⟩])
      .skip))))))) }

def f_i_strconv_formatBits : AFunc :=
  { nparams := 5, ntmps := 102, pure := true, results := [.tmp 10, .tmp 11],
    body := (.seq (.region [⟨(some 10), .mv (.val (.sc (.slice none 0 0))), none, []⟩,
      ⟨(some 11), .mv (.val (.sc (.string ⟨#[]⟩))), none, []⟩])
    (.seq (.seq (.region [⟨(some 19), .mv (.tmp 2), none, []⟩,
      ⟨(some 20), .bin .lss (.tmp 19) (.val (.sc (.int .i64 (2)))), none, []⟩,
      ⟨(some 21), .mv (.tmp 20), none, []⟩,
      ⟨(some 22), .mv (.tmp 2), (some (21, false)), []⟩,
      ⟨(some 23), .bin .eql (.tmp 22) (.val (.sc (.int .i64 (10)))), (some (21, false)), []⟩,
      ⟨(some 24), .pick (.tmp 21) (.val (.sc (.bool true))) (.tmp 23), none, []⟩,
      ⟨(some 25), .mv (.tmp 24), none, []⟩,
      ⟨(some 26), .mv (.tmp 2), (some (25, false)), []⟩,
      ⟨(some 27), .bin .gtr (.tmp 26) (.val (.sc (.int .i64 (36)))), (some (25, false)), []⟩,
      ⟨(some 28), .pick (.tmp 25) (.val (.sc (.bool true))) (.tmp 27), none, []⟩])
    (.cond (.tmp 28)
      (.region [⟨(some 29), .makeIface 9 (.val (.sc (.string ⟨#[115, 116, 114, 99, 111, 110, 118, 58, 32, 105, 108, 108, 101, 103, 97, 108, 32, 65, 112, 112, 101, 110, 100, 73, 110, 116, 47, 70, 111, 114, 109, 97, 116, 73, 110, 116, 32, 98, 97, 115, 101]⟩))), none, []⟩,
        ⟨none, .fail, none, []⟩])
      .skip))
    (.seq (.region [⟨(some 12), .allocA 132 1 [(.sc (.int .u8 (0))), (.sc (.int .u8 (0))), (.sc (.int .u8 (0))), (.sc (.int .u8 (0))), (.sc (.int .u8 (0))), (.sc (.int .u8 (0))), (.sc (.int .u8 (0))), (.sc (.int .u8 (0))), (.sc (.int .u8 (0))), (.sc (.int .u8 (0))), (.sc (.int .u8 (0))), (.sc (.int .u8 (0))), (.sc (.int .u8 (0))), (.sc (.int .u8 (0))), (.sc (.int .u8 (0))), (.sc (.int .u8 (0))), (.sc (.int .u8 (0))), (.sc (.int .u8 (0))), (.sc (.int .u8 (0))), (.sc (.int .u8 (0))), (.sc (.int .u8 (0))), (.sc (.int .u8 (0))), (.sc (.int .u8 (0))), (.sc (.int .u8 (0))), (.sc (.int .u8 (0))), (.sc (.int .u8 (0))), (.sc (.int .u8 (0))), (.sc (.int .u8 (0))), (.sc (.int .u8 (0))), (.sc (.int .u8 (0))), (.sc (.int .u8 (0))), (.sc (.int .u8 (0))), (.sc (.int .u8 (0))), (.sc (.int .u8 (0))), (.sc (.int .u8 (0))), (.sc (.int .u8 (0))), (.sc (.int .u8 (0))), (.sc (.int .u8 (0))), (.sc (.int .u8 (0))), (.sc (.int .u8 (0))), (.sc (.int .u8 (0))), (.sc (.int .u8 (0))), (.sc (.int .u8 (0))), (.sc (.int .u8 (0))), (.sc (.int .u8 (0))), (.sc (.int .u8 (0))), (.sc (.int .u8 (0))), (.sc (.int .u8 (0))), (.sc (.int .u8 (0))), (.sc (.int .u8 (0))), (.sc (.int .u8 (0))), (.sc (.int .u8 (0))), (.sc (.int .u8 (0))), (.sc (.int .u8 (0))), (.sc (.int .u8 (0))), (.sc (.int .u8 (0))), (.sc (.int .u8 (0))), (.sc (.int .u8 (0))), (.sc (.int .u8 (0))), (.sc (.int .u8 (0))), (.sc (.int .u8 (0))), (.sc (.int .u8 (0))), (.sc (.int .u8 (0))), (.sc (.int .u8 (0))), (.sc (.int .u8 (0)))], none, []⟩])
    (.seq (.region [⟨(some 13), .mv (.val (.sc (.int .i64 (65)))), none, []⟩])
    (.seq (.seq (.region [⟨(some 30), .mv (.tmp 3), none, []⟩])
    (.cond (.tmp 30)
      (.region [⟨(some 31), .mv (.tmp 1), none, []⟩,
        ⟨(some 32), .un .neg (.tmp 31), none, []⟩,
        ⟨(some 1), .mv (.tmp 32), none, []⟩])
      .skip))
    (.seq (.seq (.region [⟨(some 33), .mv (.tmp 2), none, []⟩,
      ⟨(some 34), .call (.val (.fn (.func 115) [] [])) [(.tmp 33)], none, []⟩])
    (.cond (.tmp 34)
      (.seq (.region [⟨(some 35), .mv (.tmp 2), none, []⟩,
        ⟨(some 36), .conv .u64 (.tmp 35), none, []⟩,
        ⟨(some 37), .call (.val (.fn (.func 116) [] [])) [(.tmp 36)], none, []⟩,
        ⟨(some 38), .conv .u64 (.tmp 37), none, []⟩,
        ⟨(some 14), .mv (.tmp 38), none, []⟩])
      (.seq (.region [⟨(some 39), .mv (.tmp 2), none, []⟩,
        ⟨(some 40), .conv .u64 (.tmp 39), none, []⟩,
        ⟨(some 15), .mv (.tmp 40), none, []⟩])
      (.seq (.region [⟨(some 41), .mv (.tmp 2), none, []⟩,
        ⟨(some 42), .conv .u64 (.tmp 41), none, []⟩,
        ⟨(some 43), .bin .sub (.tmp 42) (.val (.sc (.int .u64 (1)))), none, []⟩,
        ⟨(some 16), .mv (.tmp 43), none, []⟩])
      (.seq (.block 0 (.loop (.seq (.seq (.region [⟨(some 44), .mv (.tmp 1), none, []⟩,
            ⟨(some 45), .mv (.tmp 15), none, []⟩,
            ⟨(some 46), .bin .geq (.tmp 44) (.tmp 45), none, []⟩])
          (.cond (.tmp 46)
            .skip
            (.exit 0)))
          (.block 1 (.seq (.region [⟨(some 47), .mv (.tmp 13), none, []⟩,
              ⟨(some 48), .bin .sub (.tmp 47) (.val (.sc (.int .i64 (1)))), none, []⟩,
              ⟨(some 13), .mv (.tmp 48), none, []⟩])
            (.seq (.region [⟨(some 49), .mv (.tmp 13), none, []⟩,
              ⟨(some 50), .mv (.tmp 1), none, []⟩,
              ⟨(some 51), .mv (.tmp 16), none, []⟩,
              ⟨(some 52), .bin .and (.tmp 50) (.tmp 51), none, []⟩,
              ⟨(some 53), .idxStr (.val (.sc (.string ⟨#[48, 49, 50, 51, 52, 53, 54, 55, 56, 57, 97, 98, 99, 100, 101, 102, 103, 104, 105, 106, 107, 108, 109, 110, 111, 112, 113, 114, 115, 116, 117, 118, 119, 120, 121, 122]⟩))) (.tmp 52), none, []⟩,
              ⟨(some 54), .indexA 65 1 (.tmp 12) (.tmp 49), none, []⟩,
              ⟨none, .store 1 (.tmp 54) (.tmp 53), none, []⟩])
            (.region [⟨(some 55), .mv (.tmp 1), none, []⟩,
              ⟨(some 56), .mv (.tmp 14), none, []⟩,
              ⟨(some 57), .bin .shr (.tmp 55) (.tmp 56), none, []⟩,
              ⟨(some 1), .mv (.tmp 57), none, []⟩])))))))
      (.seq (.region [⟨(some 58), .mv (.tmp 13), none, []⟩,
        ⟨(some 59), .bin .sub (.tmp 58) (.val (.sc (.int .i64 (1)))), none, []⟩,
        ⟨(some 13), .mv (.tmp 59), none, []⟩])
      (.region [⟨(some 60), .mv (.tmp 13), none, []⟩,
        ⟨(some 61), .mv (.tmp 1), none, []⟩,
        ⟨(some 62), .idxStr (.val (.sc (.string ⟨#[48, 49, 50, 51, 52, 53, 54, 55, 56, 57, 97, 98, 99, 100, 101, 102, 103, 104, 105, 106, 107, 108, 109, 110, 111, 112, 113, 114, 115, 116, 117, 118, 119, 120, 121, 122]⟩))) (.tmp 61), none, []⟩,
        ⟨(some 63), .indexA 65 1 (.tmp 12) (.tmp 60), none, []⟩,
        ⟨none, .store 1 (.tmp 63) (.tmp 62), none, []⟩]))))))
      (.seq (.region [⟨(some 64), .mv (.tmp 2), none, []⟩,
        ⟨(some 65), .conv .u64 (.tmp 64), none, []⟩,
        ⟨(some 17), .mv (.tmp 65), none, []⟩])
      (.seq (.block 2 (.loop (.seq (.seq (.region [⟨(some 66), .mv (.tmp 1), none, []⟩,
            ⟨(some 67), .mv (.tmp 17), none, []⟩,
            ⟨(some 68), .bin .geq (.tmp 66) (.tmp 67), none, []⟩])
          (.cond (.tmp 68)
            .skip
            (.exit 2)))
          (.block 3 (.seq (.region [⟨(some 69), .mv (.tmp 13), none, []⟩,
              ⟨(some 70), .bin .sub (.tmp 69) (.val (.sc (.int .i64 (1)))), none, []⟩,
              ⟨(some 13), .mv (.tmp 70), none, []⟩])
            (.seq (.region [⟨(some 71), .mv (.tmp 1), none, []⟩,
              ⟨(some 72), .mv (.tmp 17), none, []⟩,
              ⟨(some 73), .bin .quo (.tmp 71) (.tmp 72), none, []⟩,
              ⟨(some 18), .mv (.tmp 73), none, []⟩])
            (.seq (.region [⟨(some 74), .mv (.tmp 13), none, []⟩,
              ⟨(some 75), .mv (.tmp 1), none, []⟩,
              ⟨(some 76), .mv (.tmp 18), none, []⟩,
              ⟨(some 77), .mv (.tmp 17), none, []⟩,
              ⟨(some 78), .bin .mul (.tmp 76) (.tmp 77), none, []⟩,
              ⟨(some 79), .bin .sub (.tmp 75) (.tmp 78), none, []⟩,
              ⟨(some 80), .idxStr (.val (.sc (.string ⟨#[48, 49, 50, 51, 52, 53, 54, 55, 56, 57, 97, 98, 99, 100, 101, 102, 103, 104, 105, 106, 107, 108, 109, 110, 111, 112, 113, 114, 115, 116, 117, 118, 119, 120, 121, 122]⟩))) (.tmp 79), none, []⟩,
              ⟨(some 81), .indexA 65 1 (.tmp 12) (.tmp 74), none, []⟩,
              ⟨none, .store 1 (.tmp 81) (.tmp 80), none, []⟩])
            (.region [⟨(some 82), .mv (.tmp 18), none, []⟩,
              ⟨(some 1), .mv (.tmp 82), none, []⟩]))))))))
      (.seq (.region [⟨(some 83), .mv (.tmp 13), none, []⟩,
        ⟨(some 84), .bin .sub (.tmp 83) (.val (.sc (.int .i64 (1)))), none, []⟩,
        ⟨(some 13), .mv (.tmp 84), none, []⟩])
      (.region [⟨(some 85), .mv (.tmp 13), none, []⟩,
        ⟨(some 86), .mv (.tmp 1), none, []⟩,
        ⟨(some 87), .idxStr (.val (.sc (.string ⟨#[48, 49, 50, 51, 52, 53, 54, 55, 56, 57, 97, 98, 99, 100, 101, 102, 103, 104, 105, 106, 107, 108, 109, 110, 111, 112, 113, 114, 115, 116, 117, 118, 119, 120, 121, 122]⟩))) (.tmp 86), none, []⟩,
        ⟨(some 88), .indexA 65 1 (.tmp 12) (.tmp 85), none, []⟩,
        ⟨none, .store 1 (.tmp 88) (.tmp 87), none, []⟩]))))))
    (.seq (.seq (.region [⟨(some 89), .mv (.tmp 3), none, []⟩])
    (.cond (.tmp 89)
      (.seq (.region [⟨(some 90), .mv (.tmp 13), none, []⟩,
        ⟨(some 91), .bin .sub (.tmp 90) (.val (.sc (.int .i64 (1)))), none, []⟩,
        ⟨(some 13), .mv (.tmp 91), none, []⟩])
      (.region [⟨(some 92), .mv (.tmp 13), none, []⟩,
        ⟨(some 93), .indexA 65 1 (.tmp 12) (.tmp 92), none, []⟩,
        ⟨none, .store 1 (.tmp 93) (.val (.sc (.int .u8 (45)))), none, []⟩]))
      .skip))
    (.seq (.seq (.region [⟨(some 94), .mv (.tmp 4), none, []⟩])
    (.cond (.tmp 94)
      (.seq (.region [⟨(some 95), .mv (.tmp 0), none, []⟩,
        ⟨(some 96), .mv (.tmp 13), none, []⟩,
        ⟨(some 97), .sliceArr 65 1 (.tmp 12) (some (.tmp 96)) none, none, []⟩,
        ⟨(some 98), .append 5 1 (.tmp 95) (.tmp 97), none, []⟩,
        ⟨(some 10), .mv (.tmp 98), none, []⟩])
      .ret)
      .skip))
    (.seq (.region [⟨(some 99), .mv (.tmp 13), none, []⟩,
      ⟨(some 100), .sliceArr 65 1 (.tmp 12) (some (.tmp 99)) none, none, []⟩,
      ⟨(some 101), .strOf (.tmp 100), none, []⟩,
      ⟨(some 11), .mv (.tmp 101), none, []⟩])
    .ret))))))))) }

def f_i_strconv_log10Pow2 : AFunc :=
  { nparams := 1, ntmps := 6, pure := true, results := [.tmp 2],
    body := (.seq (.region [⟨(some 2), .mv (.val (.sc (.int .i64 (0)))), none, []⟩])
    (.seq (.region [⟨(some 3), .mv (.tmp 0), none, []⟩,
      ⟨(some 4), .bin .mul (.tmp 3) (.val (.sc (.int .i64 (78913)))), none, []⟩,
      ⟨(some 5), .bin .shr (.tmp 4) (.val (.sc (.int .u64 (18)))), none, []⟩,
      ⟨(some 2), .mv (.tmp 5), none, []⟩])
    .ret)) }

def f_math_bits_Len64 : AFunc :=
  { nparams := 1, ntmps := 25, pure := true, results := [.tmp 2],
    body := (.seq (.region [⟨(some 2), .mv (.val (.sc (.int .i64 (0)))), none, []⟩])
    (.seq (.seq (.region [⟨(some 3), .mv (.tmp 0), none, []⟩,
      ⟨(some 4), .bin .geq (.tmp 3) (.val (.sc (.int .u64 (4294967296)))), none, []⟩])
    (.cond (.tmp 4)
      (.seq (.region [⟨(some 5), .mv (.tmp 0), none, []⟩,
        ⟨(some 6), .bin .shr (.tmp 5) (.val (.sc (.int .u64 (32)))), none, []⟩,
        ⟨(some 0), .mv (.tmp 6), none, []⟩])
      (.region [⟨(some 2), .mv (.val (.sc (.int .i64 (32)))), none, []⟩]))
      .skip))
    (.seq (.seq (.region [⟨(some 7), .mv (.tmp 0), none, []⟩,
      ⟨(some 8), .bin .geq (.tmp 7) (.val (.sc (.int .u64 (65536)))), none, []⟩])
    (.cond (.tmp 8)
      (.seq (.region [⟨(some 9), .mv (.tmp 0), none, []⟩,
        ⟨(some 10), .bin .shr (.tmp 9) (.val (.sc (.int .u64 (16)))), none, []⟩,
        ⟨(some 0), .mv (.tmp 10), none, []⟩])
      (.region [⟨(some 11), .mv (.tmp 2), none, []⟩,
        ⟨(some 12), .bin .add (.tmp 11) (.val (.sc (.int .i64 (16)))), none, []⟩,
        ⟨(some 2), .mv (.tmp 12), none, []⟩]))
      .skip))
    (.seq (.seq (.region [⟨(some 13), .mv (.tmp 0), none, []⟩,
      ⟨(some 14), .bin .geq (.tmp 13) (.val (.sc (.int .u64 (256)))), none, []⟩])
    (.cond (.tmp 14)
      (.seq (.region [⟨(some 15), .mv (.tmp 0), none, []⟩,
        ⟨(some 16), .bin .shr (.tmp 15) (.val (.sc (.int .u64 (8)))), none, []⟩,
        ⟨(some 0), .mv (.tmp 16), none, []⟩])
      (.region [⟨(some 17), .mv (.tmp 2), none, []⟩,
        ⟨(some 18), .bin .add (.tmp 17) (.val (.sc (.int .i64 (8)))), none, []⟩,
        ⟨(some 2), .mv (.tmp 18), none, []⟩]))
      .skip))
    (.seq (.region [⟨(some 19), .mv (.tmp 2), none, []⟩,
      ⟨(some 20), .mv (.tmp 0), none, []⟩,
      ⟨(some 21), .conv .u8 (.tmp 20), none, []⟩,
      ⟨(some 22), .idxStr (.val (.sc (.string ⟨#[0, 1, 2, 2, 3, 3, 3, 3, 4, 4, 4, 4, 4, 4, 4, 4, 5, 5, 5, 5, 5, 5, 5, 5, 5, 5, 5, 5, 5, 5, 5, 5, 6, 6, 6, 6, 6, 6, 6, 6, 6, 6, 6, 6, 6, 6, 6, 6, 6, 6, 6, 6, 6, 6, 6, 6, 6, 6, 6, 6, 6, 6, 6, 6, 7, 7, 7, 7, 7, 7, 7, 7, 7, 7, 7, 7, 7, 7, 7, 7, 7, 7, 7, 7, 7, 7, 7, 7, 7, 7, 7, 7, 7, 7, 7, 7, 7, 7, 7, 7, 7, 7, 7, 7, 7, 7, 7, 7, 7, 7, 7, 7, 7, 7, 7, 7, 7, 7, 7, 7, 7, 7, 7, 7, 7, 7, 7, 7, 8, 8, 8, 8, 8, 8, 8, 8, 8, 8, 8, 8, 8, 8, 8, 8, 8, 8, 8, 8, 8, 8, 8, 8, 8, 8, 8, 8, 8, 8, 8, 8, 8, 8, 8, 8, 8, 8, 8, 8, 8, 8, 8, 8, 8, 8, 8, 8, 8, 8, 8, 8, 8, 8, 8, 8, 8, 8, 8, 8, 8, 8, 8, 8, 8, 8, 8, 8, 8, 8, 8, 8, 8, 8, 8, 8, 8, 8, 8, 8, 8, 8, 8, 8, 8, 8, 8, 8, 8, 8, 8, 8, 8, 8, 8, 8, 8, 8, 8, 8, 8, 8, 8, 8, 8, 8, 8, 8, 8, 8, 8, 8, 8, 8, 8, 8, 8, 8, 8, 8, 8, 8, 8, 8, 8, 8, 8, 8]⟩))) (.tmp 21), none, []⟩,
      ⟨(some 23), .conv .i64 (.tmp 22), none, []⟩,
      ⟨(some 24), .bin .add (.tmp 19) (.tmp 23), none, []⟩,
      ⟨(some 2), .mv (.tmp 24), none, []⟩])
    .ret))))) }

def f_i_strconv_bool2int : AFunc :=
  { nparams := 1, ntmps := 4, pure := true, results := [.tmp 2],
    body := (.seq (.region [⟨(some 2), .mv (.val (.sc (.int .i64 (0)))), none, []⟩])
    (.seq (.seq (.region [⟨(some 3), .mv (.tmp 0), none, []⟩])
    (.cond (.tmp 3)
      (.seq (.region [⟨(some 2), .mv (.val (.sc (.int .i64 (1)))), none, []⟩])
      .ret)
      .skip))
    (.seq (.region [⟨(some 2), .mv (.val (.sc (.int .i64 (0)))), none, []⟩])
    .ret))) }

def f_i_strconv_isPowerOfTwo : AFunc :=
  { nparams := 1, ntmps := 8, pure := true, results := [.tmp 2],
    body := (.seq (.region [⟨(some 2), .mv (.val (.sc (.bool false))), none, []⟩])
    (.seq (.region [⟨(some 3), .mv (.tmp 0), none, []⟩,
      ⟨(some 4), .mv (.tmp 0), none, []⟩,
      ⟨(some 5), .bin .sub (.tmp 4) (.val (.sc (.int .i64 (1)))), none, []⟩,
      ⟨(some 6), .bin .and (.tmp 3) (.tmp 5), none, []⟩,
      ⟨(some 7), .bin .eql (.tmp 6) (.val (.sc (.int .i64 (0)))), none, []⟩,
      ⟨(some 2), .mv (.tmp 7), none, []⟩])
    .ret)) }

def f_math_bits_TrailingZeros : AFunc :=
  { nparams := 1, ntmps := 8, pure := true, results := [.tmp 2],
    body := (.seq (.region [⟨(some 2), .mv (.val (.sc (.int .i64 (0)))), none, []⟩])
    (.seq (.cond (.val (.sc (.bool false)))
      (.seq (.region [⟨(some 3), .mv (.tmp 0), none, []⟩,
        ⟨(some 4), .conv .u32 (.tmp 3), none, []⟩,
        ⟨(some 5), .call (.val (.fn (.func 118) [] [])) [(.tmp 4)], none, []⟩,
        ⟨(some 2), .mv (.tmp 5), none, []⟩])
      .ret)
      .skip)
    (.seq (.region [⟨(some 6), .mv (.tmp 0), none, []⟩,
      ⟨(some 7), .call (.val (.fn (.func 119) [] [])) [(.tmp 6)], none, []⟩,
      ⟨(some 2), .mv (.tmp 7), none, []⟩])
    .ret))) }

def f_math_bits_TrailingZeros32 : AFunc :=
  { nparams := 1, ntmps := 14, pure := true, results := [.tmp 2],
    body := (.seq (.region [⟨(some 2), .mv (.val (.sc (.int .i64 (0)))), none, []⟩])
    (.seq (.seq (.region [⟨(some 3), .mv (.tmp 0), none, []⟩,
      ⟨(some 4), .bin .eql (.tmp 3) (.val (.sc (.int .u32 (0)))), none, []⟩])
    (.cond (.tmp 4)
      (.seq (.region [⟨(some 2), .mv (.val (.sc (.int .i64 (32)))), none, []⟩])
      .ret)
      .skip))
    (.seq (.region [⟨(some 5), .mv (.tmp 0), none, []⟩,
      ⟨(some 6), .mv (.tmp 0), none, []⟩,
      ⟨(some 7), .un .neg (.tmp 6), none, []⟩,
      ⟨(some 8), .bin .and (.tmp 5) (.tmp 7), none, []⟩,
      ⟨(some 9), .bin .mul (.tmp 8) (.val (.sc (.int .u32 (125613361)))), none, []⟩,
      ⟨(some 10), .bin .shr (.tmp 9) (.val (.sc (.int .u64 (27)))), none, []⟩,
      ⟨(some 11), .indexA 32 1 (.val (.eptr g9 0)) (.tmp 10), none, []⟩,
      ⟨(some 12), .load none (.tmp 11), none, []⟩,
      ⟨(some 13), .conv .i64 (.tmp 12), none, []⟩,
      ⟨(some 2), .mv (.tmp 13), none, []⟩])
    .ret))) }

def f_math_bits_TrailingZeros64 : AFunc :=
  { nparams := 1, ntmps := 14, pure := true, results := [.tmp 2],
    body := (.seq (.region [⟨(some 2), .mv (.val (.sc (.int .i64 (0)))), none, []⟩])
    (.seq (.seq (.region [⟨(some 3), .mv (.tmp 0), none, []⟩,
      ⟨(some 4), .bin .eql (.tmp 3) (.val (.sc (.int .u64 (0)))), none, []⟩])
    (.cond (.tmp 4)
      (.seq (.region [⟨(some 2), .mv (.val (.sc (.int .i64 (64)))), none, []⟩])
      .ret)
      .skip))
    (.seq (.region [⟨(some 5), .mv (.tmp 0), none, []⟩,
      ⟨(some 6), .mv (.tmp 0), none, []⟩,
      ⟨(some 7), .un .neg (.tmp 6), none, []⟩,
      ⟨(some 8), .bin .and (.tmp 5) (.tmp 7), none, []⟩,
      ⟨(some 9), .bin .mul (.tmp 8) (.val (.sc (.int .u64 (285870213051353865)))), none, []⟩,
      ⟨(some 10), .bin .shr (.tmp 9) (.val (.sc (.int .u64 (58)))), none, []⟩,
      ⟨(some 11), .indexA 64 1 (.val (.eptr g10 0)) (.tmp 10), none, []⟩,
      ⟨(some 12), .load none (.tmp 11), none, []⟩,
      ⟨(some 13), .conv .i64 (.tmp 12), none, []⟩,
      ⟨(some 2), .mv (.tmp 13), none, []⟩])
    .ret))) }

def Ft (n : Nat) : Option AFunc :=
  if n = 3 then some f_spinnakerlaw46_TapeSame else
  if n = 9 then some f_spinnakerlaw46_large else
  if n = 10 then some f_spinnakerlaw46_awake else
  if n = 11 then some f_tape_Same else
  if n = 12 then some f_spinnakerref46_Same else
  if n = 13 then some f_tape_Begins else
  if n = 14 then some f_spinnakerref46_Begins else
  if n = 15 then some f_tape_Word else
  if n = 16 then some f_spinnakerref46_Word else
  if n = 28 then some f_tape_Text else
  if n = 31 then some f_spinnakerref01_Ints else
  if n = 32 then some f_slices_EqualFuncintintintint else
  if n = 33 then some f_slices_Equalintint else
  if n = 34 then some f_tape_Begins_1 else
  if n = 45 then some f_tape_Text_1 else
  if n = 46 then some f_slices_ContainsFuncintint else
  if n = 47 then some f_strings_Builder_WriteString else
  if n = 48 then some f_tape_line else
  if n = 49 then some f_strings_Builder_String else
  if n = 63 then some f_slices_IndexFuncintint else
  if n = 64 then some f_strings_Builder_copyCheck else
  if n = 65 then some f_strconv_Itoa else
  if n = 66 then some f_strings_Join else
  if n = 78 then some f_i_strconv_Itoa else
  if n = 79 then some f_strings_Builder_Grow else
  if n = 91 then some f_i_strconv_FormatInt else
  if n = 92 then some f_strings_Builder_grow else
  if n = 101 then some f_i_strconv_small else
  if n = 102 then some f_i_strconv_numDigits else
  if n = 103 then some f_i_strconv_formatBase10 else
  if n = 104 then some f_i_strconv_formatBits else
  if n = 112 then some f_i_strconv_log10Pow2 else
  if n = 113 then some f_math_bits_Len64 else
  if n = 114 then some f_i_strconv_bool2int else
  if n = 115 then some f_i_strconv_isPowerOfTwo else
  if n = 116 then some f_math_bits_TrailingZeros else
  if n = 118 then some f_math_bits_TrailingZeros32 else
  if n = 119 then some f_math_bits_TrailingZeros64 else
  none
def Xt (n : Nat) : Option (Nat → List V → Heap → Option (V × Heap)) :=
  if n = 77 then some xSame else
  if n = 105 then some (xMake 5) else
  none
def quietT (n : Nat) : Bool := [9, 12, 14, 15, 16, 31, 33, 34, 45, 77, 101, 102, 105, 112, 113, 114, 115, 116, 118, 119].contains n

abbrev S0 : Fns := ⟨Xt, Ft⟩
def glT (n : Nat) : Option (List V) :=
  if n = 0 then some g0 else
  if n = 6 then some g6 else
  if n = 9 then some g9 else
  if n = 10 then some g10 else
  none
end Go.Am
