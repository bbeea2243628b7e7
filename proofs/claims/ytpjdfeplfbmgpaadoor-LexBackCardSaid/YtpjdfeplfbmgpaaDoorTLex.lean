/- The program's functions, read as abstract ones: every one of them compiles to the text that the plain law speaks of. -/
import Derived.Test.YtpjdfeplfbmgpaaDoorAm6
import Derived.Test.YtpjdfeplfbmgpaaDoorChecked
import Derived.KernelRfl
namespace Go.Am
open Go.Proofs
set_option maxRecDepth 100000
theorem fn_4 : FnOk Tryd.prog glT quietT 4 f_spinnakerlaw22_LexScans := ⟨Tryd.f4, Tryd.func4, by kernel_rfl, by kernel_rfl⟩
theorem fn_5 : FnOk Tryd.prog glT quietT 5 f_spinnakerlaw22_LexBack := ⟨Tryd.f5, Tryd.func5, by kernel_rfl, by kernel_rfl⟩
theorem fn_17 : FnOk Tryd.prog glT quietT 17 f_spinnakerlaw22_awake := ⟨Tryd.f17, Tryd.func17, by kernel_rfl, by kernel_rfl⟩
theorem fn_18 : FnOk Tryd.prog glT quietT 18 f_lex_Scan := ⟨Tryd.f18, Tryd.func18, by kernel_rfl, by kernel_rfl⟩
theorem fn_19 : FnOk Tryd.prog glT quietT 19 f_spinnakerref22_Scan := ⟨Tryd.f19, Tryd.func19, by kernel_rfl, by kernel_rfl⟩
theorem fn_20 : FnOk Tryd.prog glT quietT 20 f_spinnakerref22_Same := ⟨Tryd.f20, Tryd.func20, by kernel_rfl, by kernel_rfl⟩
theorem fn_21 : FnOk Tryd.prog glT quietT 21 f_spinnakerref22_Name := ⟨Tryd.f21, Tryd.func21, by kernel_rfl, by kernel_rfl⟩
theorem fn_22 : FnOk Tryd.prog glT quietT 22 f_spinnakerref22_In := ⟨Tryd.f22, Tryd.func22, by kernel_rfl, by kernel_rfl⟩
theorem fn_23 : FnOk Tryd.prog glT quietT 23 f_spinnakerref22_Words := ⟨Tryd.f23, Tryd.func23, by kernel_rfl, by kernel_rfl⟩
theorem fn_24 : FnOk Tryd.prog glT quietT 24 f_spinnakerref22_Digits := ⟨Tryd.f24, Tryd.func24, by kernel_rfl, by kernel_rfl⟩
theorem fn_25 : FnOk Tryd.prog glT quietT 25 f_spinnakerref22_Signs := ⟨Tryd.f25, Tryd.func25, by kernel_rfl, by kernel_rfl⟩
theorem fn_35 : FnOk Tryd.prog glT quietT 35 f_lex_scanner_skip := ⟨Tryd.f35, Tryd.func35, by kernel_rfl, by kernel_rfl⟩
theorem fn_36 : FnOk Tryd.prog glT quietT 36 f_lex_scanner_token := ⟨Tryd.f36, Tryd.func36, by kernel_rfl, by kernel_rfl⟩
theorem fn_37 : FnOk Tryd.prog glT quietT 37 f_spinnakerref22_token := ⟨Tryd.f37, Tryd.func37, by kernel_rfl, by kernel_rfl⟩
theorem fn_38 : FnOk Tryd.prog glT quietT 38 f_spinnakerref22_alpha := ⟨Tryd.f38, Tryd.func38, by kernel_rfl, by kernel_rfl⟩
theorem fn_39 : FnOk Tryd.prog glT quietT 39 f_spinnakerref22_num := ⟨Tryd.f39, Tryd.func39, by kernel_rfl, by kernel_rfl⟩
theorem fn_40 : FnOk Tryd.prog glT quietT 40 f_lex_letter := ⟨Tryd.f40, Tryd.func40, by kernel_rfl, by kernel_rfl⟩
theorem fn_43 : FnOk Tryd.prog glT quietT 43 f_lex_either := ⟨Tryd.f43, Tryd.func43, by kernel_rfl, by kernel_rfl⟩
theorem fn_55 : FnOk Tryd.prog glT quietT 55 f_bytes_IndexByte := ⟨Tryd.f55, Tryd.func55, by kernel_rfl, by kernel_rfl⟩
theorem fn_56 : FnOk Tryd.prog glT quietT 56 f_lex_scanner_run := ⟨Tryd.f56, Tryd.func56, by kernel_rfl, by kernel_rfl⟩
theorem fn_57 : FnOk Tryd.prog glT quietT 57 f_lex_digit := ⟨Tryd.f57, Tryd.func57, by kernel_rfl, by kernel_rfl⟩
theorem fn_58 : FnOk Tryd.prog glT quietT 58 f_strconv_Atoi := ⟨Tryd.f58, Tryd.func58, by kernel_rfl, by kernel_rfl⟩
theorem fn_59 : FnOk Tryd.prog glT quietT 59 f_lex_scanner_sign := ⟨Tryd.f59, Tryd.func59, by kernel_rfl, by kernel_rfl⟩
theorem fn_60 : FnOk Tryd.prog glT quietT 60 f_spinnakerref22_number := ⟨Tryd.f60, Tryd.func60, by kernel_rfl, by kernel_rfl⟩
theorem fn_61 : FnOk Tryd.prog glT quietT 61 f_slices_IndexFuncbytebyte := ⟨Tryd.f61, Tryd.func61, by kernel_rfl, by kernel_rfl⟩
theorem fn_65 : FnOk Tryd.prog glT quietT 65 f_strconv_Itoa := ⟨Tryd.f65, Tryd.func65, by kernel_rfl, by kernel_rfl⟩
theorem fn_73 : FnOk Tryd.prog glT quietT 73 f_lex_scanner_run_1 := ⟨Tryd.f73, Tryd.func73, by kernel_rfl, by kernel_rfl⟩
theorem fn_74 : FnOk Tryd.prog glT quietT 74 f_i_strconv_Atoi := ⟨Tryd.f74, Tryd.func74, by kernel_rfl, by kernel_rfl⟩
theorem fn_75 : FnOk Tryd.prog glT quietT 75 f_strconv_toError := ⟨Tryd.f75, Tryd.func75, by kernel_rfl, by kernel_rfl⟩
theorem fn_76 : FnOk Tryd.prog glT quietT 76 f_bytes_HasPrefix := ⟨Tryd.f76, Tryd.func76, by kernel_rfl, by kernel_rfl⟩
theorem fn_78 : FnOk Tryd.prog glT quietT 78 f_i_strconv_Itoa := ⟨Tryd.f78, Tryd.func78, by kernel_rfl, by kernel_rfl⟩
theorem fn_85 : FnOk Tryd.prog glT quietT 85 f_i_strconv_ParseInt := ⟨Tryd.f85, Tryd.func85, by kernel_rfl, by kernel_rfl⟩
theorem fn_86 : FnOk Tryd.prog glT quietT 86 f_strconv_syntaxError := ⟨Tryd.f86, Tryd.func86, by kernel_rfl, by kernel_rfl⟩
theorem fn_87 : FnOk Tryd.prog glT quietT 87 f_strconv_rangeError := ⟨Tryd.f87, Tryd.func87, by kernel_rfl, by kernel_rfl⟩
theorem fn_88 : FnOk Tryd.prog glT quietT 88 f_strconv_baseError := ⟨Tryd.f88, Tryd.func88, by kernel_rfl, by kernel_rfl⟩
theorem fn_89 : FnOk Tryd.prog glT quietT 89 f_strconv_bitSizeError := ⟨Tryd.f89, Tryd.func89, by kernel_rfl, by kernel_rfl⟩
theorem fn_90 : FnOk Tryd.prog glT quietT 90 f_bytes_Equal := ⟨Tryd.f90, Tryd.func90, by kernel_rfl, by kernel_rfl⟩
theorem fn_91 : FnOk Tryd.prog glT quietT 91 f_i_strconv_FormatInt := ⟨Tryd.f91, Tryd.func91, by kernel_rfl, by kernel_rfl⟩
theorem fn_98 : FnOk Tryd.prog glT quietT 98 f_i_strconv_ParseUint := ⟨Tryd.f98, Tryd.func98, by kernel_rfl, by kernel_rfl⟩
theorem fn_99 : FnOk Tryd.prog glT quietT 99 f_i_stringslite_Clone := ⟨Tryd.f99, Tryd.func99, by kernel_rfl, by kernel_rfl⟩
theorem fn_100 : FnOk Tryd.prog glT quietT 100 f_errors_New := ⟨Tryd.f100, Tryd.func100, by kernel_rfl, by kernel_rfl⟩
theorem fn_101 : FnOk Tryd.prog glT quietT 101 f_i_strconv_small := ⟨Tryd.f101, Tryd.func101, by kernel_rfl, by kernel_rfl⟩
theorem fn_102 : FnOk Tryd.prog glT quietT 102 f_i_strconv_numDigits := ⟨Tryd.f102, Tryd.func102, by kernel_rfl, by kernel_rfl⟩
theorem fn_103 : FnOk Tryd.prog glT quietT 103 f_i_strconv_formatBase10 := ⟨Tryd.f103, Tryd.func103, by kernel_rfl, by kernel_rfl⟩
theorem fn_104 : FnOk Tryd.prog glT quietT 104 f_i_strconv_formatBits := ⟨Tryd.f104, Tryd.func104, by kernel_rfl, by kernel_rfl⟩
theorem fn_110 : FnOk Tryd.prog glT quietT 110 f_i_strconv_lower := ⟨Tryd.f110, Tryd.func110, by kernel_rfl, by kernel_rfl⟩
theorem fn_111 : FnOk Tryd.prog glT quietT 111 f_i_strconv_underscoreOK := ⟨Tryd.f111, Tryd.func111, by kernel_rfl, by kernel_rfl⟩
theorem fn_112 : FnOk Tryd.prog glT quietT 112 f_i_strconv_log10Pow2 := ⟨Tryd.f112, Tryd.func112, by kernel_rfl, by kernel_rfl⟩
theorem fn_113 : FnOk Tryd.prog glT quietT 113 f_math_bits_Len64 := ⟨Tryd.f113, Tryd.func113, by kernel_rfl, by kernel_rfl⟩
theorem fn_114 : FnOk Tryd.prog glT quietT 114 f_i_strconv_bool2int := ⟨Tryd.f114, Tryd.func114, by kernel_rfl, by kernel_rfl⟩
theorem fn_115 : FnOk Tryd.prog glT quietT 115 f_i_strconv_isPowerOfTwo := ⟨Tryd.f115, Tryd.func115, by kernel_rfl, by kernel_rfl⟩
theorem fn_116 : FnOk Tryd.prog glT quietT 116 f_math_bits_TrailingZeros := ⟨Tryd.f116, Tryd.func116, by kernel_rfl, by kernel_rfl⟩
theorem fn_118 : FnOk Tryd.prog glT quietT 118 f_math_bits_TrailingZeros32 := ⟨Tryd.f118, Tryd.func118, by kernel_rfl, by kernel_rfl⟩
theorem fn_119 : FnOk Tryd.prog glT quietT 119 f_math_bits_TrailingZeros64 := ⟨Tryd.f119, Tryd.func119, by kernel_rfl, by kernel_rfl⟩
theorem calm_all : ((List.range 400).all fun f => quietT f == 0 || (match Xt f, Ft f with | some _, _ => quietT f != 2 | none, some A => A.body.calm quietT && (quietT f != 2 || A.still quietT) | none, none => true)) = true := by kernel_rfl
theorem fn_all : ∀ f A, Ft f = some A → FnOk Tryd.prog glT quietT f A := by
  intro f A h
  unfold Ft at h
  by_cases e : f = 4
  · rw [if_pos e] at h; injection h with h; subst e; subst h; exact fn_4
  rw [if_neg e] at h; clear e
  by_cases e : f = 5
  · rw [if_pos e] at h; injection h with h; subst e; subst h; exact fn_5
  rw [if_neg e] at h; clear e
  by_cases e : f = 17
  · rw [if_pos e] at h; injection h with h; subst e; subst h; exact fn_17
  rw [if_neg e] at h; clear e
  by_cases e : f = 18
  · rw [if_pos e] at h; injection h with h; subst e; subst h; exact fn_18
  rw [if_neg e] at h; clear e
  by_cases e : f = 19
  · rw [if_pos e] at h; injection h with h; subst e; subst h; exact fn_19
  rw [if_neg e] at h; clear e
  by_cases e : f = 20
  · rw [if_pos e] at h; injection h with h; subst e; subst h; exact fn_20
  rw [if_neg e] at h; clear e
  by_cases e : f = 21
  · rw [if_pos e] at h; injection h with h; subst e; subst h; exact fn_21
  rw [if_neg e] at h; clear e
  by_cases e : f = 22
  · rw [if_pos e] at h; injection h with h; subst e; subst h; exact fn_22
  rw [if_neg e] at h; clear e
  by_cases e : f = 23
  · rw [if_pos e] at h; injection h with h; subst e; subst h; exact fn_23
  rw [if_neg e] at h; clear e
  by_cases e : f = 24
  · rw [if_pos e] at h; injection h with h; subst e; subst h; exact fn_24
  rw [if_neg e] at h; clear e
  by_cases e : f = 25
  · rw [if_pos e] at h; injection h with h; subst e; subst h; exact fn_25
  rw [if_neg e] at h; clear e
  by_cases e : f = 35
  · rw [if_pos e] at h; injection h with h; subst e; subst h; exact fn_35
  rw [if_neg e] at h; clear e
  by_cases e : f = 36
  · rw [if_pos e] at h; injection h with h; subst e; subst h; exact fn_36
  rw [if_neg e] at h; clear e
  by_cases e : f = 37
  · rw [if_pos e] at h; injection h with h; subst e; subst h; exact fn_37
  rw [if_neg e] at h; clear e
  by_cases e : f = 38
  · rw [if_pos e] at h; injection h with h; subst e; subst h; exact fn_38
  rw [if_neg e] at h; clear e
  by_cases e : f = 39
  · rw [if_pos e] at h; injection h with h; subst e; subst h; exact fn_39
  rw [if_neg e] at h; clear e
  by_cases e : f = 40
  · rw [if_pos e] at h; injection h with h; subst e; subst h; exact fn_40
  rw [if_neg e] at h; clear e
  by_cases e : f = 43
  · rw [if_pos e] at h; injection h with h; subst e; subst h; exact fn_43
  rw [if_neg e] at h; clear e
  by_cases e : f = 55
  · rw [if_pos e] at h; injection h with h; subst e; subst h; exact fn_55
  rw [if_neg e] at h; clear e
  by_cases e : f = 56
  · rw [if_pos e] at h; injection h with h; subst e; subst h; exact fn_56
  rw [if_neg e] at h; clear e
  by_cases e : f = 57
  · rw [if_pos e] at h; injection h with h; subst e; subst h; exact fn_57
  rw [if_neg e] at h; clear e
  by_cases e : f = 58
  · rw [if_pos e] at h; injection h with h; subst e; subst h; exact fn_58
  rw [if_neg e] at h; clear e
  by_cases e : f = 59
  · rw [if_pos e] at h; injection h with h; subst e; subst h; exact fn_59
  rw [if_neg e] at h; clear e
  by_cases e : f = 60
  · rw [if_pos e] at h; injection h with h; subst e; subst h; exact fn_60
  rw [if_neg e] at h; clear e
  by_cases e : f = 61
  · rw [if_pos e] at h; injection h with h; subst e; subst h; exact fn_61
  rw [if_neg e] at h; clear e
  by_cases e : f = 65
  · rw [if_pos e] at h; injection h with h; subst e; subst h; exact fn_65
  rw [if_neg e] at h; clear e
  by_cases e : f = 73
  · rw [if_pos e] at h; injection h with h; subst e; subst h; exact fn_73
  rw [if_neg e] at h; clear e
  by_cases e : f = 74
  · rw [if_pos e] at h; injection h with h; subst e; subst h; exact fn_74
  rw [if_neg e] at h; clear e
  by_cases e : f = 75
  · rw [if_pos e] at h; injection h with h; subst e; subst h; exact fn_75
  rw [if_neg e] at h; clear e
  by_cases e : f = 76
  · rw [if_pos e] at h; injection h with h; subst e; subst h; exact fn_76
  rw [if_neg e] at h; clear e
  by_cases e : f = 78
  · rw [if_pos e] at h; injection h with h; subst e; subst h; exact fn_78
  rw [if_neg e] at h; clear e
  by_cases e : f = 85
  · rw [if_pos e] at h; injection h with h; subst e; subst h; exact fn_85
  rw [if_neg e] at h; clear e
  by_cases e : f = 86
  · rw [if_pos e] at h; injection h with h; subst e; subst h; exact fn_86
  rw [if_neg e] at h; clear e
  by_cases e : f = 87
  · rw [if_pos e] at h; injection h with h; subst e; subst h; exact fn_87
  rw [if_neg e] at h; clear e
  by_cases e : f = 88
  · rw [if_pos e] at h; injection h with h; subst e; subst h; exact fn_88
  rw [if_neg e] at h; clear e
  by_cases e : f = 89
  · rw [if_pos e] at h; injection h with h; subst e; subst h; exact fn_89
  rw [if_neg e] at h; clear e
  by_cases e : f = 90
  · rw [if_pos e] at h; injection h with h; subst e; subst h; exact fn_90
  rw [if_neg e] at h; clear e
  by_cases e : f = 91
  · rw [if_pos e] at h; injection h with h; subst e; subst h; exact fn_91
  rw [if_neg e] at h; clear e
  by_cases e : f = 98
  · rw [if_pos e] at h; injection h with h; subst e; subst h; exact fn_98
  rw [if_neg e] at h; clear e
  by_cases e : f = 99
  · rw [if_pos e] at h; injection h with h; subst e; subst h; exact fn_99
  rw [if_neg e] at h; clear e
  by_cases e : f = 100
  · rw [if_pos e] at h; injection h with h; subst e; subst h; exact fn_100
  rw [if_neg e] at h; clear e
  by_cases e : f = 101
  · rw [if_pos e] at h; injection h with h; subst e; subst h; exact fn_101
  rw [if_neg e] at h; clear e
  by_cases e : f = 102
  · rw [if_pos e] at h; injection h with h; subst e; subst h; exact fn_102
  rw [if_neg e] at h; clear e
  by_cases e : f = 103
  · rw [if_pos e] at h; injection h with h; subst e; subst h; exact fn_103
  rw [if_neg e] at h; clear e
  by_cases e : f = 104
  · rw [if_pos e] at h; injection h with h; subst e; subst h; exact fn_104
  rw [if_neg e] at h; clear e
  by_cases e : f = 110
  · rw [if_pos e] at h; injection h with h; subst e; subst h; exact fn_110
  rw [if_neg e] at h; clear e
  by_cases e : f = 111
  · rw [if_pos e] at h; injection h with h; subst e; subst h; exact fn_111
  rw [if_neg e] at h; clear e
  by_cases e : f = 112
  · rw [if_pos e] at h; injection h with h; subst e; subst h; exact fn_112
  rw [if_neg e] at h; clear e
  by_cases e : f = 113
  · rw [if_pos e] at h; injection h with h; subst e; subst h; exact fn_113
  rw [if_neg e] at h; clear e
  by_cases e : f = 114
  · rw [if_pos e] at h; injection h with h; subst e; subst h; exact fn_114
  rw [if_neg e] at h; clear e
  by_cases e : f = 115
  · rw [if_pos e] at h; injection h with h; subst e; subst h; exact fn_115
  rw [if_neg e] at h; clear e
  by_cases e : f = 116
  · rw [if_pos e] at h; injection h with h; subst e; subst h; exact fn_116
  rw [if_neg e] at h; clear e
  by_cases e : f = 118
  · rw [if_pos e] at h; injection h with h; subst e; subst h; exact fn_118
  rw [if_neg e] at h; clear e
  by_cases e : f = 119
  · rw [if_pos e] at h; injection h with h; subst e; subst h; exact fn_119
  rw [if_neg e] at h; clear e
  simp at h
theorem fx_72 : ExtOk Tryd.prog glT 72 xIndexByte := xIndexByte_ok Tryd.func72 (by kernel_rfl) (by kernel_rfl) (by kernel_rfl) (by rfl)
theorem fx_all : ∀ f g, Xt f = some g → ExtOk Tryd.prog glT f g := by
  intro f g h
  unfold Xt at h
  by_cases e : f = 72
  · rw [if_pos e] at h; injection h with h; subst e; subst h; exact fx_72
  rw [if_neg e] at h; clear e
  simp at h
theorem quiet_far : ∀ f, quietT f ≠ 0 → f < 400 := by
  intro f hq
  rcases Nat.lt_or_ge f 400 with h | h
  · exact h
  · exfalso
    apply hq
    unfold quietT
    rw [List.contains_eq_mem, List.contains_eq_mem]
    rw [if_neg, if_neg]
    all_goals
      simp only [decide_eq_true_eq, List.mem_cons, List.not_mem_nil, or_false]
      first | omega | exact not_false
theorem quiet_all : ∀ n, QuietOk quietT (evCall Xt Ft n) := by
  refine quiet_ok (fun f g hq hx => ?_) (fun f A hq hx hf => ?_)
  · have h := List.all_eq_true.1 calm_all f (List.mem_range.2 (quiet_far f hq))
    have h2 : quietT f ≠ 2 := by
      rw [hx] at h
      simpa [hq] using h
    refine ⟨?_, h2⟩
    unfold Xt at hx
    by_cases e : f = 72
    · rw [if_pos e] at hx; injection hx with hx; subst hx; exact xIndexByte_grows
    rw [if_neg e] at hx; clear e
    simp at hx
  · have h := List.all_eq_true.1 calm_all f (List.mem_range.2 (quiet_far f hq))
    rw [hx, hf] at h
    simp only [Bool.or_eq_true, beq_iff_eq, hq, false_or, Bool.and_eq_true, bne_iff_ne, ne_eq] at h
    exact ⟨h.1, fun e => h.2.resolve_left (fun n => n e)⟩
theorem gl_far : ∀ g, lookNo ≤ g → glT g = none := by
  intro g h
  unfold lookNo at h
  unfold glT
  rw [if_neg (by omega)]
  rw [if_neg (by omega)]
  rw [if_neg (by omega)]
  rw [if_neg (by omega)]
  rw [if_neg (by omega)]
  rw [if_neg (by omega)]
theorem call_all : ∀ n, CallOk Tryd.prog glT (evCall Xt Ft n) := call_ok (by kernel_rfl) gl_far quiet_all fx_all fn_all
end Go.Am
