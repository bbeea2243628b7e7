/- The program's functions, read as abstract ones: every one of them compiles to the text that the plain law speaks of. -/
import Derived.Test.YtpjdfeplfbmgpaaDoorChecked
import Derived.Test.YtpjdfeplfbmgpaaDoorAmFTapeSame
import Derived.Test.YtpjdfeplfbmgpaaDoorAmRow3
import Derived.KernelRfl
namespace Go.Am
open Go.Proofs
set_option maxRecDepth 100000
theorem fn_3 : FnOk Tryd.prog glT quietT 3 f_spinnakerlaw46_TapeSame := ⟨Tryd.f3, Tryd.func3, by kernel_rfl, by kernel_rfl⟩
theorem fn_9 : FnOk Tryd.prog glT quietT 9 f_spinnakerlaw46_large := ⟨Tryd.f9, Tryd.func9, by kernel_rfl, by kernel_rfl⟩
theorem fn_10 : FnOk Tryd.prog glT quietT 10 f_spinnakerlaw46_awake := ⟨Tryd.f10, Tryd.func10, by kernel_rfl, by kernel_rfl⟩
theorem fn_11 : FnOk Tryd.prog glT quietT 11 f_tape_Same := ⟨Tryd.f11, Tryd.func11, by kernel_rfl, by kernel_rfl⟩
theorem fn_12 : FnOk Tryd.prog glT quietT 12 f_spinnakerref46_Same := ⟨Tryd.f12, Tryd.func12, by kernel_rfl, by kernel_rfl⟩
theorem fn_13 : FnOk Tryd.prog glT quietT 13 f_tape_Begins := ⟨Tryd.f13, Tryd.func13, by kernel_rfl, by kernel_rfl⟩
theorem fn_14 : FnOk Tryd.prog glT quietT 14 f_spinnakerref46_Begins := ⟨Tryd.f14, Tryd.func14, by kernel_rfl, by kernel_rfl⟩
theorem fn_15 : FnOk Tryd.prog glT quietT 15 f_tape_Word := ⟨Tryd.f15, Tryd.func15, by kernel_rfl, by kernel_rfl⟩
theorem fn_16 : FnOk Tryd.prog glT quietT 16 f_spinnakerref46_Word := ⟨Tryd.f16, Tryd.func16, by kernel_rfl, by kernel_rfl⟩
theorem fn_28 : FnOk Tryd.prog glT quietT 28 f_tape_Text := ⟨Tryd.f28, Tryd.func28, by kernel_rfl, by kernel_rfl⟩
theorem fn_31 : FnOk Tryd.prog glT quietT 31 f_spinnakerref01_Ints := ⟨Tryd.f31, Tryd.func31, by kernel_rfl, by kernel_rfl⟩
theorem fn_32 : FnOk Tryd.prog glT quietT 32 f_slices_EqualFuncintintintint := ⟨Tryd.f32, Tryd.func32, by kernel_rfl, by kernel_rfl⟩
theorem fn_33 : FnOk Tryd.prog glT quietT 33 f_slices_Equalintint := ⟨Tryd.f33, Tryd.func33, by kernel_rfl, by kernel_rfl⟩
theorem fn_34 : FnOk Tryd.prog glT quietT 34 f_tape_Begins_1 := ⟨Tryd.f34, Tryd.func34, by kernel_rfl, by kernel_rfl⟩
theorem fn_45 : FnOk Tryd.prog glT quietT 45 f_tape_Text_1 := ⟨Tryd.f45, Tryd.func45, by kernel_rfl, by kernel_rfl⟩
theorem fn_46 : FnOk Tryd.prog glT quietT 46 f_slices_ContainsFuncintint := ⟨Tryd.f46, Tryd.func46, by kernel_rfl, by kernel_rfl⟩
theorem fn_47 : FnOk Tryd.prog glT quietT 47 f_strings_Builder_WriteString := ⟨Tryd.f47, Tryd.func47, by kernel_rfl, by kernel_rfl⟩
theorem fn_48 : FnOk Tryd.prog glT quietT 48 f_tape_line := ⟨Tryd.f48, Tryd.func48, by kernel_rfl, by kernel_rfl⟩
theorem fn_49 : FnOk Tryd.prog glT quietT 49 f_strings_Builder_String := ⟨Tryd.f49, Tryd.func49, by kernel_rfl, by kernel_rfl⟩
theorem fn_63 : FnOk Tryd.prog glT quietT 63 f_slices_IndexFuncintint := ⟨Tryd.f63, Tryd.func63, by kernel_rfl, by kernel_rfl⟩
theorem fn_64 : FnOk Tryd.prog glT quietT 64 f_strings_Builder_copyCheck := ⟨Tryd.f64, Tryd.func64, by kernel_rfl, by kernel_rfl⟩
theorem fn_65 : FnOk Tryd.prog glT quietT 65 f_strconv_Itoa := ⟨Tryd.f65, Tryd.func65, by kernel_rfl, by kernel_rfl⟩
theorem fn_66 : FnOk Tryd.prog glT quietT 66 f_strings_Join := ⟨Tryd.f66, Tryd.func66, by kernel_rfl, by kernel_rfl⟩
theorem fn_78 : FnOk Tryd.prog glT quietT 78 f_i_strconv_Itoa := ⟨Tryd.f78, Tryd.func78, by kernel_rfl, by kernel_rfl⟩
theorem fn_79 : FnOk Tryd.prog glT quietT 79 f_strings_Builder_Grow := ⟨Tryd.f79, Tryd.func79, by kernel_rfl, by kernel_rfl⟩
theorem fn_91 : FnOk Tryd.prog glT quietT 91 f_i_strconv_FormatInt := ⟨Tryd.f91, Tryd.func91, by kernel_rfl, by kernel_rfl⟩
theorem fn_92 : FnOk Tryd.prog glT quietT 92 f_strings_Builder_grow := ⟨Tryd.f92, Tryd.func92, by kernel_rfl, by kernel_rfl⟩
theorem fn_101 : FnOk Tryd.prog glT quietT 101 f_i_strconv_small := ⟨Tryd.f101, Tryd.func101, by kernel_rfl, by kernel_rfl⟩
theorem fn_102 : FnOk Tryd.prog glT quietT 102 f_i_strconv_numDigits := ⟨Tryd.f102, Tryd.func102, by kernel_rfl, by kernel_rfl⟩
theorem fn_103 : FnOk Tryd.prog glT quietT 103 f_i_strconv_formatBase10 := ⟨Tryd.f103, Tryd.func103, by kernel_rfl, by kernel_rfl⟩
theorem fn_104 : FnOk Tryd.prog glT quietT 104 f_i_strconv_formatBits := ⟨Tryd.f104, Tryd.func104, by kernel_rfl, by kernel_rfl⟩
theorem fn_112 : FnOk Tryd.prog glT quietT 112 f_i_strconv_log10Pow2 := ⟨Tryd.f112, Tryd.func112, by kernel_rfl, by kernel_rfl⟩
theorem fn_113 : FnOk Tryd.prog glT quietT 113 f_math_bits_Len64 := ⟨Tryd.f113, Tryd.func113, by kernel_rfl, by kernel_rfl⟩
theorem fn_114 : FnOk Tryd.prog glT quietT 114 f_i_strconv_bool2int := ⟨Tryd.f114, Tryd.func114, by kernel_rfl, by kernel_rfl⟩
theorem fn_115 : FnOk Tryd.prog glT quietT 115 f_i_strconv_isPowerOfTwo := ⟨Tryd.f115, Tryd.func115, by kernel_rfl, by kernel_rfl⟩
theorem fn_116 : FnOk Tryd.prog glT quietT 116 f_math_bits_TrailingZeros := ⟨Tryd.f116, Tryd.func116, by kernel_rfl, by kernel_rfl⟩
theorem fn_118 : FnOk Tryd.prog glT quietT 118 f_math_bits_TrailingZeros32 := ⟨Tryd.f118, Tryd.func118, by kernel_rfl, by kernel_rfl⟩
theorem fn_119 : FnOk Tryd.prog glT quietT 119 f_math_bits_TrailingZeros64 := ⟨Tryd.f119, Tryd.func119, by kernel_rfl, by kernel_rfl⟩
theorem calm_all : ((List.range 400).all fun f => !quietT f || (match Xt f, Ft f with | some _, _ => true | none, some A => A.body.calm quietT | none, none => true)) = true := by kernel_rfl
theorem fn_all : ∀ f A, Ft f = some A → FnOk Tryd.prog glT quietT f A := by
  intro f A h
  unfold Ft at h
  by_cases e : f = 3
  · rw [if_pos e] at h; injection h with h; subst e; subst h; exact fn_3
  rw [if_neg e] at h; clear e
  by_cases e : f = 9
  · rw [if_pos e] at h; injection h with h; subst e; subst h; exact fn_9
  rw [if_neg e] at h; clear e
  by_cases e : f = 10
  · rw [if_pos e] at h; injection h with h; subst e; subst h; exact fn_10
  rw [if_neg e] at h; clear e
  by_cases e : f = 11
  · rw [if_pos e] at h; injection h with h; subst e; subst h; exact fn_11
  rw [if_neg e] at h; clear e
  by_cases e : f = 12
  · rw [if_pos e] at h; injection h with h; subst e; subst h; exact fn_12
  rw [if_neg e] at h; clear e
  by_cases e : f = 13
  · rw [if_pos e] at h; injection h with h; subst e; subst h; exact fn_13
  rw [if_neg e] at h; clear e
  by_cases e : f = 14
  · rw [if_pos e] at h; injection h with h; subst e; subst h; exact fn_14
  rw [if_neg e] at h; clear e
  by_cases e : f = 15
  · rw [if_pos e] at h; injection h with h; subst e; subst h; exact fn_15
  rw [if_neg e] at h; clear e
  by_cases e : f = 16
  · rw [if_pos e] at h; injection h with h; subst e; subst h; exact fn_16
  rw [if_neg e] at h; clear e
  by_cases e : f = 28
  · rw [if_pos e] at h; injection h with h; subst e; subst h; exact fn_28
  rw [if_neg e] at h; clear e
  by_cases e : f = 31
  · rw [if_pos e] at h; injection h with h; subst e; subst h; exact fn_31
  rw [if_neg e] at h; clear e
  by_cases e : f = 32
  · rw [if_pos e] at h; injection h with h; subst e; subst h; exact fn_32
  rw [if_neg e] at h; clear e
  by_cases e : f = 33
  · rw [if_pos e] at h; injection h with h; subst e; subst h; exact fn_33
  rw [if_neg e] at h; clear e
  by_cases e : f = 34
  · rw [if_pos e] at h; injection h with h; subst e; subst h; exact fn_34
  rw [if_neg e] at h; clear e
  by_cases e : f = 45
  · rw [if_pos e] at h; injection h with h; subst e; subst h; exact fn_45
  rw [if_neg e] at h; clear e
  by_cases e : f = 46
  · rw [if_pos e] at h; injection h with h; subst e; subst h; exact fn_46
  rw [if_neg e] at h; clear e
  by_cases e : f = 47
  · rw [if_pos e] at h; injection h with h; subst e; subst h; exact fn_47
  rw [if_neg e] at h; clear e
  by_cases e : f = 48
  · rw [if_pos e] at h; injection h with h; subst e; subst h; exact fn_48
  rw [if_neg e] at h; clear e
  by_cases e : f = 49
  · rw [if_pos e] at h; injection h with h; subst e; subst h; exact fn_49
  rw [if_neg e] at h; clear e
  by_cases e : f = 63
  · rw [if_pos e] at h; injection h with h; subst e; subst h; exact fn_63
  rw [if_neg e] at h; clear e
  by_cases e : f = 64
  · rw [if_pos e] at h; injection h with h; subst e; subst h; exact fn_64
  rw [if_neg e] at h; clear e
  by_cases e : f = 65
  · rw [if_pos e] at h; injection h with h; subst e; subst h; exact fn_65
  rw [if_neg e] at h; clear e
  by_cases e : f = 66
  · rw [if_pos e] at h; injection h with h; subst e; subst h; exact fn_66
  rw [if_neg e] at h; clear e
  by_cases e : f = 78
  · rw [if_pos e] at h; injection h with h; subst e; subst h; exact fn_78
  rw [if_neg e] at h; clear e
  by_cases e : f = 79
  · rw [if_pos e] at h; injection h with h; subst e; subst h; exact fn_79
  rw [if_neg e] at h; clear e
  by_cases e : f = 91
  · rw [if_pos e] at h; injection h with h; subst e; subst h; exact fn_91
  rw [if_neg e] at h; clear e
  by_cases e : f = 92
  · rw [if_pos e] at h; injection h with h; subst e; subst h; exact fn_92
  rw [if_neg e] at h; clear e
  by_cases e : f = 101
  · rw [if_pos e] at h; injection h with h; subst e; subst h; exact fn_101
  rw [if_neg e] at h; clear e
  by_cases e : f = 102
  · rw [if_pos e] at h; injection h with h; subst e; subst h; exact fn_102
  rw [if_neg e] at h; clear e
  by_cases e : f = 103
  · rw [if_pos e] at h; injection h with h; subst e; subst h; exact fn_103
  rw [if_neg e] at h; clear e
  by_cases e : f = 104
  · rw [if_pos e] at h; injection h with h; subst e; subst h; exact fn_104
  rw [if_neg e] at h; clear e
  by_cases e : f = 112
  · rw [if_pos e] at h; injection h with h; subst e; subst h; exact fn_112
  rw [if_neg e] at h; clear e
  by_cases e : f = 113
  · rw [if_pos e] at h; injection h with h; subst e; subst h; exact fn_113
  rw [if_neg e] at h; clear e
  by_cases e : f = 114
  · rw [if_pos e] at h; injection h with h; subst e; subst h; exact fn_114
  rw [if_neg e] at h; clear e
  by_cases e : f = 115
  · rw [if_pos e] at h; injection h with h; subst e; subst h; exact fn_115
  rw [if_neg e] at h; clear e
  by_cases e : f = 116
  · rw [if_pos e] at h; injection h with h; subst e; subst h; exact fn_116
  rw [if_neg e] at h; clear e
  by_cases e : f = 118
  · rw [if_pos e] at h; injection h with h; subst e; subst h; exact fn_118
  rw [if_neg e] at h; clear e
  by_cases e : f = 119
  · rw [if_pos e] at h; injection h with h; subst e; subst h; exact fn_119
  rw [if_neg e] at h; clear e
  simp at h
theorem fx_77 : ExtOk Tryd.prog glT 77 xSame := xSame_ok Tryd.func77 (by kernel_rfl) (by kernel_rfl) (by kernel_rfl) (by rfl)
theorem fx_105 : ExtOk Tryd.prog glT 105 (xMake 5) := xMake_ok (t := 28) Tryd.func105 (by kernel_rfl) (by kernel_rfl) (by kernel_rfl) (by rfl) (by kernel_rfl)
theorem fx_all : ∀ f g, Xt f = some g → ExtOk Tryd.prog glT f g := by
  intro f g h
  unfold Xt at h
  by_cases e : f = 77
  · rw [if_pos e] at h; injection h with h; subst e; subst h; exact fx_77
  rw [if_neg e] at h; clear e
  by_cases e : f = 105
  · rw [if_pos e] at h; injection h with h; subst e; subst h; exact fx_105
  rw [if_neg e] at h; clear e
  simp at h
theorem quiet_all : ∀ n, QuietOk quietT (evCall Xt Ft n) := by
  refine quiet_ok (fun f g hq hx => ?_) (fun f A hq hx hf => ?_)
  · unfold Xt at hx
    by_cases e : f = 77
    · rw [if_pos e] at hx; injection hx with hx; subst hx; exact xSame_grows
    rw [if_neg e] at hx; clear e
    by_cases e : f = 105
    · rw [if_pos e] at hx; injection hx with hx; subst hx; exact xMake_grows
    rw [if_neg e] at hx; clear e
    simp at hx
  · have hl : f < 400 := by
      rcases Nat.lt_or_ge f 400 with h | h
      · exact h
      · exfalso
        have : quietT f = false := by
          unfold quietT
          rw [List.contains_eq_mem]
          simp only [decide_eq_false_iff_not, List.mem_cons, List.not_mem_nil, or_false]
          omega
        rw [this] at hq
        exact absurd hq (by simp)
    have h := List.all_eq_true.1 calm_all f (List.mem_range.2 hl)
    rw [hq, hx, hf] at h
    simpa using h
theorem call_all : ∀ n, CallOk Tryd.prog glT (evCall Xt Ft n) := call_ok (by kernel_rfl) quiet_all fx_all fn_all
end Go.Am
