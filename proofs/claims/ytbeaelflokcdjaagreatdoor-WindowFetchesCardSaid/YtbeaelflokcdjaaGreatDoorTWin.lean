/- The program's functions, read as abstract ones: every one of them compiles to the text that the plain law speaks of. -/
import Derived.Test.YtbeaelflokcdjaaGreatDoorAm13
import Derived.Test.YtbeaelflokcdjaaGreatDoorChecked
import Derived.KernelRfl
namespace Go.Am
open Go.Proofs
set_option maxRecDepth 100000
theorem fn_3 : FnOk Tryz.prog glT quietT 3 f_spinnakerlaw19_WindowFetches := ⟨Tryz.f3, Tryz.func3, by kernel_rfl, by kernel_rfl⟩
theorem fn_5 : FnOk Tryz.prog glT quietT 5 f_spinnakerlaw19_large := ⟨Tryz.f5, Tryz.func5, by kernel_rfl, by kernel_rfl⟩
theorem fn_6 : FnOk Tryz.prog glT quietT 6 f_spinnakerlaw19_awake := ⟨Tryz.f6, Tryz.func6, by kernel_rfl, by kernel_rfl⟩
theorem fn_7 : FnOk Tryz.prog glT quietT 7 f_spinnakerlaw19_same := ⟨Tryz.f7, Tryz.func7, by kernel_rfl, by kernel_rfl⟩
theorem fn_8 : FnOk Tryz.prog glT quietT 8 f_window_Fetch := ⟨Tryz.f8, Tryz.func8, by kernel_rfl, by kernel_rfl⟩
theorem fn_9 : FnOk Tryz.prog glT quietT 9 f_spinnakerref19_Fetch := ⟨Tryz.f9, Tryz.func9, by kernel_rfl, by kernel_rfl⟩
theorem fn_10 : FnOk Tryz.prog glT quietT 10 f_spinnakerref03_May := ⟨Tryz.f10, Tryz.func10, by kernel_rfl, by kernel_rfl⟩
theorem fn_11 : FnOk Tryz.prog glT quietT 11 f_spinnakerref04_Encode := ⟨Tryz.f11, Tryz.func11, by kernel_rfl, by kernel_rfl⟩
theorem fn_12 : FnOk Tryz.prog glT quietT 12 f_window_Window_Execute := ⟨Tryz.f12, Tryz.func12, by kernel_rfl, by kernel_rfl⟩
theorem fn_16 : FnOk Tryz.prog glT quietT 16 f_window_Window_Reg := ⟨Tryz.f16, Tryz.func16, by kernel_rfl, by kernel_rfl⟩
theorem fn_17 : FnOk Tryz.prog glT quietT 17 f_image_Fetch := ⟨Tryz.f17, Tryz.func17, by kernel_rfl, by kernel_rfl⟩
theorem fn_18 : FnOk Tryz.prog glT quietT 18 f_window_bad := ⟨Tryz.f18, Tryz.func18, by kernel_rfl, by kernel_rfl⟩
theorem fn_19 : FnOk Tryz.prog glT quietT 19 f_window_Entry_value := ⟨Tryz.f19, Tryz.func19, by kernel_rfl, by kernel_rfl⟩
theorem fn_20 : FnOk Tryz.prog glT quietT 20 f_alu_Upper := ⟨Tryz.f20, Tryz.func20, by kernel_rfl, by kernel_rfl⟩
theorem fn_21 : FnOk Tryz.prog glT quietT 21 f_isa_Branch := ⟨Tryz.f21, Tryz.func21, by kernel_rfl, by kernel_rfl⟩
theorem fn_22 : FnOk Tryz.prog glT quietT 22 f_spinnakerref08_Fetch := ⟨Tryz.f22, Tryz.func22, by kernel_rfl, by kernel_rfl⟩
theorem fn_23 : FnOk Tryz.prog glT quietT 23 f_spinnakerref19_Access := ⟨Tryz.f23, Tryz.func23, by kernel_rfl, by kernel_rfl⟩
theorem fn_24 : FnOk Tryz.prog glT quietT 24 f_spinnakerref03_Wide := ⟨Tryz.f24, Tryz.func24, by kernel_rfl, by kernel_rfl⟩
theorem fn_25 : FnOk Tryz.prog glT quietT 25 f_spinnakerref03_Form := ⟨Tryz.f25, Tryz.func25, by kernel_rfl, by kernel_rfl⟩
theorem fn_26 : FnOk Tryz.prog glT quietT 26 f_spinnakerref03_letter := ⟨Tryz.f26, Tryz.func26, by kernel_rfl, by kernel_rfl⟩
theorem fn_27 : FnOk Tryz.prog glT quietT 27 f_spinnakerref03_register := ⟨Tryz.f27, Tryz.func27, by kernel_rfl, by kernel_rfl⟩
theorem fn_28 : FnOk Tryz.prog glT quietT 28 f_spinnakerref03_HasRd := ⟨Tryz.f28, Tryz.func28, by kernel_rfl, by kernel_rfl⟩
theorem fn_29 : FnOk Tryz.prog glT quietT 29 f_spinnakerref03_HasA := ⟨Tryz.f29, Tryz.func29, by kernel_rfl, by kernel_rfl⟩
theorem fn_30 : FnOk Tryz.prog glT quietT 30 f_spinnakerref03_HasB := ⟨Tryz.f30, Tryz.func30, by kernel_rfl, by kernel_rfl⟩
theorem fn_31 : FnOk Tryz.prog glT quietT 31 f_spinnakerref03_immediate := ⟨Tryz.f31, Tryz.func31, by kernel_rfl, by kernel_rfl⟩
theorem fn_32 : FnOk Tryz.prog glT quietT 32 f_spinnakerref03_has := ⟨Tryz.f32, Tryz.func32, by kernel_rfl, by kernel_rfl⟩
theorem fn_33 : FnOk Tryz.prog glT quietT 33 f_spinnakerref04_Word := ⟨Tryz.f33, Tryz.func33, by kernel_rfl, by kernel_rfl⟩
theorem fn_34 : FnOk Tryz.prog glT quietT 34 f_spinnakerref04_bits := ⟨Tryz.f34, Tryz.func34, by kernel_rfl, by kernel_rfl⟩
theorem fn_35 : FnOk Tryz.prog glT quietT 35 f_window_Window_Can := ⟨Tryz.f35, Tryz.func35, by kernel_rfl, by kernel_rfl⟩
theorem fn_36 : FnOk Tryz.prog glT quietT 36 f_window_Window_operands := ⟨Tryz.f36, Tryz.func36, by kernel_rfl, by kernel_rfl⟩
theorem fn_37 : FnOk Tryz.prog glT quietT 37 f_window_Window_steer := ⟨Tryz.f37, Tryz.func37, by kernel_rfl, by kernel_rfl⟩
theorem fn_38 : FnOk Tryz.prog glT quietT 38 f_alu_Taken := ⟨Tryz.f38, Tryz.func38, by kernel_rfl, by kernel_rfl⟩
theorem fn_39 : FnOk Tryz.prog glT quietT 39 f_window_reckons := ⟨Tryz.f39, Tryz.func39, by kernel_rfl, by kernel_rfl⟩
theorem fn_40 : FnOk Tryz.prog glT quietT 40 f_window_reckon := ⟨Tryz.f40, Tryz.func40, by kernel_rfl, by kernel_rfl⟩
theorem fn_41 : FnOk Tryz.prog glT quietT 41 f_image_Place := ⟨Tryz.f41, Tryz.func41, by kernel_rfl, by kernel_rfl⟩
theorem fn_46 : FnOk Tryz.prog glT quietT 46 f_window_Window_at := ⟨Tryz.f46, Tryz.func46, by kernel_rfl, by kernel_rfl⟩
theorem fn_47 : FnOk Tryz.prog glT quietT 47 f_isa_Writes := ⟨Tryz.f47, Tryz.func47, by kernel_rfl, by kernel_rfl⟩
theorem fn_49 : FnOk Tryz.prog glT quietT 49 f_image_place := ⟨Tryz.f49, Tryz.func49, by kernel_rfl, by kernel_rfl⟩
theorem fn_50 : FnOk Tryz.prog glT quietT 50 f_dec_Decode := ⟨Tryz.f50, Tryz.func50, by kernel_rfl, by kernel_rfl⟩
theorem fn_51 : FnOk Tryz.prog glT quietT 51 f_window_access := ⟨Tryz.f51, Tryz.func51, by kernel_rfl, by kernel_rfl⟩
theorem fn_52 : FnOk Tryz.prog glT quietT 52 f_isa_Wide := ⟨Tryz.f52, Tryz.func52, by kernel_rfl, by kernel_rfl⟩
theorem fn_53 : FnOk Tryz.prog glT quietT 53 f_isa_in := ⟨Tryz.f53, Tryz.func53, by kernel_rfl, by kernel_rfl⟩
theorem fn_54 : FnOk Tryz.prog glT quietT 54 f_spinnakerref08_Code := ⟨Tryz.f54, Tryz.func54, by kernel_rfl, by kernel_rfl⟩
theorem fn_55 : FnOk Tryz.prog glT quietT 55 f_spinnakerref05_Decode := ⟨Tryz.f55, Tryz.func55, by kernel_rfl, by kernel_rfl⟩
theorem fn_56 : FnOk Tryz.prog glT quietT 56 f_spinnakerref03_Reader := ⟨Tryz.f56, Tryz.func56, by kernel_rfl, by kernel_rfl⟩
theorem fn_57 : FnOk Tryz.prog glT quietT 57 f_spinnakerref03_Writer := ⟨Tryz.f57, Tryz.func57, by kernel_rfl, by kernel_rfl⟩
theorem fn_58 : FnOk Tryz.prog glT quietT 58 f_spinnakerref01_Fits := ⟨Tryz.f58, Tryz.func58, by kernel_rfl, by kernel_rfl⟩
theorem fn_59 : FnOk Tryz.prog glT quietT 59 f_spinnakerref04_words := ⟨Tryz.f59, Tryz.func59, by kernel_rfl, by kernel_rfl⟩
theorem fn_60 : FnOk Tryz.prog glT quietT 60 f_spinnakerref01_Bit := ⟨Tryz.f60, Tryz.func60, by kernel_rfl, by kernel_rfl⟩
theorem fn_61 : FnOk Tryz.prog glT quietT 61 f_spinnakerref01_Power := ⟨Tryz.f61, Tryz.func61, by kernel_rfl, by kernel_rfl⟩
theorem fn_62 : FnOk Tryz.prog glT quietT 62 f_isa_Reads := ⟨Tryz.f62, Tryz.func62, by kernel_rfl, by kernel_rfl⟩
theorem fn_63 : FnOk Tryz.prog glT quietT 63 f_alu_Taken_1 := ⟨Tryz.f63, Tryz.func63, by kernel_rfl, by kernel_rfl⟩
theorem fn_64 : FnOk Tryz.prog glT quietT 64 f_alu_Taken_2 := ⟨Tryz.f64, Tryz.func64, by kernel_rfl, by kernel_rfl⟩
theorem fn_65 : FnOk Tryz.prog glT quietT 65 f_isa_Form := ⟨Tryz.f65, Tryz.func65, by kernel_rfl, by kernel_rfl⟩
theorem fn_66 : FnOk Tryz.prog glT quietT 66 f_alu_Eval := ⟨Tryz.f66, Tryz.func66, by kernel_rfl, by kernel_rfl⟩
theorem fn_73 : FnOk Tryz.prog glT quietT 73 f_isa_May := ⟨Tryz.f73, Tryz.func73, by kernel_rfl, by kernel_rfl⟩
theorem fn_74 : FnOk Tryz.prog glT quietT 74 f_dec_parts := ⟨Tryz.f74, Tryz.func74, by kernel_rfl, by kernel_rfl⟩
theorem fn_75 : FnOk Tryz.prog glT quietT 75 f_dec_operation := ⟨Tryz.f75, Tryz.func75, by kernel_rfl, by kernel_rfl⟩
theorem fn_76 : FnOk Tryz.prog glT quietT 76 f_enc_Encode := ⟨Tryz.f76, Tryz.func76, by kernel_rfl, by kernel_rfl⟩
theorem fn_77 : FnOk Tryz.prog glT quietT 77 f_isa_Access := ⟨Tryz.f77, Tryz.func77, by kernel_rfl, by kernel_rfl⟩
theorem fn_78 : FnOk Tryz.prog glT quietT 78 f_spinnakerref05_imm := ⟨Tryz.f78, Tryz.func78, by kernel_rfl, by kernel_rfl⟩
theorem fn_79 : FnOk Tryz.prog glT quietT 79 f_spinnakerref05_bits := ⟨Tryz.f79, Tryz.func79, by kernel_rfl, by kernel_rfl⟩
theorem fn_80 : FnOk Tryz.prog glT quietT 80 f_isa_fields := ⟨Tryz.f80, Tryz.func80, by kernel_rfl, by kernel_rfl⟩
theorem fn_81 : FnOk Tryz.prog glT quietT 81 f_isa_Name := ⟨Tryz.f81, Tryz.func81, by kernel_rfl, by kernel_rfl⟩
theorem fn_82 : FnOk Tryz.prog glT quietT 82 f_isa_other := ⟨Tryz.f82, Tryz.func82, by kernel_rfl, by kernel_rfl⟩
theorem fn_83 : FnOk Tryz.prog glT quietT 83 f_alu_plain := ⟨Tryz.f83, Tryz.func83, by kernel_rfl, by kernel_rfl⟩
theorem fn_84 : FnOk Tryz.prog glT quietT 84 f_alu_short := ⟨Tryz.f84, Tryz.func84, by kernel_rfl, by kernel_rfl⟩
theorem fn_85 : FnOk Tryz.prog glT quietT 85 f_alu_times := ⟨Tryz.f85, Tryz.func85, by kernel_rfl, by kernel_rfl⟩
theorem fn_86 : FnOk Tryz.prog glT quietT 86 f_alu_shortTimes := ⟨Tryz.f86, Tryz.func86, by kernel_rfl, by kernel_rfl⟩
theorem fn_94 : FnOk Tryz.prog glT quietT 94 f_isa_register := ⟨Tryz.f94, Tryz.func94, by kernel_rfl, by kernel_rfl⟩
theorem fn_95 : FnOk Tryz.prog glT quietT 95 f_isa_immediate := ⟨Tryz.f95, Tryz.func95, by kernel_rfl, by kernel_rfl⟩
theorem fn_96 : FnOk Tryz.prog glT quietT 96 f_dec_immediate := ⟨Tryz.f96, Tryz.func96, by kernel_rfl, by kernel_rfl⟩
theorem fn_97 : FnOk Tryz.prog glT quietT 97 f_dec_field := ⟨Tryz.f97, Tryz.func97, by kernel_rfl, by kernel_rfl⟩
theorem fn_98 : FnOk Tryz.prog glT quietT 98 f_dec_pick := ⟨Tryz.f98, Tryz.func98, by kernel_rfl, by kernel_rfl⟩
theorem fn_99 : FnOk Tryz.prog glT quietT 99 f_dec_immediates := ⟨Tryz.f99, Tryz.func99, by kernel_rfl, by kernel_rfl⟩
theorem fn_100 : FnOk Tryz.prog glT quietT 100 f_dec_small := ⟨Tryz.f100, Tryz.func100, by kernel_rfl, by kernel_rfl⟩
theorem fn_101 : FnOk Tryz.prog glT quietT 101 f_dec_whole := ⟨Tryz.f101, Tryz.func101, by kernel_rfl, by kernel_rfl⟩
theorem fn_102 : FnOk Tryz.prog glT quietT 102 f_dec_half := ⟨Tryz.f102, Tryz.func102, by kernel_rfl, by kernel_rfl⟩
theorem fn_103 : FnOk Tryz.prog glT quietT 103 f_dec_atomic := ⟨Tryz.f103, Tryz.func103, by kernel_rfl, by kernel_rfl⟩
theorem fn_104 : FnOk Tryz.prog glT quietT 104 f_dec_system := ⟨Tryz.f104, Tryz.func104, by kernel_rfl, by kernel_rfl⟩
theorem fn_105 : FnOk Tryz.prog glT quietT 105 f_enc_of := ⟨Tryz.f105, Tryz.func105, by kernel_rfl, by kernel_rfl⟩
theorem fn_106 : FnOk Tryz.prog glT quietT 106 f_enc_pack := ⟨Tryz.f106, Tryz.func106, by kernel_rfl, by kernel_rfl⟩
theorem fn_107 : FnOk Tryz.prog glT quietT 107 f_enc_registers := ⟨Tryz.f107, Tryz.func107, by kernel_rfl, by kernel_rfl⟩
theorem fn_108 : FnOk Tryz.prog glT quietT 108 f_enc_immediate := ⟨Tryz.f108, Tryz.func108, by kernel_rfl, by kernel_rfl⟩
theorem fn_109 : FnOk Tryz.prog glT quietT 109 f_spinnakerref01_Sign := ⟨Tryz.f109, Tryz.func109, by kernel_rfl, by kernel_rfl⟩
theorem fn_110 : FnOk Tryz.prog glT quietT 110 f_alu_flag := ⟨Tryz.f110, Tryz.func110, by kernel_rfl, by kernel_rfl⟩
theorem fn_111 : FnOk Tryz.prog glT quietT 111 f_alu_half := ⟨Tryz.f111, Tryz.func111, by kernel_rfl, by kernel_rfl⟩
theorem fn_112 : FnOk Tryz.prog glT quietT 112 f_alu_quotient := ⟨Tryz.f112, Tryz.func112, by kernel_rfl, by kernel_rfl⟩
theorem fn_113 : FnOk Tryz.prog glT quietT 113 f_alu_quotientU := ⟨Tryz.f113, Tryz.func113, by kernel_rfl, by kernel_rfl⟩
theorem fn_114 : FnOk Tryz.prog glT quietT 114 f_alu_high := ⟨Tryz.f114, Tryz.func114, by kernel_rfl, by kernel_rfl⟩
theorem fn_116 : FnOk Tryz.prog glT quietT 116 f_word_Fits := ⟨Tryz.f116, Tryz.func116, by kernel_rfl, by kernel_rfl⟩
theorem fn_117 : FnOk Tryz.prog glT quietT 117 f_dec_immediate_1 := ⟨Tryz.f117, Tryz.func117, by kernel_rfl, by kernel_rfl⟩
theorem fn_118 : FnOk Tryz.prog glT quietT 118 f_dec_signed := ⟨Tryz.f118, Tryz.func118, by kernel_rfl, by kernel_rfl⟩
theorem fn_119 : FnOk Tryz.prog glT quietT 119 f_word_Get := ⟨Tryz.f119, Tryz.func119, by kernel_rfl, by kernel_rfl⟩
theorem fn_120 : FnOk Tryz.prog glT quietT 120 f_dec_arith := ⟨Tryz.f120, Tryz.func120, by kernel_rfl, by kernel_rfl⟩
theorem fn_121 : FnOk Tryz.prog glT quietT 121 f_enc_arith := ⟨Tryz.f121, Tryz.func121, by kernel_rfl, by kernel_rfl⟩
theorem fn_122 : FnOk Tryz.prog glT quietT 122 f_enc_code_with := ⟨Tryz.f122, Tryz.func122, by kernel_rfl, by kernel_rfl⟩
theorem fn_123 : FnOk Tryz.prog glT quietT 123 f_enc_times := ⟨Tryz.f123, Tryz.func123, by kernel_rfl, by kernel_rfl⟩
theorem fn_124 : FnOk Tryz.prog glT quietT 124 f_enc_atomic := ⟨Tryz.f124, Tryz.func124, by kernel_rfl, by kernel_rfl⟩
theorem fn_125 : FnOk Tryz.prog glT quietT 125 f_word_Put := ⟨Tryz.f125, Tryz.func125, by kernel_rfl, by kernel_rfl⟩
theorem fn_126 : FnOk Tryz.prog glT quietT 126 f_enc_bit := ⟨Tryz.f126, Tryz.func126, by kernel_rfl, by kernel_rfl⟩
theorem fn_127 : FnOk Tryz.prog glT quietT 127 f_math_bits_Mul64 := ⟨Tryz.f127, Tryz.func127, by kernel_rfl, by kernel_rfl⟩
theorem fn_128 : FnOk Tryz.prog glT quietT 128 f_word_Sign := ⟨Tryz.f128, Tryz.func128, by kernel_rfl, by kernel_rfl⟩
theorem fn_129 : FnOk Tryz.prog glT quietT 129 f_word_may := ⟨Tryz.f129, Tryz.func129, by kernel_rfl, by kernel_rfl⟩
theorem fn_130 : FnOk Tryz.prog glT quietT 130 f_word_mask := ⟨Tryz.f130, Tryz.func130, by kernel_rfl, by kernel_rfl⟩
theorem calm_all : ((List.range 400).all fun f => quietT f == 0 || (match Xt f, Ft f with | some _, _ => quietT f != 2 | none, some A => A.body.calm quietT && (quietT f != 2 || A.still quietT) | none, none => true)) = true := by kernel_rfl
theorem fn_all : ∀ f A, Ft f = some A → FnOk Tryz.prog glT quietT f A := by
  intro f A h
  unfold Ft at h
  by_cases e : f = 3
  · rw [if_pos e] at h; injection h with h; subst e; subst h; exact fn_3
  rw [if_neg e] at h; clear e
  by_cases e : f = 5
  · rw [if_pos e] at h; injection h with h; subst e; subst h; exact fn_5
  rw [if_neg e] at h; clear e
  by_cases e : f = 6
  · rw [if_pos e] at h; injection h with h; subst e; subst h; exact fn_6
  rw [if_neg e] at h; clear e
  by_cases e : f = 7
  · rw [if_pos e] at h; injection h with h; subst e; subst h; exact fn_7
  rw [if_neg e] at h; clear e
  by_cases e : f = 8
  · rw [if_pos e] at h; injection h with h; subst e; subst h; exact fn_8
  rw [if_neg e] at h; clear e
  by_cases e : f = 9
  · rw [if_pos e] at h; injection h with h; subst e; subst h; exact fn_9
  rw [if_neg e] at h; clear e
  by_cases e : f = 10
  · rw [if_pos e] at h; injection h with h; subst e; subst h; exact fn_10
  rw [if_neg e] at h; clear e
  by_cases e : f = 11
  · rw [if_pos e] at h; injection h with h; subst e; subst h; exact fn_11
  rw [if_neg e] at h; clear e
  by_cases e : f = 12
  · rw [if_pos e] at h; injection h with h; subst e; subst h; exact fn_12
  rw [if_neg e] at h; clear e
  by_cases e : f = 16
  · rw [if_pos e] at h; injection h with h; subst e; subst h; exact fn_16
  rw [if_neg e] at h; clear e
  by_cases e : f = 17
  · rw [if_pos e] at h; injection h with h; subst e; subst h; exact fn_17
  rw [if_neg e] at h; clear e
  by_cases e : f = 18
  · rw [if_pos e] at h; injection h with h; subst e; subst h; exact fn_18
  rw [if_neg e] at h; clear e
  by_cases e : f = 19
  · rw [if_pos e] at h; injection h with h; subst e; subst h; exact fn_19
  rw [if_neg e] at h; clear e
  by_cases e : f = 20
  · rw [if_pos e] at h; injection h with h; subst e; subst h; exact fn_20
  rw [if_neg e] at h; clear e
  by_cases e : f = 21
  · rw [if_pos e] at h; injection h with h; subst e; subst h; exact fn_21
  rw [if_neg e] at h; clear e
  by_cases e : f = 22
  · rw [if_pos e] at h; injection h with h; subst e; subst h; exact fn_22
  rw [if_neg e] at h; clear e
  by_cases e : f = 23
  · rw [if_pos e] at h; injection h with h; subst e; subst h; exact fn_23
  rw [if_neg e] at h; clear e
  by_cases e : f = 24
  · rw [if_pos e] at h; injection h with h; subst e; subst h; exact fn_24
  rw [if_neg e] at h; clear e
  by_cases e : f = 25
  · rw [if_pos e] at h; injection h with h; subst e; subst h; exact fn_25
  rw [if_neg e] at h; clear e
  by_cases e : f = 26
  · rw [if_pos e] at h; injection h with h; subst e; subst h; exact fn_26
  rw [if_neg e] at h; clear e
  by_cases e : f = 27
  · rw [if_pos e] at h; injection h with h; subst e; subst h; exact fn_27
  rw [if_neg e] at h; clear e
  by_cases e : f = 28
  · rw [if_pos e] at h; injection h with h; subst e; subst h; exact fn_28
  rw [if_neg e] at h; clear e
  by_cases e : f = 29
  · rw [if_pos e] at h; injection h with h; subst e; subst h; exact fn_29
  rw [if_neg e] at h; clear e
  by_cases e : f = 30
  · rw [if_pos e] at h; injection h with h; subst e; subst h; exact fn_30
  rw [if_neg e] at h; clear e
  by_cases e : f = 31
  · rw [if_pos e] at h; injection h with h; subst e; subst h; exact fn_31
  rw [if_neg e] at h; clear e
  by_cases e : f = 32
  · rw [if_pos e] at h; injection h with h; subst e; subst h; exact fn_32
  rw [if_neg e] at h; clear e
  by_cases e : f = 33
  · rw [if_pos e] at h; injection h with h; subst e; subst h; exact fn_33
  rw [if_neg e] at h; clear e
  by_cases e : f = 34
  · rw [if_pos e] at h; injection h with h; subst e; subst h; exact fn_34
  rw [if_neg e] at h; clear e
  by_cases e : f = 35
  · rw [if_pos e] at h; injection h with h; subst e; subst h; exact fn_35
  rw [if_neg e] at h; clear e
  by_cases e : f = 36
  · rw [if_pos e] at h; injection h with h; subst e; subst h; exact fn_36
  rw [if_neg e] at h; clear e
  by_cases e : f = 37
  · rw [if_pos e] at h; injection h with h; subst e; subst h; exact fn_37
  rw [if_neg e] at h; clear e
  by_cases e : f = 38
  · rw [if_pos e] at h; injection h with h; subst e; subst h; exact fn_38
  rw [if_neg e] at h; clear e
  by_cases e : f = 39
  · rw [if_pos e] at h; injection h with h; subst e; subst h; exact fn_39
  rw [if_neg e] at h; clear e
  by_cases e : f = 40
  · rw [if_pos e] at h; injection h with h; subst e; subst h; exact fn_40
  rw [if_neg e] at h; clear e
  by_cases e : f = 41
  · rw [if_pos e] at h; injection h with h; subst e; subst h; exact fn_41
  rw [if_neg e] at h; clear e
  by_cases e : f = 46
  · rw [if_pos e] at h; injection h with h; subst e; subst h; exact fn_46
  rw [if_neg e] at h; clear e
  by_cases e : f = 47
  · rw [if_pos e] at h; injection h with h; subst e; subst h; exact fn_47
  rw [if_neg e] at h; clear e
  by_cases e : f = 49
  · rw [if_pos e] at h; injection h with h; subst e; subst h; exact fn_49
  rw [if_neg e] at h; clear e
  by_cases e : f = 50
  · rw [if_pos e] at h; injection h with h; subst e; subst h; exact fn_50
  rw [if_neg e] at h; clear e
  by_cases e : f = 51
  · rw [if_pos e] at h; injection h with h; subst e; subst h; exact fn_51
  rw [if_neg e] at h; clear e
  by_cases e : f = 52
  · rw [if_pos e] at h; injection h with h; subst e; subst h; exact fn_52
  rw [if_neg e] at h; clear e
  by_cases e : f = 53
  · rw [if_pos e] at h; injection h with h; subst e; subst h; exact fn_53
  rw [if_neg e] at h; clear e
  by_cases e : f = 54
  · rw [if_pos e] at h; injection h with h; subst e; subst h; exact fn_54
  rw [if_neg e] at h; clear e
  by_cases e : f = 55
  · rw [if_pos e] at h; injection h with h; subst e; subst h; exact fn_55
  rw [if_neg e] at h; clear e
  by_cases e : f = 56
  · rw [if_pos e] at h; injection h with h; subst e; subst h; exact fn_56
  rw [if_neg e] at h; clear e
  by_cases e : f = 57
  · rw [if_pos e] at h; injection h with h; subst e; subst h; exact fn_57
  rw [if_neg e] at h; clear e
  by_cases e : f = 58
  · rw [if_pos e] at h; injection h with h; subst e; subst h; exact fn_58
  rw [if_neg e] at h; clear e
  by_cases e : f = 59
  · rw [if_pos e] at h; injection h with h; subst e; subst h; exact fn_59
  rw [if_neg e] at h; clear e
  by_cases e : f = 60
  · rw [if_pos e] at h; injection h with h; subst e; subst h; exact fn_60
  rw [if_neg e] at h; clear e
  by_cases e : f = 61
  · rw [if_pos e] at h; injection h with h; subst e; subst h; exact fn_61
  rw [if_neg e] at h; clear e
  by_cases e : f = 62
  · rw [if_pos e] at h; injection h with h; subst e; subst h; exact fn_62
  rw [if_neg e] at h; clear e
  by_cases e : f = 63
  · rw [if_pos e] at h; injection h with h; subst e; subst h; exact fn_63
  rw [if_neg e] at h; clear e
  by_cases e : f = 64
  · rw [if_pos e] at h; injection h with h; subst e; subst h; exact fn_64
  rw [if_neg e] at h; clear e
  by_cases e : f = 65
  · rw [if_pos e] at h; injection h with h; subst e; subst h; exact fn_65
  rw [if_neg e] at h; clear e
  by_cases e : f = 66
  · rw [if_pos e] at h; injection h with h; subst e; subst h; exact fn_66
  rw [if_neg e] at h; clear e
  by_cases e : f = 73
  · rw [if_pos e] at h; injection h with h; subst e; subst h; exact fn_73
  rw [if_neg e] at h; clear e
  by_cases e : f = 74
  · rw [if_pos e] at h; injection h with h; subst e; subst h; exact fn_74
  rw [if_neg e] at h; clear e
  by_cases e : f = 75
  · rw [if_pos e] at h; injection h with h; subst e; subst h; exact fn_75
  rw [if_neg e] at h; clear e
  by_cases e : f = 76
  · rw [if_pos e] at h; injection h with h; subst e; subst h; exact fn_76
  rw [if_neg e] at h; clear e
  by_cases e : f = 77
  · rw [if_pos e] at h; injection h with h; subst e; subst h; exact fn_77
  rw [if_neg e] at h; clear e
  by_cases e : f = 78
  · rw [if_pos e] at h; injection h with h; subst e; subst h; exact fn_78
  rw [if_neg e] at h; clear e
  by_cases e : f = 79
  · rw [if_pos e] at h; injection h with h; subst e; subst h; exact fn_79
  rw [if_neg e] at h; clear e
  by_cases e : f = 80
  · rw [if_pos e] at h; injection h with h; subst e; subst h; exact fn_80
  rw [if_neg e] at h; clear e
  by_cases e : f = 81
  · rw [if_pos e] at h; injection h with h; subst e; subst h; exact fn_81
  rw [if_neg e] at h; clear e
  by_cases e : f = 82
  · rw [if_pos e] at h; injection h with h; subst e; subst h; exact fn_82
  rw [if_neg e] at h; clear e
  by_cases e : f = 83
  · rw [if_pos e] at h; injection h with h; subst e; subst h; exact fn_83
  rw [if_neg e] at h; clear e
  by_cases e : f = 84
  · rw [if_pos e] at h; injection h with h; subst e; subst h; exact fn_84
  rw [if_neg e] at h; clear e
  by_cases e : f = 85
  · rw [if_pos e] at h; injection h with h; subst e; subst h; exact fn_85
  rw [if_neg e] at h; clear e
  by_cases e : f = 86
  · rw [if_pos e] at h; injection h with h; subst e; subst h; exact fn_86
  rw [if_neg e] at h; clear e
  by_cases e : f = 94
  · rw [if_pos e] at h; injection h with h; subst e; subst h; exact fn_94
  rw [if_neg e] at h; clear e
  by_cases e : f = 95
  · rw [if_pos e] at h; injection h with h; subst e; subst h; exact fn_95
  rw [if_neg e] at h; clear e
  by_cases e : f = 96
  · rw [if_pos e] at h; injection h with h; subst e; subst h; exact fn_96
  rw [if_neg e] at h; clear e
  by_cases e : f = 97
  · rw [if_pos e] at h; injection h with h; subst e; subst h; exact fn_97
  rw [if_neg e] at h; clear e
  by_cases e : f = 98
  · rw [if_pos e] at h; injection h with h; subst e; subst h; exact fn_98
  rw [if_neg e] at h; clear e
  by_cases e : f = 99
  · rw [if_pos e] at h; injection h with h; subst e; subst h; exact fn_99
  rw [if_neg e] at h; clear e
  by_cases e : f = 100
  · rw [if_pos e] at h; injection h with h; subst e; subst h; exact fn_100
  rw [if_neg e] at h; clear e
  by_cases e : f = 101
  · rw [if_pos e] at h; injection h with h; subst e; subst h; exact fn_101
  rw [if_neg e] at h; clear e
  by_cases e : f = 102
  · rw [if_pos e] at h; injection h with h; subst e; subst h; exact fn_102
  rw [if_neg e] at h; clear e
  by_cases e : f = 103
  · rw [if_pos e] at h; injection h with h; subst e; subst h; exact fn_103
  rw [if_neg e] at h; clear e
  by_cases e : f = 104
  · rw [if_pos e] at h; injection h with h; subst e; subst h; exact fn_104
  rw [if_neg e] at h; clear e
  by_cases e : f = 105
  · rw [if_pos e] at h; injection h with h; subst e; subst h; exact fn_105
  rw [if_neg e] at h; clear e
  by_cases e : f = 106
  · rw [if_pos e] at h; injection h with h; subst e; subst h; exact fn_106
  rw [if_neg e] at h; clear e
  by_cases e : f = 107
  · rw [if_pos e] at h; injection h with h; subst e; subst h; exact fn_107
  rw [if_neg e] at h; clear e
  by_cases e : f = 108
  · rw [if_pos e] at h; injection h with h; subst e; subst h; exact fn_108
  rw [if_neg e] at h; clear e
  by_cases e : f = 109
  · rw [if_pos e] at h; injection h with h; subst e; subst h; exact fn_109
  rw [if_neg e] at h; clear e
  by_cases e : f = 110
  · rw [if_pos e] at h; injection h with h; subst e; subst h; exact fn_110
  rw [if_neg e] at h; clear e
  by_cases e : f = 111
  · rw [if_pos e] at h; injection h with h; subst e; subst h; exact fn_111
  rw [if_neg e] at h; clear e
  by_cases e : f = 112
  · rw [if_pos e] at h; injection h with h; subst e; subst h; exact fn_112
  rw [if_neg e] at h; clear e
  by_cases e : f = 113
  · rw [if_pos e] at h; injection h with h; subst e; subst h; exact fn_113
  rw [if_neg e] at h; clear e
  by_cases e : f = 114
  · rw [if_pos e] at h; injection h with h; subst e; subst h; exact fn_114
  rw [if_neg e] at h; clear e
  by_cases e : f = 116
  · rw [if_pos e] at h; injection h with h; subst e; subst h; exact fn_116
  rw [if_neg e] at h; clear e
  by_cases e : f = 117
  · rw [if_pos e] at h; injection h with h; subst e; subst h; exact fn_117
  rw [if_neg e] at h; clear e
  by_cases e : f = 118
  · rw [if_pos e] at h; injection h with h; subst e; subst h; exact fn_118
  rw [if_neg e] at h; clear e
  by_cases e : f = 119
  · rw [if_pos e] at h; injection h with h; subst e; subst h; exact fn_119
  rw [if_neg e] at h; clear e
  by_cases e : f = 120
  · rw [if_pos e] at h; injection h with h; subst e; subst h; exact fn_120
  rw [if_neg e] at h; clear e
  by_cases e : f = 121
  · rw [if_pos e] at h; injection h with h; subst e; subst h; exact fn_121
  rw [if_neg e] at h; clear e
  by_cases e : f = 122
  · rw [if_pos e] at h; injection h with h; subst e; subst h; exact fn_122
  rw [if_neg e] at h; clear e
  by_cases e : f = 123
  · rw [if_pos e] at h; injection h with h; subst e; subst h; exact fn_123
  rw [if_neg e] at h; clear e
  by_cases e : f = 124
  · rw [if_pos e] at h; injection h with h; subst e; subst h; exact fn_124
  rw [if_neg e] at h; clear e
  by_cases e : f = 125
  · rw [if_pos e] at h; injection h with h; subst e; subst h; exact fn_125
  rw [if_neg e] at h; clear e
  by_cases e : f = 126
  · rw [if_pos e] at h; injection h with h; subst e; subst h; exact fn_126
  rw [if_neg e] at h; clear e
  by_cases e : f = 127
  · rw [if_pos e] at h; injection h with h; subst e; subst h; exact fn_127
  rw [if_neg e] at h; clear e
  by_cases e : f = 128
  · rw [if_pos e] at h; injection h with h; subst e; subst h; exact fn_128
  rw [if_neg e] at h; clear e
  by_cases e : f = 129
  · rw [if_pos e] at h; injection h with h; subst e; subst h; exact fn_129
  rw [if_neg e] at h; clear e
  by_cases e : f = 130
  · rw [if_pos e] at h; injection h with h; subst e; subst h; exact fn_130
  rw [if_neg e] at h; clear e
  simp at h
theorem fx_all : ∀ f g, Xt f = some g → ExtOk Tryz.prog glT f g := by
  intro f g h
  unfold Xt at h
  simp at h
theorem quiet_far : ∀ f, quietT f ≠ 0 → f < 400 := by
  intro f hq
  rcases Nat.lt_or_ge f 400 with h | h
  · exact h
  · exfalso
    apply hq
    unfold quietT
    rw [List.contains_eq_mem, List.contains_eq_mem]
    rw [if_neg, if_neg]
    all_goals
      simp only [decide_eq_true_eq, List.mem_cons, List.not_mem_nil, or_false]
      first | omega | exact not_false
theorem quiet_all : ∀ n, QuietOk quietT (evCall Xt Ft n) := by
  refine quiet_ok (fun f g hq hx => ?_) (fun f A hq hx hf => ?_)
  · have h := List.all_eq_true.1 calm_all f (List.mem_range.2 (quiet_far f hq))
    have h2 : quietT f ≠ 2 := by
      rw [hx] at h
      simpa [hq] using h
    refine ⟨?_, h2⟩
    unfold Xt at hx
    simp at hx
  · have h := List.all_eq_true.1 calm_all f (List.mem_range.2 (quiet_far f hq))
    rw [hx, hf] at h
    simp only [Bool.or_eq_true, beq_iff_eq, hq, false_or, Bool.and_eq_true, bne_iff_ne, ne_eq] at h
    exact ⟨h.1, fun e => h.2.resolve_left (fun n => n e)⟩
theorem gl_far : ∀ g, lookNo ≤ g → glT g = none := by
  intro g h
  unfold lookNo at h
  unfold glT
  rw [if_neg (by omega)]
theorem call_all : ∀ n, CallOk Tryz.prog glT (evCall Xt Ft n) := call_ok (by kernel_rfl) gl_far quiet_all fx_all fn_all
end Go.Am
