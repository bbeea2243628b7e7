/- The program's functions, read as abstract ones: every one of them compiles to the text that the plain law speaks of. -/
import Derived.Test.YtjjgpjlfnendaaaDoorAm16
import Derived.Test.YtjjgpjlfnendaaaDoorChecked
import Derived.KernelRfl
namespace Go.Am
open Go.Proofs
set_option maxRecDepth 100000
theorem fn_3 : FnOk Tryd.prog glT quietT 3 f_spinnakerlaw25_CheckPrograms := ⟨Tryd.f3, Tryd.func3, by kernel_rfl, by kernel_rfl⟩
theorem fn_4 : FnOk Tryd.prog glT quietT 4 f_spinnakerlaw25_CheckRenames := ⟨Tryd.f4, Tryd.func4, by kernel_rfl, by kernel_rfl⟩
theorem fn_5 : FnOk Tryd.prog glT quietT 5 f_spinnakerlaw25_CheckKinds := ⟨Tryd.f5, Tryd.func5, by kernel_rfl, by kernel_rfl⟩
theorem fn_6 : FnOk Tryd.prog glT quietT 6 f_spinnakerlaw25_large := ⟨Tryd.f6, Tryd.func6, by kernel_rfl, by kernel_rfl⟩
theorem fn_7 : FnOk Tryd.prog glT quietT 7 f_spinnakerlaw25_awake := ⟨Tryd.f7, Tryd.func7, by kernel_rfl, by kernel_rfl⟩
theorem fn_8 : FnOk Tryd.prog glT quietT 8 f_check_Check := ⟨Tryd.f8, Tryd.func8, by kernel_rfl, by kernel_rfl⟩
theorem fn_9 : FnOk Tryd.prog glT quietT 9 f_spinnakerref25_Check := ⟨Tryd.f9, Tryd.func9, by kernel_rfl, by kernel_rfl⟩
theorem fn_10 : FnOk Tryd.prog glT quietT 10 f_spinnakerref22_Name := ⟨Tryd.f10, Tryd.func10, by kernel_rfl, by kernel_rfl⟩
theorem fn_11 : FnOk Tryd.prog glT quietT 11 f_spinnakerlaw25_renamed := ⟨Tryd.f11, Tryd.func11, by kernel_rfl, by kernel_rfl⟩
theorem fn_12 : FnOk Tryd.prog glT quietT 12 f_check_Kind := ⟨Tryd.f12, Tryd.func12, by kernel_rfl, by kernel_rfl⟩
theorem fn_13 : FnOk Tryd.prog glT quietT 13 f_check_Calls := ⟨Tryd.f13, Tryd.func13, by kernel_rfl, by kernel_rfl⟩
theorem fn_14 : FnOk Tryd.prog glT quietT 14 f_spinnakerref23_May := ⟨Tryd.f14, Tryd.func14, by kernel_rfl, by kernel_rfl⟩
theorem fn_15 : FnOk Tryd.prog glT quietT 15 f_spinnakerref25_Calls := ⟨Tryd.f15, Tryd.func15, by kernel_rfl, by kernel_rfl⟩
theorem fn_16 : FnOk Tryd.prog glT quietT 16 f_spinnakerref25_Kind := ⟨Tryd.f16, Tryd.func16, by kernel_rfl, by kernel_rfl⟩
theorem fn_17 : FnOk Tryd.prog glT quietT 17 f_spinnakerlaw25_size := ⟨Tryd.f17, Tryd.func17, by kernel_rfl, by kernel_rfl⟩
theorem fn_18 : FnOk Tryd.prog glT quietT 18 f_ast_May := ⟨Tryd.f18, Tryd.func18, by kernel_rfl, by kernel_rfl⟩
theorem fn_19 : FnOk Tryd.prog glT quietT 19 f_check_begin := ⟨Tryd.f19, Tryd.func19, by kernel_rfl, by kernel_rfl⟩
theorem fn_20 : FnOk Tryd.prog glT quietT 20 f_check_checker_globals := ⟨Tryd.f20, Tryd.func20, by kernel_rfl, by kernel_rfl⟩
theorem fn_21 : FnOk Tryd.prog glT quietT 21 f_check_checker_threads := ⟨Tryd.f21, Tryd.func21, by kernel_rfl, by kernel_rfl⟩
theorem fn_22 : FnOk Tryd.prog glT quietT 22 f_check_checker_items := ⟨Tryd.f22, Tryd.func22, by kernel_rfl, by kernel_rfl⟩
theorem fn_23 : FnOk Tryd.prog glT quietT 23 f_check_checker_cycles := ⟨Tryd.f23, Tryd.func23, by kernel_rfl, by kernel_rfl⟩
theorem fn_24 : FnOk Tryd.prog glT quietT 24 f_spinnakerref25_item := ⟨Tryd.f24, Tryd.func24, by kernel_rfl, by kernel_rfl⟩
theorem fn_25 : FnOk Tryd.prog glT quietT 25 f_spinnakerref25_proc := ⟨Tryd.f25, Tryd.func25, by kernel_rfl, by kernel_rfl⟩
theorem fn_26 : FnOk Tryd.prog glT quietT 26 f_spinnakerref22_alpha := ⟨Tryd.f26, Tryd.func26, by kernel_rfl, by kernel_rfl⟩
theorem fn_27 : FnOk Tryd.prog glT quietT 27 f_spinnakerref22_In := ⟨Tryd.f27, Tryd.func27, by kernel_rfl, by kernel_rfl⟩
theorem fn_28 : FnOk Tryd.prog glT quietT 28 f_spinnakerref22_Words := ⟨Tryd.f28, Tryd.func28, by kernel_rfl, by kernel_rfl⟩
theorem fn_29 : FnOk Tryd.prog glT quietT 29 f_spinnakerref22_num := ⟨Tryd.f29, Tryd.func29, by kernel_rfl, by kernel_rfl⟩
theorem fn_30 : FnOk Tryd.prog glT quietT 30 f_spinnakerlaw25_other := ⟨Tryd.f30, Tryd.func30, by kernel_rfl, by kernel_rfl⟩
theorem fn_31 : FnOk Tryd.prog glT quietT 31 f_check_item := ⟨Tryd.f31, Tryd.func31, by kernel_rfl, by kernel_rfl⟩
theorem fn_32 : FnOk Tryd.prog glT quietT 32 f_check_checker_kind := ⟨Tryd.f32, Tryd.func32, by kernel_rfl, by kernel_rfl⟩
theorem fn_33 : FnOk Tryd.prog glT quietT 33 f_check_local := ⟨Tryd.f33, Tryd.func33, by kernel_rfl, by kernel_rfl⟩
theorem fn_34 : FnOk Tryd.prog glT quietT 34 f_check_calls := ⟨Tryd.f34, Tryd.func34, by kernel_rfl, by kernel_rfl⟩
theorem fn_35 : FnOk Tryd.prog glT quietT 35 f_spinnakerref23_blank := ⟨Tryd.f35, Tryd.func35, by kernel_rfl, by kernel_rfl⟩
theorem fn_36 : FnOk Tryd.prog glT quietT 36 f_spinnakerref23_item := ⟨Tryd.f36, Tryd.func36, by kernel_rfl, by kernel_rfl⟩
theorem fn_37 : FnOk Tryd.prog glT quietT 37 f_spinnakerref25_global := ⟨Tryd.f37, Tryd.func37, by kernel_rfl, by kernel_rfl⟩
theorem fn_38 : FnOk Tryd.prog glT quietT 38 f_ast_may := ⟨Tryd.f38, Tryd.func38, by kernel_rfl, by kernel_rfl⟩
theorem fn_39 : FnOk Tryd.prog glT quietT 39 f_check_checker_wrong := ⟨Tryd.f39, Tryd.func39, by kernel_rfl, by kernel_rfl⟩
theorem fn_40 : FnOk Tryd.prog glT quietT 40 f_check_checker_declared := ⟨Tryd.f40, Tryd.func40, by kernel_rfl, by kernel_rfl⟩
theorem fn_41 : FnOk Tryd.prog glT quietT 41 f_check_checker_walk := ⟨Tryd.f41, Tryd.func41, by kernel_rfl, by kernel_rfl⟩
theorem fn_42 : FnOk Tryd.prog glT quietT 42 f_check_checker_reaches := ⟨Tryd.f42, Tryd.func42, by kernel_rfl, by kernel_rfl⟩
theorem fn_43 : FnOk Tryd.prog glT quietT 43 f_spinnakerref25_walk := ⟨Tryd.f43, Tryd.func43, by kernel_rfl, by kernel_rfl⟩
theorem fn_44 : FnOk Tryd.prog glT quietT 44 f_slices_Containsstringstring := ⟨Tryd.f44, Tryd.func44, by kernel_rfl, by kernel_rfl⟩
theorem fn_45 : FnOk Tryd.prog glT quietT 45 f_spinnakerref23_has := ⟨Tryd.f45, Tryd.func45, by kernel_rfl, by kernel_rfl⟩
theorem fn_46 : FnOk Tryd.prog glT quietT 46 f_spinnakerref23_Block := ⟨Tryd.f46, Tryd.func46, by kernel_rfl, by kernel_rfl⟩
theorem fn_47 : FnOk Tryd.prog glT quietT 47 f_ast_of := ⟨Tryd.f47, Tryd.func47, by kernel_rfl, by kernel_rfl⟩
theorem fn_48 : FnOk Tryd.prog glT quietT 48 f_lex_Name := ⟨Tryd.f48, Tryd.func48, by kernel_rfl, by kernel_rfl⟩
theorem fn_49 : FnOk Tryd.prog glT quietT 49 f_ast_second := ⟨Tryd.f49, Tryd.func49, by kernel_rfl, by kernel_rfl⟩
theorem fn_50 : FnOk Tryd.prog glT quietT 50 f_check_names2 := ⟨Tryd.f50, Tryd.func50, by kernel_rfl, by kernel_rfl⟩
theorem fn_51 : FnOk Tryd.prog glT quietT 51 f_check_checker_need := ⟨Tryd.f51, Tryd.func51, by kernel_rfl, by kernel_rfl⟩
theorem fn_52 : FnOk Tryd.prog glT quietT 52 f_slices_ContainsFuncstringstring := ⟨Tryd.f52, Tryd.func52, by kernel_rfl, by kernel_rfl⟩
theorem fn_53 : FnOk Tryd.prog glT quietT 53 f_check_checker_reaches_1 := ⟨Tryd.f53, Tryd.func53, by kernel_rfl, by kernel_rfl⟩
theorem fn_54 : FnOk Tryd.prog glT quietT 54 f_spinnakerref25_need := ⟨Tryd.f54, Tryd.func54, by kernel_rfl, by kernel_rfl⟩
theorem fn_55 : FnOk Tryd.prog glT quietT 55 f_spinnakerref25_first := ⟨Tryd.f55, Tryd.func55, by kernel_rfl, by kernel_rfl⟩
theorem fn_56 : FnOk Tryd.prog glT quietT 56 f_slices_Indexstringstring := ⟨Tryd.f56, Tryd.func56, by kernel_rfl, by kernel_rfl⟩
theorem fn_57 : FnOk Tryd.prog glT quietT 57 f_spinnakerref23_Stmt := ⟨Tryd.f57, Tryd.func57, by kernel_rfl, by kernel_rfl⟩
theorem fn_58 : FnOk Tryd.prog glT quietT 58 f_ast_none := ⟨Tryd.f58, Tryd.func58, by kernel_rfl, by kernel_rfl⟩
theorem fn_59 : FnOk Tryd.prog glT quietT 59 f_ast_exactly := ⟨Tryd.f59, Tryd.func59, by kernel_rfl, by kernel_rfl⟩
theorem fn_60 : FnOk Tryd.prog glT quietT 60 f_ast_of_1 := ⟨Tryd.f60, Tryd.func60, by kernel_rfl, by kernel_rfl⟩
theorem fn_61 : FnOk Tryd.prog glT quietT 61 f_ast_all := ⟨Tryd.f61, Tryd.func61, by kernel_rfl, by kernel_rfl⟩
theorem fn_62 : FnOk Tryd.prog glT quietT 62 f_ast_item := ⟨Tryd.f62, Tryd.func62, by kernel_rfl, by kernel_rfl⟩
theorem fn_63 : FnOk Tryd.prog glT quietT 63 f_ast_any1 := ⟨Tryd.f63, Tryd.func63, by kernel_rfl, by kernel_rfl⟩
theorem fn_64 : FnOk Tryd.prog glT quietT 64 f_ast_natural := ⟨Tryd.f64, Tryd.func64, by kernel_rfl, by kernel_rfl⟩
theorem fn_65 : FnOk Tryd.prog glT quietT 65 f_ast_of_2 := ⟨Tryd.f65, Tryd.func65, by kernel_rfl, by kernel_rfl⟩
theorem fn_66 : FnOk Tryd.prog glT quietT 66 f_ast_body := ⟨Tryd.f66, Tryd.func66, by kernel_rfl, by kernel_rfl⟩
theorem fn_67 : FnOk Tryd.prog glT quietT 67 f_ast_variable := ⟨Tryd.f67, Tryd.func67, by kernel_rfl, by kernel_rfl⟩
theorem fn_68 : FnOk Tryd.prog glT quietT 68 f_ast_of_3 := ⟨Tryd.f68, Tryd.func68, by kernel_rfl, by kernel_rfl⟩
theorem fn_69 : FnOk Tryd.prog glT quietT 69 f_ast_declared := ⟨Tryd.f69, Tryd.func69, by kernel_rfl, by kernel_rfl⟩
theorem fn_70 : FnOk Tryd.prog glT quietT 70 f_ast_of_4 := ⟨Tryd.f70, Tryd.func70, by kernel_rfl, by kernel_rfl⟩
theorem fn_71 : FnOk Tryd.prog glT quietT 71 f_ast_statement := ⟨Tryd.f71, Tryd.func71, by kernel_rfl, by kernel_rfl⟩
theorem fn_72 : FnOk Tryd.prog glT quietT 72 f_ast_one := ⟨Tryd.f72, Tryd.func72, by kernel_rfl, by kernel_rfl⟩
theorem fn_73 : FnOk Tryd.prog glT quietT 73 f_ast_of_5 := ⟨Tryd.f73, Tryd.func73, by kernel_rfl, by kernel_rfl⟩
theorem fn_74 : FnOk Tryd.prog glT quietT 74 f_ast_headed := ⟨Tryd.f74, Tryd.func74, by kernel_rfl, by kernel_rfl⟩
theorem fn_75 : FnOk Tryd.prog glT quietT 75 f_ast_of_6 := ⟨Tryd.f75, Tryd.func75, by kernel_rfl, by kernel_rfl⟩
theorem fn_76 : FnOk Tryd.prog glT quietT 76 f_ast_expression := ⟨Tryd.f76, Tryd.func76, by kernel_rfl, by kernel_rfl⟩
theorem fn_77 : FnOk Tryd.prog glT quietT 77 f_lex_letter := ⟨Tryd.f77, Tryd.func77, by kernel_rfl, by kernel_rfl⟩
theorem fn_78 : FnOk Tryd.prog glT quietT 78 f_lex_Word := ⟨Tryd.f78, Tryd.func78, by kernel_rfl, by kernel_rfl⟩
theorem fn_79 : FnOk Tryd.prog glT quietT 79 f_slices_ContainsFuncbytebyte := ⟨Tryd.f79, Tryd.func79, by kernel_rfl, by kernel_rfl⟩
theorem fn_80 : FnOk Tryd.prog glT quietT 80 f_lex_Name_1 := ⟨Tryd.f80, Tryd.func80, by kernel_rfl, by kernel_rfl⟩
theorem fn_81 : FnOk Tryd.prog glT quietT 81 f_lex_either := ⟨Tryd.f81, Tryd.func81, by kernel_rfl, by kernel_rfl⟩
theorem fn_82 : FnOk Tryd.prog glT quietT 82 f_ast_Strength := ⟨Tryd.f82, Tryd.func82, by kernel_rfl, by kernel_rfl⟩
theorem fn_83 : FnOk Tryd.prog glT quietT 83 f_slices_IndexFuncstringstring := ⟨Tryd.f83, Tryd.func83, by kernel_rfl, by kernel_rfl⟩
theorem fn_84 : FnOk Tryd.prog glT quietT 84 f_spinnakerref23_exprs := ⟨Tryd.f84, Tryd.func84, by kernel_rfl, by kernel_rfl⟩
theorem fn_85 : FnOk Tryd.prog glT quietT 85 f_spinnakerref23_Expr := ⟨Tryd.f85, Tryd.func85, by kernel_rfl, by kernel_rfl⟩
theorem fn_86 : FnOk Tryd.prog glT quietT 86 f_ast_exactly_1 := ⟨Tryd.f86, Tryd.func86, by kernel_rfl, by kernel_rfl⟩
theorem fn_87 : FnOk Tryd.prog glT quietT 87 f_slices_ContainsFuncapi_Nodeapi_Node := ⟨Tryd.f87, Tryd.func87, by kernel_rfl, by kernel_rfl⟩
theorem fn_88 : FnOk Tryd.prog glT quietT 88 f_ast_all_1 := ⟨Tryd.f88, Tryd.func88, by kernel_rfl, by kernel_rfl⟩
theorem fn_89 : FnOk Tryd.prog glT quietT 89 f_ast_block := ⟨Tryd.f89, Tryd.func89, by kernel_rfl, by kernel_rfl⟩
theorem fn_90 : FnOk Tryd.prog glT quietT 90 f_ast_one_1 := ⟨Tryd.f90, Tryd.func90, by kernel_rfl, by kernel_rfl⟩
theorem fn_91 : FnOk Tryd.prog glT quietT 91 f_slices_Containsintint := ⟨Tryd.f91, Tryd.func91, by kernel_rfl, by kernel_rfl⟩
theorem fn_92 : FnOk Tryd.prog glT quietT 92 f_ast_headed_1 := ⟨Tryd.f92, Tryd.func92, by kernel_rfl, by kernel_rfl⟩
theorem fn_93 : FnOk Tryd.prog glT quietT 93 f_slices_IndexFuncbytebyte := ⟨Tryd.f93, Tryd.func93, by kernel_rfl, by kernel_rfl⟩
theorem fn_94 : FnOk Tryd.prog glT quietT 94 f_lex_digit := ⟨Tryd.f94, Tryd.func94, by kernel_rfl, by kernel_rfl⟩
theorem fn_95 : FnOk Tryd.prog glT quietT 95 f_spinnakerref23_Strength := ⟨Tryd.f95, Tryd.func95, by kernel_rfl, by kernel_rfl⟩
theorem fn_96 : FnOk Tryd.prog glT quietT 96 f_slices_IndexFuncapi_Nodeapi_Node := ⟨Tryd.f96, Tryd.func96, by kernel_rfl, by kernel_rfl⟩
theorem fn_97 : FnOk Tryd.prog glT quietT 97 f_slices_Indexintint := ⟨Tryd.f97, Tryd.func97, by kernel_rfl, by kernel_rfl⟩
theorem calm_all : ((List.range 400).all fun f => quietT f == 0 || (match Xt f, Ft f with | some _, _ => quietT f != 2 | none, some A => A.body.calm quietT && (quietT f != 2 || A.still quietT) | none, none => true)) = true := by kernel_rfl
theorem fn_all : ∀ f A, Ft f = some A → FnOk Tryd.prog glT quietT f A := by
  intro f A h
  unfold Ft at h
  by_cases e : f = 3
  · rw [if_pos e] at h; injection h with h; subst e; subst h; exact fn_3
  rw [if_neg e] at h; clear e
  by_cases e : f = 4
  · rw [if_pos e] at h; injection h with h; subst e; subst h; exact fn_4
  rw [if_neg e] at h; clear e
  by_cases e : f = 5
  · rw [if_pos e] at h; injection h with h; subst e; subst h; exact fn_5
  rw [if_neg e] at h; clear e
  by_cases e : f = 6
  · rw [if_pos e] at h; injection h with h; subst e; subst h; exact fn_6
  rw [if_neg e] at h; clear e
  by_cases e : f = 7
  · rw [if_pos e] at h; injection h with h; subst e; subst h; exact fn_7
  rw [if_neg e] at h; clear e
  by_cases e : f = 8
  · rw [if_pos e] at h; injection h with h; subst e; subst h; exact fn_8
  rw [if_neg e] at h; clear e
  by_cases e : f = 9
  · rw [if_pos e] at h; injection h with h; subst e; subst h; exact fn_9
  rw [if_neg e] at h; clear e
  by_cases e : f = 10
  · rw [if_pos e] at h; injection h with h; subst e; subst h; exact fn_10
  rw [if_neg e] at h; clear e
  by_cases e : f = 11
  · rw [if_pos e] at h; injection h with h; subst e; subst h; exact fn_11
  rw [if_neg e] at h; clear e
  by_cases e : f = 12
  · rw [if_pos e] at h; injection h with h; subst e; subst h; exact fn_12
  rw [if_neg e] at h; clear e
  by_cases e : f = 13
  · rw [if_pos e] at h; injection h with h; subst e; subst h; exact fn_13
  rw [if_neg e] at h; clear e
  by_cases e : f = 14
  · rw [if_pos e] at h; injection h with h; subst e; subst h; exact fn_14
  rw [if_neg e] at h; clear e
  by_cases e : f = 15
  · rw [if_pos e] at h; injection h with h; subst e; subst h; exact fn_15
  rw [if_neg e] at h; clear e
  by_cases e : f = 16
  · rw [if_pos e] at h; injection h with h; subst e; subst h; exact fn_16
  rw [if_neg e] at h; clear e
  by_cases e : f = 17
  · rw [if_pos e] at h; injection h with h; subst e; subst h; exact fn_17
  rw [if_neg e] at h; clear e
  by_cases e : f = 18
  · rw [if_pos e] at h; injection h with h; subst e; subst h; exact fn_18
  rw [if_neg e] at h; clear e
  by_cases e : f = 19
  · rw [if_pos e] at h; injection h with h; subst e; subst h; exact fn_19
  rw [if_neg e] at h; clear e
  by_cases e : f = 20
  · rw [if_pos e] at h; injection h with h; subst e; subst h; exact fn_20
  rw [if_neg e] at h; clear e
  by_cases e : f = 21
  · rw [if_pos e] at h; injection h with h; subst e; subst h; exact fn_21
  rw [if_neg e] at h; clear e
  by_cases e : f = 22
  · rw [if_pos e] at h; injection h with h; subst e; subst h; exact fn_22
  rw [if_neg e] at h; clear e
  by_cases e : f = 23
  · rw [if_pos e] at h; injection h with h; subst e; subst h; exact fn_23
  rw [if_neg e] at h; clear e
  by_cases e : f = 24
  · rw [if_pos e] at h; injection h with h; subst e; subst h; exact fn_24
  rw [if_neg e] at h; clear e
  by_cases e : f = 25
  · rw [if_pos e] at h; injection h with h; subst e; subst h; exact fn_25
  rw [if_neg e] at h; clear e
  by_cases e : f = 26
  · rw [if_pos e] at h; injection h with h; subst e; subst h; exact fn_26
  rw [if_neg e] at h; clear e
  by_cases e : f = 27
  · rw [if_pos e] at h; injection h with h; subst e; subst h; exact fn_27
  rw [if_neg e] at h; clear e
  by_cases e : f = 28
  · rw [if_pos e] at h; injection h with h; subst e; subst h; exact fn_28
  rw [if_neg e] at h; clear e
  by_cases e : f = 29
  · rw [if_pos e] at h; injection h with h; subst e; subst h; exact fn_29
  rw [if_neg e] at h; clear e
  by_cases e : f = 30
  · rw [if_pos e] at h; injection h with h; subst e; subst h; exact fn_30
  rw [if_neg e] at h; clear e
  by_cases e : f = 31
  · rw [if_pos e] at h; injection h with h; subst e; subst h; exact fn_31
  rw [if_neg e] at h; clear e
  by_cases e : f = 32
  · rw [if_pos e] at h; injection h with h; subst e; subst h; exact fn_32
  rw [if_neg e] at h; clear e
  by_cases e : f = 33
  · rw [if_pos e] at h; injection h with h; subst e; subst h; exact fn_33
  rw [if_neg e] at h; clear e
  by_cases e : f = 34
  · rw [if_pos e] at h; injection h with h; subst e; subst h; exact fn_34
  rw [if_neg e] at h; clear e
  by_cases e : f = 35
  · rw [if_pos e] at h; injection h with h; subst e; subst h; exact fn_35
  rw [if_neg e] at h; clear e
  by_cases e : f = 36
  · rw [if_pos e] at h; injection h with h; subst e; subst h; exact fn_36
  rw [if_neg e] at h; clear e
  by_cases e : f = 37
  · rw [if_pos e] at h; injection h with h; subst e; subst h; exact fn_37
  rw [if_neg e] at h; clear e
  by_cases e : f = 38
  · rw [if_pos e] at h; injection h with h; subst e; subst h; exact fn_38
  rw [if_neg e] at h; clear e
  by_cases e : f = 39
  · rw [if_pos e] at h; injection h with h; subst e; subst h; exact fn_39
  rw [if_neg e] at h; clear e
  by_cases e : f = 40
  · rw [if_pos e] at h; injection h with h; subst e; subst h; exact fn_40
  rw [if_neg e] at h; clear e
  by_cases e : f = 41
  · rw [if_pos e] at h; injection h with h; subst e; subst h; exact fn_41
  rw [if_neg e] at h; clear e
  by_cases e : f = 42
  · rw [if_pos e] at h; injection h with h; subst e; subst h; exact fn_42
  rw [if_neg e] at h; clear e
  by_cases e : f = 43
  · rw [if_pos e] at h; injection h with h; subst e; subst h; exact fn_43
  rw [if_neg e] at h; clear e
  by_cases e : f = 44
  · rw [if_pos e] at h; injection h with h; subst e; subst h; exact fn_44
  rw [if_neg e] at h; clear e
  by_cases e : f = 45
  · rw [if_pos e] at h; injection h with h; subst e; subst h; exact fn_45
  rw [if_neg e] at h; clear e
  by_cases e : f = 46
  · rw [if_pos e] at h; injection h with h; subst e; subst h; exact fn_46
  rw [if_neg e] at h; clear e
  by_cases e : f = 47
  · rw [if_pos e] at h; injection h with h; subst e; subst h; exact fn_47
  rw [if_neg e] at h; clear e
  by_cases e : f = 48
  · rw [if_pos e] at h; injection h with h; subst e; subst h; exact fn_48
  rw [if_neg e] at h; clear e
  by_cases e : f = 49
  · rw [if_pos e] at h; injection h with h; subst e; subst h; exact fn_49
  rw [if_neg e] at h; clear e
  by_cases e : f = 50
  · rw [if_pos e] at h; injection h with h; subst e; subst h; exact fn_50
  rw [if_neg e] at h; clear e
  by_cases e : f = 51
  · rw [if_pos e] at h; injection h with h; subst e; subst h; exact fn_51
  rw [if_neg e] at h; clear e
  by_cases e : f = 52
  · rw [if_pos e] at h; injection h with h; subst e; subst h; exact fn_52
  rw [if_neg e] at h; clear e
  by_cases e : f = 53
  · rw [if_pos e] at h; injection h with h; subst e; subst h; exact fn_53
  rw [if_neg e] at h; clear e
  by_cases e : f = 54
  · rw [if_pos e] at h; injection h with h; subst e; subst h; exact fn_54
  rw [if_neg e] at h; clear e
  by_cases e : f = 55
  · rw [if_pos e] at h; injection h with h; subst e; subst h; exact fn_55
  rw [if_neg e] at h; clear e
  by_cases e : f = 56
  · rw [if_pos e] at h; injection h with h; subst e; subst h; exact fn_56
  rw [if_neg e] at h; clear e
  by_cases e : f = 57
  · rw [if_pos e] at h; injection h with h; subst e; subst h; exact fn_57
  rw [if_neg e] at h; clear e
  by_cases e : f = 58
  · rw [if_pos e] at h; injection h with h; subst e; subst h; exact fn_58
  rw [if_neg e] at h; clear e
  by_cases e : f = 59
  · rw [if_pos e] at h; injection h with h; subst e; subst h; exact fn_59
  rw [if_neg e] at h; clear e
  by_cases e : f = 60
  · rw [if_pos e] at h; injection h with h; subst e; subst h; exact fn_60
  rw [if_neg e] at h; clear e
  by_cases e : f = 61
  · rw [if_pos e] at h; injection h with h; subst e; subst h; exact fn_61
  rw [if_neg e] at h; clear e
  by_cases e : f = 62
  · rw [if_pos e] at h; injection h with h; subst e; subst h; exact fn_62
  rw [if_neg e] at h; clear e
  by_cases e : f = 63
  · rw [if_pos e] at h; injection h with h; subst e; subst h; exact fn_63
  rw [if_neg e] at h; clear e
  by_cases e : f = 64
  · rw [if_pos e] at h; injection h with h; subst e; subst h; exact fn_64
  rw [if_neg e] at h; clear e
  by_cases e : f = 65
  · rw [if_pos e] at h; injection h with h; subst e; subst h; exact fn_65
  rw [if_neg e] at h; clear e
  by_cases e : f = 66
  · rw [if_pos e] at h; injection h with h; subst e; subst h; exact fn_66
  rw [if_neg e] at h; clear e
  by_cases e : f = 67
  · rw [if_pos e] at h; injection h with h; subst e; subst h; exact fn_67
  rw [if_neg e] at h; clear e
  by_cases e : f = 68
  · rw [if_pos e] at h; injection h with h; subst e; subst h; exact fn_68
  rw [if_neg e] at h; clear e
  by_cases e : f = 69
  · rw [if_pos e] at h; injection h with h; subst e; subst h; exact fn_69
  rw [if_neg e] at h; clear e
  by_cases e : f = 70
  · rw [if_pos e] at h; injection h with h; subst e; subst h; exact fn_70
  rw [if_neg e] at h; clear e
  by_cases e : f = 71
  · rw [if_pos e] at h; injection h with h; subst e; subst h; exact fn_71
  rw [if_neg e] at h; clear e
  by_cases e : f = 72
  · rw [if_pos e] at h; injection h with h; subst e; subst h; exact fn_72
  rw [if_neg e] at h; clear e
  by_cases e : f = 73
  · rw [if_pos e] at h; injection h with h; subst e; subst h; exact fn_73
  rw [if_neg e] at h; clear e
  by_cases e : f = 74
  · rw [if_pos e] at h; injection h with h; subst e; subst h; exact fn_74
  rw [if_neg e] at h; clear e
  by_cases e : f = 75
  · rw [if_pos e] at h; injection h with h; subst e; subst h; exact fn_75
  rw [if_neg e] at h; clear e
  by_cases e : f = 76
  · rw [if_pos e] at h; injection h with h; subst e; subst h; exact fn_76
  rw [if_neg e] at h; clear e
  by_cases e : f = 77
  · rw [if_pos e] at h; injection h with h; subst e; subst h; exact fn_77
  rw [if_neg e] at h; clear e
  by_cases e : f = 78
  · rw [if_pos e] at h; injection h with h; subst e; subst h; exact fn_78
  rw [if_neg e] at h; clear e
  by_cases e : f = 79
  · rw [if_pos e] at h; injection h with h; subst e; subst h; exact fn_79
  rw [if_neg e] at h; clear e
  by_cases e : f = 80
  · rw [if_pos e] at h; injection h with h; subst e; subst h; exact fn_80
  rw [if_neg e] at h; clear e
  by_cases e : f = 81
  · rw [if_pos e] at h; injection h with h; subst e; subst h; exact fn_81
  rw [if_neg e] at h; clear e
  by_cases e : f = 82
  · rw [if_pos e] at h; injection h with h; subst e; subst h; exact fn_82
  rw [if_neg e] at h; clear e
  by_cases e : f = 83
  · rw [if_pos e] at h; injection h with h; subst e; subst h; exact fn_83
  rw [if_neg e] at h; clear e
  by_cases e : f = 84
  · rw [if_pos e] at h; injection h with h; subst e; subst h; exact fn_84
  rw [if_neg e] at h; clear e
  by_cases e : f = 85
  · rw [if_pos e] at h; injection h with h; subst e; subst h; exact fn_85
  rw [if_neg e] at h; clear e
  by_cases e : f = 86
  · rw [if_pos e] at h; injection h with h; subst e; subst h; exact fn_86
  rw [if_neg e] at h; clear e
  by_cases e : f = 87
  · rw [if_pos e] at h; injection h with h; subst e; subst h; exact fn_87
  rw [if_neg e] at h; clear e
  by_cases e : f = 88
  · rw [if_pos e] at h; injection h with h; subst e; subst h; exact fn_88
  rw [if_neg e] at h; clear e
  by_cases e : f = 89
  · rw [if_pos e] at h; injection h with h; subst e; subst h; exact fn_89
  rw [if_neg e] at h; clear e
  by_cases e : f = 90
  · rw [if_pos e] at h; injection h with h; subst e; subst h; exact fn_90
  rw [if_neg e] at h; clear e
  by_cases e : f = 91
  · rw [if_pos e] at h; injection h with h; subst e; subst h; exact fn_91
  rw [if_neg e] at h; clear e
  by_cases e : f = 92
  · rw [if_pos e] at h; injection h with h; subst e; subst h; exact fn_92
  rw [if_neg e] at h; clear e
  by_cases e : f = 93
  · rw [if_pos e] at h; injection h with h; subst e; subst h; exact fn_93
  rw [if_neg e] at h; clear e
  by_cases e : f = 94
  · rw [if_pos e] at h; injection h with h; subst e; subst h; exact fn_94
  rw [if_neg e] at h; clear e
  by_cases e : f = 95
  · rw [if_pos e] at h; injection h with h; subst e; subst h; exact fn_95
  rw [if_neg e] at h; clear e
  by_cases e : f = 96
  · rw [if_pos e] at h; injection h with h; subst e; subst h; exact fn_96
  rw [if_neg e] at h; clear e
  by_cases e : f = 97
  · rw [if_pos e] at h; injection h with h; subst e; subst h; exact fn_97
  rw [if_neg e] at h; clear e
  simp at h
theorem fx_all : ∀ f g, Xt f = some g → ExtOk Tryd.prog glT f g := by
  intro f g h
  unfold Xt at h
  simp at h
theorem quiet_far : ∀ f, quietT f ≠ 0 → f < 400 := by
  intro f hq
  rcases Nat.lt_or_ge f 400 with h | h
  · exact h
  · exfalso
    apply hq
    unfold quietT
    rw [List.contains_eq_mem, List.contains_eq_mem]
    rw [if_neg, if_neg]
    all_goals
      simp only [decide_eq_true_eq, List.mem_cons, List.not_mem_nil, or_false]
      first | omega | exact not_false
theorem quiet_all : ∀ n, QuietOk quietT (evCall Xt Ft n) := by
  refine quiet_ok (fun f g hq hx => ?_) (fun f A hq hx hf => ?_)
  · have h := List.all_eq_true.1 calm_all f (List.mem_range.2 (quiet_far f hq))
    have h2 : quietT f ≠ 2 := by
      rw [hx] at h
      simpa [hq] using h
    refine ⟨?_, h2⟩
    unfold Xt at hx
    simp at hx
  · have h := List.all_eq_true.1 calm_all f (List.mem_range.2 (quiet_far f hq))
    rw [hx, hf] at h
    simp only [Bool.or_eq_true, beq_iff_eq, hq, false_or, Bool.and_eq_true, bne_iff_ne, ne_eq] at h
    exact ⟨h.1, fun e => h.2.resolve_left (fun n => n e)⟩
theorem gl_far : ∀ g, lookNo ≤ g → glT g = none := by
  intro g h
  unfold lookNo at h
  unfold glT
  rw [if_neg (by omega)]
theorem call_all : ∀ n, CallOk Tryd.prog glT (evCall Xt Ft n) := call_ok (by kernel_rfl) gl_far quiet_all fx_all fn_all
end Go.Am
