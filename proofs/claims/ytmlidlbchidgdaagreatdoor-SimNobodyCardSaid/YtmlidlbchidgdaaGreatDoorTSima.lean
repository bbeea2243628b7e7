/- The program's functions, read as abstract ones: every one of them compiles to the text that the plain law speaks of. -/
import Derived.Test.YtmlidlbchidgdaaGreatDoorAm7
import Derived.Test.YtmlidlbchidgdaaGreatDoorChecked
import Derived.KernelRfl
namespace Go.Am
open Go.Proofs
set_option maxRecDepth 100000
theorem fn_7 : FnOk Tryz.prog glT quietT 7 f_spinnakerlaw20_SimNobody := ⟨Tryz.f7, Tryz.func7, by kernel_rfl, by kernel_rfl⟩
theorem cm_7 : (quietT 7 == 0 || (f_spinnakerlaw20_SimNobody : AFunc).body.calm quietT && (quietT 7 != 2 || (f_spinnakerlaw20_SimNobody : AFunc).still quietT)) = true := by kernel_rfl
theorem fn_9 : FnOk Tryz.prog glT quietT 9 f_spinnakerlaw20_awake := ⟨Tryz.f9, Tryz.func9, by kernel_rfl, by kernel_rfl⟩
theorem cm_9 : (quietT 9 == 0 || (f_spinnakerlaw20_awake : AFunc).body.calm quietT && (quietT 9 != 2 || (f_spinnakerlaw20_awake : AFunc).still quietT)) = true := by kernel_rfl
theorem fn_10 : FnOk Tryz.prog glT quietT 10 f_sim_New := ⟨Tryz.f10, Tryz.func10, by kernel_rfl, by kernel_rfl⟩
theorem cm_10 : (quietT 10 == 0 || (f_sim_New : AFunc).body.calm quietT && (quietT 10 != 2 || (f_sim_New : AFunc).still quietT)) = true := by kernel_rfl
theorem fn_11 : FnOk Tryz.prog glT quietT 11 f_sim_Sim_Recs := ⟨Tryz.f11, Tryz.func11, by kernel_rfl, by kernel_rfl⟩
theorem cm_11 : (quietT 11 == 0 || (f_sim_Sim_Recs : AFunc).body.calm quietT && (quietT 11 != 2 || (f_sim_Sim_Recs : AFunc).still quietT)) = true := by kernel_rfl
theorem fn_12 : FnOk Tryz.prog glT quietT 12 f_sim_Sim_Tape := ⟨Tryz.f12, Tryz.func12, by kernel_rfl, by kernel_rfl⟩
theorem cm_12 : (quietT 12 == 0 || (f_sim_Sim_Tape : AFunc).body.calm quietT && (quietT 12 != 2 || (f_sim_Sim_Tape : AFunc).still quietT)) = true := by kernel_rfl
theorem fn_13 : FnOk Tryz.prog glT quietT 13 f_sim_Sim_Stop := ⟨Tryz.f13, Tryz.func13, by kernel_rfl, by kernel_rfl⟩
theorem cm_13 : (quietT 13 == 0 || (f_sim_Sim_Stop : AFunc).body.calm quietT && (quietT 13 != 2 || (f_sim_Sim_Stop : AFunc).still quietT)) = true := by kernel_rfl
theorem fn_14 : FnOk Tryz.prog glT quietT 14 f_sim_Sim_Do := ⟨Tryz.f14, Tryz.func14, by kernel_rfl, by kernel_rfl⟩
theorem cm_14 : (quietT 14 == 0 || (f_sim_Sim_Do : AFunc).body.calm quietT && (quietT 14 != 2 || (f_sim_Sim_Do : AFunc).still quietT)) = true := by kernel_rfl
theorem fn_15 : FnOk Tryz.prog glT quietT 15 f_sim_Sim_Flight := ⟨Tryz.f15, Tryz.func15, by kernel_rfl, by kernel_rfl⟩
theorem cm_15 : (quietT 15 == 0 || (f_sim_Sim_Flight : AFunc).body.calm quietT && (quietT 15 != 2 || (f_sim_Sim_Flight : AFunc).still quietT)) = true := by kernel_rfl
theorem fn_17 : FnOk Tryz.prog glT quietT 17 f_sim_Sim_Run := ⟨Tryz.f17, Tryz.func17, by kernel_rfl, by kernel_rfl⟩
theorem cm_17 : (quietT 17 == 0 || (f_sim_Sim_Run : AFunc).body.calm quietT && (quietT 17 != 2 || (f_sim_Sim_Run : AFunc).still quietT)) = true := by kernel_rfl
theorem fn_20 : FnOk Tryz.prog glT quietT 20 f_sim_Sim_Data := ⟨Tryz.f20, Tryz.func20, by kernel_rfl, by kernel_rfl⟩
theorem cm_20 : (quietT 20 == 0 || (f_sim_Sim_Data : AFunc).body.calm quietT && (quietT 20 != 2 || (f_sim_Sim_Data : AFunc).still quietT)) = true := by kernel_rfl
theorem fn_21 : FnOk Tryz.prog glT quietT 21 f_sim_Sim_Rows := ⟨Tryz.f21, Tryz.func21, by kernel_rfl, by kernel_rfl⟩
theorem cm_21 : (quietT 21 == 0 || (f_sim_Sim_Rows : AFunc).body.calm quietT && (quietT 21 != 2 || (f_sim_Sim_Rows : AFunc).still quietT)) = true := by kernel_rfl
theorem fn_22 : FnOk Tryz.prog glT quietT 22 f_sim_Sim_Harts := ⟨Tryz.f22, Tryz.func22, by kernel_rfl, by kernel_rfl⟩
theorem cm_22 : (quietT 22 == 0 || (f_sim_Sim_Harts : AFunc).body.calm quietT && (quietT 22 != 2 || (f_sim_Sim_Harts : AFunc).still quietT)) = true := by kernel_rfl
theorem fn_25 : FnOk Tryz.prog glT quietT 25 f_sim_Sim_Can := ⟨Tryz.f25, Tryz.func25, by kernel_rfl, by kernel_rfl⟩
theorem cm_25 : (quietT 25 == 0 || (f_sim_Sim_Can : AFunc).body.calm quietT && (quietT 25 != 2 || (f_sim_Sim_Can : AFunc).still quietT)) = true := by kernel_rfl
theorem fn_27 : FnOk Tryz.prog glT quietT 27 f_sim_Sim_Halted := ⟨Tryz.f27, Tryz.func27, by kernel_rfl, by kernel_rfl⟩
theorem cm_27 : (quietT 27 == 0 || (f_sim_Sim_Halted : AFunc).body.calm quietT && (quietT 27 != 2 || (f_sim_Sim_Halted : AFunc).still quietT)) = true := by kernel_rfl
theorem fn_28 : FnOk Tryz.prog glT quietT 28 f_spinnakerref04_Encode := ⟨Tryz.f28, Tryz.func28, by kernel_rfl, by kernel_rfl⟩
theorem cm_28 : (quietT 28 == 0 || (f_spinnakerref04_Encode : AFunc).body.calm quietT && (quietT 28 != 2 || (f_spinnakerref04_Encode : AFunc).still quietT)) = true := by kernel_rfl
theorem fn_29 : FnOk Tryz.prog glT quietT 29 f_image_Check := ⟨Tryz.f29, Tryz.func29, by kernel_rfl, by kernel_rfl⟩
theorem cm_29 : (quietT 29 == 0 || (f_image_Check : AFunc).body.calm quietT && (quietT 29 != 2 || (f_image_Check : AFunc).still quietT)) = true := by kernel_rfl
theorem fn_30 : FnOk Tryz.prog glT quietT 30 f_slices_Cloneuint32uint32 := ⟨Tryz.f30, Tryz.func30, by kernel_rfl, by kernel_rfl⟩
theorem cm_30 : (quietT 30 == 0 || (f_slices_Cloneuint32uint32 : AFunc).body.calm quietT && (quietT 30 != 2 || (f_slices_Cloneuint32uint32 : AFunc).still quietT)) = true := by kernel_rfl
theorem fn_31 : FnOk Tryz.prog glT quietT 31 f_slices_Cloneintint := ⟨Tryz.f31, Tryz.func31, by kernel_rfl, by kernel_rfl⟩
theorem cm_31 : (quietT 31 == 0 || (f_slices_Cloneintint : AFunc).body.calm quietT && (quietT 31 != 2 || (f_slices_Cloneintint : AFunc).still quietT)) = true := by kernel_rfl
theorem fn_32 : FnOk Tryz.prog glT quietT 32 f_image_PC := ⟨Tryz.f32, Tryz.func32, by kernel_rfl, by kernel_rfl⟩
theorem cm_32 : (quietT 32 == 0 || (f_image_PC : AFunc).body.calm quietT && (quietT 32 != 2 || (f_image_PC : AFunc).still quietT)) = true := by kernel_rfl
theorem fn_33 : FnOk Tryz.prog glT quietT 33 f_sim_Sim_hart := ⟨Tryz.f33, Tryz.func33, by kernel_rfl, by kernel_rfl⟩
theorem cm_33 : (quietT 33 == 0 || (f_sim_Sim_hart : AFunc).body.calm quietT && (quietT 33 != 2 || (f_sim_Sim_hart : AFunc).still quietT)) = true := by kernel_rfl
theorem fn_34 : FnOk Tryz.prog glT quietT 34 f_slices_Cloneapi_Recapi_Rec := ⟨Tryz.f34, Tryz.func34, by kernel_rfl, by kernel_rfl⟩
theorem cm_34 : (quietT 34 == 0 || (f_slices_Cloneapi_Recapi_Rec : AFunc).body.calm quietT && (quietT 34 != 2 || (f_slices_Cloneapi_Recapi_Rec : AFunc).still quietT)) = true := by kernel_rfl
theorem fn_35 : FnOk Tryz.prog glT quietT 35 f_sim_hart_numbered := ⟨Tryz.f35, Tryz.func35, by kernel_rfl, by kernel_rfl⟩
theorem cm_35 : (quietT 35 == 0 || (f_sim_hart_numbered : AFunc).body.calm quietT && (quietT 35 != 2 || (f_sim_hart_numbered : AFunc).still quietT)) = true := by kernel_rfl
theorem fn_36 : FnOk Tryz.prog glT quietT 36 f_window_Fetch := ⟨Tryz.f36, Tryz.func36, by kernel_rfl, by kernel_rfl⟩
theorem cm_36 : (quietT 36 == 0 || (f_window_Fetch : AFunc).body.calm quietT && (quietT 36 != 2 || (f_window_Fetch : AFunc).still quietT)) = true := by kernel_rfl
theorem fn_37 : FnOk Tryz.prog glT quietT 37 f_sim_hart_next := ⟨Tryz.f37, Tryz.func37, by kernel_rfl, by kernel_rfl⟩
theorem cm_37 : (quietT 37 == 0 || (f_sim_hart_next : AFunc).body.calm quietT && (quietT 37 != 2 || (f_sim_hart_next : AFunc).still quietT)) = true := by kernel_rfl
theorem fn_38 : FnOk Tryz.prog glT quietT 38 f_window_Window_Execute := ⟨Tryz.f38, Tryz.func38, by kernel_rfl, by kernel_rfl⟩
theorem cm_38 : (quietT 38 == 0 || (f_window_Window_Execute : AFunc).body.calm quietT && (quietT 38 != 2 || (f_window_Window_Execute : AFunc).still quietT)) = true := by kernel_rfl
theorem fn_39 : FnOk Tryz.prog glT quietT 39 f_sim_Sim_perform := ⟨Tryz.f39, Tryz.func39, by kernel_rfl, by kernel_rfl⟩
theorem cm_39 : (quietT 39 == 0 || (f_sim_Sim_perform : AFunc).body.calm quietT && (quietT 39 != 2 || (f_sim_Sim_perform : AFunc).still quietT)) = true := by kernel_rfl
theorem fn_40 : FnOk Tryz.prog glT quietT 40 f_sim_hart_squash := ⟨Tryz.f40, Tryz.func40, by kernel_rfl, by kernel_rfl⟩
theorem cm_40 : (quietT 40 == 0 || (f_sim_hart_squash : AFunc).body.calm quietT && (quietT 40 != 2 || (f_sim_hart_squash : AFunc).still quietT)) = true := by kernel_rfl
theorem fn_41 : FnOk Tryz.prog glT quietT 41 f_sim_hart_retire := ⟨Tryz.f41, Tryz.func41, by kernel_rfl, by kernel_rfl⟩
theorem cm_41 : (quietT 41 == 0 || (f_sim_hart_retire : AFunc).body.calm quietT && (quietT 41 != 2 || (f_sim_hart_retire : AFunc).still quietT)) = true := by kernel_rfl
theorem fn_42 : FnOk Tryz.prog glT quietT 42 f_slices_Clonewindow_Entrywindow_Entry := ⟨Tryz.f42, Tryz.func42, by kernel_rfl, by kernel_rfl⟩
theorem cm_42 : (quietT 42 == 0 || (f_slices_Clonewindow_Entrywindow_Entry : AFunc).body.calm quietT && (quietT 42 != 2 || (f_slices_Clonewindow_Entrywindow_Entry : AFunc).still quietT)) = true := by kernel_rfl
theorem fn_46 : FnOk Tryz.prog glT quietT 46 f_image_Addr := ⟨Tryz.f46, Tryz.func46, by kernel_rfl, by kernel_rfl⟩
theorem cm_46 : (quietT 46 == 0 || (f_image_Addr : AFunc).body.calm quietT && (quietT 46 != 2 || (f_image_Addr : AFunc).still quietT)) = true := by kernel_rfl
theorem fn_47 : FnOk Tryz.prog glT quietT 47 f_slices_Cloneapi_Refapi_Ref := ⟨Tryz.f47, Tryz.func47, by kernel_rfl, by kernel_rfl⟩
theorem cm_47 : (quietT 47 == 0 || (f_slices_Cloneapi_Refapi_Ref : AFunc).body.calm quietT && (quietT 47 != 2 || (f_slices_Cloneapi_Refapi_Ref : AFunc).still quietT)) = true := by kernel_rfl
theorem fn_49 : FnOk Tryz.prog glT quietT 49 f_sim_Sim_can := ⟨Tryz.f49, Tryz.func49, by kernel_rfl, by kernel_rfl⟩
theorem cm_49 : (quietT 49 == 0 || (f_sim_Sim_can : AFunc).body.calm quietT && (quietT 49 != 2 || (f_sim_Sim_can : AFunc).still quietT)) = true := by kernel_rfl
theorem fn_51 : FnOk Tryz.prog glT quietT 51 f_spinnakerref04_Word := ⟨Tryz.f51, Tryz.func51, by kernel_rfl, by kernel_rfl⟩
theorem cm_51 : (quietT 51 == 0 || (f_spinnakerref04_Word : AFunc).body.calm quietT && (quietT 51 != 2 || (f_spinnakerref04_Word : AFunc).still quietT)) = true := by kernel_rfl
theorem fn_52 : FnOk Tryz.prog glT quietT 52 f_spinnakerref04_bits := ⟨Tryz.f52, Tryz.func52, by kernel_rfl, by kernel_rfl⟩
theorem cm_52 : (quietT 52 == 0 || (f_spinnakerref04_bits : AFunc).body.calm quietT && (quietT 52 != 2 || (f_spinnakerref04_bits : AFunc).still quietT)) = true := by kernel_rfl
theorem fn_53 : FnOk Tryz.prog glT quietT 53 f_spinnakerref03_Form := ⟨Tryz.f53, Tryz.func53, by kernel_rfl, by kernel_rfl⟩
theorem cm_53 : (quietT 53 == 0 || (f_spinnakerref03_Form : AFunc).body.calm quietT && (quietT 53 != 2 || (f_spinnakerref03_Form : AFunc).still quietT)) = true := by kernel_rfl
theorem fn_54 : FnOk Tryz.prog glT quietT 54 f_image_Fetch := ⟨Tryz.f54, Tryz.func54, by kernel_rfl, by kernel_rfl⟩
theorem cm_54 : (quietT 54 == 0 || (f_image_Fetch : AFunc).body.calm quietT && (quietT 54 != 2 || (f_image_Fetch : AFunc).still quietT)) = true := by kernel_rfl
theorem fn_55 : FnOk Tryz.prog glT quietT 55 f_window_bad := ⟨Tryz.f55, Tryz.func55, by kernel_rfl, by kernel_rfl⟩
theorem cm_55 : (quietT 55 == 0 || (f_window_bad : AFunc).body.calm quietT && (quietT 55 != 2 || (f_window_bad : AFunc).still quietT)) = true := by kernel_rfl
theorem fn_56 : FnOk Tryz.prog glT quietT 56 f_window_Entry_value := ⟨Tryz.f56, Tryz.func56, by kernel_rfl, by kernel_rfl⟩
theorem cm_56 : (quietT 56 == 0 || (f_window_Entry_value : AFunc).body.calm quietT && (quietT 56 != 2 || (f_window_Entry_value : AFunc).still quietT)) = true := by kernel_rfl
theorem fn_57 : FnOk Tryz.prog glT quietT 57 f_alu_Upper := ⟨Tryz.f57, Tryz.func57, by kernel_rfl, by kernel_rfl⟩
theorem cm_57 : (quietT 57 == 0 || (f_alu_Upper : AFunc).body.calm quietT && (quietT 57 != 2 || (f_alu_Upper : AFunc).still quietT)) = true := by kernel_rfl
theorem fn_58 : FnOk Tryz.prog glT quietT 58 f_isa_Branch := ⟨Tryz.f58, Tryz.func58, by kernel_rfl, by kernel_rfl⟩
theorem cm_58 : (quietT 58 == 0 || (f_isa_Branch : AFunc).body.calm quietT && (quietT 58 != 2 || (f_isa_Branch : AFunc).still quietT)) = true := by kernel_rfl
theorem fn_59 : FnOk Tryz.prog glT quietT 59 f_window_Window_Can := ⟨Tryz.f59, Tryz.func59, by kernel_rfl, by kernel_rfl⟩
theorem cm_59 : (quietT 59 == 0 || (f_window_Window_Can : AFunc).body.calm quietT && (quietT 59 != 2 || (f_window_Window_Can : AFunc).still quietT)) = true := by kernel_rfl
theorem fn_60 : FnOk Tryz.prog glT quietT 60 f_window_Window_operands := ⟨Tryz.f60, Tryz.func60, by kernel_rfl, by kernel_rfl⟩
theorem cm_60 : (quietT 60 == 0 || (f_window_Window_operands : AFunc).body.calm quietT && (quietT 60 != 2 || (f_window_Window_operands : AFunc).still quietT)) = true := by kernel_rfl
theorem fn_61 : FnOk Tryz.prog glT quietT 61 f_window_Window_steer := ⟨Tryz.f61, Tryz.func61, by kernel_rfl, by kernel_rfl⟩
theorem cm_61 : (quietT 61 == 0 || (f_window_Window_steer : AFunc).body.calm quietT && (quietT 61 != 2 || (f_window_Window_steer : AFunc).still quietT)) = true := by kernel_rfl
theorem fn_62 : FnOk Tryz.prog glT quietT 62 f_alu_Taken := ⟨Tryz.f62, Tryz.func62, by kernel_rfl, by kernel_rfl⟩
theorem cm_62 : (quietT 62 == 0 || (f_alu_Taken : AFunc).body.calm quietT && (quietT 62 != 2 || (f_alu_Taken : AFunc).still quietT)) = true := by kernel_rfl
theorem fn_63 : FnOk Tryz.prog glT quietT 63 f_window_reckons := ⟨Tryz.f63, Tryz.func63, by kernel_rfl, by kernel_rfl⟩
theorem cm_63 : (quietT 63 == 0 || (f_window_reckons : AFunc).body.calm quietT && (quietT 63 != 2 || (f_window_reckons : AFunc).still quietT)) = true := by kernel_rfl
theorem fn_64 : FnOk Tryz.prog glT quietT 64 f_window_reckon := ⟨Tryz.f64, Tryz.func64, by kernel_rfl, by kernel_rfl⟩
theorem cm_64 : (quietT 64 == 0 || (f_window_reckon : AFunc).body.calm quietT && (quietT 64 != 2 || (f_window_reckon : AFunc).still quietT)) = true := by kernel_rfl
theorem fn_65 : FnOk Tryz.prog glT quietT 65 f_image_Place := ⟨Tryz.f65, Tryz.func65, by kernel_rfl, by kernel_rfl⟩
theorem cm_65 : (quietT 65 == 0 || (f_image_Place : AFunc).body.calm quietT && (quietT 65 != 2 || (f_image_Place : AFunc).still quietT)) = true := by kernel_rfl
theorem fn_66 : FnOk Tryz.prog glT quietT 66 f_sim_kinds := ⟨Tryz.f66, Tryz.func66, by kernel_rfl, by kernel_rfl⟩
theorem cm_66 : (quietT 66 == 0 || (f_sim_kinds : AFunc).body.calm quietT && (quietT 66 != 2 || (f_sim_kinds : AFunc).still quietT)) = true := by kernel_rfl
theorem fn_67 : FnOk Tryz.prog glT quietT 67 f_window_Window_Reg := ⟨Tryz.f67, Tryz.func67, by kernel_rfl, by kernel_rfl⟩
theorem cm_67 : (quietT 67 == 0 || (f_window_Window_Reg : AFunc).body.calm quietT && (quietT 67 != 2 || (f_window_Window_Reg : AFunc).still quietT)) = true := by kernel_rfl
theorem fn_68 : FnOk Tryz.prog glT quietT 68 f_sim_Sim_source := ⟨Tryz.f68, Tryz.func68, by kernel_rfl, by kernel_rfl⟩
theorem cm_68 : (quietT 68 == 0 || (f_sim_Sim_source : AFunc).body.calm quietT && (quietT 68 != 2 || (f_sim_Sim_source : AFunc).still quietT)) = true := by kernel_rfl
theorem fn_69 : FnOk Tryz.prog glT quietT 69 f_alu_Amo := ⟨Tryz.f69, Tryz.func69, by kernel_rfl, by kernel_rfl⟩
theorem cm_69 : (quietT 69 == 0 || (f_alu_Amo : AFunc).body.calm quietT && (quietT 69 != 2 || (f_alu_Amo : AFunc).still quietT)) = true := by kernel_rfl
theorem fn_70 : FnOk Tryz.prog glT quietT 70 f_sim_hart_ref := ⟨Tryz.f70, Tryz.func70, by kernel_rfl, by kernel_rfl⟩
theorem cm_70 : (quietT 70 == 0 || (f_sim_hart_ref : AFunc).body.calm quietT && (quietT 70 != 2 || (f_sim_hart_ref : AFunc).still quietT)) = true := by kernel_rfl
theorem fn_71 : FnOk Tryz.prog glT quietT 71 f_sim_hart_stops := ⟨Tryz.f71, Tryz.func71, by kernel_rfl, by kernel_rfl⟩
theorem cm_71 : (quietT 71 == 0 || (f_sim_hart_stops : AFunc).body.calm quietT && (quietT 71 != 2 || (f_sim_hart_stops : AFunc).still quietT)) = true := by kernel_rfl
theorem fn_72 : FnOk Tryz.prog glT quietT 72 f_sim_hart_call := ⟨Tryz.f72, Tryz.func72, by kernel_rfl, by kernel_rfl⟩
theorem cm_72 : (quietT 72 == 0 || (f_sim_hart_call : AFunc).body.calm quietT && (quietT 72 != 2 || (f_sim_hart_call : AFunc).still quietT)) = true := by kernel_rfl
theorem fn_73 : FnOk Tryz.prog glT quietT 73 f_window_Window_Retire := ⟨Tryz.f73, Tryz.func73, by kernel_rfl, by kernel_rfl⟩
theorem cm_73 : (quietT 73 == 0 || (f_window_Window_Retire : AFunc).body.calm quietT && (quietT 73 != 2 || (f_window_Window_Retire : AFunc).still quietT)) = true := by kernel_rfl
theorem fn_74 : FnOk Tryz.prog glT quietT 74 f_sim_hart_retired := ⟨Tryz.f74, Tryz.func74, by kernel_rfl, by kernel_rfl⟩
theorem cm_74 : (quietT 74 == 0 || (f_sim_hart_retired : AFunc).body.calm quietT && (quietT 74 != 2 || (f_sim_hart_retired : AFunc).still quietT)) = true := by kernel_rfl
theorem fn_81 : FnOk Tryz.prog glT quietT 81 f_sim_Sim_fetches := ⟨Tryz.f81, Tryz.func81, by kernel_rfl, by kernel_rfl⟩
theorem cm_81 : (quietT 81 == 0 || (f_sim_Sim_fetches : AFunc).body.calm quietT && (quietT 81 != 2 || (f_sim_Sim_fetches : AFunc).still quietT)) = true := by kernel_rfl
theorem fn_82 : FnOk Tryz.prog glT quietT 82 f_sim_hart_retires := ⟨Tryz.f82, Tryz.func82, by kernel_rfl, by kernel_rfl⟩
theorem cm_82 : (quietT 82 == 0 || (f_sim_hart_retires : AFunc).body.calm quietT && (quietT 82 != 2 || (f_sim_hart_retires : AFunc).still quietT)) = true := by kernel_rfl
theorem fn_83 : FnOk Tryz.prog glT quietT 83 f_slices_ContainsFuncwindow_Entrywindow_Entry := ⟨Tryz.f83, Tryz.func83, by kernel_rfl, by kernel_rfl⟩
theorem cm_83 : (quietT 83 == 0 || (f_slices_ContainsFuncwindow_Entrywindow_Entry : AFunc).body.calm quietT && (quietT 83 != 2 || (f_slices_ContainsFuncwindow_Entrywindow_Entry : AFunc).still quietT)) = true := by kernel_rfl
theorem fn_84 : FnOk Tryz.prog glT quietT 84 f_sim_wrote := ⟨Tryz.f84, Tryz.func84, by kernel_rfl, by kernel_rfl⟩
theorem cm_84 : (quietT 84 == 0 || (f_sim_wrote : AFunc).body.calm quietT && (quietT 84 != 2 || (f_sim_wrote : AFunc).still quietT)) = true := by kernel_rfl
theorem fn_85 : FnOk Tryz.prog glT quietT 85 f_sim_Sim_performs := ⟨Tryz.f85, Tryz.func85, by kernel_rfl, by kernel_rfl⟩
theorem cm_85 : (quietT 85 == 0 || (f_sim_Sim_performs : AFunc).body.calm quietT && (quietT 85 != 2 || (f_sim_Sim_performs : AFunc).still quietT)) = true := by kernel_rfl
theorem fn_87 : FnOk Tryz.prog glT quietT 87 f_spinnakerref04_words := ⟨Tryz.f87, Tryz.func87, by kernel_rfl, by kernel_rfl⟩
theorem cm_87 : (quietT 87 == 0 || (f_spinnakerref04_words : AFunc).body.calm quietT && (quietT 87 != 2 || (f_spinnakerref04_words : AFunc).still quietT)) = true := by kernel_rfl
theorem fn_88 : FnOk Tryz.prog glT quietT 88 f_spinnakerref01_Bit := ⟨Tryz.f88, Tryz.func88, by kernel_rfl, by kernel_rfl⟩
theorem cm_88 : (quietT 88 == 0 || (f_spinnakerref01_Bit : AFunc).body.calm quietT && (quietT 88 != 2 || (f_spinnakerref01_Bit : AFunc).still quietT)) = true := by kernel_rfl
theorem fn_89 : FnOk Tryz.prog glT quietT 89 f_spinnakerref01_Power := ⟨Tryz.f89, Tryz.func89, by kernel_rfl, by kernel_rfl⟩
theorem cm_89 : (quietT 89 == 0 || (f_spinnakerref01_Power : AFunc).body.calm quietT && (quietT 89 != 2 || (f_spinnakerref01_Power : AFunc).still quietT)) = true := by kernel_rfl
theorem fn_90 : FnOk Tryz.prog glT quietT 90 f_spinnakerref03_letter := ⟨Tryz.f90, Tryz.func90, by kernel_rfl, by kernel_rfl⟩
theorem cm_90 : (quietT 90 == 0 || (f_spinnakerref03_letter : AFunc).body.calm quietT && (quietT 90 != 2 || (f_spinnakerref03_letter : AFunc).still quietT)) = true := by kernel_rfl
theorem fn_91 : FnOk Tryz.prog glT quietT 91 f_image_place := ⟨Tryz.f91, Tryz.func91, by kernel_rfl, by kernel_rfl⟩
theorem cm_91 : (quietT 91 == 0 || (f_image_place : AFunc).body.calm quietT && (quietT 91 != 2 || (f_image_place : AFunc).still quietT)) = true := by kernel_rfl
theorem fn_92 : FnOk Tryz.prog glT quietT 92 f_dec_Decode := ⟨Tryz.f92, Tryz.func92, by kernel_rfl, by kernel_rfl⟩
theorem cm_92 : (quietT 92 == 0 || (f_dec_Decode : AFunc).body.calm quietT && (quietT 92 != 2 || (f_dec_Decode : AFunc).still quietT)) = true := by kernel_rfl
theorem fn_93 : FnOk Tryz.prog glT quietT 93 f_window_access := ⟨Tryz.f93, Tryz.func93, by kernel_rfl, by kernel_rfl⟩
theorem cm_93 : (quietT 93 == 0 || (f_window_access : AFunc).body.calm quietT && (quietT 93 != 2 || (f_window_access : AFunc).still quietT)) = true := by kernel_rfl
theorem fn_94 : FnOk Tryz.prog glT quietT 94 f_isa_Wide := ⟨Tryz.f94, Tryz.func94, by kernel_rfl, by kernel_rfl⟩
theorem cm_94 : (quietT 94 == 0 || (f_isa_Wide : AFunc).body.calm quietT && (quietT 94 != 2 || (f_isa_Wide : AFunc).still quietT)) = true := by kernel_rfl
theorem fn_95 : FnOk Tryz.prog glT quietT 95 f_isa_in := ⟨Tryz.f95, Tryz.func95, by kernel_rfl, by kernel_rfl⟩
theorem cm_95 : (quietT 95 == 0 || (f_isa_in : AFunc).body.calm quietT && (quietT 95 != 2 || (f_isa_in : AFunc).still quietT)) = true := by kernel_rfl
theorem fn_96 : FnOk Tryz.prog glT quietT 96 f_window_Window_at := ⟨Tryz.f96, Tryz.func96, by kernel_rfl, by kernel_rfl⟩
theorem cm_96 : (quietT 96 == 0 || (f_window_Window_at : AFunc).body.calm quietT && (quietT 96 != 2 || (f_window_Window_at : AFunc).still quietT)) = true := by kernel_rfl
theorem fn_97 : FnOk Tryz.prog glT quietT 97 f_isa_Reads := ⟨Tryz.f97, Tryz.func97, by kernel_rfl, by kernel_rfl⟩
theorem cm_97 : (quietT 97 == 0 || (f_isa_Reads : AFunc).body.calm quietT && (quietT 97 != 2 || (f_isa_Reads : AFunc).still quietT)) = true := by kernel_rfl
theorem fn_98 : FnOk Tryz.prog glT quietT 98 f_alu_Taken_1 := ⟨Tryz.f98, Tryz.func98, by kernel_rfl, by kernel_rfl⟩
theorem cm_98 : (quietT 98 == 0 || (f_alu_Taken_1 : AFunc).body.calm quietT && (quietT 98 != 2 || (f_alu_Taken_1 : AFunc).still quietT)) = true := by kernel_rfl
theorem fn_99 : FnOk Tryz.prog glT quietT 99 f_alu_Taken_2 := ⟨Tryz.f99, Tryz.func99, by kernel_rfl, by kernel_rfl⟩
theorem cm_99 : (quietT 99 == 0 || (f_alu_Taken_2 : AFunc).body.calm quietT && (quietT 99 != 2 || (f_alu_Taken_2 : AFunc).still quietT)) = true := by kernel_rfl
theorem fn_100 : FnOk Tryz.prog glT quietT 100 f_isa_Form := ⟨Tryz.f100, Tryz.func100, by kernel_rfl, by kernel_rfl⟩
theorem cm_100 : (quietT 100 == 0 || (f_isa_Form : AFunc).body.calm quietT && (quietT 100 != 2 || (f_isa_Form : AFunc).still quietT)) = true := by kernel_rfl
theorem fn_101 : FnOk Tryz.prog glT quietT 101 f_alu_Eval := ⟨Tryz.f101, Tryz.func101, by kernel_rfl, by kernel_rfl⟩
theorem cm_101 : (quietT 101 == 0 || (f_alu_Eval : AFunc).body.calm quietT && (quietT 101 != 2 || (f_alu_Eval : AFunc).still quietT)) = true := by kernel_rfl
end Go.Am
