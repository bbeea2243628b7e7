/- The program's functions, read as abstract ones: every one of them compiles to the text that the plain law speaks of. -/
import Derived.Test.YtmlidlbchidgdaaGreatDoorAm7
import Derived.Test.YtmlidlbchidgdaaGreatDoorChecked
import Derived.KernelRfl
namespace Go.Am
open Go.Proofs
set_option maxRecDepth 100000
theorem fn_102 : FnOk Tryz.prog glT quietT 102 f_isa_Access := ⟨Tryz.f102, Tryz.func102, by kernel_rfl, by kernel_rfl⟩
theorem cm_102 : (quietT 102 == 0 || (f_isa_Access : AFunc).body.calm quietT && (quietT 102 != 2 || (f_isa_Access : AFunc).still quietT)) = true := by kernel_rfl
theorem fn_103 : FnOk Tryz.prog glT quietT 103 f_isa_Writes := ⟨Tryz.f103, Tryz.func103, by kernel_rfl, by kernel_rfl⟩
theorem cm_103 : (quietT 103 == 0 || (f_isa_Writes : AFunc).body.calm quietT && (quietT 103 != 2 || (f_isa_Writes : AFunc).still quietT)) = true := by kernel_rfl
theorem fn_104 : FnOk Tryz.prog glT quietT 104 f_sim_writes := ⟨Tryz.f104, Tryz.func104, by kernel_rfl, by kernel_rfl⟩
theorem cm_104 : (quietT 104 == 0 || (f_sim_writes : AFunc).body.calm quietT && (quietT 104 != 2 || (f_sim_writes : AFunc).still quietT)) = true := by kernel_rfl
theorem fn_105 : FnOk Tryz.prog glT quietT 105 f_sim_Sim_last := ⟨Tryz.f105, Tryz.func105, by kernel_rfl, by kernel_rfl⟩
theorem cm_105 : (quietT 105 == 0 || (f_sim_Sim_last : AFunc).body.calm quietT && (quietT 105 != 2 || (f_sim_Sim_last : AFunc).still quietT)) = true := by kernel_rfl
theorem fn_106 : FnOk Tryz.prog glT quietT 106 f_slices_Deletewindow_Entrywindow_Entry := ⟨Tryz.f106, Tryz.func106, by kernel_rfl, by kernel_rfl⟩
theorem cm_106 : (quietT 106 == 0 || (f_slices_Deletewindow_Entrywindow_Entry : AFunc).body.calm quietT && (quietT 106 != 2 || (f_slices_Deletewindow_Entrywindow_Entry : AFunc).still quietT)) = true := by kernel_rfl
theorem fn_107 : FnOk Tryz.prog glT quietT 107 f_sim_start := ⟨Tryz.f107, Tryz.func107, by kernel_rfl, by kernel_rfl⟩
theorem cm_107 : (quietT 107 == 0 || (f_sim_start : AFunc).body.calm quietT && (quietT 107 != 2 || (f_sim_start : AFunc).still quietT)) = true := by kernel_rfl
theorem fn_117 : FnOk Tryz.prog glT quietT 117 f_sim_Sim_fetches_1 := ⟨Tryz.f117, Tryz.func117, by kernel_rfl, by kernel_rfl⟩
theorem cm_117 : (quietT 117 == 0 || (f_sim_Sim_fetches_1 : AFunc).body.calm quietT && (quietT 117 != 2 || (f_sim_Sim_fetches_1 : AFunc).still quietT)) = true := by kernel_rfl
theorem fn_118 : FnOk Tryz.prog glT quietT 118 f_slices_IndexFuncwindow_Entrywindow_Entry := ⟨Tryz.f118, Tryz.func118, by kernel_rfl, by kernel_rfl⟩
theorem cm_118 : (quietT 118 == 0 || (f_slices_IndexFuncwindow_Entrywindow_Entry : AFunc).body.calm quietT && (quietT 118 != 2 || (f_slices_IndexFuncwindow_Entrywindow_Entry : AFunc).still quietT)) = true := by kernel_rfl
theorem fn_119 : FnOk Tryz.prog glT quietT 119 f_sim_access := ⟨Tryz.f119, Tryz.func119, by kernel_rfl, by kernel_rfl⟩
theorem cm_119 : (quietT 119 == 0 || (f_sim_access : AFunc).body.calm quietT && (quietT 119 != 2 || (f_sim_access : AFunc).still quietT)) = true := by kernel_rfl
theorem fn_120 : FnOk Tryz.prog glT quietT 120 f_sim_hart_settled := ⟨Tryz.f120, Tryz.func120, by kernel_rfl, by kernel_rfl⟩
theorem cm_120 : (quietT 120 == 0 || (f_sim_hart_settled : AFunc).body.calm quietT && (quietT 120 != 2 || (f_sim_hart_settled : AFunc).still quietT)) = true := by kernel_rfl
theorem fn_121 : FnOk Tryz.prog glT quietT 121 f_sim_hart_free := ⟨Tryz.f121, Tryz.func121, by kernel_rfl, by kernel_rfl⟩
theorem cm_121 : (quietT 121 == 0 || (f_sim_hart_free : AFunc).body.calm quietT && (quietT 121 != 2 || (f_sim_hart_free : AFunc).still quietT)) = true := by kernel_rfl
theorem fn_122 : FnOk Tryz.prog glT quietT 122 f_sim_hart_agrees := ⟨Tryz.f122, Tryz.func122, by kernel_rfl, by kernel_rfl⟩
theorem cm_122 : (quietT 122 == 0 || (f_sim_hart_agrees : AFunc).body.calm quietT && (quietT 122 != 2 || (f_sim_hart_agrees : AFunc).still quietT)) = true := by kernel_rfl
theorem fn_123 : FnOk Tryz.prog glT quietT 123 f_sim_hart_seen := ⟨Tryz.f123, Tryz.func123, by kernel_rfl, by kernel_rfl⟩
theorem cm_123 : (quietT 123 == 0 || (f_sim_hart_seen : AFunc).body.calm quietT && (quietT 123 != 2 || (f_sim_hart_seen : AFunc).still quietT)) = true := by kernel_rfl
theorem fn_124 : FnOk Tryz.prog glT quietT 124 f_sim_hart_older := ⟨Tryz.f124, Tryz.func124, by kernel_rfl, by kernel_rfl⟩
theorem cm_124 : (quietT 124 == 0 || (f_sim_hart_older : AFunc).body.calm quietT && (quietT 124 != 2 || (f_sim_hart_older : AFunc).still quietT)) = true := by kernel_rfl
theorem fn_125 : FnOk Tryz.prog glT quietT 125 f_sim_Sim_reserved := ⟨Tryz.f125, Tryz.func125, by kernel_rfl, by kernel_rfl⟩
theorem cm_125 : (quietT 125 == 0 || (f_sim_Sim_reserved : AFunc).body.calm quietT && (quietT 125 != 2 || (f_sim_Sim_reserved : AFunc).still quietT)) = true := by kernel_rfl
theorem fn_126 : FnOk Tryz.prog glT quietT 126 f_sim_hart_early := ⟨Tryz.f126, Tryz.func126, by kernel_rfl, by kernel_rfl⟩
theorem cm_126 : (quietT 126 == 0 || (f_sim_hart_early : AFunc).body.calm quietT && (quietT 126 != 2 || (f_sim_hart_early : AFunc).still quietT)) = true := by kernel_rfl
theorem fn_127 : FnOk Tryz.prog glT quietT 127 f_dec_parts := ⟨Tryz.f127, Tryz.func127, by kernel_rfl, by kernel_rfl⟩
theorem cm_127 : (quietT 127 == 0 || (f_dec_parts : AFunc).body.calm quietT && (quietT 127 != 2 || (f_dec_parts : AFunc).still quietT)) = true := by kernel_rfl
theorem fn_128 : FnOk Tryz.prog glT quietT 128 f_dec_operation := ⟨Tryz.f128, Tryz.func128, by kernel_rfl, by kernel_rfl⟩
theorem cm_128 : (quietT 128 == 0 || (f_dec_operation : AFunc).body.calm quietT && (quietT 128 != 2 || (f_dec_operation : AFunc).still quietT)) = true := by kernel_rfl
theorem fn_129 : FnOk Tryz.prog glT quietT 129 f_enc_Encode := ⟨Tryz.f129, Tryz.func129, by kernel_rfl, by kernel_rfl⟩
theorem cm_129 : (quietT 129 == 0 || (f_enc_Encode : AFunc).body.calm quietT && (quietT 129 != 2 || (f_enc_Encode : AFunc).still quietT)) = true := by kernel_rfl
theorem fn_130 : FnOk Tryz.prog glT quietT 130 f_isa_May := ⟨Tryz.f130, Tryz.func130, by kernel_rfl, by kernel_rfl⟩
theorem cm_130 : (quietT 130 == 0 || (f_isa_May : AFunc).body.calm quietT && (quietT 130 != 2 || (f_isa_May : AFunc).still quietT)) = true := by kernel_rfl
theorem fn_131 : FnOk Tryz.prog glT quietT 131 f_isa_fields := ⟨Tryz.f131, Tryz.func131, by kernel_rfl, by kernel_rfl⟩
theorem cm_131 : (quietT 131 == 0 || (f_isa_fields : AFunc).body.calm quietT && (quietT 131 != 2 || (f_isa_fields : AFunc).still quietT)) = true := by kernel_rfl
theorem fn_132 : FnOk Tryz.prog glT quietT 132 f_isa_Name := ⟨Tryz.f132, Tryz.func132, by kernel_rfl, by kernel_rfl⟩
theorem cm_132 : (quietT 132 == 0 || (f_isa_Name : AFunc).body.calm quietT && (quietT 132 != 2 || (f_isa_Name : AFunc).still quietT)) = true := by kernel_rfl
theorem fn_133 : FnOk Tryz.prog glT quietT 133 f_isa_other := ⟨Tryz.f133, Tryz.func133, by kernel_rfl, by kernel_rfl⟩
theorem cm_133 : (quietT 133 == 0 || (f_isa_other : AFunc).body.calm quietT && (quietT 133 != 2 || (f_isa_other : AFunc).still quietT)) = true := by kernel_rfl
theorem fn_134 : FnOk Tryz.prog glT quietT 134 f_alu_plain := ⟨Tryz.f134, Tryz.func134, by kernel_rfl, by kernel_rfl⟩
theorem cm_134 : (quietT 134 == 0 || (f_alu_plain : AFunc).body.calm quietT && (quietT 134 != 2 || (f_alu_plain : AFunc).still quietT)) = true := by kernel_rfl
theorem fn_135 : FnOk Tryz.prog glT quietT 135 f_alu_short := ⟨Tryz.f135, Tryz.func135, by kernel_rfl, by kernel_rfl⟩
theorem cm_135 : (quietT 135 == 0 || (f_alu_short : AFunc).body.calm quietT && (quietT 135 != 2 || (f_alu_short : AFunc).still quietT)) = true := by kernel_rfl
theorem fn_136 : FnOk Tryz.prog glT quietT 136 f_alu_times := ⟨Tryz.f136, Tryz.func136, by kernel_rfl, by kernel_rfl⟩
theorem cm_136 : (quietT 136 == 0 || (f_alu_times : AFunc).body.calm quietT && (quietT 136 != 2 || (f_alu_times : AFunc).still quietT)) = true := by kernel_rfl
theorem fn_137 : FnOk Tryz.prog glT quietT 137 f_alu_shortTimes := ⟨Tryz.f137, Tryz.func137, by kernel_rfl, by kernel_rfl⟩
theorem cm_137 : (quietT 137 == 0 || (f_alu_shortTimes : AFunc).body.calm quietT && (quietT 137 != 2 || (f_alu_shortTimes : AFunc).still quietT)) = true := by kernel_rfl
theorem fn_150 : FnOk Tryz.prog glT quietT 150 f_sim_hart_settled_1 := ⟨Tryz.f150, Tryz.func150, by kernel_rfl, by kernel_rfl⟩
theorem cm_150 : (quietT 150 == 0 || (f_sim_hart_settled_1 : AFunc).body.calm quietT && (quietT 150 != 2 || (f_sim_hart_settled_1 : AFunc).still quietT)) = true := by kernel_rfl
theorem fn_151 : FnOk Tryz.prog glT quietT 151 f_sim_waits := ⟨Tryz.f151, Tryz.func151, by kernel_rfl, by kernel_rfl⟩
theorem cm_151 : (quietT 151 == 0 || (f_sim_waits : AFunc).body.calm quietT && (quietT 151 != 2 || (f_sim_waits : AFunc).still quietT)) = true := by kernel_rfl
theorem fn_152 : FnOk Tryz.prog glT quietT 152 f_sim_hart_must := ⟨Tryz.f152, Tryz.func152, by kernel_rfl, by kernel_rfl⟩
theorem cm_152 : (quietT 152 == 0 || (f_sim_hart_must : AFunc).body.calm quietT && (quietT 152 != 2 || (f_sim_hart_must : AFunc).still quietT)) = true := by kernel_rfl
theorem fn_153 : FnOk Tryz.prog glT quietT 153 f_sim_hasRead := ⟨Tryz.f153, Tryz.func153, by kernel_rfl, by kernel_rfl⟩
theorem cm_153 : (quietT 153 == 0 || (f_sim_hasRead : AFunc).body.calm quietT && (quietT 153 != 2 || (f_sim_hasRead : AFunc).still quietT)) = true := by kernel_rfl
theorem fn_154 : FnOk Tryz.prog glT quietT 154 f_sim_hart_since := ⟨Tryz.f154, Tryz.func154, by kernel_rfl, by kernel_rfl⟩
theorem cm_154 : (quietT 154 == 0 || (f_sim_hart_since : AFunc).body.calm quietT && (quietT 154 != 2 || (f_sim_hart_since : AFunc).still quietT)) = true := by kernel_rfl
theorem fn_155 : FnOk Tryz.prog glT quietT 155 f_sim_hart_reserve := ⟨Tryz.f155, Tryz.func155, by kernel_rfl, by kernel_rfl⟩
theorem cm_155 : (quietT 155 == 0 || (f_sim_hart_reserve : AFunc).body.calm quietT && (quietT 155 != 2 || (f_sim_hart_reserve : AFunc).still quietT)) = true := by kernel_rfl
theorem fn_156 : FnOk Tryz.prog glT quietT 156 f_slices_Indexapi_Refapi_Ref := ⟨Tryz.f156, Tryz.func156, by kernel_rfl, by kernel_rfl⟩
theorem cm_156 : (quietT 156 == 0 || (f_slices_Indexapi_Refapi_Ref : AFunc).body.calm quietT && (quietT 156 != 2 || (f_slices_Indexapi_Refapi_Ref : AFunc).still quietT)) = true := by kernel_rfl
theorem fn_157 : FnOk Tryz.prog glT quietT 157 f_slices_ContainsFuncapi_Refapi_Ref := ⟨Tryz.f157, Tryz.func157, by kernel_rfl, by kernel_rfl⟩
theorem cm_157 : (quietT 157 == 0 || (f_slices_ContainsFuncapi_Refapi_Ref : AFunc).body.calm quietT && (quietT 157 != 2 || (f_slices_ContainsFuncapi_Refapi_Ref : AFunc).still quietT)) = true := by kernel_rfl
theorem fn_158 : FnOk Tryz.prog glT quietT 158 f_sim_Sim_reserved_1 := ⟨Tryz.f158, Tryz.func158, by kernel_rfl, by kernel_rfl⟩
theorem cm_158 : (quietT 158 == 0 || (f_sim_Sim_reserved_1 : AFunc).body.calm quietT && (quietT 158 != 2 || (f_sim_Sim_reserved_1 : AFunc).still quietT)) = true := by kernel_rfl
theorem fn_159 : FnOk Tryz.prog glT quietT 159 f_dec_immediate := ⟨Tryz.f159, Tryz.func159, by kernel_rfl, by kernel_rfl⟩
theorem cm_159 : (quietT 159 == 0 || (f_dec_immediate : AFunc).body.calm quietT && (quietT 159 != 2 || (f_dec_immediate : AFunc).still quietT)) = true := by kernel_rfl
theorem fn_160 : FnOk Tryz.prog glT quietT 160 f_dec_field := ⟨Tryz.f160, Tryz.func160, by kernel_rfl, by kernel_rfl⟩
theorem cm_160 : (quietT 160 == 0 || (f_dec_field : AFunc).body.calm quietT && (quietT 160 != 2 || (f_dec_field : AFunc).still quietT)) = true := by kernel_rfl
theorem fn_161 : FnOk Tryz.prog glT quietT 161 f_dec_pick := ⟨Tryz.f161, Tryz.func161, by kernel_rfl, by kernel_rfl⟩
theorem cm_161 : (quietT 161 == 0 || (f_dec_pick : AFunc).body.calm quietT && (quietT 161 != 2 || (f_dec_pick : AFunc).still quietT)) = true := by kernel_rfl
theorem fn_162 : FnOk Tryz.prog glT quietT 162 f_dec_immediates := ⟨Tryz.f162, Tryz.func162, by kernel_rfl, by kernel_rfl⟩
theorem cm_162 : (quietT 162 == 0 || (f_dec_immediates : AFunc).body.calm quietT && (quietT 162 != 2 || (f_dec_immediates : AFunc).still quietT)) = true := by kernel_rfl
theorem fn_163 : FnOk Tryz.prog glT quietT 163 f_dec_small := ⟨Tryz.f163, Tryz.func163, by kernel_rfl, by kernel_rfl⟩
theorem cm_163 : (quietT 163 == 0 || (f_dec_small : AFunc).body.calm quietT && (quietT 163 != 2 || (f_dec_small : AFunc).still quietT)) = true := by kernel_rfl
theorem fn_164 : FnOk Tryz.prog glT quietT 164 f_dec_whole := ⟨Tryz.f164, Tryz.func164, by kernel_rfl, by kernel_rfl⟩
theorem cm_164 : (quietT 164 == 0 || (f_dec_whole : AFunc).body.calm quietT && (quietT 164 != 2 || (f_dec_whole : AFunc).still quietT)) = true := by kernel_rfl
theorem fn_165 : FnOk Tryz.prog glT quietT 165 f_dec_half := ⟨Tryz.f165, Tryz.func165, by kernel_rfl, by kernel_rfl⟩
theorem cm_165 : (quietT 165 == 0 || (f_dec_half : AFunc).body.calm quietT && (quietT 165 != 2 || (f_dec_half : AFunc).still quietT)) = true := by kernel_rfl
theorem fn_166 : FnOk Tryz.prog glT quietT 166 f_dec_atomic := ⟨Tryz.f166, Tryz.func166, by kernel_rfl, by kernel_rfl⟩
theorem cm_166 : (quietT 166 == 0 || (f_dec_atomic : AFunc).body.calm quietT && (quietT 166 != 2 || (f_dec_atomic : AFunc).still quietT)) = true := by kernel_rfl
theorem fn_167 : FnOk Tryz.prog glT quietT 167 f_dec_system := ⟨Tryz.f167, Tryz.func167, by kernel_rfl, by kernel_rfl⟩
theorem cm_167 : (quietT 167 == 0 || (f_dec_system : AFunc).body.calm quietT && (quietT 167 != 2 || (f_dec_system : AFunc).still quietT)) = true := by kernel_rfl
theorem fn_168 : FnOk Tryz.prog glT quietT 168 f_enc_of := ⟨Tryz.f168, Tryz.func168, by kernel_rfl, by kernel_rfl⟩
theorem cm_168 : (quietT 168 == 0 || (f_enc_of : AFunc).body.calm quietT && (quietT 168 != 2 || (f_enc_of : AFunc).still quietT)) = true := by kernel_rfl
theorem fn_169 : FnOk Tryz.prog glT quietT 169 f_enc_pack := ⟨Tryz.f169, Tryz.func169, by kernel_rfl, by kernel_rfl⟩
theorem cm_169 : (quietT 169 == 0 || (f_enc_pack : AFunc).body.calm quietT && (quietT 169 != 2 || (f_enc_pack : AFunc).still quietT)) = true := by kernel_rfl
theorem fn_170 : FnOk Tryz.prog glT quietT 170 f_enc_registers := ⟨Tryz.f170, Tryz.func170, by kernel_rfl, by kernel_rfl⟩
theorem cm_170 : (quietT 170 == 0 || (f_enc_registers : AFunc).body.calm quietT && (quietT 170 != 2 || (f_enc_registers : AFunc).still quietT)) = true := by kernel_rfl
theorem fn_171 : FnOk Tryz.prog glT quietT 171 f_enc_immediate := ⟨Tryz.f171, Tryz.func171, by kernel_rfl, by kernel_rfl⟩
theorem cm_171 : (quietT 171 == 0 || (f_enc_immediate : AFunc).body.calm quietT && (quietT 171 != 2 || (f_enc_immediate : AFunc).still quietT)) = true := by kernel_rfl
theorem fn_172 : FnOk Tryz.prog glT quietT 172 f_isa_register := ⟨Tryz.f172, Tryz.func172, by kernel_rfl, by kernel_rfl⟩
theorem cm_172 : (quietT 172 == 0 || (f_isa_register : AFunc).body.calm quietT && (quietT 172 != 2 || (f_isa_register : AFunc).still quietT)) = true := by kernel_rfl
theorem fn_173 : FnOk Tryz.prog glT quietT 173 f_isa_immediate := ⟨Tryz.f173, Tryz.func173, by kernel_rfl, by kernel_rfl⟩
theorem cm_173 : (quietT 173 == 0 || (f_isa_immediate : AFunc).body.calm quietT && (quietT 173 != 2 || (f_isa_immediate : AFunc).still quietT)) = true := by kernel_rfl
theorem fn_174 : FnOk Tryz.prog glT quietT 174 f_alu_flag := ⟨Tryz.f174, Tryz.func174, by kernel_rfl, by kernel_rfl⟩
theorem cm_174 : (quietT 174 == 0 || (f_alu_flag : AFunc).body.calm quietT && (quietT 174 != 2 || (f_alu_flag : AFunc).still quietT)) = true := by kernel_rfl
theorem fn_175 : FnOk Tryz.prog glT quietT 175 f_alu_half := ⟨Tryz.f175, Tryz.func175, by kernel_rfl, by kernel_rfl⟩
theorem cm_175 : (quietT 175 == 0 || (f_alu_half : AFunc).body.calm quietT && (quietT 175 != 2 || (f_alu_half : AFunc).still quietT)) = true := by kernel_rfl
theorem fn_176 : FnOk Tryz.prog glT quietT 176 f_alu_quotient := ⟨Tryz.f176, Tryz.func176, by kernel_rfl, by kernel_rfl⟩
theorem cm_176 : (quietT 176 == 0 || (f_alu_quotient : AFunc).body.calm quietT && (quietT 176 != 2 || (f_alu_quotient : AFunc).still quietT)) = true := by kernel_rfl
theorem fn_177 : FnOk Tryz.prog glT quietT 177 f_alu_quotientU := ⟨Tryz.f177, Tryz.func177, by kernel_rfl, by kernel_rfl⟩
theorem cm_177 : (quietT 177 == 0 || (f_alu_quotientU : AFunc).body.calm quietT && (quietT 177 != 2 || (f_alu_quotientU : AFunc).still quietT)) = true := by kernel_rfl
theorem fn_178 : FnOk Tryz.prog glT quietT 178 f_alu_high := ⟨Tryz.f178, Tryz.func178, by kernel_rfl, by kernel_rfl⟩
theorem cm_178 : (quietT 178 == 0 || (f_alu_high : AFunc).body.calm quietT && (quietT 178 != 2 || (f_alu_high : AFunc).still quietT)) = true := by kernel_rfl
theorem fn_189 : FnOk Tryz.prog glT quietT 189 f_sim_hart_must_1 := ⟨Tryz.f189, Tryz.func189, by kernel_rfl, by kernel_rfl⟩
theorem cm_189 : (quietT 189 == 0 || (f_sim_hart_must_1 : AFunc).body.calm quietT && (quietT 189 != 2 || (f_sim_hart_must_1 : AFunc).still quietT)) = true := by kernel_rfl
theorem fn_190 : FnOk Tryz.prog glT quietT 190 f_sim_of := ⟨Tryz.f190, Tryz.func190, by kernel_rfl, by kernel_rfl⟩
theorem cm_190 : (quietT 190 == 0 || (f_sim_of : AFunc).body.calm quietT && (quietT 190 != 2 || (f_sim_of : AFunc).still quietT)) = true := by kernel_rfl
theorem fn_191 : FnOk Tryz.prog glT quietT 191 f_sim_marked := ⟨Tryz.f191, Tryz.func191, by kernel_rfl, by kernel_rfl⟩
theorem cm_191 : (quietT 191 == 0 || (f_sim_marked : AFunc).body.calm quietT && (quietT 191 != 2 || (f_sim_marked : AFunc).still quietT)) = true := by kernel_rfl
theorem fn_192 : FnOk Tryz.prog glT quietT 192 f_sim_exclusive := ⟨Tryz.f192, Tryz.func192, by kernel_rfl, by kernel_rfl⟩
theorem cm_192 : (quietT 192 == 0 || (f_sim_exclusive : AFunc).body.calm quietT && (quietT 192 != 2 || (f_sim_exclusive : AFunc).still quietT)) = true := by kernel_rfl
theorem fn_193 : FnOk Tryz.prog glT quietT 193 f_slices_IndexFuncapi_Refapi_Ref := ⟨Tryz.f193, Tryz.func193, by kernel_rfl, by kernel_rfl⟩
theorem cm_193 : (quietT 193 == 0 || (f_slices_IndexFuncapi_Refapi_Ref : AFunc).body.calm quietT && (quietT 193 != 2 || (f_slices_IndexFuncapi_Refapi_Ref : AFunc).still quietT)) = true := by kernel_rfl
theorem fn_194 : FnOk Tryz.prog glT quietT 194 f_dec_immediate_1 := ⟨Tryz.f194, Tryz.func194, by kernel_rfl, by kernel_rfl⟩
theorem cm_194 : (quietT 194 == 0 || (f_dec_immediate_1 : AFunc).body.calm quietT && (quietT 194 != 2 || (f_dec_immediate_1 : AFunc).still quietT)) = true := by kernel_rfl
theorem fn_195 : FnOk Tryz.prog glT quietT 195 f_dec_signed := ⟨Tryz.f195, Tryz.func195, by kernel_rfl, by kernel_rfl⟩
theorem cm_195 : (quietT 195 == 0 || (f_dec_signed : AFunc).body.calm quietT && (quietT 195 != 2 || (f_dec_signed : AFunc).still quietT)) = true := by kernel_rfl
theorem fn_196 : FnOk Tryz.prog glT quietT 196 f_word_Get := ⟨Tryz.f196, Tryz.func196, by kernel_rfl, by kernel_rfl⟩
theorem cm_196 : (quietT 196 == 0 || (f_word_Get : AFunc).body.calm quietT && (quietT 196 != 2 || (f_word_Get : AFunc).still quietT)) = true := by kernel_rfl
theorem fn_197 : FnOk Tryz.prog glT quietT 197 f_dec_arith := ⟨Tryz.f197, Tryz.func197, by kernel_rfl, by kernel_rfl⟩
theorem cm_197 : (quietT 197 == 0 || (f_dec_arith : AFunc).body.calm quietT && (quietT 197 != 2 || (f_dec_arith : AFunc).still quietT)) = true := by kernel_rfl
theorem fn_198 : FnOk Tryz.prog glT quietT 198 f_enc_arith := ⟨Tryz.f198, Tryz.func198, by kernel_rfl, by kernel_rfl⟩
theorem cm_198 : (quietT 198 == 0 || (f_enc_arith : AFunc).body.calm quietT && (quietT 198 != 2 || (f_enc_arith : AFunc).still quietT)) = true := by kernel_rfl
theorem fn_199 : FnOk Tryz.prog glT quietT 199 f_enc_code_with := ⟨Tryz.f199, Tryz.func199, by kernel_rfl, by kernel_rfl⟩
theorem cm_199 : (quietT 199 == 0 || (f_enc_code_with : AFunc).body.calm quietT && (quietT 199 != 2 || (f_enc_code_with : AFunc).still quietT)) = true := by kernel_rfl
theorem fn_200 : FnOk Tryz.prog glT quietT 200 f_enc_times := ⟨Tryz.f200, Tryz.func200, by kernel_rfl, by kernel_rfl⟩
theorem cm_200 : (quietT 200 == 0 || (f_enc_times : AFunc).body.calm quietT && (quietT 200 != 2 || (f_enc_times : AFunc).still quietT)) = true := by kernel_rfl
theorem fn_201 : FnOk Tryz.prog glT quietT 201 f_enc_atomic := ⟨Tryz.f201, Tryz.func201, by kernel_rfl, by kernel_rfl⟩
theorem cm_201 : (quietT 201 == 0 || (f_enc_atomic : AFunc).body.calm quietT && (quietT 201 != 2 || (f_enc_atomic : AFunc).still quietT)) = true := by kernel_rfl
theorem fn_202 : FnOk Tryz.prog glT quietT 202 f_word_Put := ⟨Tryz.f202, Tryz.func202, by kernel_rfl, by kernel_rfl⟩
theorem cm_202 : (quietT 202 == 0 || (f_word_Put : AFunc).body.calm quietT && (quietT 202 != 2 || (f_word_Put : AFunc).still quietT)) = true := by kernel_rfl
theorem fn_203 : FnOk Tryz.prog glT quietT 203 f_enc_bit := ⟨Tryz.f203, Tryz.func203, by kernel_rfl, by kernel_rfl⟩
theorem cm_203 : (quietT 203 == 0 || (f_enc_bit : AFunc).body.calm quietT && (quietT 203 != 2 || (f_enc_bit : AFunc).still quietT)) = true := by kernel_rfl
theorem fn_204 : FnOk Tryz.prog glT quietT 204 f_word_Fits := ⟨Tryz.f204, Tryz.func204, by kernel_rfl, by kernel_rfl⟩
theorem cm_204 : (quietT 204 == 0 || (f_word_Fits : AFunc).body.calm quietT && (quietT 204 != 2 || (f_word_Fits : AFunc).still quietT)) = true := by kernel_rfl
theorem fn_205 : FnOk Tryz.prog glT quietT 205 f_math_bits_Mul64 := ⟨Tryz.f205, Tryz.func205, by kernel_rfl, by kernel_rfl⟩
theorem cm_205 : (quietT 205 == 0 || (f_math_bits_Mul64 : AFunc).body.calm quietT && (quietT 205 != 2 || (f_math_bits_Mul64 : AFunc).still quietT)) = true := by kernel_rfl
theorem fn_208 : FnOk Tryz.prog glT quietT 208 f_word_Sign := ⟨Tryz.f208, Tryz.func208, by kernel_rfl, by kernel_rfl⟩
theorem cm_208 : (quietT 208 == 0 || (f_word_Sign : AFunc).body.calm quietT && (quietT 208 != 2 || (f_word_Sign : AFunc).still quietT)) = true := by kernel_rfl
theorem fn_209 : FnOk Tryz.prog glT quietT 209 f_word_may := ⟨Tryz.f209, Tryz.func209, by kernel_rfl, by kernel_rfl⟩
theorem cm_209 : (quietT 209 == 0 || (f_word_may : AFunc).body.calm quietT && (quietT 209 != 2 || (f_word_may : AFunc).still quietT)) = true := by kernel_rfl
theorem fn_210 : FnOk Tryz.prog glT quietT 210 f_word_mask := ⟨Tryz.f210, Tryz.func210, by kernel_rfl, by kernel_rfl⟩
theorem cm_210 : (quietT 210 == 0 || (f_word_mask : AFunc).body.calm quietT && (quietT 210 != 2 || (f_word_mask : AFunc).still quietT)) = true := by kernel_rfl
end Go.Am
