/- The program's functions, read as abstract ones: every one of them compiles to the text that the plain law speaks of. -/
import Derived.Test.YtaflpfhmokcimaaGreatDoorAm10
import Derived.Test.YtaflpfhmokcimaaGreatDoorChecked
import Derived.Test.YtaflpfhmokcimaaGreatDoorTMaca
import Derived.Test.YtaflpfhmokcimaaGreatDoorTMacb
import Derived.KernelRfl
namespace Go.Am
open Go.Proofs
set_option maxRecDepth 100000
theorem ite_case {α:Type} {f k:Nat} {A B:α} {R:Option α} {Q:Nat→α→Prop} (h:(if f=k then some A else R)=some B) (h1:Q k A) (h2:R=some B→Q f B):Q f B:=by
 by_cases e:f=k
 ·rw [if_pos e] at h
  injection h with h
  rw [e,← h]
  exact h1
 ·rw [if_neg e] at h
  exact h2 h
theorem fn_all:∀ f A,Ft f=some A→FnOk Tryz.prog glT x00 f A∧(x00 f==0||A.body.calm x00&&(x00 f != 2||A.still x00))=true:=by
 intro f A h
 unfold Ft at h
 refine ite_case (Q:=fun f A=>FnOk Tryz.prog glT x00 f A∧(x00 f==0||A.body.calm x00&&(x00 f != 2||A.still x00))=true) h ⟨fn_3,cm_3⟩ fun h=>?_
 refine ite_case (Q:=fun f A=>FnOk Tryz.prog glT x00 f A∧(x00 f==0||A.body.calm x00&&(x00 f != 2||A.still x00))=true) h ⟨fn_4,cm_4⟩ fun h=>?_
 refine ite_case (Q:=fun f A=>FnOk Tryz.prog glT x00 f A∧(x00 f==0||A.body.calm x00&&(x00 f != 2||A.still x00))=true) h ⟨fn_5,cm_5⟩ fun h=>?_
 refine ite_case (Q:=fun f A=>FnOk Tryz.prog glT x00 f A∧(x00 f==0||A.body.calm x00&&(x00 f != 2||A.still x00))=true) h ⟨fn_6,cm_6⟩ fun h=>?_
 refine ite_case (Q:=fun f A=>FnOk Tryz.prog glT x00 f A∧(x00 f==0||A.body.calm x00&&(x00 f != 2||A.still x00))=true) h ⟨fn_7,cm_7⟩ fun h=>?_
 refine ite_case (Q:=fun f A=>FnOk Tryz.prog glT x00 f A∧(x00 f==0||A.body.calm x00&&(x00 f != 2||A.still x00))=true) h ⟨fn_8,cm_8⟩ fun h=>?_
 refine ite_case (Q:=fun f A=>FnOk Tryz.prog glT x00 f A∧(x00 f==0||A.body.calm x00&&(x00 f != 2||A.still x00))=true) h ⟨fn_9,cm_9⟩ fun h=>?_
 refine ite_case (Q:=fun f A=>FnOk Tryz.prog glT x00 f A∧(x00 f==0||A.body.calm x00&&(x00 f != 2||A.still x00))=true) h ⟨fn_10,cm_10⟩ fun h=>?_
 refine ite_case (Q:=fun f A=>FnOk Tryz.prog glT x00 f A∧(x00 f==0||A.body.calm x00&&(x00 f != 2||A.still x00))=true) h ⟨fn_11,cm_11⟩ fun h=>?_
 refine ite_case (Q:=fun f A=>FnOk Tryz.prog glT x00 f A∧(x00 f==0||A.body.calm x00&&(x00 f != 2||A.still x00))=true) h ⟨fn_12,cm_12⟩ fun h=>?_
 refine ite_case (Q:=fun f A=>FnOk Tryz.prog glT x00 f A∧(x00 f==0||A.body.calm x00&&(x00 f != 2||A.still x00))=true) h ⟨fn_13,cm_13⟩ fun h=>?_
 refine ite_case (Q:=fun f A=>FnOk Tryz.prog glT x00 f A∧(x00 f==0||A.body.calm x00&&(x00 f != 2||A.still x00))=true) h ⟨fn_14,cm_14⟩ fun h=>?_
 refine ite_case (Q:=fun f A=>FnOk Tryz.prog glT x00 f A∧(x00 f==0||A.body.calm x00&&(x00 f != 2||A.still x00))=true) h ⟨fn_15,cm_15⟩ fun h=>?_
 refine ite_case (Q:=fun f A=>FnOk Tryz.prog glT x00 f A∧(x00 f==0||A.body.calm x00&&(x00 f != 2||A.still x00))=true) h ⟨fn_16,cm_16⟩ fun h=>?_
 refine ite_case (Q:=fun f A=>FnOk Tryz.prog glT x00 f A∧(x00 f==0||A.body.calm x00&&(x00 f != 2||A.still x00))=true) h ⟨fn_17,cm_17⟩ fun h=>?_
 refine ite_case (Q:=fun f A=>FnOk Tryz.prog glT x00 f A∧(x00 f==0||A.body.calm x00&&(x00 f != 2||A.still x00))=true) h ⟨fn_18,cm_18⟩ fun h=>?_
 refine ite_case (Q:=fun f A=>FnOk Tryz.prog glT x00 f A∧(x00 f==0||A.body.calm x00&&(x00 f != 2||A.still x00))=true) h ⟨fn_19,cm_19⟩ fun h=>?_
 refine ite_case (Q:=fun f A=>FnOk Tryz.prog glT x00 f A∧(x00 f==0||A.body.calm x00&&(x00 f != 2||A.still x00))=true) h ⟨fn_20,cm_20⟩ fun h=>?_
 refine ite_case (Q:=fun f A=>FnOk Tryz.prog glT x00 f A∧(x00 f==0||A.body.calm x00&&(x00 f != 2||A.still x00))=true) h ⟨fn_21,cm_21⟩ fun h=>?_
 refine ite_case (Q:=fun f A=>FnOk Tryz.prog glT x00 f A∧(x00 f==0||A.body.calm x00&&(x00 f != 2||A.still x00))=true) h ⟨fn_22,cm_22⟩ fun h=>?_
 refine ite_case (Q:=fun f A=>FnOk Tryz.prog glT x00 f A∧(x00 f==0||A.body.calm x00&&(x00 f != 2||A.still x00))=true) h ⟨fn_23,cm_23⟩ fun h=>?_
 refine ite_case (Q:=fun f A=>FnOk Tryz.prog glT x00 f A∧(x00 f==0||A.body.calm x00&&(x00 f != 2||A.still x00))=true) h ⟨fn_24,cm_24⟩ fun h=>?_
 refine ite_case (Q:=fun f A=>FnOk Tryz.prog glT x00 f A∧(x00 f==0||A.body.calm x00&&(x00 f != 2||A.still x00))=true) h ⟨fn_25,cm_25⟩ fun h=>?_
 refine ite_case (Q:=fun f A=>FnOk Tryz.prog glT x00 f A∧(x00 f==0||A.body.calm x00&&(x00 f != 2||A.still x00))=true) h ⟨fn_26,cm_26⟩ fun h=>?_
 refine ite_case (Q:=fun f A=>FnOk Tryz.prog glT x00 f A∧(x00 f==0||A.body.calm x00&&(x00 f != 2||A.still x00))=true) h ⟨fn_27,cm_27⟩ fun h=>?_
 refine ite_case (Q:=fun f A=>FnOk Tryz.prog glT x00 f A∧(x00 f==0||A.body.calm x00&&(x00 f != 2||A.still x00))=true) h ⟨fn_28,cm_28⟩ fun h=>?_
 refine ite_case (Q:=fun f A=>FnOk Tryz.prog glT x00 f A∧(x00 f==0||A.body.calm x00&&(x00 f != 2||A.still x00))=true) h ⟨fn_29,cm_29⟩ fun h=>?_
 refine ite_case (Q:=fun f A=>FnOk Tryz.prog glT x00 f A∧(x00 f==0||A.body.calm x00&&(x00 f != 2||A.still x00))=true) h ⟨fn_30,cm_30⟩ fun h=>?_
 refine ite_case (Q:=fun f A=>FnOk Tryz.prog glT x00 f A∧(x00 f==0||A.body.calm x00&&(x00 f != 2||A.still x00))=true) h ⟨fn_31,cm_31⟩ fun h=>?_
 refine ite_case (Q:=fun f A=>FnOk Tryz.prog glT x00 f A∧(x00 f==0||A.body.calm x00&&(x00 f != 2||A.still x00))=true) h ⟨fn_32,cm_32⟩ fun h=>?_
 refine ite_case (Q:=fun f A=>FnOk Tryz.prog glT x00 f A∧(x00 f==0||A.body.calm x00&&(x00 f != 2||A.still x00))=true) h ⟨fn_33,cm_33⟩ fun h=>?_
 refine ite_case (Q:=fun f A=>FnOk Tryz.prog glT x00 f A∧(x00 f==0||A.body.calm x00&&(x00 f != 2||A.still x00))=true) h ⟨fn_34,cm_34⟩ fun h=>?_
 refine ite_case (Q:=fun f A=>FnOk Tryz.prog glT x00 f A∧(x00 f==0||A.body.calm x00&&(x00 f != 2||A.still x00))=true) h ⟨fn_35,cm_35⟩ fun h=>?_
 refine ite_case (Q:=fun f A=>FnOk Tryz.prog glT x00 f A∧(x00 f==0||A.body.calm x00&&(x00 f != 2||A.still x00))=true) h ⟨fn_36,cm_36⟩ fun h=>?_
 refine ite_case (Q:=fun f A=>FnOk Tryz.prog glT x00 f A∧(x00 f==0||A.body.calm x00&&(x00 f != 2||A.still x00))=true) h ⟨fn_37,cm_37⟩ fun h=>?_
 refine ite_case (Q:=fun f A=>FnOk Tryz.prog glT x00 f A∧(x00 f==0||A.body.calm x00&&(x00 f != 2||A.still x00))=true) h ⟨fn_38,cm_38⟩ fun h=>?_
 refine ite_case (Q:=fun f A=>FnOk Tryz.prog glT x00 f A∧(x00 f==0||A.body.calm x00&&(x00 f != 2||A.still x00))=true) h ⟨fn_39,cm_39⟩ fun h=>?_
 refine ite_case (Q:=fun f A=>FnOk Tryz.prog glT x00 f A∧(x00 f==0||A.body.calm x00&&(x00 f != 2||A.still x00))=true) h ⟨fn_40,cm_40⟩ fun h=>?_
 refine ite_case (Q:=fun f A=>FnOk Tryz.prog glT x00 f A∧(x00 f==0||A.body.calm x00&&(x00 f != 2||A.still x00))=true) h ⟨fn_41,cm_41⟩ fun h=>?_
 refine ite_case (Q:=fun f A=>FnOk Tryz.prog glT x00 f A∧(x00 f==0||A.body.calm x00&&(x00 f != 2||A.still x00))=true) h ⟨fn_42,cm_42⟩ fun h=>?_
 refine ite_case (Q:=fun f A=>FnOk Tryz.prog glT x00 f A∧(x00 f==0||A.body.calm x00&&(x00 f != 2||A.still x00))=true) h ⟨fn_43,cm_43⟩ fun h=>?_
 refine ite_case (Q:=fun f A=>FnOk Tryz.prog glT x00 f A∧(x00 f==0||A.body.calm x00&&(x00 f != 2||A.still x00))=true) h ⟨fn_44,cm_44⟩ fun h=>?_
 refine ite_case (Q:=fun f A=>FnOk Tryz.prog glT x00 f A∧(x00 f==0||A.body.calm x00&&(x00 f != 2||A.still x00))=true) h ⟨fn_45,cm_45⟩ fun h=>?_
 refine ite_case (Q:=fun f A=>FnOk Tryz.prog glT x00 f A∧(x00 f==0||A.body.calm x00&&(x00 f != 2||A.still x00))=true) h ⟨fn_46,cm_46⟩ fun h=>?_
 refine ite_case (Q:=fun f A=>FnOk Tryz.prog glT x00 f A∧(x00 f==0||A.body.calm x00&&(x00 f != 2||A.still x00))=true) h ⟨fn_47,cm_47⟩ fun h=>?_
 refine ite_case (Q:=fun f A=>FnOk Tryz.prog glT x00 f A∧(x00 f==0||A.body.calm x00&&(x00 f != 2||A.still x00))=true) h ⟨fn_48,cm_48⟩ fun h=>?_
 refine ite_case (Q:=fun f A=>FnOk Tryz.prog glT x00 f A∧(x00 f==0||A.body.calm x00&&(x00 f != 2||A.still x00))=true) h ⟨fn_49,cm_49⟩ fun h=>?_
 refine ite_case (Q:=fun f A=>FnOk Tryz.prog glT x00 f A∧(x00 f==0||A.body.calm x00&&(x00 f != 2||A.still x00))=true) h ⟨fn_50,cm_50⟩ fun h=>?_
 refine ite_case (Q:=fun f A=>FnOk Tryz.prog glT x00 f A∧(x00 f==0||A.body.calm x00&&(x00 f != 2||A.still x00))=true) h ⟨fn_51,cm_51⟩ fun h=>?_
 refine ite_case (Q:=fun f A=>FnOk Tryz.prog glT x00 f A∧(x00 f==0||A.body.calm x00&&(x00 f != 2||A.still x00))=true) h ⟨fn_52,cm_52⟩ fun h=>?_
 refine ite_case (Q:=fun f A=>FnOk Tryz.prog glT x00 f A∧(x00 f==0||A.body.calm x00&&(x00 f != 2||A.still x00))=true) h ⟨fn_53,cm_53⟩ fun h=>?_
 refine ite_case (Q:=fun f A=>FnOk Tryz.prog glT x00 f A∧(x00 f==0||A.body.calm x00&&(x00 f != 2||A.still x00))=true) h ⟨fn_54,cm_54⟩ fun h=>?_
 refine ite_case (Q:=fun f A=>FnOk Tryz.prog glT x00 f A∧(x00 f==0||A.body.calm x00&&(x00 f != 2||A.still x00))=true) h ⟨fn_55,cm_55⟩ fun h=>?_
 refine ite_case (Q:=fun f A=>FnOk Tryz.prog glT x00 f A∧(x00 f==0||A.body.calm x00&&(x00 f != 2||A.still x00))=true) h ⟨fn_56,cm_56⟩ fun h=>?_
 refine ite_case (Q:=fun f A=>FnOk Tryz.prog glT x00 f A∧(x00 f==0||A.body.calm x00&&(x00 f != 2||A.still x00))=true) h ⟨fn_57,cm_57⟩ fun h=>?_
 refine ite_case (Q:=fun f A=>FnOk Tryz.prog glT x00 f A∧(x00 f==0||A.body.calm x00&&(x00 f != 2||A.still x00))=true) h ⟨fn_58,cm_58⟩ fun h=>?_
 refine ite_case (Q:=fun f A=>FnOk Tryz.prog glT x00 f A∧(x00 f==0||A.body.calm x00&&(x00 f != 2||A.still x00))=true) h ⟨fn_59,cm_59⟩ fun h=>?_
 refine ite_case (Q:=fun f A=>FnOk Tryz.prog glT x00 f A∧(x00 f==0||A.body.calm x00&&(x00 f != 2||A.still x00))=true) h ⟨fn_60,cm_60⟩ fun h=>?_
 refine ite_case (Q:=fun f A=>FnOk Tryz.prog glT x00 f A∧(x00 f==0||A.body.calm x00&&(x00 f != 2||A.still x00))=true) h ⟨fn_61,cm_61⟩ fun h=>?_
 refine ite_case (Q:=fun f A=>FnOk Tryz.prog glT x00 f A∧(x00 f==0||A.body.calm x00&&(x00 f != 2||A.still x00))=true) h ⟨fn_62,cm_62⟩ fun h=>?_
 refine ite_case (Q:=fun f A=>FnOk Tryz.prog glT x00 f A∧(x00 f==0||A.body.calm x00&&(x00 f != 2||A.still x00))=true) h ⟨fn_63,cm_63⟩ fun h=>?_
 refine ite_case (Q:=fun f A=>FnOk Tryz.prog glT x00 f A∧(x00 f==0||A.body.calm x00&&(x00 f != 2||A.still x00))=true) h ⟨fn_64,cm_64⟩ fun h=>?_
 refine ite_case (Q:=fun f A=>FnOk Tryz.prog glT x00 f A∧(x00 f==0||A.body.calm x00&&(x00 f != 2||A.still x00))=true) h ⟨fn_65,cm_65⟩ fun h=>?_
 refine ite_case (Q:=fun f A=>FnOk Tryz.prog glT x00 f A∧(x00 f==0||A.body.calm x00&&(x00 f != 2||A.still x00))=true) h ⟨fn_66,cm_66⟩ fun h=>?_
 refine ite_case (Q:=fun f A=>FnOk Tryz.prog glT x00 f A∧(x00 f==0||A.body.calm x00&&(x00 f != 2||A.still x00))=true) h ⟨fn_67,cm_67⟩ fun h=>?_
 refine ite_case (Q:=fun f A=>FnOk Tryz.prog glT x00 f A∧(x00 f==0||A.body.calm x00&&(x00 f != 2||A.still x00))=true) h ⟨fn_68,cm_68⟩ fun h=>?_
 refine ite_case (Q:=fun f A=>FnOk Tryz.prog glT x00 f A∧(x00 f==0||A.body.calm x00&&(x00 f != 2||A.still x00))=true) h ⟨fn_69,cm_69⟩ fun h=>?_
 refine ite_case (Q:=fun f A=>FnOk Tryz.prog glT x00 f A∧(x00 f==0||A.body.calm x00&&(x00 f != 2||A.still x00))=true) h ⟨fn_70,cm_70⟩ fun h=>?_
 refine ite_case (Q:=fun f A=>FnOk Tryz.prog glT x00 f A∧(x00 f==0||A.body.calm x00&&(x00 f != 2||A.still x00))=true) h ⟨fn_71,cm_71⟩ fun h=>?_
 refine ite_case (Q:=fun f A=>FnOk Tryz.prog glT x00 f A∧(x00 f==0||A.body.calm x00&&(x00 f != 2||A.still x00))=true) h ⟨fn_72,cm_72⟩ fun h=>?_
 refine ite_case (Q:=fun f A=>FnOk Tryz.prog glT x00 f A∧(x00 f==0||A.body.calm x00&&(x00 f != 2||A.still x00))=true) h ⟨fn_73,cm_73⟩ fun h=>?_
 refine ite_case (Q:=fun f A=>FnOk Tryz.prog glT x00 f A∧(x00 f==0||A.body.calm x00&&(x00 f != 2||A.still x00))=true) h ⟨fn_74,cm_74⟩ fun h=>?_
 refine ite_case (Q:=fun f A=>FnOk Tryz.prog glT x00 f A∧(x00 f==0||A.body.calm x00&&(x00 f != 2||A.still x00))=true) h ⟨fn_75,cm_75⟩ fun h=>?_
 refine ite_case (Q:=fun f A=>FnOk Tryz.prog glT x00 f A∧(x00 f==0||A.body.calm x00&&(x00 f != 2||A.still x00))=true) h ⟨fn_76,cm_76⟩ fun h=>?_
 refine ite_case (Q:=fun f A=>FnOk Tryz.prog glT x00 f A∧(x00 f==0||A.body.calm x00&&(x00 f != 2||A.still x00))=true) h ⟨fn_77,cm_77⟩ fun h=>?_
 refine ite_case (Q:=fun f A=>FnOk Tryz.prog glT x00 f A∧(x00 f==0||A.body.calm x00&&(x00 f != 2||A.still x00))=true) h ⟨fn_78,cm_78⟩ fun h=>?_
 refine ite_case (Q:=fun f A=>FnOk Tryz.prog glT x00 f A∧(x00 f==0||A.body.calm x00&&(x00 f != 2||A.still x00))=true) h ⟨fn_79,cm_79⟩ fun h=>?_
 refine ite_case (Q:=fun f A=>FnOk Tryz.prog glT x00 f A∧(x00 f==0||A.body.calm x00&&(x00 f != 2||A.still x00))=true) h ⟨fn_80,cm_80⟩ fun h=>?_
 refine ite_case (Q:=fun f A=>FnOk Tryz.prog glT x00 f A∧(x00 f==0||A.body.calm x00&&(x00 f != 2||A.still x00))=true) h ⟨fn_81,cm_81⟩ fun h=>?_
 refine ite_case (Q:=fun f A=>FnOk Tryz.prog glT x00 f A∧(x00 f==0||A.body.calm x00&&(x00 f != 2||A.still x00))=true) h ⟨fn_82,cm_82⟩ fun h=>?_
 refine ite_case (Q:=fun f A=>FnOk Tryz.prog glT x00 f A∧(x00 f==0||A.body.calm x00&&(x00 f != 2||A.still x00))=true) h ⟨fn_83,cm_83⟩ fun h=>?_
 refine ite_case (Q:=fun f A=>FnOk Tryz.prog glT x00 f A∧(x00 f==0||A.body.calm x00&&(x00 f != 2||A.still x00))=true) h ⟨fn_84,cm_84⟩ fun h=>?_
 refine ite_case (Q:=fun f A=>FnOk Tryz.prog glT x00 f A∧(x00 f==0||A.body.calm x00&&(x00 f != 2||A.still x00))=true) h ⟨fn_85,cm_85⟩ fun h=>?_
 refine ite_case (Q:=fun f A=>FnOk Tryz.prog glT x00 f A∧(x00 f==0||A.body.calm x00&&(x00 f != 2||A.still x00))=true) h ⟨fn_86,cm_86⟩ fun h=>?_
 refine ite_case (Q:=fun f A=>FnOk Tryz.prog glT x00 f A∧(x00 f==0||A.body.calm x00&&(x00 f != 2||A.still x00))=true) h ⟨fn_87,cm_87⟩ fun h=>?_
 refine ite_case (Q:=fun f A=>FnOk Tryz.prog glT x00 f A∧(x00 f==0||A.body.calm x00&&(x00 f != 2||A.still x00))=true) h ⟨fn_88,cm_88⟩ fun h=>?_
 refine ite_case (Q:=fun f A=>FnOk Tryz.prog glT x00 f A∧(x00 f==0||A.body.calm x00&&(x00 f != 2||A.still x00))=true) h ⟨fn_89,cm_89⟩ fun h=>?_
 refine ite_case (Q:=fun f A=>FnOk Tryz.prog glT x00 f A∧(x00 f==0||A.body.calm x00&&(x00 f != 2||A.still x00))=true) h ⟨fn_90,cm_90⟩ fun h=>?_
 refine ite_case (Q:=fun f A=>FnOk Tryz.prog glT x00 f A∧(x00 f==0||A.body.calm x00&&(x00 f != 2||A.still x00))=true) h ⟨fn_91,cm_91⟩ fun h=>?_
 refine ite_case (Q:=fun f A=>FnOk Tryz.prog glT x00 f A∧(x00 f==0||A.body.calm x00&&(x00 f != 2||A.still x00))=true) h ⟨fn_92,cm_92⟩ fun h=>?_
 refine ite_case (Q:=fun f A=>FnOk Tryz.prog glT x00 f A∧(x00 f==0||A.body.calm x00&&(x00 f != 2||A.still x00))=true) h ⟨fn_93,cm_93⟩ fun h=>?_
 refine ite_case (Q:=fun f A=>FnOk Tryz.prog glT x00 f A∧(x00 f==0||A.body.calm x00&&(x00 f != 2||A.still x00))=true) h ⟨fn_94,cm_94⟩ fun h=>?_
 refine ite_case (Q:=fun f A=>FnOk Tryz.prog glT x00 f A∧(x00 f==0||A.body.calm x00&&(x00 f != 2||A.still x00))=true) h ⟨fn_95,cm_95⟩ fun h=>?_
 refine ite_case (Q:=fun f A=>FnOk Tryz.prog glT x00 f A∧(x00 f==0||A.body.calm x00&&(x00 f != 2||A.still x00))=true) h ⟨fn_96,cm_96⟩ fun h=>?_
 refine ite_case (Q:=fun f A=>FnOk Tryz.prog glT x00 f A∧(x00 f==0||A.body.calm x00&&(x00 f != 2||A.still x00))=true) h ⟨fn_97,cm_97⟩ fun h=>?_
 refine ite_case (Q:=fun f A=>FnOk Tryz.prog glT x00 f A∧(x00 f==0||A.body.calm x00&&(x00 f != 2||A.still x00))=true) h ⟨fn_98,cm_98⟩ fun h=>?_
 refine ite_case (Q:=fun f A=>FnOk Tryz.prog glT x00 f A∧(x00 f==0||A.body.calm x00&&(x00 f != 2||A.still x00))=true) h ⟨fn_99,cm_99⟩ fun h=>?_
 refine ite_case (Q:=fun f A=>FnOk Tryz.prog glT x00 f A∧(x00 f==0||A.body.calm x00&&(x00 f != 2||A.still x00))=true) h ⟨fn_100,cm_100⟩ fun h=>?_
 refine ite_case (Q:=fun f A=>FnOk Tryz.prog glT x00 f A∧(x00 f==0||A.body.calm x00&&(x00 f != 2||A.still x00))=true) h ⟨fn_101,cm_101⟩ fun h=>?_
 refine ite_case (Q:=fun f A=>FnOk Tryz.prog glT x00 f A∧(x00 f==0||A.body.calm x00&&(x00 f != 2||A.still x00))=true) h ⟨fn_102,cm_102⟩ fun h=>?_
 refine ite_case (Q:=fun f A=>FnOk Tryz.prog glT x00 f A∧(x00 f==0||A.body.calm x00&&(x00 f != 2||A.still x00))=true) h ⟨fn_103,cm_103⟩ fun h=>?_
 refine ite_case (Q:=fun f A=>FnOk Tryz.prog glT x00 f A∧(x00 f==0||A.body.calm x00&&(x00 f != 2||A.still x00))=true) h ⟨fn_104,cm_104⟩ fun h=>?_
 refine ite_case (Q:=fun f A=>FnOk Tryz.prog glT x00 f A∧(x00 f==0||A.body.calm x00&&(x00 f != 2||A.still x00))=true) h ⟨fn_105,cm_105⟩ fun h=>?_
 refine ite_case (Q:=fun f A=>FnOk Tryz.prog glT x00 f A∧(x00 f==0||A.body.calm x00&&(x00 f != 2||A.still x00))=true) h ⟨fn_106,cm_106⟩ fun h=>?_
 refine ite_case (Q:=fun f A=>FnOk Tryz.prog glT x00 f A∧(x00 f==0||A.body.calm x00&&(x00 f != 2||A.still x00))=true) h ⟨fn_107,cm_107⟩ fun h=>?_
 refine ite_case (Q:=fun f A=>FnOk Tryz.prog glT x00 f A∧(x00 f==0||A.body.calm x00&&(x00 f != 2||A.still x00))=true) h ⟨fn_108,cm_108⟩ fun h=>?_
 refine ite_case (Q:=fun f A=>FnOk Tryz.prog glT x00 f A∧(x00 f==0||A.body.calm x00&&(x00 f != 2||A.still x00))=true) h ⟨fn_109,cm_109⟩ fun h=>?_
 refine ite_case (Q:=fun f A=>FnOk Tryz.prog glT x00 f A∧(x00 f==0||A.body.calm x00&&(x00 f != 2||A.still x00))=true) h ⟨fn_110,cm_110⟩ fun h=>?_
 refine ite_case (Q:=fun f A=>FnOk Tryz.prog glT x00 f A∧(x00 f==0||A.body.calm x00&&(x00 f != 2||A.still x00))=true) h ⟨fn_111,cm_111⟩ fun h=>?_
 refine ite_case (Q:=fun f A=>FnOk Tryz.prog glT x00 f A∧(x00 f==0||A.body.calm x00&&(x00 f != 2||A.still x00))=true) h ⟨fn_112,cm_112⟩ fun h=>?_
 refine ite_case (Q:=fun f A=>FnOk Tryz.prog glT x00 f A∧(x00 f==0||A.body.calm x00&&(x00 f != 2||A.still x00))=true) h ⟨fn_113,cm_113⟩ fun h=>?_
 refine ite_case (Q:=fun f A=>FnOk Tryz.prog glT x00 f A∧(x00 f==0||A.body.calm x00&&(x00 f != 2||A.still x00))=true) h ⟨fn_114,cm_114⟩ fun h=>?_
 refine ite_case (Q:=fun f A=>FnOk Tryz.prog glT x00 f A∧(x00 f==0||A.body.calm x00&&(x00 f != 2||A.still x00))=true) h ⟨fn_115,cm_115⟩ fun h=>?_
 refine ite_case (Q:=fun f A=>FnOk Tryz.prog glT x00 f A∧(x00 f==0||A.body.calm x00&&(x00 f != 2||A.still x00))=true) h ⟨fn_116,cm_116⟩ fun h=>?_
 refine ite_case (Q:=fun f A=>FnOk Tryz.prog glT x00 f A∧(x00 f==0||A.body.calm x00&&(x00 f != 2||A.still x00))=true) h ⟨fn_117,cm_117⟩ fun h=>?_
 refine ite_case (Q:=fun f A=>FnOk Tryz.prog glT x00 f A∧(x00 f==0||A.body.calm x00&&(x00 f != 2||A.still x00))=true) h ⟨fn_118,cm_118⟩ fun h=>?_
 refine ite_case (Q:=fun f A=>FnOk Tryz.prog glT x00 f A∧(x00 f==0||A.body.calm x00&&(x00 f != 2||A.still x00))=true) h ⟨fn_119,cm_119⟩ fun h=>?_
 refine ite_case (Q:=fun f A=>FnOk Tryz.prog glT x00 f A∧(x00 f==0||A.body.calm x00&&(x00 f != 2||A.still x00))=true) h ⟨fn_120,cm_120⟩ fun h=>?_
 refine ite_case (Q:=fun f A=>FnOk Tryz.prog glT x00 f A∧(x00 f==0||A.body.calm x00&&(x00 f != 2||A.still x00))=true) h ⟨fn_121,cm_121⟩ fun h=>?_
 refine ite_case (Q:=fun f A=>FnOk Tryz.prog glT x00 f A∧(x00 f==0||A.body.calm x00&&(x00 f != 2||A.still x00))=true) h ⟨fn_122,cm_122⟩ fun h=>?_
 refine ite_case (Q:=fun f A=>FnOk Tryz.prog glT x00 f A∧(x00 f==0||A.body.calm x00&&(x00 f != 2||A.still x00))=true) h ⟨fn_123,cm_123⟩ fun h=>?_
 refine ite_case (Q:=fun f A=>FnOk Tryz.prog glT x00 f A∧(x00 f==0||A.body.calm x00&&(x00 f != 2||A.still x00))=true) h ⟨fn_124,cm_124⟩ fun h=>?_
 refine ite_case (Q:=fun f A=>FnOk Tryz.prog glT x00 f A∧(x00 f==0||A.body.calm x00&&(x00 f != 2||A.still x00))=true) h ⟨fn_125,cm_125⟩ fun h=>?_
 refine ite_case (Q:=fun f A=>FnOk Tryz.prog glT x00 f A∧(x00 f==0||A.body.calm x00&&(x00 f != 2||A.still x00))=true) h ⟨fn_126,cm_126⟩ fun h=>?_
 refine ite_case (Q:=fun f A=>FnOk Tryz.prog glT x00 f A∧(x00 f==0||A.body.calm x00&&(x00 f != 2||A.still x00))=true) h ⟨fn_127,cm_127⟩ fun h=>?_
 refine ite_case (Q:=fun f A=>FnOk Tryz.prog glT x00 f A∧(x00 f==0||A.body.calm x00&&(x00 f != 2||A.still x00))=true) h ⟨fn_128,cm_128⟩ fun h=>?_
 refine ite_case (Q:=fun f A=>FnOk Tryz.prog glT x00 f A∧(x00 f==0||A.body.calm x00&&(x00 f != 2||A.still x00))=true) h ⟨fn_129,cm_129⟩ fun h=>?_
 refine ite_case (Q:=fun f A=>FnOk Tryz.prog glT x00 f A∧(x00 f==0||A.body.calm x00&&(x00 f != 2||A.still x00))=true) h ⟨fn_130,cm_130⟩ fun h=>?_
 simp at h
theorem fx_all:∀ f g,Xt f=some g→xn9 Tryz.prog glT f g:=by
 intro f g h
 unfold Xt at h
 simp at h
theorem gx_all:∀ f g,Xt f=some g→(∀ (base:Nat) (args:List V) (h:Heap) (v:V) (h':Heap),g base args h=some (v,h')→∃ ext,h'=h++ext)∧x00 f≠2:=by
 intro f g h
 unfold Xt at h
 simp at h
theorem quiet_all:∀ n,x1w x00 (x0j Xt Ft n):=by
 refine xcN (fun f g hq hx=>gx_all f g hx) (fun f A hq hx hf=>?_)
 have h:=(fn_all f A hf).2
 simp only [Bool.or_eq_true,beq_iff_eq,hq,false_or,Bool.and_eq_true,bne_iff_ne,ne_eq] at h
 exact ⟨h.1,fun e=>h.2.resolve_left (fun n=>n e)⟩
theorem gl_far:∀ g,x5n≤g→glT g=none:=by
 intro g h
 unfold x5n at h
 unfold glT
 rw [if_neg (by omega)]
theorem call_all:∀ n,CallOk Tryz.prog glT (x0j Xt Ft n):=xgC (by kernel_rfl) gl_far quiet_all fx_all fun f A h=>(fn_all f A h).1
end Go.Am
