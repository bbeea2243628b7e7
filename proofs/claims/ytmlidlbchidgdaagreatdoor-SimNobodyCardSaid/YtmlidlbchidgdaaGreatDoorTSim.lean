/- The program's functions, read as abstract ones: every one of them compiles to the text that the plain law speaks of. -/
import Derived.Test.YtmlidlbchidgdaaGreatDoorAm7
import Derived.Test.YtmlidlbchidgdaaGreatDoorChecked
import Derived.Test.YtmlidlbchidgdaaGreatDoorTSima
import Derived.Test.YtmlidlbchidgdaaGreatDoorTSimb
import Derived.KernelRfl
namespace Go.Am
open Go.Proofs
set_option maxRecDepth 100000
theorem ite_case {α : Type} {f k : Nat} {A B : α} {R : Option α} {Q : Nat → α → Prop} (h : (if f = k then some A else R) = some B) (h1 : Q k A) (h2 : R = some B → Q f B) : Q f B := by
  by_cases e : f = k
  · rw [if_pos e] at h
    injection h with h
    rw [e, ← h]
    exact h1
  · rw [if_neg e] at h
    exact h2 h
theorem fn_all : ∀ f A, Ft f = some A → FnOk Tryz.prog glT quietT f A ∧ (quietT f == 0 || A.body.calm quietT && (quietT f != 2 || A.still quietT)) = true := by
  intro f A h
  unfold Ft at h
  refine ite_case (Q := fun f A => FnOk Tryz.prog glT quietT f A ∧ (quietT f == 0 || A.body.calm quietT && (quietT f != 2 || A.still quietT)) = true) h ⟨fn_7, cm_7⟩ fun h => ?_
  refine ite_case (Q := fun f A => FnOk Tryz.prog glT quietT f A ∧ (quietT f == 0 || A.body.calm quietT && (quietT f != 2 || A.still quietT)) = true) h ⟨fn_9, cm_9⟩ fun h => ?_
  refine ite_case (Q := fun f A => FnOk Tryz.prog glT quietT f A ∧ (quietT f == 0 || A.body.calm quietT && (quietT f != 2 || A.still quietT)) = true) h ⟨fn_10, cm_10⟩ fun h => ?_
  refine ite_case (Q := fun f A => FnOk Tryz.prog glT quietT f A ∧ (quietT f == 0 || A.body.calm quietT && (quietT f != 2 || A.still quietT)) = true) h ⟨fn_11, cm_11⟩ fun h => ?_
  refine ite_case (Q := fun f A => FnOk Tryz.prog glT quietT f A ∧ (quietT f == 0 || A.body.calm quietT && (quietT f != 2 || A.still quietT)) = true) h ⟨fn_12, cm_12⟩ fun h => ?_
  refine ite_case (Q := fun f A => FnOk Tryz.prog glT quietT f A ∧ (quietT f == 0 || A.body.calm quietT && (quietT f != 2 || A.still quietT)) = true) h ⟨fn_13, cm_13⟩ fun h => ?_
  refine ite_case (Q := fun f A => FnOk Tryz.prog glT quietT f A ∧ (quietT f == 0 || A.body.calm quietT && (quietT f != 2 || A.still quietT)) = true) h ⟨fn_14, cm_14⟩ fun h => ?_
  refine ite_case (Q := fun f A => FnOk Tryz.prog glT quietT f A ∧ (quietT f == 0 || A.body.calm quietT && (quietT f != 2 || A.still quietT)) = true) h ⟨fn_15, cm_15⟩ fun h => ?_
  refine ite_case (Q := fun f A => FnOk Tryz.prog glT quietT f A ∧ (quietT f == 0 || A.body.calm quietT && (quietT f != 2 || A.still quietT)) = true) h ⟨fn_17, cm_17⟩ fun h => ?_
  refine ite_case (Q := fun f A => FnOk Tryz.prog glT quietT f A ∧ (quietT f == 0 || A.body.calm quietT && (quietT f != 2 || A.still quietT)) = true) h ⟨fn_20, cm_20⟩ fun h => ?_
  refine ite_case (Q := fun f A => FnOk Tryz.prog glT quietT f A ∧ (quietT f == 0 || A.body.calm quietT && (quietT f != 2 || A.still quietT)) = true) h ⟨fn_21, cm_21⟩ fun h => ?_
  refine ite_case (Q := fun f A => FnOk Tryz.prog glT quietT f A ∧ (quietT f == 0 || A.body.calm quietT && (quietT f != 2 || A.still quietT)) = true) h ⟨fn_22, cm_22⟩ fun h => ?_
  refine ite_case (Q := fun f A => FnOk Tryz.prog glT quietT f A ∧ (quietT f == 0 || A.body.calm quietT && (quietT f != 2 || A.still quietT)) = true) h ⟨fn_25, cm_25⟩ fun h => ?_
  refine ite_case (Q := fun f A => FnOk Tryz.prog glT quietT f A ∧ (quietT f == 0 || A.body.calm quietT && (quietT f != 2 || A.still quietT)) = true) h ⟨fn_27, cm_27⟩ fun h => ?_
  refine ite_case (Q := fun f A => FnOk Tryz.prog glT quietT f A ∧ (quietT f == 0 || A.body.calm quietT && (quietT f != 2 || A.still quietT)) = true) h ⟨fn_28, cm_28⟩ fun h => ?_
  refine ite_case (Q := fun f A => FnOk Tryz.prog glT quietT f A ∧ (quietT f == 0 || A.body.calm quietT && (quietT f != 2 || A.still quietT)) = true) h ⟨fn_29, cm_29⟩ fun h => ?_
  refine ite_case (Q := fun f A => FnOk Tryz.prog glT quietT f A ∧ (quietT f == 0 || A.body.calm quietT && (quietT f != 2 || A.still quietT)) = true) h ⟨fn_30, cm_30⟩ fun h => ?_
  refine ite_case (Q := fun f A => FnOk Tryz.prog glT quietT f A ∧ (quietT f == 0 || A.body.calm quietT && (quietT f != 2 || A.still quietT)) = true) h ⟨fn_31, cm_31⟩ fun h => ?_
  refine ite_case (Q := fun f A => FnOk Tryz.prog glT quietT f A ∧ (quietT f == 0 || A.body.calm quietT && (quietT f != 2 || A.still quietT)) = true) h ⟨fn_32, cm_32⟩ fun h => ?_
  refine ite_case (Q := fun f A => FnOk Tryz.prog glT quietT f A ∧ (quietT f == 0 || A.body.calm quietT && (quietT f != 2 || A.still quietT)) = true) h ⟨fn_33, cm_33⟩ fun h => ?_
  refine ite_case (Q := fun f A => FnOk Tryz.prog glT quietT f A ∧ (quietT f == 0 || A.body.calm quietT && (quietT f != 2 || A.still quietT)) = true) h ⟨fn_34, cm_34⟩ fun h => ?_
  refine ite_case (Q := fun f A => FnOk Tryz.prog glT quietT f A ∧ (quietT f == 0 || A.body.calm quietT && (quietT f != 2 || A.still quietT)) = true) h ⟨fn_35, cm_35⟩ fun h => ?_
  refine ite_case (Q := fun f A => FnOk Tryz.prog glT quietT f A ∧ (quietT f == 0 || A.body.calm quietT && (quietT f != 2 || A.still quietT)) = true) h ⟨fn_36, cm_36⟩ fun h => ?_
  refine ite_case (Q := fun f A => FnOk Tryz.prog glT quietT f A ∧ (quietT f == 0 || A.body.calm quietT && (quietT f != 2 || A.still quietT)) = true) h ⟨fn_37, cm_37⟩ fun h => ?_
  refine ite_case (Q := fun f A => FnOk Tryz.prog glT quietT f A ∧ (quietT f == 0 || A.body.calm quietT && (quietT f != 2 || A.still quietT)) = true) h ⟨fn_38, cm_38⟩ fun h => ?_
  refine ite_case (Q := fun f A => FnOk Tryz.prog glT quietT f A ∧ (quietT f == 0 || A.body.calm quietT && (quietT f != 2 || A.still quietT)) = true) h ⟨fn_39, cm_39⟩ fun h => ?_
  refine ite_case (Q := fun f A => FnOk Tryz.prog glT quietT f A ∧ (quietT f == 0 || A.body.calm quietT && (quietT f != 2 || A.still quietT)) = true) h ⟨fn_40, cm_40⟩ fun h => ?_
  refine ite_case (Q := fun f A => FnOk Tryz.prog glT quietT f A ∧ (quietT f == 0 || A.body.calm quietT && (quietT f != 2 || A.still quietT)) = true) h ⟨fn_41, cm_41⟩ fun h => ?_
  refine ite_case (Q := fun f A => FnOk Tryz.prog glT quietT f A ∧ (quietT f == 0 || A.body.calm quietT && (quietT f != 2 || A.still quietT)) = true) h ⟨fn_42, cm_42⟩ fun h => ?_
  refine ite_case (Q := fun f A => FnOk Tryz.prog glT quietT f A ∧ (quietT f == 0 || A.body.calm quietT && (quietT f != 2 || A.still quietT)) = true) h ⟨fn_46, cm_46⟩ fun h => ?_
  refine ite_case (Q := fun f A => FnOk Tryz.prog glT quietT f A ∧ (quietT f == 0 || A.body.calm quietT && (quietT f != 2 || A.still quietT)) = true) h ⟨fn_47, cm_47⟩ fun h => ?_
  refine ite_case (Q := fun f A => FnOk Tryz.prog glT quietT f A ∧ (quietT f == 0 || A.body.calm quietT && (quietT f != 2 || A.still quietT)) = true) h ⟨fn_49, cm_49⟩ fun h => ?_
  refine ite_case (Q := fun f A => FnOk Tryz.prog glT quietT f A ∧ (quietT f == 0 || A.body.calm quietT && (quietT f != 2 || A.still quietT)) = true) h ⟨fn_51, cm_51⟩ fun h => ?_
  refine ite_case (Q := fun f A => FnOk Tryz.prog glT quietT f A ∧ (quietT f == 0 || A.body.calm quietT && (quietT f != 2 || A.still quietT)) = true) h ⟨fn_52, cm_52⟩ fun h => ?_
  refine ite_case (Q := fun f A => FnOk Tryz.prog glT quietT f A ∧ (quietT f == 0 || A.body.calm quietT && (quietT f != 2 || A.still quietT)) = true) h ⟨fn_53, cm_53⟩ fun h => ?_
  refine ite_case (Q := fun f A => FnOk Tryz.prog glT quietT f A ∧ (quietT f == 0 || A.body.calm quietT && (quietT f != 2 || A.still quietT)) = true) h ⟨fn_54, cm_54⟩ fun h => ?_
  refine ite_case (Q := fun f A => FnOk Tryz.prog glT quietT f A ∧ (quietT f == 0 || A.body.calm quietT && (quietT f != 2 || A.still quietT)) = true) h ⟨fn_55, cm_55⟩ fun h => ?_
  refine ite_case (Q := fun f A => FnOk Tryz.prog glT quietT f A ∧ (quietT f == 0 || A.body.calm quietT && (quietT f != 2 || A.still quietT)) = true) h ⟨fn_56, cm_56⟩ fun h => ?_
  refine ite_case (Q := fun f A => FnOk Tryz.prog glT quietT f A ∧ (quietT f == 0 || A.body.calm quietT && (quietT f != 2 || A.still quietT)) = true) h ⟨fn_57, cm_57⟩ fun h => ?_
  refine ite_case (Q := fun f A => FnOk Tryz.prog glT quietT f A ∧ (quietT f == 0 || A.body.calm quietT && (quietT f != 2 || A.still quietT)) = true) h ⟨fn_58, cm_58⟩ fun h => ?_
  refine ite_case (Q := fun f A => FnOk Tryz.prog glT quietT f A ∧ (quietT f == 0 || A.body.calm quietT && (quietT f != 2 || A.still quietT)) = true) h ⟨fn_59, cm_59⟩ fun h => ?_
  refine ite_case (Q := fun f A => FnOk Tryz.prog glT quietT f A ∧ (quietT f == 0 || A.body.calm quietT && (quietT f != 2 || A.still quietT)) = true) h ⟨fn_60, cm_60⟩ fun h => ?_
  refine ite_case (Q := fun f A => FnOk Tryz.prog glT quietT f A ∧ (quietT f == 0 || A.body.calm quietT && (quietT f != 2 || A.still quietT)) = true) h ⟨fn_61, cm_61⟩ fun h => ?_
  refine ite_case (Q := fun f A => FnOk Tryz.prog glT quietT f A ∧ (quietT f == 0 || A.body.calm quietT && (quietT f != 2 || A.still quietT)) = true) h ⟨fn_62, cm_62⟩ fun h => ?_
  refine ite_case (Q := fun f A => FnOk Tryz.prog glT quietT f A ∧ (quietT f == 0 || A.body.calm quietT && (quietT f != 2 || A.still quietT)) = true) h ⟨fn_63, cm_63⟩ fun h => ?_
  refine ite_case (Q := fun f A => FnOk Tryz.prog glT quietT f A ∧ (quietT f == 0 || A.body.calm quietT && (quietT f != 2 || A.still quietT)) = true) h ⟨fn_64, cm_64⟩ fun h => ?_
  refine ite_case (Q := fun f A => FnOk Tryz.prog glT quietT f A ∧ (quietT f == 0 || A.body.calm quietT && (quietT f != 2 || A.still quietT)) = true) h ⟨fn_65, cm_65⟩ fun h => ?_
  refine ite_case (Q := fun f A => FnOk Tryz.prog glT quietT f A ∧ (quietT f == 0 || A.body.calm quietT && (quietT f != 2 || A.still quietT)) = true) h ⟨fn_66, cm_66⟩ fun h => ?_
  refine ite_case (Q := fun f A => FnOk Tryz.prog glT quietT f A ∧ (quietT f == 0 || A.body.calm quietT && (quietT f != 2 || A.still quietT)) = true) h ⟨fn_67, cm_67⟩ fun h => ?_
  refine ite_case (Q := fun f A => FnOk Tryz.prog glT quietT f A ∧ (quietT f == 0 || A.body.calm quietT && (quietT f != 2 || A.still quietT)) = true) h ⟨fn_68, cm_68⟩ fun h => ?_
  refine ite_case (Q := fun f A => FnOk Tryz.prog glT quietT f A ∧ (quietT f == 0 || A.body.calm quietT && (quietT f != 2 || A.still quietT)) = true) h ⟨fn_69, cm_69⟩ fun h => ?_
  refine ite_case (Q := fun f A => FnOk Tryz.prog glT quietT f A ∧ (quietT f == 0 || A.body.calm quietT && (quietT f != 2 || A.still quietT)) = true) h ⟨fn_70, cm_70⟩ fun h => ?_
  refine ite_case (Q := fun f A => FnOk Tryz.prog glT quietT f A ∧ (quietT f == 0 || A.body.calm quietT && (quietT f != 2 || A.still quietT)) = true) h ⟨fn_71, cm_71⟩ fun h => ?_
  refine ite_case (Q := fun f A => FnOk Tryz.prog glT quietT f A ∧ (quietT f == 0 || A.body.calm quietT && (quietT f != 2 || A.still quietT)) = true) h ⟨fn_72, cm_72⟩ fun h => ?_
  refine ite_case (Q := fun f A => FnOk Tryz.prog glT quietT f A ∧ (quietT f == 0 || A.body.calm quietT && (quietT f != 2 || A.still quietT)) = true) h ⟨fn_73, cm_73⟩ fun h => ?_
  refine ite_case (Q := fun f A => FnOk Tryz.prog glT quietT f A ∧ (quietT f == 0 || A.body.calm quietT && (quietT f != 2 || A.still quietT)) = true) h ⟨fn_74, cm_74⟩ fun h => ?_
  refine ite_case (Q := fun f A => FnOk Tryz.prog glT quietT f A ∧ (quietT f == 0 || A.body.calm quietT && (quietT f != 2 || A.still quietT)) = true) h ⟨fn_81, cm_81⟩ fun h => ?_
  refine ite_case (Q := fun f A => FnOk Tryz.prog glT quietT f A ∧ (quietT f == 0 || A.body.calm quietT && (quietT f != 2 || A.still quietT)) = true) h ⟨fn_82, cm_82⟩ fun h => ?_
  refine ite_case (Q := fun f A => FnOk Tryz.prog glT quietT f A ∧ (quietT f == 0 || A.body.calm quietT && (quietT f != 2 || A.still quietT)) = true) h ⟨fn_83, cm_83⟩ fun h => ?_
  refine ite_case (Q := fun f A => FnOk Tryz.prog glT quietT f A ∧ (quietT f == 0 || A.body.calm quietT && (quietT f != 2 || A.still quietT)) = true) h ⟨fn_84, cm_84⟩ fun h => ?_
  refine ite_case (Q := fun f A => FnOk Tryz.prog glT quietT f A ∧ (quietT f == 0 || A.body.calm quietT && (quietT f != 2 || A.still quietT)) = true) h ⟨fn_85, cm_85⟩ fun h => ?_
  refine ite_case (Q := fun f A => FnOk Tryz.prog glT quietT f A ∧ (quietT f == 0 || A.body.calm quietT && (quietT f != 2 || A.still quietT)) = true) h ⟨fn_87, cm_87⟩ fun h => ?_
  refine ite_case (Q := fun f A => FnOk Tryz.prog glT quietT f A ∧ (quietT f == 0 || A.body.calm quietT && (quietT f != 2 || A.still quietT)) = true) h ⟨fn_88, cm_88⟩ fun h => ?_
  refine ite_case (Q := fun f A => FnOk Tryz.prog glT quietT f A ∧ (quietT f == 0 || A.body.calm quietT && (quietT f != 2 || A.still quietT)) = true) h ⟨fn_89, cm_89⟩ fun h => ?_
  refine ite_case (Q := fun f A => FnOk Tryz.prog glT quietT f A ∧ (quietT f == 0 || A.body.calm quietT && (quietT f != 2 || A.still quietT)) = true) h ⟨fn_90, cm_90⟩ fun h => ?_
  refine ite_case (Q := fun f A => FnOk Tryz.prog glT quietT f A ∧ (quietT f == 0 || A.body.calm quietT && (quietT f != 2 || A.still quietT)) = true) h ⟨fn_91, cm_91⟩ fun h => ?_
  refine ite_case (Q := fun f A => FnOk Tryz.prog glT quietT f A ∧ (quietT f == 0 || A.body.calm quietT && (quietT f != 2 || A.still quietT)) = true) h ⟨fn_92, cm_92⟩ fun h => ?_
  refine ite_case (Q := fun f A => FnOk Tryz.prog glT quietT f A ∧ (quietT f == 0 || A.body.calm quietT && (quietT f != 2 || A.still quietT)) = true) h ⟨fn_93, cm_93⟩ fun h => ?_
  refine ite_case (Q := fun f A => FnOk Tryz.prog glT quietT f A ∧ (quietT f == 0 || A.body.calm quietT && (quietT f != 2 || A.still quietT)) = true) h ⟨fn_94, cm_94⟩ fun h => ?_
  refine ite_case (Q := fun f A => FnOk Tryz.prog glT quietT f A ∧ (quietT f == 0 || A.body.calm quietT && (quietT f != 2 || A.still quietT)) = true) h ⟨fn_95, cm_95⟩ fun h => ?_
  refine ite_case (Q := fun f A => FnOk Tryz.prog glT quietT f A ∧ (quietT f == 0 || A.body.calm quietT && (quietT f != 2 || A.still quietT)) = true) h ⟨fn_96, cm_96⟩ fun h => ?_
  refine ite_case (Q := fun f A => FnOk Tryz.prog glT quietT f A ∧ (quietT f == 0 || A.body.calm quietT && (quietT f != 2 || A.still quietT)) = true) h ⟨fn_97, cm_97⟩ fun h => ?_
  refine ite_case (Q := fun f A => FnOk Tryz.prog glT quietT f A ∧ (quietT f == 0 || A.body.calm quietT && (quietT f != 2 || A.still quietT)) = true) h ⟨fn_98, cm_98⟩ fun h => ?_
  refine ite_case (Q := fun f A => FnOk Tryz.prog glT quietT f A ∧ (quietT f == 0 || A.body.calm quietT && (quietT f != 2 || A.still quietT)) = true) h ⟨fn_99, cm_99⟩ fun h => ?_
  refine ite_case (Q := fun f A => FnOk Tryz.prog glT quietT f A ∧ (quietT f == 0 || A.body.calm quietT && (quietT f != 2 || A.still quietT)) = true) h ⟨fn_100, cm_100⟩ fun h => ?_
  refine ite_case (Q := fun f A => FnOk Tryz.prog glT quietT f A ∧ (quietT f == 0 || A.body.calm quietT && (quietT f != 2 || A.still quietT)) = true) h ⟨fn_101, cm_101⟩ fun h => ?_
  refine ite_case (Q := fun f A => FnOk Tryz.prog glT quietT f A ∧ (quietT f == 0 || A.body.calm quietT && (quietT f != 2 || A.still quietT)) = true) h ⟨fn_102, cm_102⟩ fun h => ?_
  refine ite_case (Q := fun f A => FnOk Tryz.prog glT quietT f A ∧ (quietT f == 0 || A.body.calm quietT && (quietT f != 2 || A.still quietT)) = true) h ⟨fn_103, cm_103⟩ fun h => ?_
  refine ite_case (Q := fun f A => FnOk Tryz.prog glT quietT f A ∧ (quietT f == 0 || A.body.calm quietT && (quietT f != 2 || A.still quietT)) = true) h ⟨fn_104, cm_104⟩ fun h => ?_
  refine ite_case (Q := fun f A => FnOk Tryz.prog glT quietT f A ∧ (quietT f == 0 || A.body.calm quietT && (quietT f != 2 || A.still quietT)) = true) h ⟨fn_105, cm_105⟩ fun h => ?_
  refine ite_case (Q := fun f A => FnOk Tryz.prog glT quietT f A ∧ (quietT f == 0 || A.body.calm quietT && (quietT f != 2 || A.still quietT)) = true) h ⟨fn_106, cm_106⟩ fun h => ?_
  refine ite_case (Q := fun f A => FnOk Tryz.prog glT quietT f A ∧ (quietT f == 0 || A.body.calm quietT && (quietT f != 2 || A.still quietT)) = true) h ⟨fn_107, cm_107⟩ fun h => ?_
  refine ite_case (Q := fun f A => FnOk Tryz.prog glT quietT f A ∧ (quietT f == 0 || A.body.calm quietT && (quietT f != 2 || A.still quietT)) = true) h ⟨fn_117, cm_117⟩ fun h => ?_
  refine ite_case (Q := fun f A => FnOk Tryz.prog glT quietT f A ∧ (quietT f == 0 || A.body.calm quietT && (quietT f != 2 || A.still quietT)) = true) h ⟨fn_118, cm_118⟩ fun h => ?_
  refine ite_case (Q := fun f A => FnOk Tryz.prog glT quietT f A ∧ (quietT f == 0 || A.body.calm quietT && (quietT f != 2 || A.still quietT)) = true) h ⟨fn_119, cm_119⟩ fun h => ?_
  refine ite_case (Q := fun f A => FnOk Tryz.prog glT quietT f A ∧ (quietT f == 0 || A.body.calm quietT && (quietT f != 2 || A.still quietT)) = true) h ⟨fn_120, cm_120⟩ fun h => ?_
  refine ite_case (Q := fun f A => FnOk Tryz.prog glT quietT f A ∧ (quietT f == 0 || A.body.calm quietT && (quietT f != 2 || A.still quietT)) = true) h ⟨fn_121, cm_121⟩ fun h => ?_
  refine ite_case (Q := fun f A => FnOk Tryz.prog glT quietT f A ∧ (quietT f == 0 || A.body.calm quietT && (quietT f != 2 || A.still quietT)) = true) h ⟨fn_122, cm_122⟩ fun h => ?_
  refine ite_case (Q := fun f A => FnOk Tryz.prog glT quietT f A ∧ (quietT f == 0 || A.body.calm quietT && (quietT f != 2 || A.still quietT)) = true) h ⟨fn_123, cm_123⟩ fun h => ?_
  refine ite_case (Q := fun f A => FnOk Tryz.prog glT quietT f A ∧ (quietT f == 0 || A.body.calm quietT && (quietT f != 2 || A.still quietT)) = true) h ⟨fn_124, cm_124⟩ fun h => ?_
  refine ite_case (Q := fun f A => FnOk Tryz.prog glT quietT f A ∧ (quietT f == 0 || A.body.calm quietT && (quietT f != 2 || A.still quietT)) = true) h ⟨fn_125, cm_125⟩ fun h => ?_
  refine ite_case (Q := fun f A => FnOk Tryz.prog glT quietT f A ∧ (quietT f == 0 || A.body.calm quietT && (quietT f != 2 || A.still quietT)) = true) h ⟨fn_126, cm_126⟩ fun h => ?_
  refine ite_case (Q := fun f A => FnOk Tryz.prog glT quietT f A ∧ (quietT f == 0 || A.body.calm quietT && (quietT f != 2 || A.still quietT)) = true) h ⟨fn_127, cm_127⟩ fun h => ?_
  refine ite_case (Q := fun f A => FnOk Tryz.prog glT quietT f A ∧ (quietT f == 0 || A.body.calm quietT && (quietT f != 2 || A.still quietT)) = true) h ⟨fn_128, cm_128⟩ fun h => ?_
  refine ite_case (Q := fun f A => FnOk Tryz.prog glT quietT f A ∧ (quietT f == 0 || A.body.calm quietT && (quietT f != 2 || A.still quietT)) = true) h ⟨fn_129, cm_129⟩ fun h => ?_
  refine ite_case (Q := fun f A => FnOk Tryz.prog glT quietT f A ∧ (quietT f == 0 || A.body.calm quietT && (quietT f != 2 || A.still quietT)) = true) h ⟨fn_130, cm_130⟩ fun h => ?_
  refine ite_case (Q := fun f A => FnOk Tryz.prog glT quietT f A ∧ (quietT f == 0 || A.body.calm quietT && (quietT f != 2 || A.still quietT)) = true) h ⟨fn_131, cm_131⟩ fun h => ?_
  refine ite_case (Q := fun f A => FnOk Tryz.prog glT quietT f A ∧ (quietT f == 0 || A.body.calm quietT && (quietT f != 2 || A.still quietT)) = true) h ⟨fn_132, cm_132⟩ fun h => ?_
  refine ite_case (Q := fun f A => FnOk Tryz.prog glT quietT f A ∧ (quietT f == 0 || A.body.calm quietT && (quietT f != 2 || A.still quietT)) = true) h ⟨fn_133, cm_133⟩ fun h => ?_
  refine ite_case (Q := fun f A => FnOk Tryz.prog glT quietT f A ∧ (quietT f == 0 || A.body.calm quietT && (quietT f != 2 || A.still quietT)) = true) h ⟨fn_134, cm_134⟩ fun h => ?_
  refine ite_case (Q := fun f A => FnOk Tryz.prog glT quietT f A ∧ (quietT f == 0 || A.body.calm quietT && (quietT f != 2 || A.still quietT)) = true) h ⟨fn_135, cm_135⟩ fun h => ?_
  refine ite_case (Q := fun f A => FnOk Tryz.prog glT quietT f A ∧ (quietT f == 0 || A.body.calm quietT && (quietT f != 2 || A.still quietT)) = true) h ⟨fn_136, cm_136⟩ fun h => ?_
  refine ite_case (Q := fun f A => FnOk Tryz.prog glT quietT f A ∧ (quietT f == 0 || A.body.calm quietT && (quietT f != 2 || A.still quietT)) = true) h ⟨fn_137, cm_137⟩ fun h => ?_
  refine ite_case (Q := fun f A => FnOk Tryz.prog glT quietT f A ∧ (quietT f == 0 || A.body.calm quietT && (quietT f != 2 || A.still quietT)) = true) h ⟨fn_150, cm_150⟩ fun h => ?_
  refine ite_case (Q := fun f A => FnOk Tryz.prog glT quietT f A ∧ (quietT f == 0 || A.body.calm quietT && (quietT f != 2 || A.still quietT)) = true) h ⟨fn_151, cm_151⟩ fun h => ?_
  refine ite_case (Q := fun f A => FnOk Tryz.prog glT quietT f A ∧ (quietT f == 0 || A.body.calm quietT && (quietT f != 2 || A.still quietT)) = true) h ⟨fn_152, cm_152⟩ fun h => ?_
  refine ite_case (Q := fun f A => FnOk Tryz.prog glT quietT f A ∧ (quietT f == 0 || A.body.calm quietT && (quietT f != 2 || A.still quietT)) = true) h ⟨fn_153, cm_153⟩ fun h => ?_
  refine ite_case (Q := fun f A => FnOk Tryz.prog glT quietT f A ∧ (quietT f == 0 || A.body.calm quietT && (quietT f != 2 || A.still quietT)) = true) h ⟨fn_154, cm_154⟩ fun h => ?_
  refine ite_case (Q := fun f A => FnOk Tryz.prog glT quietT f A ∧ (quietT f == 0 || A.body.calm quietT && (quietT f != 2 || A.still quietT)) = true) h ⟨fn_155, cm_155⟩ fun h => ?_
  refine ite_case (Q := fun f A => FnOk Tryz.prog glT quietT f A ∧ (quietT f == 0 || A.body.calm quietT && (quietT f != 2 || A.still quietT)) = true) h ⟨fn_156, cm_156⟩ fun h => ?_
  refine ite_case (Q := fun f A => FnOk Tryz.prog glT quietT f A ∧ (quietT f == 0 || A.body.calm quietT && (quietT f != 2 || A.still quietT)) = true) h ⟨fn_157, cm_157⟩ fun h => ?_
  refine ite_case (Q := fun f A => FnOk Tryz.prog glT quietT f A ∧ (quietT f == 0 || A.body.calm quietT && (quietT f != 2 || A.still quietT)) = true) h ⟨fn_158, cm_158⟩ fun h => ?_
  refine ite_case (Q := fun f A => FnOk Tryz.prog glT quietT f A ∧ (quietT f == 0 || A.body.calm quietT && (quietT f != 2 || A.still quietT)) = true) h ⟨fn_159, cm_159⟩ fun h => ?_
  refine ite_case (Q := fun f A => FnOk Tryz.prog glT quietT f A ∧ (quietT f == 0 || A.body.calm quietT && (quietT f != 2 || A.still quietT)) = true) h ⟨fn_160, cm_160⟩ fun h => ?_
  refine ite_case (Q := fun f A => FnOk Tryz.prog glT quietT f A ∧ (quietT f == 0 || A.body.calm quietT && (quietT f != 2 || A.still quietT)) = true) h ⟨fn_161, cm_161⟩ fun h => ?_
  refine ite_case (Q := fun f A => FnOk Tryz.prog glT quietT f A ∧ (quietT f == 0 || A.body.calm quietT && (quietT f != 2 || A.still quietT)) = true) h ⟨fn_162, cm_162⟩ fun h => ?_
  refine ite_case (Q := fun f A => FnOk Tryz.prog glT quietT f A ∧ (quietT f == 0 || A.body.calm quietT && (quietT f != 2 || A.still quietT)) = true) h ⟨fn_163, cm_163⟩ fun h => ?_
  refine ite_case (Q := fun f A => FnOk Tryz.prog glT quietT f A ∧ (quietT f == 0 || A.body.calm quietT && (quietT f != 2 || A.still quietT)) = true) h ⟨fn_164, cm_164⟩ fun h => ?_
  refine ite_case (Q := fun f A => FnOk Tryz.prog glT quietT f A ∧ (quietT f == 0 || A.body.calm quietT && (quietT f != 2 || A.still quietT)) = true) h ⟨fn_165, cm_165⟩ fun h => ?_
  refine ite_case (Q := fun f A => FnOk Tryz.prog glT quietT f A ∧ (quietT f == 0 || A.body.calm quietT && (quietT f != 2 || A.still quietT)) = true) h ⟨fn_166, cm_166⟩ fun h => ?_
  refine ite_case (Q := fun f A => FnOk Tryz.prog glT quietT f A ∧ (quietT f == 0 || A.body.calm quietT && (quietT f != 2 || A.still quietT)) = true) h ⟨fn_167, cm_167⟩ fun h => ?_
  refine ite_case (Q := fun f A => FnOk Tryz.prog glT quietT f A ∧ (quietT f == 0 || A.body.calm quietT && (quietT f != 2 || A.still quietT)) = true) h ⟨fn_168, cm_168⟩ fun h => ?_
  refine ite_case (Q := fun f A => FnOk Tryz.prog glT quietT f A ∧ (quietT f == 0 || A.body.calm quietT && (quietT f != 2 || A.still quietT)) = true) h ⟨fn_169, cm_169⟩ fun h => ?_
  refine ite_case (Q := fun f A => FnOk Tryz.prog glT quietT f A ∧ (quietT f == 0 || A.body.calm quietT && (quietT f != 2 || A.still quietT)) = true) h ⟨fn_170, cm_170⟩ fun h => ?_
  refine ite_case (Q := fun f A => FnOk Tryz.prog glT quietT f A ∧ (quietT f == 0 || A.body.calm quietT && (quietT f != 2 || A.still quietT)) = true) h ⟨fn_171, cm_171⟩ fun h => ?_
  refine ite_case (Q := fun f A => FnOk Tryz.prog glT quietT f A ∧ (quietT f == 0 || A.body.calm quietT && (quietT f != 2 || A.still quietT)) = true) h ⟨fn_172, cm_172⟩ fun h => ?_
  refine ite_case (Q := fun f A => FnOk Tryz.prog glT quietT f A ∧ (quietT f == 0 || A.body.calm quietT && (quietT f != 2 || A.still quietT)) = true) h ⟨fn_173, cm_173⟩ fun h => ?_
  refine ite_case (Q := fun f A => FnOk Tryz.prog glT quietT f A ∧ (quietT f == 0 || A.body.calm quietT && (quietT f != 2 || A.still quietT)) = true) h ⟨fn_174, cm_174⟩ fun h => ?_
  refine ite_case (Q := fun f A => FnOk Tryz.prog glT quietT f A ∧ (quietT f == 0 || A.body.calm quietT && (quietT f != 2 || A.still quietT)) = true) h ⟨fn_175, cm_175⟩ fun h => ?_
  refine ite_case (Q := fun f A => FnOk Tryz.prog glT quietT f A ∧ (quietT f == 0 || A.body.calm quietT && (quietT f != 2 || A.still quietT)) = true) h ⟨fn_176, cm_176⟩ fun h => ?_
  refine ite_case (Q := fun f A => FnOk Tryz.prog glT quietT f A ∧ (quietT f == 0 || A.body.calm quietT && (quietT f != 2 || A.still quietT)) = true) h ⟨fn_177, cm_177⟩ fun h => ?_
  refine ite_case (Q := fun f A => FnOk Tryz.prog glT quietT f A ∧ (quietT f == 0 || A.body.calm quietT && (quietT f != 2 || A.still quietT)) = true) h ⟨fn_178, cm_178⟩ fun h => ?_
  refine ite_case (Q := fun f A => FnOk Tryz.prog glT quietT f A ∧ (quietT f == 0 || A.body.calm quietT && (quietT f != 2 || A.still quietT)) = true) h ⟨fn_189, cm_189⟩ fun h => ?_
  refine ite_case (Q := fun f A => FnOk Tryz.prog glT quietT f A ∧ (quietT f == 0 || A.body.calm quietT && (quietT f != 2 || A.still quietT)) = true) h ⟨fn_190, cm_190⟩ fun h => ?_
  refine ite_case (Q := fun f A => FnOk Tryz.prog glT quietT f A ∧ (quietT f == 0 || A.body.calm quietT && (quietT f != 2 || A.still quietT)) = true) h ⟨fn_191, cm_191⟩ fun h => ?_
  refine ite_case (Q := fun f A => FnOk Tryz.prog glT quietT f A ∧ (quietT f == 0 || A.body.calm quietT && (quietT f != 2 || A.still quietT)) = true) h ⟨fn_192, cm_192⟩ fun h => ?_
  refine ite_case (Q := fun f A => FnOk Tryz.prog glT quietT f A ∧ (quietT f == 0 || A.body.calm quietT && (quietT f != 2 || A.still quietT)) = true) h ⟨fn_193, cm_193⟩ fun h => ?_
  refine ite_case (Q := fun f A => FnOk Tryz.prog glT quietT f A ∧ (quietT f == 0 || A.body.calm quietT && (quietT f != 2 || A.still quietT)) = true) h ⟨fn_194, cm_194⟩ fun h => ?_
  refine ite_case (Q := fun f A => FnOk Tryz.prog glT quietT f A ∧ (quietT f == 0 || A.body.calm quietT && (quietT f != 2 || A.still quietT)) = true) h ⟨fn_195, cm_195⟩ fun h => ?_
  refine ite_case (Q := fun f A => FnOk Tryz.prog glT quietT f A ∧ (quietT f == 0 || A.body.calm quietT && (quietT f != 2 || A.still quietT)) = true) h ⟨fn_196, cm_196⟩ fun h => ?_
  refine ite_case (Q := fun f A => FnOk Tryz.prog glT quietT f A ∧ (quietT f == 0 || A.body.calm quietT && (quietT f != 2 || A.still quietT)) = true) h ⟨fn_197, cm_197⟩ fun h => ?_
  refine ite_case (Q := fun f A => FnOk Tryz.prog glT quietT f A ∧ (quietT f == 0 || A.body.calm quietT && (quietT f != 2 || A.still quietT)) = true) h ⟨fn_198, cm_198⟩ fun h => ?_
  refine ite_case (Q := fun f A => FnOk Tryz.prog glT quietT f A ∧ (quietT f == 0 || A.body.calm quietT && (quietT f != 2 || A.still quietT)) = true) h ⟨fn_199, cm_199⟩ fun h => ?_
  refine ite_case (Q := fun f A => FnOk Tryz.prog glT quietT f A ∧ (quietT f == 0 || A.body.calm quietT && (quietT f != 2 || A.still quietT)) = true) h ⟨fn_200, cm_200⟩ fun h => ?_
  refine ite_case (Q := fun f A => FnOk Tryz.prog glT quietT f A ∧ (quietT f == 0 || A.body.calm quietT && (quietT f != 2 || A.still quietT)) = true) h ⟨fn_201, cm_201⟩ fun h => ?_
  refine ite_case (Q := fun f A => FnOk Tryz.prog glT quietT f A ∧ (quietT f == 0 || A.body.calm quietT && (quietT f != 2 || A.still quietT)) = true) h ⟨fn_202, cm_202⟩ fun h => ?_
  refine ite_case (Q := fun f A => FnOk Tryz.prog glT quietT f A ∧ (quietT f == 0 || A.body.calm quietT && (quietT f != 2 || A.still quietT)) = true) h ⟨fn_203, cm_203⟩ fun h => ?_
  refine ite_case (Q := fun f A => FnOk Tryz.prog glT quietT f A ∧ (quietT f == 0 || A.body.calm quietT && (quietT f != 2 || A.still quietT)) = true) h ⟨fn_204, cm_204⟩ fun h => ?_
  refine ite_case (Q := fun f A => FnOk Tryz.prog glT quietT f A ∧ (quietT f == 0 || A.body.calm quietT && (quietT f != 2 || A.still quietT)) = true) h ⟨fn_205, cm_205⟩ fun h => ?_
  refine ite_case (Q := fun f A => FnOk Tryz.prog glT quietT f A ∧ (quietT f == 0 || A.body.calm quietT && (quietT f != 2 || A.still quietT)) = true) h ⟨fn_208, cm_208⟩ fun h => ?_
  refine ite_case (Q := fun f A => FnOk Tryz.prog glT quietT f A ∧ (quietT f == 0 || A.body.calm quietT && (quietT f != 2 || A.still quietT)) = true) h ⟨fn_209, cm_209⟩ fun h => ?_
  refine ite_case (Q := fun f A => FnOk Tryz.prog glT quietT f A ∧ (quietT f == 0 || A.body.calm quietT && (quietT f != 2 || A.still quietT)) = true) h ⟨fn_210, cm_210⟩ fun h => ?_
  simp at h
theorem fx_all : ∀ f g, Xt f = some g → ExtOk Tryz.prog glT f g := by
  intro f g h
  unfold Xt at h
  simp at h
theorem gx_all : ∀ f g, Xt f = some g → (∀ (base : Nat) (args : List V) (h : Heap) (v : V) (h' : Heap), g base args h = some (v, h') → ∃ ext, h' = h ++ ext) ∧ quietT f ≠ 2 := by
  intro f g h
  unfold Xt at h
  simp at h
theorem quiet_all : ∀ n, QuietOk quietT (evCall Xt Ft n) := by
  refine quiet_ok (fun f g hq hx => gx_all f g hx) (fun f A hq hx hf => ?_)
  have h := (fn_all f A hf).2
  simp only [Bool.or_eq_true, beq_iff_eq, hq, false_or, Bool.and_eq_true, bne_iff_ne, ne_eq] at h
  exact ⟨h.1, fun e => h.2.resolve_left (fun n => n e)⟩
theorem gl_far : ∀ g, lookNo ≤ g → glT g = none := by
  intro g h
  unfold lookNo at h
  unfold glT
  rw [if_neg (by omega)]
theorem call_all : ∀ n, CallOk Tryz.prog glT (evCall Xt Ft n) := call_ok (by kernel_rfl) gl_far quiet_all fx_all fun f A h => (fn_all f A h).1
end Go.Am
